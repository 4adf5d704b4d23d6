/-
  THE EVALUATOR's SOUNDNESS, 18: a run.
-/
import Derived.Test.YtecogacajmimhaaGreatDoorB8
namespace Go.Abs

def ResOk (P : Program) (X : Nat → Option Value) (E : Emb) (h : Hp) (w : World) (fn : FuncId) (nt : Nat) (rdr : Option Nat) (fr0 : Frame) (cs : List Frame) : Res → Prop
  | .fail => True
  | .go tm' todo' ds' h' => ∃ E' w' tmps' dsr', Evo E h w E' h' w' ∧ HRel P X E' h' w' ∧ TR X E' tm' tmps' ∧ tmps'.size = nt ∧ DR E' ds' dsr' ∧ Steps P (lone fr0 cs w) (lone (mkF fn tmps' todo' dsr' rdr) cs w')
  | .leave j tm' ds' h' => ∃ E' w' tmps' dsr' todo', Evo E h w E' h' w' ∧ HRel P X E' h' w' ∧ TR X E' tm' tmps' ∧ tmps'.size = nt ∧ DR E' ds' dsr' ∧ Leaves j todo' ∧ Steps P (lone fr0 cs w) (lone (mkF fn tmps' todo' dsr' rdr) cs w')

def StepOk (P : Program) (X : Nat → Option Value) (cf : Caller) (rn : Leaver) (it : Item) (s : StepK) : Prop :=
  ∀ fn nt rd tm k ds h (E : Emb) (w : World) (tmps : Array Value) (dsr : List Deferred) (rdr : Option Nat) (cs : List Frame), tmps.size = nt → TR X E tm tmps → DR E ds dsr → RdR E rd rdr → HRel P X E h w →
    ResOk P X E h w fn nt rdr (mkF fn tmps (it :: k) dsr rdr) cs (s P cf rn fn nt rd tm k ds h)

def pendL : Option Code → List Item
  | some c => [.code c]
  | none => []

section
variable {P : Program} {X : Nat → Option Value} {cf : Caller} {rn : Leaver}

/-- A step that moves on in the text. -/
theorem StepOk.move {it : Item} {s : StepK} {g : List Item → List Item} (hs : ∀ fn nt rd tm k ds h, s P cf rn fn nt rd tm k ds h = .go tm (g k) ds h)
    (hr : ∀ fn tmps k dsr rdr cs w, step P (lone (mkF fn tmps (it :: k) dsr rdr) cs w) = .next (lone (mkF fn tmps (g k) dsr rdr) cs w)) : StepOk P X cf rn it s := by
  intro fn nt rd tm k ds h E w tmps dsr rdr cs h1 h2 h3 h4 h5
  rw [hs]
  exact ⟨E, w, tmps, dsr, .refl .., h5, h2, h1, h3, .one (hr ..)⟩

theorem ok_fail {it : Item} : StepOk P X cf rn it sFail := fun _ _ _ _ _ _ _ _ _ _ _ _ _ _ _ _ _ _ => trivial

theorem ok_cond (x : Operand) (a b : Code) : StepOk P X cf rn (.code (.cond x a b)) (sCond x a b) := by
  intro fn nt rd tm k ds h E w tmps dsr rdr cs h1 h2 h3 h4 h5
  unfold sCond
  split
  · rename_i t ht
    cases hok : okOp x with
    | false => exact trivial
    | true =>
      have hx := (TR.er (fr := mkF fn tmps (.code (.cond x a b) :: k) dsr rdr) h2) x hok
      rw [ht] at hx
      have hx := hx.bool_inv
      refine ⟨E, w, tmps, dsr, .refl .., h5, h2, h1, h3, .one (step_lone_go ?_)⟩
      simp only [mkF] at hx
      cases t <;> simp [stepG, stepG.exec, mkF, hx]
  · exact trivial

theorem ok_exit (id : Nat) : StepOk P X cf rn (.code (.exit id)) (sExit id) := by
  intro fn nt rd tm k ds h E w tmps dsr rdr cs h1 h2 h3 h4 h5
  unfold sExit
  split
  · rename_i k' hk
    exact ⟨E, w, tmps, dsr, .refl .., h5, h2, h1, h3, .one (step_lone_go (by simp [stepG, stepG.exec, mkF, hk]))⟩
  · exact trivial

theorem ok_goto (l : Nat) : StepOk P X cf rn (.code (.goto l)) (sGoto l) := by
  intro fn nt rd tm k ds h E w tmps dsr rdr cs h1 h2 h3 h4 h5
  unfold sGoto
  split
  · rename_i k' hk
    exact ⟨E, w, tmps, dsr, .refl .., h5, h2, h1, h3, .one (step_lone_go (by simp [stepG, stepG.exec, mkF, hk]))⟩
  · exact trivial

theorem ok_ret : StepOk P X cf rn (.code .ret) sRet := by
  intro fn nt rd tm k ds h E w tmps dsr rdr cs h1 h2 h3 h4 h5
  exact ⟨E, w, tmps, dsr, .code .ret :: k, .refl .., h5, h2, h1, h3, ⟨k, rfl⟩, .refl ..⟩

theorem ok_region (hX : ∀ k r, X k = some r → scalar r = true) (hcl : CloneOk P) (hmix : P.follows .mixedOrders = true) (hcf : CGood P X cf) (hrn : LGood P X rn) (id : Nat) (ops : Array Oper) (draw : Bool) :
    StepOk P X cf rn (.code (.region id ops draw)) (sRegion ops draw) := by
  intro fn nt rd tm k ds h E w tmps dsr rdr cs h1 h2 h3 h4 h5
  unfold sRegion
  cases hall : ops.toList.all opOk with
  | false => exact trivial
  | true =>
    rw [Bool.not_true, cond_false]
    split
    · rename_i tm' h' hv
      have hk := cls_ok (P := P) hX hcl hcf (callR_good hrn)
      obtain ⟨E', w', tmps', g1, g2, g3, g4, g5⟩ := region_steps hk hmix (fun o ho => List.all_eq_true.1 hall o ho) (fn := fn) (k := k) (ds := dsr) (rd := rdr) (cs := cs) (id := id) h1 h2 h5 hv
      exact ⟨E', w', tmps', dsr, g1, g2, g3, g4, h3.mono g1.ext, g5⟩
    · exact trivial

theorem ok_begin : StepOk P X cf rn .beginRound sBegin := by
  intro fn nt rd tm k ds h E w tmps dsr rdr cs h1 h2 h3 h4 h5
  unfold sBegin
  split
  · rename_i l
    split
    · rename_i pe fn2 nt2 tm2 ps as bo de hb
      cases rdr with
      | none => exact h4.elim
      | some r =>
        obtain ⟨ad, hE, rfl⟩ := h4
        obtain ⟨ad', hE', tmps2, dd, hde, hsz, htr, hobj⟩ := h5.blk _ _ hb
        rw [hE] at hE'; cases hE'
        have hlt := h5.bound _ _ hE
        obtain ⟨k1, k2⟩ := h5.over hb hE (x' := .loop .busy pe fn2 nt2 tm2 ps as bo de) (obj := .loop { state := .busy, pending := pe, fn := fn2, tmps := tmps2, params := ps, assign := as, body := bo, defers := dd.blk })
          ⟨tmps2, dd, hde, hsz, htr, over_same _ _ hlt⟩
        refine ⟨E, _, tmps, dsr, k2, k1, h2, h1, h3, .one (step_lone_go ?_)⟩
        have hrun : (Instr.beginRound ad.blk).run P w = .ok () (World.over w ad.blk (.loop { state := .busy, pending := pe, fn := fn2, tmps := tmps2, params := ps, assign := as, body := bo, defers := dd.blk })) := by
          simp only [Instr.beginRound, Instr.getLoop, Sem.run_bind, getObj_run hobj (fun _ _ _ h => by cases h), Result.andThen, setObj_run hobj (fun _ _ _ h => by cases h), Sem.run_pure, pure_bind]
        simp [stepG, stepG.exec, stepG.apply, mkF, hrun, Frame.finish]
    · exact trivial
  · exact trivial

theorem enterLoop_run (fn : FuncId) (tmps : Array Value) (ps : Array Tmp) (a b : Code) (w : World) :
    (Instr.enterLoop fn tmps ps a b none).run P w = .ok (w.heap.size + 1, [{ target := .collected w.heap.size, args := #[] }])
      (World.laid (World.laid w (.deferred (some []))) (.loop { state := .ready, pending := none, fn, tmps, params := ps, assign := a, body := b, defers := w.heap.size })) := by
  simp [Instr.enterLoop, World.laid, run_newObj]
  rfl

theorem apply_value {fr : Frame} {cs : List Frame} {s : Sem Next} {w w' : World} {v : Value} (h : s.run P w = .ok (.value v) w') :
    (stepG.apply P true fr cs none s w).bare = .go { frame := fr.finish v, callers := cs, status := .running, dying := none } w' := by
  simp [stepG.apply, h]
theorem apply_enter {fn : FuncId} {tmps : Array Value} {l : Nat} {k : List Item} {ds : List Deferred} {cs : List Frame} {s : Sem Next} {w w' : World} {f : FuncId} {args : Array Value} (h : s.run P w = .ok (.enter f args) w') :
    (stepG.apply P true (mkF fn tmps (.inRangeFunc l :: k) ds none) cs none s w).bare = .go { frame := Frame.enter P f args .normal, callers := mkF fn tmps (.inRangeFunc l :: k) ds none :: cs, status := .running, dying := none } w' := by
  simp [stepG.apply, h]
  rfl
theorem apply_round {fr : Frame} {cs : List Frame} {s : Sem Next} {w w' : World} {l f : Nat} {tm : Array Value} {a b : Code} (h : s.run P w = .ok (.round l f tm a b) w') :
    (stepG.apply P true fr cs none s w).bare = .go { frame := Frame.round l f tm a b .normal, callers := fr :: cs, status := .running, dying := none } w' := by
  simp [stepG.apply, h]

theorem ok_rangeFunc (hcl : CloneOk P) (hcf : CGood P X cf) (hrn : LGood P X rn) (f : Operand) (params : Array Tmp) (assign body : Code) : StepOk P X cf rn (.code (.rangeFunc f params assign body)) (sRangeFunc f params assign body) := by
  intro fn nt rd tm k ds h E w tmps dsr rdr cs h1 h2 h3 h4 h5
  unfold sRangeFunc
  cases hok : okOp f with
  | false => exact trivial
  | true =>
    rw [Bool.not_true, cond_false]
    unfold rfMark
    cases rd with
    | some l => exact trivial
    | none =>
      cases rdr with
      | some r => exact h4.elim
      | none =>
        simp only []
        obtain ⟨a1, a2⟩ := h5.more (x := .defd true) (obj := .deferred (some [])) (cap := 0) (by exact laid_at w _)
        have hde : (E.upd h.nx ⟨w.heap.size, 0, 0⟩) h.nx = some ⟨w.heap.size, 0, 0⟩ := Emb.upd_same _ _ _
        generalize hE1 : E.upd h.nx ⟨w.heap.size, 0, 0⟩ = E1 at a1 a2 hde
        generalize hw1 : World.laid w (.deferred (some [])) = w1 at a1 a2
        have hnx1 : (h.new (.defd true)).nx = h.nx + 1 := Hp.nx_new _ _
        generalize hh1 : h.new (.defd true) = hp1 at a1 a2 hnx1
        obtain ⟨b1, b2⟩ := a1.more (x := .loop .ready none fn nt tm params assign body h.nx) (cap := 0) (obj := .loop { state := .ready, pending := none, fn, tmps, params, assign, body, defers := w.heap.size })
          ⟨tmps, ⟨w.heap.size, 0, 0⟩, Emb.upd_ext (a1.fresh _ (Nat.le_refl _)).1 _ _ hde, h1, (h2.mono a2.ext).mono (Emb.upd_ext (a1.fresh _ (Nat.le_refl _)).1), laid_at w1 _⟩
        have hl : (E1.upd hp1.nx ⟨w1.heap.size, 0, 0⟩) hp1.nx = some ⟨w1.heap.size, 0, 0⟩ := Emb.upd_same _ _ _
        have hsz1 : w1.heap.size = w.heap.size + 1 := by rw [← hw1, laid_size]
        generalize hE2 : E1.upd hp1.nx ⟨w1.heap.size, 0, 0⟩ = E2 at b1 b2 hl
        generalize hw2 : World.laid w1 (.loop { state := .ready, pending := none, fn, tmps, params, assign, body, defers := w.heap.size }) = w2 at b1 b2
        have ev2 := a2.trans b2
        split
        · exact trivial
        · rename_i v h3' hv
          have hf := (TR.er (fr := mkF fn tmps (.inRangeFunc w1.heap.size :: k) ({ target := .collected w.heap.size, args := #[] } :: dsr) none) (h2.mono ev2.ext)) f hok
          have hrel := evCall_rel hcl hcf (callR_good hrn) b1 hf (.cons (.yield hl) .nil) hv
          have hresolve : ∀ fr : Frame, (do let d ← resolve fr.eval { callee := .value f, args := #[.const (.func (.yield w1.heap.size) #[] #[])], argTypes := #[] } 0; invoke d.target d.args : Sem Next) =
              (do let d ← Deferred.ofValue (fr.eval f) ⟨[.func (.yield w1.heap.size) ⟨[]⟩ ⟨[]⟩]⟩; invoke d.target d.args) := fun fr => by
            have hm : (#[Operand.const (.func (.yield w1.heap.size) #[] #[])]).map fr.eval = ⟨[.func (.yield w1.heap.size) ⟨[]⟩ ⟨[]⟩]⟩ := by apply Array.ext'; simp [Frame.eval]
            simp only [resolve, hm]
          have hstart : ∀ {nx : GStep}, (stepG.apply P true (mkF fn tmps (.inRangeFunc w1.heap.size :: k) ({ target := .collected w.heap.size, args := #[] } :: dsr) none) cs none
              (do let d ← Deferred.ofValue ((mkF fn tmps (.inRangeFunc w1.heap.size :: k) ({ target := .collected w.heap.size, args := #[] } :: dsr) none).eval f) ⟨[.func (.yield w1.heap.size) ⟨[]⟩ ⟨[]⟩]⟩; invoke d.target d.args) w2).bare = nx →
              (stepG P true { frame := mkF fn tmps (.code (.rangeFunc f params assign body) :: k) dsr none, callers := cs, status := .running, dying := none } w).bare = nx := fun {nx} hn => by
            have hen := enterLoop_run (P := P) fn tmps params assign body w
            rw [hw1, ← hsz1, hw2] at hen
            rw [← hn, ← hresolve]
            simp [stepG, stepG.exec, mkF, hen]
          have hmid : ∃ E3 w3 v', Evo E2 (hp1.new (.loop .ready none fn nt tm params assign body h.nx)) w2 E3 h3' w3 ∧ HRel P X E3 h3' w3 ∧ VR X E3 v v' ∧
              Steps P (lone (mkF fn tmps (.code (.rangeFunc f params assign body) :: k) dsr none) cs w)
                (lone (mkF fn tmps (.endRangeFunc w1.heap.size :: k) ({ target := .collected w.heap.size, args := #[] } :: dsr) none) cs w3) := by
            rcases hrel with ⟨E3, w3, v', g1, g2, g3, g4⟩ | ⟨g, args, g1, g2⟩ | ⟨l, g, tm3, a, b, g1, g2⟩
            · exact ⟨E3, w3, v', g1, g2, g3, .one (step_lone_go (hstart (apply_value g4)))⟩
            · obtain ⟨E3, w3, v', k1, k2, k3, k4⟩ := g2 (mkF fn tmps (.inRangeFunc w1.heap.size :: k) ({ target := .collected w.heap.size, args := #[] } :: dsr) none) cs
              exact ⟨E3, w3, v', k1, k2, k3, .head (step_lone_go (hstart (apply_enter g1))) k4⟩
            · obtain ⟨E3, w3, v', k1, k2, k3, k4⟩ := g2 (mkF fn tmps (.inRangeFunc w1.heap.size :: k) ({ target := .collected w.heap.size, args := #[] } :: dsr) none) cs
              exact ⟨E3, w3, v', k1, k2, k3, .head (step_lone_go (hstart (apply_round g1))) k4⟩
          obtain ⟨E3, w3, v', g1, g2, g3, g4⟩ := hmid
          split
          · rename_i st pe fn2 nt2 tm2 ps as bo de2 hb
            have hl3 := g1.ext _ _ hl
            obtain ⟨ad, hE', tmps3, dd, hde3, hsz3, htr3, hobj⟩ := g2.blk _ _ hb
            rw [hl3] at hE'; cases hE'
            have hlt := g2.bound _ _ hl3
            have hobj : w3.heap[w1.heap.size]? = some (.loop { state := st, pending := pe, fn := fn2, tmps := tmps3, params := ps, assign := as, body := bo, defers := dd.blk }) := hobj
            have fin : st ≠ .busy → ResOk P X E h w fn nt none (mkF fn tmps (.code (.rangeFunc f params assign body) :: k) dsr none) cs
                (.go tm (pendL pe ++ k) ([h.nx] ++ ds) (h3'.putB hp1.nx (.loop .exhausted pe fn2 nt2 tm2 ps as bo de2))) := fun hst => by
              obtain ⟨k1, k2⟩ := g2.over hb hl3 (x' := .loop .exhausted pe fn2 nt2 tm2 ps as bo de2) (obj := .loop { state := .exhausted, pending := pe, fn := fn2, tmps := tmps3, params := ps, assign := as, body := bo, defers := dd.blk })
                ⟨tmps3, dd, hde3, hsz3, htr3, over_same _ _ hlt⟩
              have evall := (ev2.trans g1).trans k2
              have hrun : (Instr.endLoop w1.heap.size).run P w3 = .ok pe (World.over w3 w1.heap.size (.loop { state := .exhausted, pending := pe, fn := fn2, tmps := tmps3, params := ps, assign := as, body := bo, defers := dd.blk })) := by
                have hbq : (st == LoopState.busy) = false := by cases st <;> first | rfl | exact absurd rfl hst
                simp only [Instr.endLoop, Instr.getLoop, Sem.run_bind, getObj_run hobj (fun _ _ _ h => by cases h), Result.andThen, setObj_run hobj (fun _ _ _ h => by cases h), Sem.run_pure, pure_bind, hbq, Bool.false_eq_true, if_false]
              refine ⟨E3, _, tmps, { target := .collected w.heap.size, args := #[] } :: dsr, evall, k1, h2.mono evall.ext, h1, ⟨⟨⟨w.heap.size, 0, 0⟩, g1.ext _ _ (b2.ext _ _ hde), rfl⟩, h3.mono evall.ext⟩, g4.trans (.one (step_lone_go ?_))⟩
              cases pe <;> simp [stepG, stepG.exec, mkF, hrun, pendL]
            cases st with
            | busy => exact trivial
            | ready => exact fin (fun h => by cases h)
            | done => exact fin (fun h => by cases h)
            | exhausted => exact fin (fun h => by cases h)
          · exact trivial

theorem step_good (hX : ∀ k r, X k = some r → scalar r = true) (hcl : CloneOk P) (hmix : P.follows .mixedOrders = true) (hcf : CGood P X cf) (hrn : LGood P X rn) (it : Item) : StepOk P X cf rn it (stepIt it) := by
  cases it with
  | code c =>
    cases c with
    | skip => exact .move (g := fun k => k) (fun _ _ _ _ _ _ _ => rfl) fun _ _ _ _ _ _ _ => step_lone_go (by simp [stepG, stepG.exec, mkF])
    | label l => exact .move (g := fun k => k) (fun _ _ _ _ _ _ _ => rfl) fun _ _ _ _ _ _ _ => step_lone_go (by simp [stepG, stepG.exec, mkF])
    | seq a b => exact .move (g := fun k => .code a :: .code b :: k) (fun _ _ _ _ _ _ _ => rfl) fun _ _ _ _ _ _ _ => step_lone_go (by simp [stepG, stepG.exec, mkF])
    | cond x a b => exact ok_cond x a b
    | block id c => exact .move (g := fun k => .code c :: .inBlock id :: k) (fun _ _ _ _ _ _ _ => rfl) fun _ _ _ _ _ _ _ => step_lone_go (by simp [stepG, stepG.exec, mkF])
    | loop c => exact .move (g := fun k => .code c :: .inLoop c :: k) (fun _ _ _ _ _ _ _ => rfl) fun _ _ _ _ _ _ _ => step_lone_go (by simp [stepG, stepG.exec, mkF])
    | scope c => exact .move (g := fun k => .code c :: .inScope c :: k) (fun _ _ _ _ _ _ _ => rfl) fun _ _ _ _ _ _ _ => step_lone_go (by simp [stepG, stepG.exec, mkF])
    | exit id => exact ok_exit id
    | goto l => exact ok_goto l
    | ret => exact ok_ret
    | region id ops draw => exact ok_region hX hcl hmix hcf hrn id ops draw
    | rangeFunc f ps a b => exact ok_rangeFunc hcl hcf hrn f ps a b
    | refuse w => exact ok_fail
  | inBlock id => exact .move (g := fun k => k) (fun _ _ _ _ _ _ _ => rfl) fun _ _ _ _ _ _ _ => step_lone_go (by simp [stepG, stepG.exec, mkF])
  | inScope c => exact .move (g := fun k => k) (fun _ _ _ _ _ _ _ => rfl) fun _ _ _ _ _ _ _ => step_lone_go (by simp [stepG, stepG.exec, mkF])
  | inLoop c => exact .move (g := fun k => .code c :: .inLoop c :: k) (fun _ _ _ _ _ _ _ => rfl) fun _ _ _ _ _ _ _ => step_lone_go (by simp [stepG, stepG.exec, mkF])
  | beginRound => exact ok_begin
  | _ => exact ok_fail

theorem run_good (hX : ∀ k r, X k = some r → scalar r = true) (hcl : CloneOk P) (hmix : P.follows .mixedOrders = true) {mc : Caller → Caller} (hmc : ∀ cf, CGood P X cf → CGood P X (mc cf)) : ∀ n, LGood P X (runM P mc n)
  | 0 => fun fn nt rd tm todo ds h j tm' ds' h' hv => by cases hv
  | n + 1 => fun fn nt rd tm todo ds h j tm' ds' h' hv => by
    intro E w tmps dsr rdr cs h1 h2 h3 h4 h5
    cases todo with
    | nil =>
      cases hv
      exact ⟨E, w, tmps, dsr, [], .refl .., h5, h2, h1, h3, rfl, .refl ..⟩
    | cons it k =>
      have hst := step_good hX hcl hmix (hmc _ (callF_good (run_good hX hcl hmix hmc n))) (run_good hX hcl hmix hmc n) it fn nt rd tm k ds h E w tmps dsr rdr cs h1 h2 h3 h4 h5
      have hv : (Res.rec (motive := fun _ => Res) .fail (fun tm' todo' ds' h' => runM P mc n fn nt rd tm' todo' ds' h') (fun j tm' ds' h' => .leave j tm' ds' h') (stepIt it P (mc (callF P (runM P mc n))) (runM P mc n) fn nt rd tm k ds h) : Res) = .leave j tm' ds' h' := hv
      generalize stepIt it P (mc (callF P (runM P mc n))) (runM P mc n) fn nt rd tm k ds h = r at hv hst
      cases r with
      | fail => cases hv
      | go tm1 todo1 ds1 hp1 =>
        obtain ⟨E1, w1, tmps1, dsr1, g1, g2, g3, g4, g5, g6⟩ := hst
        obtain ⟨E2, w2, tmps2, dsr2, todo2, k1, k2, k3, k4, k5, k6, k7⟩ := run_good hX hcl hmix hmc n fn nt rd tm1 todo1 ds1 hp1 j tm' ds' h' hv E1 w1 tmps1 dsr1 rdr cs g4 g3 g5 (h4.mono g1.ext) g2
        exact ⟨E2, w2, tmps2, dsr2, todo2, g1.trans k1, k2, k3, k4, k5, k6, g6.trans k7⟩
      | leave j1 tm1 ds1 hp1 =>
        cases hv
        exact hst

/-- A call that runs to its end on any tape. -/
theorem calls_of (hX : ∀ k r, X k = some r → scalar r = true) (hcl : CloneOk P) (hmix : P.follows .mixedOrders = true) {mc : Caller → Caller} (hmc : ∀ cf, CGood P X cf → CGood P X (mc cf)) {n : Nat} {f : Nat} {args argsr : List Value} {v : Value} {h h' : Hp} {E : Emb} {w : World}
    (ha : VRL X E args argsr) (hr : HRel P X E h w) (hv : callF P (runM P mc n) f args h = some (v, h')) :
    Calls P f ⟨argsr⟩ w fun e w' => ∃ E' v', e = .returned v' ∧ VR X E' v v' ∧ Evo E h w E' h' w' ∧ HRel P X E' h' w' := by
  intro cs
  obtain ⟨E', w', v', fr, h1, h2, h3, h4, h5, h6⟩ := callF_steps (run_good hX hcl hmix hmc n) ha hr hv cs
  exact ⟨.returned v', w', fr, ⟨E', v', rfl, h3, h1, h2⟩, h4, h5, h6⟩
end
end Go.Abs
