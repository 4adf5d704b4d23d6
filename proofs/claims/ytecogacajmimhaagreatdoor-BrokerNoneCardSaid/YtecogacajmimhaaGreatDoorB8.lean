/-
  THE EVALUATOR's SOUNDNESS, 17: a function's frame, a round's frame.
-/
import Derived.Test.YtecogacajmimhaaGreatDoorB7
namespace Go.Abs

def DR (E : Emb) : List Nat → List Deferred → Prop
  | [], [] => True
  | b :: bs, d :: dsr => (∃ ad, E b = some ad ∧ d = { target := .collected ad.blk, args := #[] }) ∧ DR E bs dsr
  | _, _ => False

theorem DR.mono {E E' : Emb} (hE : ∀ b ad, E b = some ad → E' b = some ad) : ∀ {ds : List Nat} {dsr : List Deferred}, DR E ds dsr → DR E' ds dsr
  | [], [], _ => trivial
  | _ :: _, _ :: _, ⟨⟨ad, h1, h2⟩, h3⟩ => ⟨⟨ad, hE _ _ h1, h2⟩, h3.mono hE⟩
  | [], _ :: _, h => h.elim
  | _ :: _, [], h => h.elim

def RdR (E : Emb) : Option Nat → Option Nat → Prop
  | none, none => True
  | some l, some r => ∃ ad, E l = some ad ∧ r = ad.blk
  | _, _ => False

theorem RdR.mono {E E' : Emb} (hE : ∀ b ad, E b = some ad → E' b = some ad) : ∀ {l r : Option Nat}, RdR E l r → RdR E' l r
  | none, none, _ => trivial
  | some _, some _, ⟨ad, h1, h2⟩ => ⟨ad, hE _ _ h1, h2⟩
  | none, some _, h => h.elim
  | some _, none, h => h.elim

/-- About to leave. -/
def Leaves : Option Code → List Item → Prop
  | none, todo => todo = []
  | some .ret, todo => ∃ k, todo = .code .ret :: k
  | _, _ => False

def LGood (P : Program) (X : Nat → Option Value) (rn : Leaver) : Prop :=
  ∀ fn nt rd tm todo ds h j tm' ds' h', rn fn nt rd tm todo ds h = .leave j tm' ds' h' →
    ∀ (E : Emb) (w : World) (tmps : Array Value) (dsr : List Deferred) (rdr : Option Nat) (cs : List Frame), tmps.size = nt → TR X E tm tmps → DR E ds dsr → RdR E rd rdr → HRel P X E h w →
    ∃ E' w' tmps' dsr' todo', Evo E h w E' h' w' ∧ HRel P X E' h' w' ∧ TR X E' tm' tmps' ∧ tmps'.size = nt ∧ DR E' ds' dsr' ∧ Leaves j todo' ∧
      Steps P (lone (mkF fn tmps todo dsr rdr) cs w) (lone (mkF fn tmps' todo' dsr' rdr) cs w')

/-- A frame that returns. -/
def bkF (fn : FuncId) (tmps : Array Value) (todo : List Item) (ds : List Deferred) : Frame :=
  { fn, tmps, todo, defers := ds, mode := .returning, kind := .normal, roundOf := none }

section
variable {P : Program} {X : Nat → Option Value}

theorem leave_step {fn : FuncId} {tmps : Array Value} {todo : List Item} {ds : List Deferred} {cs : List Frame} {w : World} {j : Option Code} (h : Leaves j todo) :
    step P (lone (mkF fn tmps todo ds none) cs w) = .next (lone (bkF fn tmps todo ds) cs w) := by
  unfold Leaves at h
  split at h
  · subst h; exact step_lone_go (by simp [stepG, stepG.exec, mkF, bkF])
  · obtain ⟨k, rfl⟩ := h; exact step_lone_go (by simp [stepG, stepG.exec, mkF, bkF])
  · exact h.elim

theorem defers_steps {fn : FuncId} {tmps : Array Value} {todo : List Item} {cs : List Frame} {E : Emb} : ∀ (ds : List Nat) (dsr : List Deferred) (h h' : Hp) (w : World), takeDefers ds h = some h' → DR E ds dsr → HRel P X E h w →
    ∃ w', Evo E h w E h' w' ∧ HRel P X E h' w' ∧ Steps P (lone (bkF fn tmps todo dsr) cs w) (lone (bkF fn tmps todo []) cs w')
  | [], dsr, h, h', w, ht, hd, hr => by
    cases dsr with
    | nil => cases ht; exact ⟨w, .refl .., hr, .refl ..⟩
    | cons d ds => exact hd.elim
  | b :: bs, dsr, h, h', w, ht, hd, hr => by
    cases dsr with
    | nil => exact hd.elim
    | cons d ds =>
      obtain ⟨⟨ad, hE, rfl⟩, hd⟩ := hd
      have ht : (match h.getB b with
        | some (.defd true) => takeDefers bs (h.putB b (.defd false))
        | _ => none) = some h' := ht
      split at ht
      · rename_i hb
        obtain ⟨ad', hE', hbr⟩ := hr.blk _ _ hb
        rw [hE] at hE'; cases hE'
        have hbr : w.heap[ad.blk]? = some (.deferred (some [])) := hbr
        have hlt := hr.bound _ _ hE
        obtain ⟨h1, h2⟩ := hr.over hb hE (x' := .defd false) (obj := .deferred none) (over_same _ _ hlt)
        obtain ⟨w', h3, h4, h5⟩ := defers_steps bs ds _ h' _ ht hd h1
        refine ⟨w', h2.trans h3, h4, .head (step_lone_go ?_) h5⟩
        have hrun : (Instr.takeDeferred ad.blk).run P w = .ok [] (World.over w ad.blk (.deferred none)) := by
          simp only [Instr.takeDeferred, Sem.run_bind, getObj_run hbr (fun _ _ _ h => by cases h), Result.andThen, setObj_run hbr (fun _ _ _ h => by cases h), Sem.run_pure]
        simp [stepG, unwind, bkF, hrun]
      · cases ht

def rvS (tmps : Array Value) : ResultVar → Sem Value
  | .tmp t => pure (tmps.getD t undef)
  | .cell a t => do loadVar t (← asAddr (tmps.getD a undef))
theorem results_eq (fn : Func) (tmps : Array Value) : results fn tmps = (do let vs ← fn.results.mapM (rvS tmps); pure (if h : vs.size = 1 then vs[0] else .tuple vs)) := by
  unfold results
  congr 1

theorem res_run {E : Emb} {h : Hp} {w : World} (hr : HRel P X E h w) {tm : Tr Value} {tmps : Array Value} (ht : TR X E tm tmps) : ∀ (rs : List ResultVar) (vs : List Value), resOf P tm h rs = some vs →
    ∃ vsr, VRL X E vs vsr ∧ (rs.mapM (rvS tmps)).run P w = .ok vsr w
  | [], vs, hv => by cases hv; exact ⟨[], .nil, rfl⟩
  | .tmp t :: rs, vs, hv => by
    have hv : ((resOf P tm h rs).bind fun vs => some (tmOf tm (.tmp t) :: vs)) = some vs := hv
    obtain ⟨us, h1, h2⟩ := Option.bind_eq_some_iff.1 hv
    cases h2
    obtain ⟨vsr, h3, h4⟩ := res_run hr ht rs us h1
    refine ⟨_, .cons (ht t) h3, ?_⟩
    simp only [List.mapM_cons, rvS, Sem.run_bind, Sem.run_pure, Result.andThen, h4]
  | .cell a t :: rs, vs, hv => by
    have hv : ((evLoad P h t (tmOf tm (.tmp a))).bind fun v => (resOf P tm h rs).bind fun vs => some (v :: vs)) = some vs := hv
    obtain ⟨v, h0, hv⟩ := Option.bind_eq_some_iff.1 hv
    obtain ⟨us, h1, h2⟩ := Option.bind_eq_some_iff.1 hv
    cases h2
    obtain ⟨vsr, h3, h4⟩ := res_run hr ht rs us h1
    obtain ⟨v', h5, h6⟩ := evLoad_run hr (ht a) h0
    refine ⟨_, .cons h5 h3, ?_⟩
    have h7 : (rvS tmps (.cell a t)).run P w = .ok v' w := by
      rw [← h6, rvS]
      have hx := ht a
      generalize tmOf tm (.tmp a) = x at h0 hx
      generalize tmps.getD a undef = y at hx
      unfold evLoad at h0
      split at h0
      · obtain ⟨ad, _, rfl⟩ := hx.ptr_inv
        simp [Instr.loadAt, Instr.sureAddr, asAddr]
      · cases h0
    simp only [List.mapM_cons, Sem.run_bind, Sem.run_pure, Result.andThen, h7, h4]

theorem results_run {E : Emb} {h : Hp} {w : World} (hr : HRel P X E h w) {tm : Tr Value} {tmps : Array Value} (ht : TR X E tm tmps) {fn : Func} {vs : List Value} (hv : resOf P tm h fn.results.toList = some vs) :
    ∃ v', VR X E (resV vs) v' ∧ (results fn tmps).run P w = .ok v' w := by
  obtain ⟨vsr, h1, h2⟩ := res_run hr ht _ _ hv
  have h3 : (results fn tmps).run P w = .ok (if h : (Array.mk vsr).size = 1 then (Array.mk vsr)[0] else .tuple ⟨vsr⟩) w := by
    have h4 : (List.toArray <$> (fn.results.toList.mapM (rvS tmps))).run P w = .ok ⟨vsr⟩ w := by
      rw [map_eq_pure_bind, Sem.run_bind, h2]
      rfl
    rw [results_eq, Array.mapM_eq_mapM_toList, Sem.run_bind, h4]
    rfl
  refine ⟨_, ?_, h3⟩
  cases h1 with
  | nil => exact .tuple .nil
  | cons a b =>
    cases b with
    | nil => exact a
    | cons c d =>
      rw [dif_neg (by simp)]
      exact .tuple (.cons a (.cons c d))

theorem tmList_get : ∀ (vs : List Value) (tm : Tr Value) (i t : Nat), (tmList vs tm i).get t = if i ≤ t ∧ t < i + vs.length then vs[t - i]? else tm.get t
  | [], tm, i, t => by rw [if_neg (by simp)]; rfl
  | v :: vs, tm, i, t => by
    show (tmList vs (tm.put i v) (i + 1)).get t = _
    rw [tmList_get vs _ (i + 1) t]
    by_cases h : i + 1 ≤ t ∧ t < i + 1 + vs.length
    · rw [if_pos h, if_pos (by rw [List.length_cons]; omega)]
      obtain ⟨m, rfl⟩ := Nat.exists_eq_add_of_le h.1
      rw [show i + 1 + m - (i + 1) = m by omega, show i + 1 + m - i = m + 1 by omega]
      rfl
    · rw [if_neg h, Tr.get_put]
      by_cases e : t = i
      · subst e
        rw [if_pos rfl, if_pos (by rw [List.length_cons]; omega), Nat.sub_self]; rfl
      · rw [if_neg e, if_neg (by rw [List.length_cons]; omega)]

theorem args_tr {E : Emb} {args argsr : List Value} (h : VRL X E args argsr) (n : Nat) : TR X E (tmList args .nil 0) (Array.mk argsr ++ Array.replicate n undef) := by
  intro (t : Nat)
  have hl := h.length
  simp only [tmOf, tmList_get, Nat.zero_le, true_and, Nat.zero_add, Nat.sub_zero, Tr.get_nil]
  by_cases ht : t < args.length
  · rw [if_pos ht]
    obtain ⟨y, h1, h2⟩ := h.get (i := t) (x := args[t]) (List.getElem?_eq_getElem ht)
    rw [List.getElem?_eq_getElem ht]
    have : (Array.mk argsr ++ Array.replicate n undef).getD t undef = y := by
      have hlt : t < argsr.length := by omega
      rw [Array.getD_eq_getD_getElem?, Array.getElem?_append_left (by simpa using hlt)]
      have h3 : (Array.mk argsr)[t]? = some y := by simpa using h1
      rw [h3]; rfl
    rw [this]; exact h2
  · rw [if_neg ht]
    have : (Array.mk argsr ++ Array.replicate n undef).getD t undef = undef := by
      rw [Array.getD_eq_getD_getElem?, Array.getElem?_append_right (by simp; omega), Array.getElem?_replicate]
      split <;> rfl
    rw [this]; exact .undef_

/-- A call, from its first step to the frame that leaves with its answer. -/
theorem callF_steps {rn : Leaver} (hrn : LGood P X rn) {E : Emb} {h h' : Hp} {w : World} {f : Nat} {args argsr : List Value} {v : Value} (ha : VRL X E args argsr) (hr : HRel P X E h w) (hv : callF P rn f args h = some (v, h')) (cs : List Frame) :
    ∃ E' w' v' fr, Evo E h w E' h' w' ∧ HRel P X E' h' w' ∧ VR X E' v v' ∧ Steps P (lone (Frame.enter P f ⟨argsr⟩ .normal) cs w) (lone fr cs w') ∧ fr.fn = f ∧ fr.leaving P w' (.returned v') := by
  unfold callF at hv
  split at hv
  · cases hv
  · rename_i fn hfn
    split at hv
    · cases hv
    · rename_i c hc
      cases hcond : (fn.name == "runtime.NumGoroutine" || !Nat.ble args.length fn.ntmps) with
      | true => rw [hcond] at hv; cases hv
      | false =>
        rw [hcond, cond_false] at hv
        simp only [Bool.or_eq_false_iff, Bool.not_eq_false'] at hcond
        have hle : args.length ≤ fn.ntmps := Nat.le_of_ble_eq_true hcond.2
        split at hv
        · rename_i j tm ds h1 hleave
          obtain ⟨_, _, hv⟩ := Option.bind_eq_some_iff.1 hv
          obtain ⟨h2, hdef, hv⟩ := Option.bind_eq_some_iff.1 hv
          obtain ⟨vs, hres, hv⟩ := Option.bind_eq_some_iff.1 hv
          cases hv
          have hl := ha.length
          have henter : Frame.enter P f ⟨argsr⟩ .normal = mkF f (Array.mk argsr ++ Array.replicate (fn.ntmps - (Array.mk argsr).size) undef) [.code c] [] none := by
            simp [Frame.enter, mkF, hfn, hc]
          obtain ⟨E', w1, tmps', dsr', todo', g1, g2, g3, g4, g5, g6, g7⟩ := hrn _ _ _ _ _ _ _ _ _ _ _ hleave E w (Array.mk argsr ++ Array.replicate (fn.ntmps - (Array.mk argsr).size) undef) [] none cs
            (by simp; omega) (args_tr ha _) trivial trivial hr
          obtain ⟨w2, k1, k2, k3⟩ := defers_steps (fn := f) (tmps := tmps') (todo := todo') (cs := cs) ds dsr' h1 _ w1 hdef g5 g2
          obtain ⟨v', m1, m2⟩ := results_run k2 g3 hres
          refine ⟨E', w2, v', bkF f tmps' todo' [], g1.trans k1, k2, m1, ?_, rfl, rfl, rfl, rfl, fn, hfn, m2⟩
          rw [henter]
          exact (g7.trans (.head (leave_step g6) k3))
        · cases hv

theorem callF_good {rn : Leaver} (hrn : LGood P X rn) : CGood P X (callF P rn) := by
  intro E h w f args argsr v h' ha hr hv
  refine ⟨?_, fun c cs => ?_⟩
  · unfold callF at hv
    split at hv
    · cases hv
    · rename_i fn hfn
      split at hv
      · cases hv
      · rename_i c hc
        cases hcond : (fn.name == "runtime.NumGoroutine" || !Nat.ble args.length fn.ntmps) with
        | true => rw [hcond] at hv; cases hv
        | false =>
          simp only [Bool.or_eq_false_iff] at hcond
          have hname : fn.name ≠ "runtime.NumGoroutine" := fun e => by rw [e] at hcond; exact absurd hcond.1 (by decide)
          simp [callFunc, hfn, hc, hname]
  · obtain ⟨E', w', v', fr, h1, h2, h3, h4, h5, h6⟩ := callF_steps hrn ha hr hv (c :: cs)
    exact ⟨E', w', v', h1, h2, h3, h4.trans (.one (step_leave_returned h6))⟩

theorem bind_tr {E : Emb} {nt : Nat} : ∀ (ps : List Tmp) (args argsr : List Value) (tm tm' : Tr Value) (tmps : Array Value), bindParams nt ps args tm = some tm' → VRL X E args argsr → tmps.size = nt → TR X E tm tmps →
    argsr.length = ps.length ∧ TR X E tm' ((ps.zip argsr).foldl (fun tmps (t, a) => tmps.setIfInBounds t a) tmps) ∧ ((ps.zip argsr).foldl (fun tmps (t, a) => tmps.setIfInBounds t a) tmps).size = nt
  | [], [], argsr, tm, tm', tmps, hb, ha, hs, ht => by
    cases ha; cases hb
    exact ⟨rfl, ht, hs⟩
  | p :: ps, v :: vs, argsr, tm, tm', tmps, hb, ha, hs, ht => by
    cases ha with
    | cons h1 h2 =>
      have hb : (bif Nat.blt p nt then bindParams nt ps vs (tm.put p v) else none) = some tm' := hb
      obtain ⟨hlt, hb⟩ := bif_none hb
      have hput : putTm tmps.size tm (some p) v = some (tm.put p v) := by
        simp only [putTm, hs, hlt, cond_true]
      obtain ⟨g1, g2, g3⟩ := bind_tr ps vs _ _ tm' (putT tmps (some p) _) hb h2 (by rw [putT_size]; exact hs) (ht.put h1 hput)
      exact ⟨by simp [g1], g2, g3⟩
  | [], _ :: _, _, _, _, _, hb, _, _, _ => by cases hb
  | _ :: _, [], _, _, _, _, hb, _, _, _ => by cases hb

theorem endRound_step {fn : FuncId} {tmps : Array Value} {todo : List Item} {c : Frame} {cs : List Frame} {w w' : World} {j : Option Code} {r : Nat} {v : Value} (h : Leaves j todo) (hr : (Instr.endRound r j).run P w = .ok v w') :
    step P (lone (mkF fn tmps todo [] (some r)) (c :: cs) w) = .next (lone (c.finish v) cs w') := by
  unfold Leaves at h
  split at h
  · subst h; exact step_lone_go (by simp [stepG, stepG.exec, mkF, doReturn, hr])
  · obtain ⟨k, rfl⟩ := h; exact step_lone_go (by simp [stepG, stepG.exec, mkF, doReturn, hr])
  · exact h.elim

theorem callR_good {rn : Leaver} (hrn : LGood P X rn) : RGood P X (callR rn) := by
  intro E h w l ad args argsr v h' hE ha hr hv
  unfold callR at hv
  split at hv
  · rename_i st pe fn nt tm params assign body de hb
    obtain ⟨tm1, hbind, hv⟩ := Option.bind_eq_some_iff.1 hv
    obtain ⟨ad', hE', tmps, dd, hde, hsz, htr, hobj⟩ := hr.blk _ _ hb
    rw [hE] at hE'; cases hE'
    obtain ⟨hlen, htr', hsz'⟩ := bind_tr params.toList args argsr tm tm1 tmps hbind ha hsz htr
    have hyield : (Instr.yield ad.blk ⟨argsr⟩).run P w = .ok (.round ad.blk fn ((params.zip ⟨argsr⟩).foldl (fun tmps (t, a) => tmps.setIfInBounds t a) tmps) assign body) w := by
      have hsz2 : (Array.mk argsr).size = params.size := by simpa using hlen
      simp only [Instr.yield, Instr.getLoop, Sem.run_bind, getObj_run hobj (fun _ _ _ h => by cases h), Result.andThen, Sem.run_pure, pure_bind, hsz2, ne_eq, not_true_eq_false, if_false]
    have hfold : (params.zip ⟨argsr⟩).foldl (fun tmps (t, a) => tmps.setIfInBounds t a) tmps = (params.toList.zip argsr).foldl (fun tmps (t, a) => tmps.setIfInBounds t a) tmps := by
      rw [← Array.foldl_toList]; simp
    refine ⟨_, _, _, _, hyield, fun c cs => ?_⟩
    rw [hfold]
    generalize hleave : rn fn nt (some l) tm1 [.code assign, .beginRound, .code body] [] h = z at hv
    split at hv
    · rename_i j tm2 h1
      split at hv
      · rename_i st2 pe2 fn2 nt2 tm3 ps2 as2 bo2 de2 hb2
        cases hv
        obtain ⟨E', w1, tmps', dsr', todo', g1, g2, g3, g4, g5, g6, g7⟩ := hrn _ _ _ _ _ _ _ _ _ _ _ hleave E w _ [] (some ad.blk) (c :: cs) hsz' htr' trivial ⟨ad, hE, rfl⟩ hr
        have hdsr : dsr' = [] := by
          cases dsr' with
          | nil => rfl
          | cons _ _ => exact g5.elim
        subst hdsr
        have hE1 := g1.ext _ _ hE
        obtain ⟨ad', hE', tmps3, dd3, hde3, hsz3, htr3, hobj3⟩ := g2.blk _ _ hb2
        rw [hE1] at hE'; cases hE'
        have hend : (Instr.endRound ad.blk j).run P w1 = .ok (.bool j.isNone) (World.over w1 ad.blk (.loop { state := if j.isNone then .ready else .done, pending := j, fn := fn2, tmps := tmps3, params := ps2, assign := as2, body := bo2, defers := dd3.blk })) := by
          simp only [Instr.endRound, Instr.getLoop, Sem.run_bind, getObj_run hobj3 (fun _ _ _ h => by cases h), Result.andThen, setObj_run hobj3 (fun _ _ _ h => by cases h), Sem.run_pure, pure_bind]
        have hlt := g2.bound _ _ hE1
        obtain ⟨k1, k2⟩ := g2.over hb2 hE1 (x' := .loop (bif j.isNone then .ready else .done) j fn2 nt2 tm3 ps2 as2 bo2 de2) (obj := .loop { state := if j.isNone then .ready else .done, pending := j, fn := fn2, tmps := tmps3, params := ps2, assign := as2, body := bo2, defers := dd3.blk })
          ⟨tmps3, dd3, hde3, hsz3, htr3, by rw [over_same _ _ hlt]; cases j.isNone <;> rfl⟩
        refine ⟨E', _, .bool j.isNone, g1.trans k2, k1, .bool _, ?_⟩
        exact g7.trans (.one (endRound_step g6 hend))
      · cases hv
    · cases hv
  · cases hv
end
end Go.Abs
