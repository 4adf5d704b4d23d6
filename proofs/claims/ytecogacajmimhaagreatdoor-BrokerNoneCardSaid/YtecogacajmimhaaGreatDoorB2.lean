/-
  THE EVALUATOR's SOUNDNESS, 11: operations as steps of the machine; a region in its order.
-/
import Derived.Test.YtecogacajmimhaaGreatDoorB1
import Derived.Control
namespace Go.Abs

def mkF (fn : FuncId) (tmps : Array Value) (todo : List Item) (ds : List Deferred) (rd : Option Nat) : Frame :=
  { fn, tmps, todo, defers := ds, mode := .run, kind := .normal, roundOf := rd }

def putT (tmps : Array Value) (d : Option Tmp) (v : Value) : Array Value := match d with
  | some d => tmps.setIfInBounds d v
  | none => tmps

section
variable {P : Program} {X : Nat → Option Value}

theorem mkF_finish (fn : FuncId) (tmps : Array Value) (ops : Array Oper) (i : Nat) (rest : List Nat) (k : List Item) (ds : List Deferred) (rd : Option Nat) (v : Value) :
    (mkF fn tmps (.inRegion ops (i :: rest) :: k) ds rd).finish v = mkF fn (putT tmps ((ops[i]?).bind (·.dst)) v) (.inRegion ops rest :: k) ds rd := by
  simp only [mkF, Frame.finish, putT]
  cases ops[i]? with
  | none => rfl
  | some q => cases hq : q.dst <;> simp [hq]

theorem stepG_op' {fn : FuncId} {tmps : Array Value} {ops : Array Oper} {i : Nat} {rest : List Nat} {k : List Item} {ds : List Deferred} {rd : Option Nat} {cs : List Frame} {w : World} {q : Oper}
    (hq : ops[i]? = some q) (hw : Region.wanted q (yielded ops tmps) = true) (hd : ∀ c, q.op ≠ .defer c) :
    stepG P true { frame := mkF fn tmps (.inRegion ops (i :: rest) :: k) ds rd, callers := cs, status := .running, dying := none } w =
      stepG.apply P true (mkF fn tmps (.inRegion ops (i :: rest) :: k) ds rd) cs none (execOp (mkF fn tmps (.inRegion ops (i :: rest) :: k) ds rd).eval q) w := by
  have ho : (mkF fn tmps (.inRegion ops (i :: rest) :: k) ds rd).oper? = some q := by simp [Frame.oper?, mkF, hq]
  have h1 : stepG P true { frame := mkF fn tmps (.inRegion ops (i :: rest) :: k) ds rd, callers := cs, status := .running, dying := none } w =
      stepG.oper P true (mkF fn tmps (.inRegion ops (i :: rest) :: k) ds rd) cs none w := by
    simp [stepG, stepG.exec, mkF, hq, hw]
  rw [h1]
  unfold stepG.oper
  rw [ho]
  simp only []
  split
  · rename_i l c h2 h3
    exact absurd h3 (hd c)
  · rfl

theorem op_value {fn : FuncId} {tmps : Array Value} {ops : Array Oper} {i : Nat} {rest : List Nat} {k : List Item} {ds : List Deferred} {rd : Option Nat} {cs : List Frame} {w w' : World} {q : Oper} {r : Next} {v : Value}
    (hq : ops[i]? = some q) (hw : Region.wanted q (yielded ops tmps) = true) (hd : ∀ c, q.op ≠ .defer c)
    (hr : (execOp (mkF fn tmps (.inRegion ops (i :: rest) :: k) ds rd).eval q).run P w = .ok r w') (hv : r = .value v ∨ (r = .skip ∧ v = undef)) :
    step P (lone (mkF fn tmps (.inRegion ops (i :: rest) :: k) ds rd) cs w) = .next (lone (mkF fn (putT tmps q.dst v) (.inRegion ops rest :: k) ds rd) cs w') := by
  have hf := mkF_finish fn tmps ops i rest k ds rd v
  rw [hq] at hf
  refine step_lone_go ?_
  rw [stepG_op' hq hw hd]
  have hf' : (mkF fn tmps (.inRegion ops (i :: rest) :: k) ds rd).finish v = mkF fn (putT tmps q.dst v) (.inRegion ops rest :: k) ds rd := hf
  rw [← hf']
  rcases hv with rfl | ⟨rfl, rfl⟩
  · simp [stepG.apply, hr]
  · simp [stepG.apply, hr]

theorem op_enter {fn : FuncId} {tmps : Array Value} {ops : Array Oper} {i : Nat} {rest : List Nat} {k : List Item} {ds : List Deferred} {rd : Option Nat} {cs : List Frame} {w w' : World} {q : Oper} {f : FuncId} {args : Array Value}
    (hq : ops[i]? = some q) (hw : Region.wanted q (yielded ops tmps) = true) (hd : ∀ c, q.op ≠ .defer c)
    (hr : (execOp (mkF fn tmps (.inRegion ops (i :: rest) :: k) ds rd).eval q).run P w = .ok (.enter f args) w') :
    step P (lone (mkF fn tmps (.inRegion ops (i :: rest) :: k) ds rd) cs w) = .next (lone (Frame.enter P f args .normal) (mkF fn tmps (.inRegion ops (i :: rest) :: k) ds rd :: cs) w') := by
  refine step_lone_go ?_
  rw [stepG_op' hq hw hd]
  simp [stepG.apply, hr]
  rfl

theorem op_round {fn : FuncId} {tmps : Array Value} {ops : Array Oper} {i : Nat} {rest : List Nat} {k : List Item} {ds : List Deferred} {rd : Option Nat} {cs : List Frame} {w w' : World} {q : Oper} {l f : Nat} {tm : Array Value} {a b : Code}
    (hq : ops[i]? = some q) (hw : Region.wanted q (yielded ops tmps) = true) (hd : ∀ c, q.op ≠ .defer c)
    (hr : (execOp (mkF fn tmps (.inRegion ops (i :: rest) :: k) ds rd).eval q).run P w = .ok (.round l f tm a b) w') :
    step P (lone (mkF fn tmps (.inRegion ops (i :: rest) :: k) ds rd) cs w) = .next (lone (Frame.round l f tm a b .normal) (mkF fn tmps (.inRegion ops (i :: rest) :: k) ds rd :: cs) w') := by
  refine step_lone_go ?_
  rw [stepG_op' hq hw hd]
  simp [stepG.apply, hr]

theorem op_skip {fn : FuncId} {tmps : Array Value} {ops : Array Oper} {i : Nat} {rest : List Nat} {k : List Item} {ds : List Deferred} {rd : Option Nat} {cs : List Frame} {w : World} {q : Oper}
    (hq : ops[i]? = some q) (hw : Region.wanted q (yielded ops tmps) = false) :
    step P (lone (mkF fn tmps (.inRegion ops (i :: rest) :: k) ds rd) cs w) = .next (lone (mkF fn (putT tmps q.dst undef) (.inRegion ops rest :: k) ds rd) cs w) := by
  have hf := mkF_finish fn tmps ops i rest k ds rd undef
  rw [hq] at hf
  have hf' : (mkF fn tmps (.inRegion ops (i :: rest) :: k) ds rd).finish undef = mkF fn (putT tmps q.dst undef) (.inRegion ops rest :: k) ds rd := hf
  rw [← hf']
  refine step_lone_go ?_
  simp [stepG, stepG.exec, mkF, hq, hw]

/-! ## Calls, as what they are told to do -/
/-- A caller whose answers hold. -/
def CGood (P : Program) (X : Nat → Option Value) (cf : Caller) : Prop :=
  ∀ (E : Emb) (h : Hp) (w : World) (f : Nat) (args argsr : List Value) (v : Value) (h' : Hp), VRL X E args argsr → HRel P X E h w → cf f args h = some (v, h') →
    (callFunc f ⟨argsr⟩).run P w = .ok (.enter f ⟨argsr⟩) w ∧
    ∀ (c : Frame) (cs : List Frame), ∃ E' w' v', Evo E h w E' h' w' ∧ HRel P X E' h' w' ∧ VR X E' v v' ∧ Steps P (lone (Frame.enter P f ⟨argsr⟩ .normal) (c :: cs) w) (lone (c.finish v') cs w')
/-- The same of rounds. -/
def RGood (P : Program) (X : Nat → Option Value) (cr : Caller) : Prop :=
  ∀ (E : Emb) (h : Hp) (w : World) (l : Nat) (ad : Ad) (args argsr : List Value) (v : Value) (h' : Hp), E l = some ad → VRL X E args argsr → HRel P X E h w → cr l args h = some (v, h') →
    ∃ f tm a b, (Instr.yield ad.blk ⟨argsr⟩).run P w = .ok (.round ad.blk f tm a b) w ∧
    ∀ (c : Frame) (cs : List Frame), ∃ E' w' v', Evo E h w E' h' w' ∧ HRel P X E' h' w' ∧ VR X E' v v' ∧ Steps P (lone (Frame.round ad.blk f tm a b .normal) (c :: cs) w) (lone (c.finish v') cs w')

/-- What a call's operand answers, before it runs. -/
def CallRel (P : Program) (X : Nat → Option Value) (E : Emb) (h : Hp) (w : World) (v : Value) (h' : Hp) (s : Sem Next) : Prop :=
  (∃ E' w' v', Evo E h w E' h' w' ∧ HRel P X E' h' w' ∧ VR X E' v v' ∧ s.run P w = .ok (.value v') w') ∨
  (∃ f args, s.run P w = .ok (.enter f args) w ∧ ∀ (c : Frame) (cs : List Frame), ∃ E' w' v', Evo E h w E' h' w' ∧ HRel P X E' h' w' ∧ VR X E' v v' ∧ Steps P (lone (Frame.enter P f args .normal) (c :: cs) w) (lone (c.finish v') cs w')) ∨
  (∃ l f tm a b, s.run P w = .ok (.round l f tm a b) w ∧ ∀ (c : Frame) (cs : List Frame), ∃ E' w' v', Evo E h w E' h' w' ∧ HRel P X E' h' w' ∧ VR X E' v v' ∧ Steps P (lone (Frame.round l f tm a b .normal) (c :: cs) w) (lone (c.finish v') cs w'))

/-- What the program's one function without a body is. -/
def CloneOk (P : Program) : Prop := ∀ (args : Array Value) (w : World), (callFunc CLONE args).run P w = (do pure (.value (← Extern.MapsClone.clone args)) : Sem Next).run P w

theorem evCall_rel (hcl : CloneOk P) {cf cr : Caller} (hcf : CGood P X cf) (hcr : RGood P X cr) {E : Emb} {h h' : Hp} {w : World} (hr : HRel P X E h w) {f fr : Value} {args argsr : List Value} {v : Value}
    (hf : VR X E f fr) (ha : VRL X E args argsr) (hv : evCall P cf cr h f args = some (v, h')) :
    CallRel P X E h w v h' (do let d ← Deferred.ofValue fr ⟨argsr⟩; invoke d.target d.args) := by
  unfold evCall at hv
  split at hv
  · rename_i g first captured
    cases hf with
    | func h1 h2 =>
      rename_i fi' ca'
      have hap : VRL X E (_ ++ (args ++ _)) (fi' ++ (argsr ++ ca')) := h1.append (ha.append h2)
      have hcomp : (do let d ← Deferred.ofValue (.func (.func g) ⟨fi'⟩ ⟨ca'⟩) ⟨argsr⟩; invoke d.target d.args : Sem Next) = callFunc g ⟨fi' ++ (argsr ++ ca')⟩ := by
        simp only [Deferred.ofValue, pure_bind, invoke]
        congr 1
        apply Array.ext'
        simp
      rw [hcomp]
      split at hv
      · rename_i fn hfn
        split at hv
        · obtain ⟨h3, h4⟩ := hcf E h w g _ _ v h' hap hr hv
          exact .inr (.inl ⟨g, _, h3, h4⟩)
        · cases hcond : (Nat.beq g CLONE && (Array.isEmpty _) && (Array.isEmpty _)) with
          | false => rw [hcond] at hv; cases hv
          | true =>
            rw [hcond, cond_true] at hv
            simp only [Bool.and_eq_true] at hcond
            obtain ⟨⟨g1, g2⟩, g3⟩ := hcond
            have hg := Nat.eq_of_beq_eq_true g1
            have e2 : fi' = [] := by
              have hl := h1.length
              rw [Array.isEmpty_iff] at g2
              have := congrArg Array.toList g2
              simp at this
              rw [this] at hl
              exact List.eq_nil_of_length_eq_zero (by simpa using hl)
            have e3 : ca' = [] := by
              have hl := h2.length
              rw [Array.isEmpty_iff] at g3
              have := congrArg Array.toList g3
              simp at this
              rw [this] at hl
              exact List.eq_nil_of_length_eq_zero (by simpa using hl)
            subst e2 e3 hg
            obtain ⟨E', w', v', q1, q2, q3, q4⟩ := clone_rel hr ha hv
            refine .inl ⟨E', w', v', q1, q2, q3, ?_⟩
            rw [hcl]
            simp only [List.nil_append, List.append_nil, Sem.run_bind, q4, Result.andThen, Sem.run_pure]
      · cases hv
  · rename_i l first captured
    cases hcond : ((Array.isEmpty first) && (Array.isEmpty captured)) with
    | false => rw [hcond] at hv; cases hv
    | true =>
      rw [hcond, cond_true] at hv
      cases hf with
      | yield hE =>
        rename_i ad
        obtain ⟨g, tm, a, b, h3, h4⟩ := hcr E h w l ad args argsr v h' hE ha hr hv
        refine .inr (.inr ⟨ad.blk, g, tm, a, b, ?_, h4⟩)
        simp only [Deferred.ofValue, pure_bind, invoke]
        have : (#[] ++ (Array.mk argsr)) = Array.mk argsr := by apply Array.ext'; simp
        rw [show ({ toList := [] } : Array Value) = #[] from rfl, this]
        exact h3
  · cases hv
end
end Go.Abs
