/-
  THE EVALUATOR's SOUNDNESS, 13: what stands beside a change; a block at a place kept for it; the order of a region that draws it.
-/
import Derived.Test.YtecogacajmimhaaGreatDoorB3
import Derived.Orders
namespace Go.Abs

section
variable {P : Program} {X : Nat → Option Value}

theorem HRel.congr {E : Emb} {h h' : Hp} {w : World} (hr : HRel P X E h w) (hs : ∀ b, h'.getB b = h.getB b) (hn : h'.nx = h.nx) : HRel P X E h' w :=
  ⟨fun b x hb => hr.blk b x (by rw [← hs]; exact hb), fun b b' x x' a a' hb hb' => hr.inj b b' x x' a a' (by rw [← hs]; exact hb) (by rw [← hs]; exact hb'),
   fun b hb => by rw [hs]; exact hr.fresh b (by omega), hr.bound⟩

theorem Evo.congr {E E' : Emb} {h h' h'' : Hp} {w w' : World} (ev : Evo E h w E' h' w') (hs : ∀ b, h''.getB b = h'.getB b) (hn : h''.nx = h'.nx) : Evo E h w E' h'' w' :=
  ⟨ev.ext, fun b ad h1 h2 => by rw [hn]; exact ev.new b ad h1 h2, by rw [hn]; exact ev.nx, ev.size, ev.frame, fun i hi => by
    obtain ⟨b, x, ad, h1, h2, h3⟩ := hi
    exact ev.image i ⟨b, x, ad, by rw [← hs]; exact h1, h2, h3⟩, ev.os, ev.output, ev.froz⟩

/-- What a change of fewer blocks leaves of the others. -/
theorem HRel.keep {E E' : Emb} {cur small h' cur' : Hp} {w w' : World} (hr : HRel P X E cur w) (hs : ∀ b x, small.getB b = some x → cur.getB b = some x) (hn0 : small.nx = cur.nx)
    (ev : Evo E small w E' h' w') (hr' : HRel P X E' h' w') (hn : cur'.nx = h'.nx) (hc : ∀ b x, cur'.getB b = some x → (cur.getB b = some x ∧ small.getB b = none) ∨ h'.getB b = some x) :
    HRel P X E' cur' w' := by
  have old : ∀ b x ad, cur.getB b = some x → small.getB b = none → E b = some ad → ¬ Img E small ad.blk := fun b x ad h1 h2 h3 hi => by
    obtain ⟨b0, x0, ad0, g1, g2, g3⟩ := hi
    have := hr.inj b0 b x0 x ad0 ad (hs _ _ g1) h1 g2 h3 g3
    subst this
    rw [g1] at h2; cases h2
  refine ⟨fun b x hb => ?_, fun b b' x x' a a' hb hb' ha ha' he => ?_, fun b hb => ?_, hr'.bound⟩
  · rcases hc b x hb with ⟨h1, h2⟩ | h1
    · obtain ⟨ad, h3, h4⟩ := hr.blk b x h1
      exact ⟨ad, ev.ext _ _ h3, h4.carry ev.ext (ev.frame _ (hr.bound _ _ h3) (old b x ad h1 h2 h3))⟩
    · exact hr'.blk b x h1
  · have back : ∀ b x a, cur.getB b = some x → E' b = some a → E b = some a := fun b x a h1 h2 => by
      obtain ⟨ad, h3, _⟩ := hr.blk b x h1
      have := ev.ext _ _ h3
      rw [h2] at this; cases this
      exact h3
    have mix : ∀ b b' x x' a a', cur.getB b = some x → small.getB b = none → h'.getB b' = some x' → E' b = some a → E' b' = some a' → a.blk = a'.blk → False := fun b b' x x' a a' h1 h2 h1' ha ha' he => by
      have h3 := back b x a h1 ha
      rcases ev.image a'.blk ⟨b', x', a', h1', ha', rfl⟩ with h4 | h4
      · rw [← he] at h4; exact old b x a h1 h2 h3 h4
      · have := hr.bound _ _ h3; omega
    rcases hc b x hb with ⟨h1, h2⟩ | h1 <;> rcases hc b' x' hb' with ⟨h1', h2'⟩ | h1'
    · exact hr.inj b b' x x' a a' h1 h1' (back _ _ _ h1 ha) (back _ _ _ h1' ha') he
    · exact (mix b b' x x' a a' h1 h2 h1' ha ha' he).elim
    · exact (mix b' b x' x a' a h1' h2' h1 ha' ha he.symm).elim
    · exact hr'.inj b b' x x' a a' h1 h1' ha ha' he
  · have hb' : h'.nx ≤ b := by omega
    refine ⟨(hr'.fresh b hb').1, ?_⟩
    cases hg : cur'.getB b with
    | none => rfl
    | some x =>
      rcases hc b x hg with ⟨h1, _⟩ | h1
      · have := ev.nx
        rw [(hr.fresh b (by omega)).2] at h1; cases h1
      · rw [(hr'.fresh b hb').2] at h1; cases h1

theorem Evo.keep {E0 E E' : Emb} {h0 cur small h' cur' : Hp} {w0 w w' : World} (e0 : Evo E0 h0 w0 E cur w) (hr : HRel P X E cur w) (hs : ∀ b x, small.getB b = some x → cur.getB b = some x) (hn0 : small.nx = cur.nx)
    (ev : Evo E small w E' h' w') (hn : cur'.nx = h'.nx) (hc : ∀ b x, cur'.getB b = some x → (cur.getB b = some x ∧ small.getB b = none) ∨ h'.getB b = some x) :
    Evo E0 h0 w0 E' cur' w' := by
  have hnx := ev.nx
  have hnx0 := e0.nx
  refine ⟨fun _ _ h => ev.ext _ _ (e0.ext _ _ h), fun b ad h1 h2 => ?_, by omega, Nat.le_trans e0.size ev.size, fun i hi hni => ?_, fun i hi => ?_, ev.os.trans e0.os, ev.output.trans e0.output, fun a => (ev.froz a).trans (e0.froz a)⟩
  · cases hb : E b with
    | some ad' => have := e0.new b ad' hb h2; omega
    | none => have := ev.new b ad h1 hb; omega
  · rw [ev.frame i (Nat.lt_of_lt_of_le hi e0.size) (fun h => ?_), e0.frame i hi hni]
    obtain ⟨b, x, ad, g1, g2, g3⟩ := h
    rcases e0.image i ⟨b, x, ad, hs _ _ g1, g2, g3⟩ with g | g
    · exact hni g
    · omega
  · obtain ⟨b, x, ad, g1, g2, rfl⟩ := hi
    rcases hc b x g1 with ⟨h1, h2⟩ | h1
    · obtain ⟨ad', h3, _⟩ := hr.blk b x h1
      have := ev.ext _ _ h3
      rw [g2] at this; cases this
      exact e0.image _ ⟨b, x, ad, h1, h3, rfl⟩
    · rcases ev.image _ ⟨b, x, ad, h1, g2, rfl⟩ with ⟨b', x', ad', g4, g5, g6⟩ | g
      · exact e0.image _ ⟨b', x', ad', hs _ _ g4, g5, g6⟩
      · exact .inr (Nat.le_trans e0.size g)

/-- A block at a place that was kept for it. -/
theorem HRel.lay {E : Emb} {cur cur' : Hp} {w : World} (hr : HRel P X E cur w) {id : Nat} {x : Blk} {obj : Obj} (hE : E id = none) (hid : id < cur.nx)
    (hx : BRel P X (E.upd id ⟨w.heap.size, 0, 0⟩) (World.laid w obj) ⟨w.heap.size, 0, 0⟩ x) (hn : cur'.nx = cur.nx) (hc : ∀ b, cur'.getB b = if b = id then some x else cur.getB b) :
    HRel P X (E.upd id ⟨w.heap.size, 0, 0⟩) cur' (World.laid w obj) := by
  have hext := Emb.upd_ext (ad := ⟨w.heap.size, 0, 0⟩) hE
  have cases_ : ∀ c a, E.upd id ⟨w.heap.size, 0, 0⟩ c = some a → (c = id ∧ a = ⟨w.heap.size, 0, 0⟩) ∨ (c ≠ id ∧ E c = some a) := fun c a hc => by
    by_cases e : c = id
    · subst e; rw [Emb.upd_same] at hc; cases hc; exact .inl ⟨rfl, rfl⟩
    · rw [Emb.upd_ne _ _ e] at hc; exact .inr ⟨e, hc⟩
  refine ⟨fun c y hy => ?_, fun c c' y y' a a' hy hy' ha ha' he => ?_, fun c hcn => ?_, fun c a ha => ?_⟩
  · rw [hc] at hy
    split at hy
    · rename_i e; cases hy; subst e; exact ⟨_, Emb.upd_same _ _ _, hx⟩
    · obtain ⟨a, h1, h2⟩ := hr.blk c y hy
      exact ⟨a, hext _ _ h1, h2.carry hext (laid_lt _ _ (hr.bound c a h1))⟩
  · rw [hc] at hy hy'
    rcases cases_ c a ha with ⟨e, rfl⟩ | ⟨e, h1⟩ <;> rcases cases_ c' a' ha' with ⟨e', rfl⟩ | ⟨e', h1'⟩
    · omega
    · have := hr.bound c' a' h1'; simp at he; omega
    · have := hr.bound c a h1; simp at he; omega
    · rw [if_neg e] at hy
      rw [if_neg e'] at hy'
      exact hr.inj c c' y y' a a' hy hy' h1 h1' he
  · obtain ⟨h1, h2⟩ := hr.fresh c (by omega)
    refine ⟨by rw [Emb.upd_ne _ _ (by omega)]; exact h1, by rw [hc, if_neg (by omega)]; exact h2⟩
  · rw [laid_size]
    rcases cases_ c a ha with ⟨e, rfl⟩ | ⟨e, h1⟩
    · exact Nat.lt_succ_self _
    · have := hr.bound c a h1; omega

theorem Evo.lay {E0 E : Emb} {h0 cur cur' : Hp} {w0 w : World} (e0 : Evo E0 h0 w0 E cur w) {id : Nat} {x : Blk} {obj : Obj} (hx : BRel P X (E.upd id ⟨w.heap.size, 0, 0⟩) (World.laid w obj) ⟨w.heap.size, 0, 0⟩ x) (hE : E id = none) (hid0 : h0.nx ≤ id) (hid : id < cur.nx)
    (hn : cur'.nx = cur.nx) (hc : ∀ b, cur'.getB b = if b = id then some x else cur.getB b) :
    Evo E0 h0 w0 (E.upd id ⟨w.heap.size, 0, 0⟩) cur' (World.laid w obj) := by
  have hext := Emb.upd_ext (ad := ⟨w.heap.size, 0, 0⟩) hE
  have hsz := e0.size
  have hnx := e0.nx
  refine ⟨fun _ _ h => hext _ _ (e0.ext _ _ h), fun c a h1 h2 => ?_, by omega, by rw [laid_size]; omega, fun i hi hni => by rw [laid_lt _ _ (by omega)]; exact e0.frame i hi hni, fun i hi => ?_, e0.os, e0.output, fun a => (frozen_eq (k := w.heap.size) (fun i hi => laid_ne _ _ hi) hx.cold (fun _ ha => frozen_out ha) a).trans (e0.froz a)⟩
  · by_cases e : c = id
    · subst e; omega
    · rw [Emb.upd_ne _ _ e] at h1
      have := e0.new c a h1 h2; omega
  · obtain ⟨c, y, a, g1, g2, rfl⟩ := hi
    by_cases e : c = id
    · subst e
      rw [Emb.upd_same] at g2; cases g2
      exact .inr hsz
    · rw [Emb.upd_ne _ _ e] at g2
      rw [hc, if_neg e] at g1
      exact e0.image _ ⟨c, y, a, g1, g2, rfl⟩
end

/-! ### What stands before what -/
inductive Anc (ops : List Oper) : Nat → Nat → Prop
  | edge {i : Nat} {o : Oper} {e : Edge} (ho : ops[i]? = some o) (he : e ∈ o.after.toList) (hb : bindsAny e = true) : Anc ops i e.on
  | step {i j : Nat} {o : Oper} {e : Edge} (ho : ops[i]? = some o) (he : e ∈ o.after.toList) (hb : bindsAny e = true) (h : Anc ops e.on j) : Anc ops i j

theorem Anc.trans {ops : List Oper} {i j l : Nat} (h : Anc ops i j) (h' : Anc ops j l) : Anc ops i l := by
  induction h with
  | edge ho he hb => exact .step ho he hb h'
  | step ho he hb _ ih => exact .step ho he hb (ih h')

theorem hasBit_eq (m i : Nat) : hasBit m i = m.testBit i := by
  rw [Nat.testBit_eq_decide_div_mod_eq, ← Nat.shiftRight_eq_div_pow]
  show Nat.beq _ 1 = _
  rw [Bool.eq_iff_iff, Nat.beq_eq, decide_eq_true_iff]
  rfl

theorem hasBit_lor (a b i : Nat) : hasBit (Nat.lor a b) i = (hasBit a i || hasBit b i) := by
  simp only [hasBit_eq]
  exact Nat.testBit_or a b i

theorem hasBit_one (k i : Nat) (h : hasBit (Nat.shiftLeft 1 k) i = true) : i = k := by
  rw [hasBit_eq] at h
  have h : (1 <<< k).testBit i = true := h
  rw [Nat.one_shiftLeft, Nat.testBit_two_pow] at h
  simpa [eq_comm] using h

theorem hasBit_zero (i : Nat) : hasBit 0 i = false := by rw [hasBit_eq]; exact Nat.zero_testBit i

/-- The row of those before the i-th. -/
noncomputable def befAt (bef : List Nat) (i : Nat) : Nat := (nth bef i).getD 0

theorem bef_fold {ops : List Oper} {acc : List Nat} {k : Nat} (hacc : ∀ i j, hasBit ((nth acc i).getD 0) j = true → Anc ops i j) {o : Oper} (ho : ops[k]? = some o) :
    ∀ (es : List Edge) (s : Nat), (∀ e ∈ es, e ∈ o.after.toList) → (∀ j, hasBit s j = true → Anc ops k j) → ∀ j,
      hasBit (es.foldl (fun s e => bif bindsAny e then Nat.lor s (Nat.lor (Nat.shiftLeft 1 e.on) ((nth acc e.on).getD 0)) else s) s) j = true → Anc ops k j := by
  intro es
  induction es with
  | nil => intro s _ hs j hj; exact hs j hj
  | cons e es ih =>
    intro s hes hs j hj
    rw [List.foldl_cons] at hj
    refine ih _ (fun e' h => hes e' (List.mem_cons_of_mem _ h)) (fun j hj => ?_) j hj
    cases hb : bindsAny e with
    | false => rw [hb] at hj; exact hs j hj
    | true =>
      rw [hb, cond_true, hasBit_lor, hasBit_lor] at hj
      simp only [Bool.or_eq_true] at hj
      rcases hj with hj | hj | hj
      · exact hs j hj
      · rw [hasBit_one _ _ hj]; exact .edge ho (hes e List.mem_cons_self) hb
      · exact .step ho (hes e List.mem_cons_self) hb (hacc _ _ hj)

theorem befL_anc (ops : List Oper) : ∀ (os : List Oper) (acc : List Nat), (∀ j o, os[j]? = some o → ops[acc.length + j]? = some o) → (∀ i j, hasBit ((nth acc i).getD 0) j = true → Anc ops i j) →
    ∀ i j, hasBit (befAt (befL os acc) i) j = true → Anc ops i j := by
  intro os
  induction os with
  | nil => intro acc _ hacc i j h; exact hacc i j h
  | cons o os ih =>
    intro acc hos hacc i j h
    refine ih (acc ++ [o.after.toList.foldl (fun s e => bif bindsAny e then Nat.lor s (Nat.lor (Nat.shiftLeft 1 e.on) ((nth acc e.on).getD 0)) else s) 0]) (fun j o' hj => ?_) (fun i j h => ?_) i j h
    · have := hos (j + 1) o' (by simpa using hj)
      rw [List.length_append, List.length_singleton, show acc.length + 1 + j = acc.length + (j + 1) by omega]
      exact this
    · rw [nth_eq, List.getElem?_append] at h
      split at h
      · rw [← nth_eq] at h; exact hacc i j h
      · rename_i hlt
        have ho : ops[acc.length]? = some o := by simpa using hos 0 o rfl
        cases hd : i - acc.length with
        | zero =>
          rw [hd] at h
          have : i = acc.length := by omega
          subst this
          exact bef_fold hacc ho _ _ (fun e he => he) (fun j hj => by rw [hasBit_zero] at hj; cases hj) j h
        | succ m =>
          rw [hd] at h
          have h : hasBit 0 j = true := h
          rw [hasBit_zero] at h; cases h

theorem bef_anc {ops : List Oper} {i j : Nat} (h : hasBit (befAt (befL ops []) i) j = true) : Anc ops i j :=
  befL_anc ops ops [] (fun j o h => by simpa using h) (fun i j h => by
    have h : hasBit 0 j = true := h
    rw [hasBit_zero] at h; cases h) i j h

theorem edgesOk_at : ∀ {os : List Oper} {k : Nat}, edgesOk os k = true → ∀ j o, os[j]? = some o → ∀ e ∈ o.after.toList, bindsAny e = true → e.on < k + j
  | [], _, _, j, o, h => by simp at h
  | q :: os, k, h, j, o, hj => by
    simp only [edgesOk, Bool.and_eq_true] at h
    obtain ⟨⟨h1, _⟩, h2⟩ := h
    cases j with
    | zero =>
      cases hj
      intro e he hb
      have := List.all_eq_true.1 h1 e he
      rw [hb] at this
      simpa [Nat.blt_eq] using this
    | succ j =>
      intro e he hb
      have := edgesOk_at h2 j o (by simpa using hj) e he hb
      omega

theorem Anc.lt {ops : List Oper} (hk : edgesOk ops 0 = true) {i j : Nat} (h : Anc ops i j) : j < i := by
  induction h with
  | edge ho he hb => have := edgesOk_at hk _ _ ho _ he hb; omega
  | step ho he hb _ ih => have := edgesOk_at hk _ _ ho _ he hb; omega

theorem apartFrom_at {bef : List Nat} {i bi : Nat} {d : Option Tmp} {names : List Tmp} : ∀ {os : List Oper} {k : Nat}, apartFrom bef i bi d names os k = true → ∀ j q t, os[j]? = some q → q.dst = some t → i ≠ k + j →
    (memN t names = true ∨ d = some t) → (k + j < i → hasBit bi (k + j) = true) ∧ (¬ k + j < i → hasBit (befAt bef (k + j)) i = true)
  | [], _, _, j, q, t, h => by simp at h
  | o :: os, k, h, j, q, t, hj => by
    simp only [apartFrom, Bool.and_eq_true] at h
    obtain ⟨h1, h2⟩ := h
    cases j with
    | zero =>
      cases hj
      intro ht hne hm
      have e1 : Nat.beq i k = false := by
        cases e : Nat.beq i k with
        | false => rfl
        | true => exact absurd (Nat.eq_of_beq_eq_true e) (by simpa using hne)
      have fin : (bif Nat.blt k i then hasBit bi k else hasBit ((nth bef k).getD 0) i) = true → (k + 0 < i → hasBit bi (k + 0) = true) ∧ (¬ k + 0 < i → hasBit (befAt bef (k + 0)) i = true) := fun h1 => by
        cases e3 : Nat.blt k i with
        | true =>
          rw [e3, cond_true] at h1
          have : k < i := by simpa [Nat.blt_eq] using e3
          exact ⟨fun _ => h1, fun h => by omega⟩
        | false =>
          rw [e3, cond_false] at h1
          have : ¬ k < i := fun h => by rw [← Nat.blt_eq] at h; rw [h] at e3; cases e3
          exact ⟨fun h => by omega, fun _ => h1⟩
      rw [e1, cond_false, ht] at h1
      simp only [] at h1
      rcases hm with hm | hm
      · rw [hm, Bool.true_or, cond_true] at h1
        exact fin h1
      · subst hm
        have e4 : Nat.beq t t = true := by rw [Nat.beq_eq]
        simp only [e4, Bool.or_true, cond_true] at h1
        exact fin h1
    | succ j =>
      intro ht hne hm
      have := apartFrom_at h2 j q t (by simpa using hj) ht (by omega) hm
      rw [show k + 1 + j = k + (j + 1) by omega] at this
      exact this

theorem tmpsOk_at {all : List Oper} {bef : List Nat} : ∀ {os : List Oper} {k : Nat}, tmpsOk all bef os k = true → ∀ i o, os[i]? = some o → apartFrom bef (k + i) (befAt bef (k + i)) o.dst (namesOf all o) all 0 = true
  | [], _, _, i, o, h => by simp at h
  | q :: os, k, h, i, o, hi => by
    simp only [tmpsOk, Bool.and_eq_true] at h
    obtain ⟨h1, h2⟩ := h
    cases i with
    | zero => cases hi; exact h1
    | succ i =>
      have := tmpsOk_at h2 i o (by simpa using hi)
      rw [show k + 1 + i = k + (i + 1) by omega] at this
      exact this

theorem memN_of {t : Nat} : ∀ {l : List Nat}, t ∈ l → memN t l = true
  | x :: xs, h => by
    simp only [memN, Bool.or_eq_true, Nat.beq_eq]
    rcases List.mem_cons.1 h with h | h
    · exact .inl h.symm
    · exact .inr (memN_of h)

/-- All that write what an operation names are ordered with it. -/
theorem ordered {ops : List Oper} (hk : tmpsOk ops (befL ops []) ops 0 = true) {i j : Nat} {o q : Oper} {t : Tmp} (hi : ops[i]? = some o) (hj : ops[j]? = some q) (ht : q.dst = some t) (hne : i ≠ j)
    (hm : t ∈ namesOf ops o ∨ o.dst = some t) : (j < i ∧ Anc ops i j) ∨ (i < j ∧ Anc ops j i) := by
  have h := tmpsOk_at hk i o hi
  rw [Nat.zero_add] at h
  obtain ⟨h1, h2⟩ := apartFrom_at h j q t hj ht (by omega) (hm.imp memN_of id)
  rw [Nat.zero_add] at h1 h2
  by_cases hlt : j < i
  · exact .inl ⟨hlt, bef_anc (h1 hlt)⟩
  · exact .inr ⟨by omega, bef_anc (h2 hlt)⟩
end Go.Abs
