/-
  THE EVALUATOR's SOUNDNESS, 8: what changes memory: stores, maps, iterators.
-/
import Derived.Test.YtecogacajmimhaaGreatDoorA7
namespace Go.Abs

/-- A block replaced. -/
def World.over (w : World) (b : Nat) (o : Obj) : World := { w with heap := w.heap.setIfInBounds b o }
theorem over_size (w : World) (b : Nat) (o : Obj) : (World.over w b o).heap.size = w.heap.size := by
  show (w.heap.setIfInBounds b o).size = _
  simp
theorem over_same (w : World) {b : Nat} (o : Obj) (h : b < w.heap.size) : (World.over w b o).heap[b]? = some o := by
  show (w.heap.setIfInBounds b o)[b]? = _
  simp [h]
theorem over_ne (w : World) {b c : Nat} (o : Obj) (h : c ≠ b) : (World.over w b o).heap[c]? = w.heap[c]? := by
  show (w.heap.setIfInBounds b o)[c]? = _
  rw [Array.getElem?_setIfInBounds_ne (Ne.symm h)]
theorem over_over (w : World) (b : Nat) (o o' : Obj) : World.over (World.over w b o) b o' = World.over w b o' := by
  unfold World.over
  simp

section
variable {P : Program} {X : Nat → Option Value}

/-- A block's change, in both memories. -/
theorem HRel.over {E : Emb} {h : Hp} {w : World} (hr : HRel P X E h w) {b : Nat} {x x' : Blk} {ad : Ad} {obj : Obj} (hb : h.getB b = some x) (hE : E b = some ad)
    (hx : BRel P X E (World.over w ad.blk obj) ad x') : HRel P X E (h.putB b x') (World.over w ad.blk obj) ∧ Evo E h w E (h.putB b x') (World.over w ad.blk obj) := by
  have hlt := hr.bound b ad hE
  refine ⟨⟨fun c y hc => ?_, fun c c' y y' a a' hc hc' ha ha' he => ?_, fun c hc => ?_, fun c a hc => by rw [over_size]; exact hr.bound c a hc⟩, ?_⟩
  · rw [Hp.getB_putB] at hc
    split at hc
    · rename_i e
      cases hc
      subst e
      exact ⟨ad, hE, hx⟩
    · rename_i e
      obtain ⟨a, h1, h2⟩ := hr.blk c y hc
      refine ⟨a, h1, h2.carry (fun _ _ h => h) (over_ne _ _ fun he => e (hr.inj c b y x a ad hc hb h1 hE he))⟩
  · have up : ∀ d z, (h.putB b x').getB d = some z → ∃ z', h.getB d = some z' := fun d z hd => by
      rw [Hp.getB_putB] at hd
      split at hd
      · rename_i e; subst e; exact ⟨_, hb⟩
      · exact ⟨_, hd⟩
    obtain ⟨z, hz⟩ := up _ _ hc
    obtain ⟨z', hz'⟩ := up _ _ hc'
    exact hr.inj c c' z z' a a' hz hz' ha ha' he
  · rw [Hp.nx_putB] at hc
    obtain ⟨h1, h2⟩ := hr.fresh c hc
    refine ⟨h1, ?_⟩
    rw [Hp.getB_putB, if_neg]
    · exact h2
    · rintro rfl; rw [h1] at hE; cases hE
  · refine ⟨fun _ _ h => h, fun _ _ h h' => (by rw [h] at h'; cases h'), by rw [Hp.nx_putB]; exact Nat.le_refl _, by rw [over_size]; exact Nat.le_refl _, fun i hi hn => ?_, fun i hi => ?_, rfl, rfl, frozen_eq (k := ad.blk) (fun i hi => over_ne _ _ hi) hx.cold (fun a ha => by
      obtain ⟨ad', h1, h2⟩ := hr.blk _ _ hb
      rw [hE] at h1; cases h1
      exact h2.cold a ha)⟩
    · exact over_ne _ _ fun e => hn ⟨b, x, ad, hb, hE, e.symm⟩
    · obtain ⟨c, y, a, hc, ha, rfl⟩ := hi
      rw [Hp.getB_putB] at hc
      split at hc
      · rename_i e; subst e; exact .inl ⟨_, x, a, hb, ha, rfl⟩
      · exact .inl ⟨c, y, a, hc, ha, rfl⟩

/-- A block more, in both memories. -/
theorem HRel.more {E : Emb} {h : Hp} {w : World} (hr : HRel P X E h w) {x : Blk} {obj : Obj} {cap : Nat}
    (hx : BRel P X (E.upd h.nx ⟨w.heap.size, 0, cap⟩) (World.laid w obj) ⟨w.heap.size, 0, cap⟩ x) :
    HRel P X (E.upd h.nx ⟨w.heap.size, 0, cap⟩) (h.new x) (World.laid w obj) ∧ Evo E h w (E.upd h.nx ⟨w.heap.size, 0, cap⟩) (h.new x) (World.laid w obj) := by
  obtain ⟨hf1, hf2⟩ := hr.fresh h.nx (Nat.le_refl _)
  have hext := Emb.upd_ext (ad := ⟨w.heap.size, 0, cap⟩) hf1
  have cases_ : ∀ c a, E.upd h.nx ⟨w.heap.size, 0, cap⟩ c = some a → (c = h.nx ∧ a = ⟨w.heap.size, 0, cap⟩) ∨ (c ≠ h.nx ∧ E c = some a) := fun c a hc => by
    by_cases e : c = h.nx
    · subst e; rw [Emb.upd_same] at hc; cases hc; exact .inl ⟨rfl, rfl⟩
    · rw [Emb.upd_ne _ _ e] at hc; exact .inr ⟨e, hc⟩
  refine ⟨⟨fun c y hc => ?_, fun c c' y y' a a' hc hc' ha ha' he => ?_, fun c hc => ?_, fun c a hc => ?_⟩, ?_⟩
  · rw [Hp.getB_new] at hc
    split at hc
    · rename_i e; cases hc; subst e; exact ⟨_, Emb.upd_same _ _ _, hx⟩
    · obtain ⟨a, h1, h2⟩ := hr.blk c y hc
      exact ⟨a, hext _ _ h1, h2.carry hext (laid_lt _ _ (hr.bound c a h1))⟩
  · rw [Hp.getB_new] at hc hc'
    rcases cases_ c a ha with ⟨e, rfl⟩ | ⟨e, h1⟩ <;> rcases cases_ c' a' ha' with ⟨e', rfl⟩ | ⟨e', h1'⟩
    · omega
    · have := hr.bound c' a' h1'; simp at he; omega
    · have := hr.bound c a h1; simp at he; omega
    · rw [if_neg e] at hc
      rw [if_neg e'] at hc'
      exact hr.inj c c' y y' a a' hc hc' h1 h1' he
  · rw [Hp.nx_new] at hc
    obtain ⟨h1, h2⟩ := hr.fresh c (by omega)
    refine ⟨by rw [Emb.upd_ne _ _ (by omega)]; exact h1, by rw [Hp.getB_new, if_neg (by omega)]; exact h2⟩
  · rw [laid_size]
    rcases cases_ c a hc with ⟨e, rfl⟩ | ⟨e, h1⟩
    · exact Nat.lt_succ_self _
    · have := hr.bound c a h1; omega
  · refine ⟨hext, fun c a h1 h2 => ?_, by rw [Hp.nx_new]; omega, by rw [laid_size]; omega, fun i hi _ => laid_lt _ _ hi, fun i hi => ?_, rfl, rfl, frozen_eq (k := w.heap.size) (fun i hi => laid_ne _ _ hi) hx.cold (fun _ ha => frozen_out ha)⟩
    · rcases cases_ c a h1 with ⟨e, rfl⟩ | ⟨e, h1⟩
      · rw [Hp.nx_new]; omega
      · rw [h1] at h2; cases h2
    · obtain ⟨c, y, a, hc, ha, rfl⟩ := hi
      rcases cases_ c a ha with ⟨e, rfl⟩ | ⟨e, h1⟩
      · exact .inr (Nat.le_refl _)
      · rw [Hp.getB_new, if_neg e] at hc
        exact .inl ⟨c, y, a, hc, h1, rfl⟩

/-- Fewer blocks. -/
theorem HRel.less {E : Emb} {h h' : Hp} {w : World} (hr : HRel P X E h w) (hs : ∀ b x, h'.getB b = some x → h.getB b = some x) (hn : h'.nx = h.nx) : HRel P X E h' w :=
  ⟨fun b x hb => hr.blk b x (hs b x hb), fun b b' x x' a a' hb hb' => hr.inj b b' x x' a a' (hs _ _ hb) (hs _ _ hb'),
   fun b hb => ⟨(hr.fresh b (by omega)).1, by
     cases hg : h'.getB b with
     | none => rfl
     | some x => have := hs b x hg; rw [(hr.fresh b (by omega)).2] at this; cases this⟩, hr.bound⟩

def EffOk (P : Program) (X : Nat → Option Value) (o : Op) (f : Env → Hp → Option (Value × Hp)) : Prop :=
  ∀ (E : Emb) (h : Hp) (w : World) (ρ ρr : Operand → Value), ER X E ρ ρr → (∀ x ∈ o.operands.toList, okOp x = true) → HRel P X E h w → ∀ v h', f ρ h = some (v, h') →
    ∀ (q : Oper), q.op = o → ∃ E' w' v' r, Evo E h w E' h' w' ∧ HRel P X E' h' w' ∧ VR X E' v v' ∧ (execOp ρr q).run P w = .ok r w' ∧ (r = .value v' ∨ (r = .skip ∧ v' = undef))

/-! ### Stores -/
def writeL (arr : Array Value) (j : Nat) : List Value → Array Value
  | [] => arr
  | y :: ys => writeL (arr.setIfInBounds j y) (j + 1) ys
theorem writeL_size : ∀ (ys : List Value) (arr : Array Value) (j : Nat), (writeL arr j ys).size = arr.size
  | [], arr, j => rfl
  | y :: ys, arr, j => by rw [writeL, writeL_size ys, Array.size_setIfInBounds]
theorem writeL_get : ∀ (ys : List Value) (arr : Array Value) (j i : Nat), j + ys.length ≤ arr.size → (writeL arr j ys)[i]? = if j ≤ i ∧ i < j + ys.length then ys[i - j]? else arr[i]?
  | [], arr, j, i, h => by rw [writeL, if_neg (by rw [List.length_nil]; omega)]
  | y :: ys, arr, j, i, h => by
    simp only [List.length_cons] at h
    rw [writeL, writeL_get ys _ (j + 1) i (by rw [Array.size_setIfInBounds]; omega)]
    by_cases h1 : j + 1 ≤ i ∧ i < j + 1 + ys.length
    · rw [if_pos h1, if_pos (by simp; omega)]
      rw [show i - j = (i - (j + 1)) + 1 by omega]
      simp
    · rw [if_neg h1]
      by_cases h2 : i = j
      · subst h2
        have hlt : i < arr.size := by omega
        rw [if_pos (by simp)]
        simp [hlt]
      · rw [if_neg (by simp only [List.length_cons]; omega), Array.getElem?_setIfInBounds_ne (Ne.symm h2)]

theorem setCell_over {w : World} {b j : Nat} {arr : Array Value} {e : TypeId} (h : w.heap[b]? = some (.cells arr e (0, 0))) (v : Value) :
    w.setCell ⟨b, j, none⟩ v = World.over w b (.cells (arr.setIfInBounds j v) e (0, 0)) := by
  unfold World.setCell World.over
  congr 1
  apply Array.ext_getElem?
  intro i
  rw [Array.getElem?_modify]
  by_cases hi : i = b
  · subst hi
    have hlt : i < w.heap.size := by
      rcases Nat.lt_or_ge i w.heap.size with h1 | h1
      · exact h1
      · rw [Array.getElem?_eq_none h1] at h; cases h
    rw [if_pos rfl, h]
    simp [hlt]
  · rw [if_neg (Ne.symm hi), Array.getElem?_setIfInBounds_ne (Ne.symm hi)]

theorem storeCells_run {b off : Nat} {e : TypeId} : ∀ (ys : List Value) (w : World) (arr : Array Value) (i : Nat), w.heap[b]? = some (.cells arr e (0, 0)) → off + i + ys.length ≤ arr.size → (∀ y ∈ ys, scalar y = true) →
    (storeCells ⟨b, off, none⟩ ys i).run P w = .ok () (if ys = [] then w else World.over w b (.cells (writeL arr (off + i) ys) e (0, 0)))
  | [], w, arr, i, h, hl, hs => by simp [storeCells]
  | y :: ys, w, arr, i, h, hl, hs => by
    simp only [List.length_cons] at hl
    have hlt : b < w.heap.size := by
      rcases Nat.lt_or_ge b w.heap.size with h1 | h1
      · exact h1
      · rw [Array.getElem?_eq_none h1] at h; cases h
    have hone : y.oneCell' = true := by
      have := hs y (by simp)
      cases y <;> first | rfl | (simp [scalar] at this)
    have hcell : w.cell? ⟨b, off + i, none⟩ = some (arr[off + i]'(by omega)) := by
      rw [cell_of h]; exact Array.getElem?_eq_getElem (by omega)
    have hfr : w.frozen? ⟨b, off + i, none⟩ = false := by
      simp [World.frozen?, h]
    simp only [storeCells, Sem.run_bind, add_none, run_store _ _ _ _ _ hone, hcell, hfr, Bool.false_eq_true, if_false, Result.andThen, setCell_over h]
    rw [storeCells_run ys _ (arr.setIfInBounds (off + i) y) (i + 1) (over_same _ _ hlt) (by rw [Array.size_setIfInBounds]; omega) (fun z hz => hs z (by simp [hz]))]
    congr 1
    cases ys with
    | nil => simp [writeL]
    | cons z zs =>
      simp only [reduceCtorEq, if_false]
      rw [over_over]
      rfl

theorem putN_get : ∀ (vs : List Value) (over : Tr Value) (o i : Nat), (putN over vs o).get i = if o ≤ i ∧ i < o + vs.length then vs[i - o]? else over.get i
  | [], over, o, i => by
    show over.get i = _
    rw [if_neg (by rw [List.length_nil]; omega)]
  | v :: vs, over, o, i => by
    show (putN (over.put o v) vs (o + 1)).get i = _
    rw [putN_get vs _ (o + 1) i, Tr.get_put]
    simp only [List.length_cons]
    by_cases h1 : o + 1 ≤ i ∧ i < o + 1 + vs.length
    · rw [if_pos h1, if_pos (by omega), show i - o = (i - (o + 1)) + 1 by omega]; simp
    · rw [if_neg h1]
      by_cases h2 : i = o
      · subst h2; rw [if_pos rfl, if_pos (by omega)]; simp
      · rw [if_neg h2, if_neg (by omega)]

theorem store_rel (hX : ∀ k r, X k = some r → scalar r = true) {E : Emb} {h h' : Hp} {w : World} (hr : HRel P X E h w) {b o : Nat} {vs ys : List Value} {ad : Ad} (hE : E b = some ad) (hv : VRL X E vs ys) (hst : h.store b o vs = some h') :
    ∃ w', (storeCells ⟨ad.blk, ad.off + o, none⟩ ys 0).run P w = .ok () w' ∧ HRel P X E h' w' ∧ Evo E h w E h' w' := by
  unfold Hp.store at hst
  split at hst
  rename_i nx tr
  split at hst
  · rename_i e n pat over opn hb
    have hb' : (Hp.mk nx tr).getB b = some (.cells e n pat over opn) := hb
    rw [ble_dec] at hst
    by_cases hc : Nat.add o vs.length ≤ n ∧ vs.all scalar = true
    case neg =>
      have : (decide (Nat.add o vs.length ≤ n) && vs.all scalar) = false := by
        rw [Bool.eq_false_iff]; intro hh; simp only [Bool.and_eq_true, decide_eq_true_eq] at hh; exact hc hh
      rw [this, cond_false] at hst; cases hst
    obtain ⟨hc1, hc2⟩ := hc
    have hc1' : o + vs.length ≤ n := hc1
    rw [decide_eq_true hc1, hc2, Bool.and_self, cond_true] at hst
    cases hst
    obtain ⟨ad', hE', arr, h1, h2, h3, h4⟩ := hr.blk _ _ hb'
    rw [hE] at hE'; cases hE'
    have hyl := hv.length
    have hys : ∀ y ∈ ys, scalar y = true := fun y hy => by
      obtain ⟨i, hi⟩ := List.mem_iff_getElem?.1 hy
      have hlt : i < vs.length := by
        rcases Nat.lt_or_ge i vs.length with h | h
        · exact h
        · rw [List.getElem?_eq_none (by omega)] at hi; cases hi
      obtain ⟨y', hy', hr'⟩ := hv.get (List.getElem?_eq_getElem hlt)
      rw [hi] at hy'; cases hy'
      exact hr'.scalar_ hX (List.all_eq_true.1 hc2 _ (List.getElem_mem hlt))
    have hrun := storeCells_run (P := P) (b := ad.blk) (off := ad.off + o) ys w arr 0 h1 (by omega) hys
    rw [Nat.add_zero] at hrun
    by_cases hy0 : ys = []
    · subst hy0
      have hv0 : vs = [] := by cases hv; rfl
      subst hv0
      rw [if_pos rfl] at hrun
      refine ⟨w, hrun, ?_⟩
      have hsame : BRel P X E (World.over w ad.blk (.cells arr e (0, 0))) ad (.cells e n pat (putN over [] o) opn) :=
        ⟨arr, over_same _ _ (hr.bound b ad hE), h2, fun i v hv => let ⟨y, hy, hr⟩ := h3 i v hv; ⟨y, hy, hr⟩, h4⟩
      have hw : World.over w ad.blk (.cells arr e (0, 0)) = w := by
        unfold World.over
        have : w.heap.setIfInBounds ad.blk (.cells arr e (0, 0)) = w.heap := by
          apply Array.ext_getElem?
          intro i
          by_cases hi : i = ad.blk
          · subst hi
            have := over_same w (.cells arr e (0, 0)) (hr.bound b ad hE)
            unfold World.over at this
            rw [this, h1]
          · rw [Array.getElem?_setIfInBounds_ne (Ne.symm hi)]
        rw [this]
      have := HRel.over hr hb' hE hsame
      rw [hw] at this
      exact this
    · rw [if_neg hy0] at hrun
      refine ⟨_, hrun, ?_⟩
      refine HRel.over hr hb' hE ⟨_, over_same _ _ (hr.bound b ad hE), by rw [writeL_size]; exact h2, fun i v hv' => ?_, fun hop => by rw [writeL_size]; exact h4 hop⟩
      have hi := cellAt_lt hv'
      unfold cellAt at hv'
      rw [blt_dec, decide_eq_true hi, cond_true, putN_get] at hv'
      rw [writeL_get ys arr (ad.off + o) (ad.off + i) (by omega)]
      by_cases hin : o ≤ i ∧ i < o + vs.length
      · rw [if_pos hin] at hv'
        rw [if_pos (by omega), show ad.off + i - (ad.off + o) = i - o by omega]
        have hlt : i - o < vs.length := by omega
        rw [List.getElem?_eq_getElem hlt] at hv'
        cases hv'
        obtain ⟨y, hy, hr'⟩ := hv.get (List.getElem?_eq_getElem hlt)
        exact ⟨y, hy, hr'⟩
      · rw [if_neg hin] at hv'
        rw [if_neg (by omega)]
        refine h3 i v ?_
        unfold cellAt
        rw [blt_dec, decide_eq_true hi, cond_true]
        exact hv'
  · cases hst

theorem ok_store (hX : ∀ k r, X k = some r → scalar r = true) (t : TypeId) (x v : Operand) : EffOk P X (.store t x v) (fun ρ h => (evStore P h t (ρ x) (ρ v)).bind fun h' => some (.tuple #[], h')) := by
  intro E h w ρ ρr hρ hok hr u h' hv q hq
  obtain ⟨dst, op, type, pos, after, guard⟩ := q
  cases hq
  have hx := hρ x (hok x (by simp [Op.operands]))
  have hvv := hρ v (hok v (by simp [Op.operands]))
  simp only [Option.bind_eq_some_iff] at hv
  obtain ⟨h1, hst, hv⟩ := hv
  cases hv
  unfold evStore at hst
  generalize ρ x = vx at hst hx
  split at hst
  · rename_i b o
    simp only [Option.bind_eq_some_iff] at hst
    obtain ⟨n, hn, hst⟩ := hst
    rw [beq_dec] at hst
    by_cases hl : (cellsL (ρ v)).length = n
    case neg => rw [decide_eq_false hl, cond_false] at hst; cases hst
    rw [decide_eq_true hl, cond_true] at hst
    obtain ⟨ad, hE, hxr⟩ := hx.ptr_inv
    have hcs := hvv.cells hX
    obtain ⟨w', hrun, hrel, hevo⟩ := store_rel hX hr hE hcs hst
    have hsz : (ρr v).cells.size = n := by rw [← Array.length_toList, hcs.length, hl]
    refine ⟨E, w', undef, .skip, hevo, hrel, VR.undef_, ?_, .inr ⟨rfl, rfl⟩⟩
    simp only [execOp, hxr, Instr.storeAt, Instr.sureAddr, Sem.run_bind, Sem.run_pure, Result.andThen, storeVar, r_size w hn, hsz, ne_eq, not_true_eq_false, if_false, pure_bind, hrun]
  · cases hst
end
end Go.Abs
