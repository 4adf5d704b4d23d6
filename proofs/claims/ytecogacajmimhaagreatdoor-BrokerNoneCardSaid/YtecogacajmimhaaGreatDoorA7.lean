/-
  THE EVALUATOR's SOUNDNESS, 7: what makes memory.
-/
import Derived.Test.YtecogacajmimhaaGreatDoorA6
namespace Go.Abs

def Emb.upd (E : Emb) (b : Nat) (ad : Ad) : Emb := fun c => if c = b then some ad else E c
theorem Emb.upd_same (E : Emb) (b : Nat) (ad : Ad) : E.upd b ad b = some ad := if_pos rfl
theorem Emb.upd_ne (E : Emb) {b c : Nat} (ad : Ad) (h : c ≠ b) : E.upd b ad c = E c := if_neg h
theorem Emb.upd_ext {E : Emb} {b : Nat} {ad : Ad} (h : E b = none) : ∀ c x, E c = some x → E.upd b ad c = some x := fun c x hc => by
  rw [Emb.upd_ne]
  · exact hc
  · rintro rfl; rw [h] at hc; cases hc

def World.laid (w : World) (o : Obj) : World := { w with heap := w.heap.push o }
theorem laid_at (w : World) (o : Obj) : (World.laid w o).heap[w.heap.size]? = some o := by
  show (w.heap.push o)[w.heap.size]? = some o
  simp
theorem laid_lt (w : World) (o : Obj) {i : Nat} (h : i < w.heap.size) : (World.laid w o).heap[i]? = w.heap[i]? := by
  show (w.heap.push o)[i]? = w.heap[i]?
  simp [Array.getElem?_push, Nat.ne_of_lt h]
theorem laid_ne (w : World) (o : Obj) {i : Nat} (h : i ≠ w.heap.size) : (World.laid w o).heap[i]? = w.heap[i]? := by
  by_cases hi : i < w.heap.size
  · exact laid_lt w o hi
  · simp only [World.laid]
    rw [Array.getElem?_eq_none (by simp; omega), Array.getElem?_eq_none (by omega)]
theorem laid_size (w : World) (o : Obj) : (World.laid w o).heap.size = w.heap.size + 1 := by
  show (w.heap.push o).size = _
  simp

def AllocOk (P : Program) (X : Nat → Option Value) (o : Op) (f : AllocK) : Prop :=
  ∀ (E : Emb) (w : World) (ρ ρr : Operand → Value) (id : Nat), ER X E ρ ρr → (∀ x ∈ o.operands.toList, okOp x = true) → E id = none → ∀ v b, f P ρ id = some (v, b) →
    ∀ (q : Oper), q.op = o → ∃ v' obj, (execOp ρr q).run P w = .ok (.value v') (World.laid w obj) ∧ VR X (E.upd id ⟨w.heap.size, 0, 0⟩) v v' ∧
      BRel P X (E.upd id ⟨w.heap.size, 0, 0⟩) (World.laid w obj) ⟨w.heap.size, 0, 0⟩ b

section
variable {P : Program} {X : Nat → Option Value}

theorem cellAt_nil {n : Nat} {pat : List Value} {i : Nat} {v : Value} (h : cellAt n pat .nil i = some v) : i < n ∧ pat[i % pat.length]? = some v := by
  have hi := cellAt_lt h
  unfold cellAt at h
  rw [blt_dec, decide_eq_true hi, cond_true] at h
  have h' : nth pat (i % pat.length) = some v := h
  rw [nth_eq] at h'
  exact ⟨hi, h'⟩

theorem rel_cells {E : Emb} {w : World} {blk : Nat} {e : TypeId} {cs ys : List Value} (hv : VRL X E cs ys) (hw : w.heap[blk]? = some (.cells ⟨ys⟩ e (0, 0))) :
    BRel P X E w ⟨blk, 0, 0⟩ (.cells e cs.length cs .nil false) := by
  refine ⟨⟨ys⟩, hw, ?_, fun i v hc => ?_, fun h => by cases h⟩
  · have := hv.length; simp; omega
  · obtain ⟨hi, hp⟩ := cellAt_nil hc
    rw [Nat.mod_eq_of_lt hi] at hp
    obtain ⟨y, hy, hr⟩ := hv.get hp
    exact ⟨y, by simpa using hy, hr⟩

theorem newVar_run (w : World) (t : TypeId) (v : Value) : (newVar t v).run P w = .ok ⟨w.heap.size, 0, none⟩ (World.laid w (.cells v.cells t)) := rfl
theorem newRow_run (w : World) (t : TypeId) (cs : Array Value) : (newRow t cs).run P w = .ok ⟨w.heap.size, 0, none⟩ (World.laid w (.cells cs t)) := rfl

theorem ok_alloc (hX : ∀ k r, X k = some r → scalar r = true) (t : TypeId) : AllocOk P X (.alloc t) (aAlloc t) := by
  intro E w ρ ρr id hρ hok hid v b hv q hq
  obtain ⟨dst, op, type, pos, after, guard⟩ := q
  cases hq
  simp only [aAlloc, Option.map_eq_some_iff] at hv
  obtain ⟨z, hz, hv⟩ := hv
  cases hv
  have hzr := (zero_rel (X := X) (E := E) hz)
  refine ⟨.pointer (some ⟨w.heap.size, 0, none⟩), .cells z.cells t, ?_, ?_, ?_⟩
  · simp only [execOp, Instr.alloc, Sem.run_bind, r_zero w hz, Result.andThen, newVar_run, Sem.run_pure]
  · exact .ptr (ad := ⟨w.heap.size, 0, 0⟩) (Emb.upd_same _ _ _)
  · exact rel_cells ((hzr.cells hX).mono (Emb.upd_ext hid)) (laid_at w _)

theorem ok_box (hX : ∀ k r, X k = some r → scalar r = true) (t : TypeId) (x : Operand) : AllocOk P X (.box t x) (aBox t x) := by
  intro E w ρ ρr id hρ hok hid v b hv q hq
  obtain ⟨dst, op, type, pos, after, guard⟩ := q
  cases hq
  simp only [aBox, Option.some.injEq] at hv
  cases hv
  have hx := hρ x (hok x (by simp [Op.operands]))
  refine ⟨.pointer (some ⟨w.heap.size, 0, none⟩), .cells (ρr x).cells t, ?_, ?_, ?_⟩
  · simp only [execOp, Instr.box, Sem.run_bind, Result.andThen, newVar_run, Sem.run_pure]
  · exact .ptr (ad := ⟨w.heap.size, 0, 0⟩) (Emb.upd_same _ _ _)
  · exact rel_cells ((hx.cells hX).mono (Emb.upd_ext hid)) (laid_at w _)

theorem ok_map (t : TypeId) : AllocOk P X (.makeMap t none) aMap := by
  intro E w ρ ρr id hρ hok hid v b hv q hq
  obtain ⟨dst, op, type, pos, after, guard⟩ := q
  cases hq
  simp only [aMap, Option.some.injEq] at hv
  cases hv
  refine ⟨.map (some w.heap.size), .map #[] 0, rfl, ?_, ?_⟩
  · exact .map (ad := ⟨w.heap.size, 0, 0⟩) (Emb.upd_same _ _ _)
  · exact ⟨rfl, #[], laid_at w _, .nil, .nil, rfl⟩

theorem rep_get : ∀ (n : Nat) (l : List Value) (i : Nat), i < n * l.length → (rep n l)[i]? = l[i % l.length]?
  | 0, l, i, h => by simp at h
  | n + 1, l, i, h => by
    rw [rep]
    by_cases hi : i < l.length
    · rw [List.getElem?_append_left hi, Nat.mod_eq_of_lt hi]
    · have hp : 0 < l.length := by
        cases hl : l.length with
        | zero => rw [hl] at h; simp at h
        | succ k => omega
      rw [List.getElem?_append_right (by omega), rep_get n l (i - l.length) (by rw [Nat.add_mul] at h; omega)]
      congr 1
      rw [Nat.mod_eq_sub_mod (Nat.le_of_not_lt hi)]
theorem rep_length : ∀ (n : Nat) (l : List Value), (rep n l).length = n * l.length
  | 0, l => by simp [rep]
  | n + 1, l => by rw [rep, List.length_append, rep_length n l, Nat.add_mul]; omega
theorem range_rep (n : Nat) (z : Array Value) (hz : 0 < z.size) : (Array.range (n * z.size)).map (fun i => z[i % z.size]!) = ⟨rep n z.toList⟩ := by
  apply Array.ext'
  apply List.ext_getElem?
  intro i
  rw [Array.toList_map, List.getElem?_map, Array.toList_range]
  by_cases hi : i < n * z.size
  · rw [List.getElem?_range hi]
    rw [rep_get n z.toList i (by simpa using hi), Array.length_toList, Array.getElem?_toList]
    have hm : i % z.size < z.size := Nat.mod_lt _ hz
    simp [hm]
  · rw [List.getElem?_eq_none (by simp; omega), List.getElem?_eq_none (by rw [rep_length]; simp; omega)]
    rfl

theorem rep_rel {E : Emb} {l l' : List Value} (h : VRL X E l l') : ∀ n, VRL X E (rep n l) (rep n l')
  | 0 => .nil
  | n + 1 => h.append (rep_rel h n)

theorem ok_buildSlice (hX : ∀ k r, X k = some r → scalar r = true) (t : TypeId) (len : Nat) (ps : Array (Nat × Operand)) : AllocOk P X (.buildSlice t len ps) (aBuildSlice t len ps) := by
  intro E w ρ ρr id hρ hok hid v b hv q hq
  obtain ⟨dst, op, type, pos, after, guard⟩ := q
  cases hq
  have hparts : partsRel X E (ps.toList.map fun p => (p.1, ρ p.2)) (ps.map fun (i, x) => (i, ρr x)).toList := by
    refine ⟨by simp, ?_⟩
    have := hρ.list (l := ps.toList.map (·.2)) (fun x hx => hok x (by simpa [Op.operands] using hx))
    simpa [List.map_map, Function.comp_def] using this
  unfold aBuildSlice at hv
  split at hv
  · rename_i e hu
    simp only [Option.bind_eq_some_iff] at hv
    obtain ⟨s, hs, z, hz, hv⟩ := hv
    rw [ble_dec, beq_dec, beq_dec] at hv
    by_cases hc : Nat.mul len s ≤ 65536 ∧ s ≠ 0 ∧ (cellsL z).length = s
    case neg =>
      have : (decide (Nat.mul len s ≤ 65536) && !decide (s = 0) && decide ((cellsL z).length = s)) = false := by
        rw [Bool.eq_false_iff]; intro h; simp at h; exact hc ⟨h.1.1, h.1.2, h.2⟩
      rw [this, cond_false] at hv; cases hv
    obtain ⟨hc1, hc2, hc3⟩ := hc
    rw [decide_eq_true hc1, decide_eq_false hc2, decide_eq_true hc3] at hv
    simp only [Bool.not_false, Bool.and_self, cond_true, Option.map_eq_some_iff] at hv
    obtain ⟨cs, hcs, hv⟩ := hv
    cases hv
    have hzr := (zero_rel (X := X) (E := E) hz).cells hX
    have hzl : z.cells.size = s := by rw [← Array.length_toList, hzr.length, hc3]
    obtain ⟨out, h1, h2⟩ := fill_run hX _ _ _ _ _ _ hparts (rep_rel hzr len) hcs
    have h1' : Instr.fill (fun i => some (i * s, s)) ⟨rep len z.cells.toList⟩ (ps.map fun (i, x) => (i, ρr x)).toList = some ⟨out⟩ := h1
    have hle : ¬ (len * s > 2 ^ 24) := by
      have : len * s ≤ 65536 := hc1
      omega
    refine ⟨.slice (some ⟨w.heap.size, 0, none⟩) len len, .cells ⟨out⟩ e, ?_, ?_, ?_⟩
    · have h1'' : Instr.fill (fun i => some (i * s, s)) ⟨rep len z.cells.toList⟩ (ps.map fun p => (p.1, ρr p.2)).toList = some ⟨out⟩ := h1
      by_cases h0 : len * s = 0
      · have hl0 : len = 0 := by
          rcases Nat.mul_eq_zero.1 h0 with h | h
          · exact h
          · exact absurd h hc2
        have hrep : ((Array.range (len * s)).map fun x => (#[] : Array Value)[x % (#[] : Array Value).size]!) = ⟨rep len z.cells.toList⟩ := by
          subst hl0; simp [rep]
        simp only [execOp, Instr.buildSlice, Sem.run_bind, r_under w hu, r_size w hs, Result.andThen, Sem.run_ite, hle, if_false, if_pos h0, hrep, h1'', newRow_run, Sem.run_pure, pure_bind]
      · have hrep : ((Array.range (len * s)).map fun x => z.cells[x % z.cells.size]!) = ⟨rep len z.cells.toList⟩ := by
          have := range_rep len z.cells (by omega)
          rw [hzl] at this ⊢
          exact this
        simp only [execOp, Instr.buildSlice, Sem.run_bind, r_under w hu, r_size w hs, Result.andThen, Sem.run_ite, hle, if_false, if_neg h0, r_zero w hz, hrep, h1'', newRow_run, Sem.run_pure]
    · exact .sliceK (ad := ⟨w.heap.size, 0, 0⟩) (by have : len * s ≤ 65536 := hc1; have : len ≤ len * s := Nat.le_mul_of_pos_right len (by omega); unfold OPEN; omega) (Emb.upd_same _ _ _)
    · exact rel_cells (h2.mono (Emb.upd_ext hid)) (laid_at w _)
  · cases hv

theorem wrap_small {n : Nat} (h : n ≤ 1048576) : IntKind.wrap .i64 (n : Int) = n := wrap64_in _ (by omega) (by omega)

theorem ok_makeSlice (hX : ∀ k r, X k = some r → scalar r = true) (t : TypeId) (l c : Operand) : AllocOk P X (.makeSlice t l c) (aMakeSlice t l c) := by
  intro E w ρ ρr id hρ hok hid v b hv q hq
  obtain ⟨dst, op, type, pos, after, guard⟩ := q
  cases hq
  have hl := hρ l (hok l (by simp [Op.operands]))
  have hc := hρ c (hok c (by simp [Op.operands]))
  unfold aMakeSlice at hv
  generalize ρ l = vl at hv hl
  generalize ρ c = vc at hv hc
  split at hv
  · rename_i e k1 n k2 m hu
    simp only [Option.bind_eq_some_iff] at hv
    obtain ⟨i, hi, z, hz, hv⟩ := hv
    rw [ble_dec, ble_dec, ble_dec, beq_dec, beq_dec] at hv
    by_cases hh : n ≤ m ∧ m ≤ 1048576 ∧ i.bytes ≤ 65536 ∧ i.size ≠ 0 ∧ (cellsL z).length = i.size
    case neg =>
      have : (decide (n ≤ m) && decide (m ≤ 1048576) && decide (i.bytes ≤ 65536) && !decide (i.size = 0) && decide ((cellsL z).length = i.size)) = false := by
        rw [Bool.eq_false_iff]; intro h; simp at h; exact hh ⟨h.1.1.1.1, h.1.1.1.2, h.1.1.2, h.1.2, h.2⟩
      rw [this, cond_false] at hv; cases hv
    obtain ⟨h1, h2, h3, h4, h5⟩ := hh
    rw [decide_eq_true h1, decide_eq_true h2, decide_eq_true h3, decide_eq_false h4, decide_eq_true h5] at hv
    simp only [Bool.not_false, Bool.and_self, cond_true, Option.some.injEq] at hv
    cases hv
    have hzr := (zero_rel (X := X) (E := E) hz).cells hX
    have hzl : z.cells.size = i.size := by rw [← Array.length_toList, hzr.length, h5]
    have hs : szOf P e = some i.size := by simp [szOf, hi]
    have hprod : i.bytes * m ≤ 65536 * 1048576 := Nat.mul_le_mul h3 h2
    refine ⟨.slice (some ⟨w.heap.size, 0, none⟩) n m, .cells ⟨rep m z.cells.toList⟩ e, ?_, ?_, ?_⟩
    · have hn0 : ¬ ((m : Int) < 0) := by omega
      have hn1 : ¬ ((n : Int) < 0) := by omega
      have hn2 : ¬ ((n : Int) > (m : Int)) := by omega
      have hn3 : ¬ ((i.bytes : Int) * (m : Int) > 2 ^ 48) := by
        have : (i.bytes : Int) * (m : Int) = ((i.bytes * m : Nat) : Int) := by simp
        rw [this]; omega
      have el : ρr l = .int k1 (n : Int) := hl.int_inv
      have ec : ρr c = .int k2 (m : Int) := hc.int_inv
      by_cases h0 : m * i.size = 0
      · have hl0 : m = 0 := by
          rcases Nat.mul_eq_zero.1 h0 with h | h
          · exact h
          · exact absurd h h4
        have hrep : ((Array.range (m * i.size)).map fun x => (#[] : Array Value)[x % (#[] : Array Value).size]!) = ⟨rep m z.cells.toList⟩ := by
          subst hl0; simp [rep]
        simp only [execOp, el, ec, Instr.makeSlice, Sem.run_bind, r_under w hu, asInt, asIntOf, r_info w hi, r_size w hs, Result.andThen, Sem.run_pure, wrap_small (Nat.le_trans h1 h2), wrap_small h2,
          hn0, hn1, hn2, hn3, decide_false, Bool.or_self, Bool.false_eq_true, if_false, run_askRoom, Int.toNat_natCast, Sem.run_ite, if_pos h0, hrep, newRow_run, pure_bind]
      · have hrep : ((Array.range (m * i.size)).map fun x => z.cells[x % z.cells.size]!) = ⟨rep m z.cells.toList⟩ := by
          have := range_rep m z.cells (by omega)
          rw [hzl] at this ⊢
          exact this
        simp only [execOp, el, ec, Instr.makeSlice, Sem.run_bind, r_under w hu, asInt, asIntOf, r_info w hi, r_size w hs, Result.andThen, Sem.run_pure, wrap_small (Nat.le_trans h1 h2), wrap_small h2,
          hn0, hn1, hn2, hn3, decide_false, Bool.or_self, Bool.false_eq_true, if_false, run_askRoom, Int.toNat_natCast, Sem.run_ite, if_neg h0, r_zero w hz, hrep, newRow_run]
    · exact .sliceK (ad := ⟨w.heap.size, 0, 0⟩) (by unfold OPEN; omega) (Emb.upd_same _ _ _)
    · refine ⟨⟨rep m z.cells.toList⟩, laid_at w _, ?_, fun j u hj => ?_, fun h => by cases h⟩
      · show 0 + m * i.size ≤ (rep m z.cells.toList).length
        rw [rep_length, Array.length_toList, hzl]; omega
      · obtain ⟨hj1, hj2⟩ := cellAt_nil hj
        have hzr' := hzr.mono (Emb.upd_ext (ad := ⟨w.heap.size, 0, 0⟩) hid)
        obtain ⟨y, hy, hr⟩ := hzr'.get hj2
        refine ⟨y, ?_, hr⟩
        rw [List.getElem?_toArray, show (⟨w.heap.size, 0, 0⟩ : Ad).off + j = j from Nat.zero_add j, rep_get m z.cells.toList j (by rw [Array.length_toList, hzl]; exact hj1), ← hy, hzr.length]
  · cases hv
end
end Go.Abs
