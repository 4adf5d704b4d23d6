/-
  THE EVALUATOR's SOUNDNESS, 5: what builds an aggregate; 'max', 'min'; what makes memory.
-/
import Derived.Test.YtecogacajmimhaaGreatDoorA4
namespace Go.Abs

theorem fold_set (vs : List Value) : ∀ (cells : List Value) (off d : Nat), off + d + vs.length ≤ cells.length →
    ((vs.zipIdx d).foldl (fun (cs : Array Value) (p : Value × Nat) => cs.setIfInBounds (off + p.2) p.1) ⟨cells⟩) = ⟨cells.take (off + d) ++ (vs ++ cells.drop (off + d + vs.length))⟩ := by
  induction vs with
  | nil =>
    intro cells off d h
    simp
  | cons v vs ih =>
    intro cells off d h
    simp only [List.zipIdx_cons, List.foldl_cons, List.length_cons] at h ⊢
    have hset : (Array.mk cells).setIfInBounds (off + d) v = ⟨cells.set (off + d) v⟩ := by
      apply Array.ext'
      simp
    rw [hset, show d + 1 = d + 1 from rfl, ih (cells.set (off + d) v) off (d + 1) (by simp; omega)]
    congr 1
    have h1 : off + (d + 1) = (off + d) + 1 := by omega
    have hlt : off + d < cells.length := by omega
    have hd : (cells.set (off + d) v).drop (off + d + 1 + vs.length) = cells.drop (off + d + (vs.length + 1)) := by
      rw [List.drop_set_of_lt (by omega)]; congr 1; omega
    rw [h1, List.take_succ_eq_append_getElem (by simp; omega), List.take_set_of_le (Nat.le_refl _), List.getElem_set_self, hd]
    simp

section
variable {P : Program} {X : Nat → Option Value} {E : Emb}

def partsRel (X : Nat → Option Value) (E : Emb) (ps qs : List (Nat × Value)) : Prop := ps.map (·.1) = qs.map (·.1) ∧ VRL X E (ps.map (·.2)) (qs.map (·.2))

theorem fill_run (hX : ∀ k r, X k = some r → scalar r = true) (place : Nat → Option (Nat × Nat)) : ∀ (ps qs : List (Nat × Value)) (cells cells' out : List Value), partsRel X E ps qs → VRL X E cells cells' →
    evFill place cells ps = some out → ∃ out', Instr.fill place ⟨cells'⟩ qs = some ⟨out'⟩ ∧ VRL X E out out'
  | [], qs, cells, cells', out, hp, hc, h => by
    cases qs with
    | cons q qs => simp [partsRel] at hp
    | nil => simp [evFill] at h; subst h; exact ⟨cells', rfl, hc⟩
  | (i, v) :: ps, qs, cells, cells', out, hp, hc, h => by
    cases qs with
    | nil => simp [partsRel] at hp
    | cons q qs =>
      obtain ⟨j, r⟩ := q
      obtain ⟨h1, h2⟩ := hp
      simp only [List.map_cons, List.cons.injEq] at h1
      obtain ⟨rfl, h1⟩ := h1
      cases h2 with
      | cons hv hps =>
        simp only [evFill, Option.bind_eq_some_iff] at h
        obtain ⟨⟨off, size⟩, hpl, h⟩ := h
        have hcells := hv.cells hX
        have hlen := hcells.length
        rw [beq_dec, ble_dec] at h
        by_cases hb : (cellsL v).length = size ∧ Nat.add off size ≤ cells.length
        case neg =>
          have : (decide ((cellsL v).length = size) && decide (Nat.add off size ≤ cells.length)) = false := by
            simp only [Bool.and_eq_false_iff, decide_eq_false_iff_not]
            by_cases hh : (cellsL v).length = size
            · exact .inr fun h3 => hb ⟨hh, h3⟩
            · exact .inl hh
          rw [this, cond_false] at h; cases h
        obtain ⟨hb1, hb2⟩ := hb
        rw [decide_eq_true hb1, decide_eq_true hb2, Bool.and_self, cond_true] at h
        have hb2' : off + size ≤ cells.length := hb2
        have hcl := hc.length
        have hsz : r.cells.size = size := by rw [← Array.length_toList, hlen, hb1]
        have hfold : r.cells.zipIdx.foldl (fun cs (c, j) => cs.setIfInBounds (off + j) c) (Array.mk cells') = ⟨cells'.take off ++ (r.cells.toList ++ cells'.drop (off + size))⟩ := by
          rw [← Array.foldl_toList, Array.toList_zipIdx]
          have := fold_set r.cells.toList cells' off 0 (by rw [Array.length_toList, hsz]; omega)
          rw [Array.length_toList, hsz] at this
          simpa using this
        have hrel : VRL X E (cells.take off ++ (cellsL v ++ cells.drop (Nat.add off size))) (cells'.take off ++ (r.cells.toList ++ cells'.drop (off + size))) :=
          (hc.take off).append (hcells.append (hc.drop (off + size)))
        obtain ⟨out', ho, hr⟩ := fill_run hX place ps qs _ _ out ⟨h1, hps⟩ hrel h
        refine ⟨out', ?_, hr⟩
        simp only [Instr.fill, hpl, hsz]
        have hc2 : (decide (size ≠ size) || decide (off + size > (Array.mk cells').size)) = false := by
          simp; omega
        rw [show (decide (size ≠ size) || decide (off + size > (Array.mk cells').size)) = false from hc2]
        simp only [Bool.false_eq_true, if_false, hfold]
        exact ho

theorem plcs_run (w : World) : ∀ {fs : List Field} {ps : List (Nat × Nat)}, plcs P fs = some ps →
    (fs.mapM fun f => (do pure (f.offset, ← sizeOf f.type) : Sem (Nat × Nat))).run P w = .ok ps w
  | [], ps, h => by simp [plcs] at h; subst h; simp
  | f :: fs, ps, h => by
    simp only [plcs, Option.bind_eq_some_iff] at h
    obtain ⟨s, hs, r, hr, h⟩ := h
    cases h
    rw [List.mapM_cons]
    simp only [Sem.run_bind, r_size w hs, plcs_run w hr, Result.andThen, Sem.run_pure]
end

section
variable {P : Program} {X : Nat → Option Value}

theorem ok_build (hX : ∀ k r, X k = some r → scalar r = true) (t : TypeId) (ps : Array (Nat × Operand)) : PureOk P X (.build t ps) (pBuild t ps) := by
  refine PureOk.of (s := fun ρr => Instr.build t (ps.map fun (i, x) => (i, ρr x))) (fun ρr q hq => ?_) (fun E ρ ρr hρ hok v hv w => ?_)
  · obtain ⟨dst, o, type, pos, after, guard⟩ := q
    cases hq; rfl
  · have hparts : partsRel X E (ps.toList.map fun p => (p.1, ρ p.2)) (ps.map fun (i, x) => (i, ρr x)).toList := by
      refine ⟨by simp, ?_⟩
      have := hρ.list (l := ps.toList.map (·.2)) (fun x hx => hok x (by simpa [Op.operands] using hx))
      simpa [List.map_map, Function.comp_def] using this
    unfold pBuild evBuild at hv
    simp only [Option.bind_eq_some_iff] at hv
    obtain ⟨z, hz, hv⟩ := hv
    have hzr := (zero_rel (X := X) (E := E) hz).cells hX
    split at hv
    · rename_i fs hu
      simp only [Option.bind_eq_some_iff] at hv
      obtain ⟨pl, hpl, cs, hcs, hv⟩ := hv
      cases hv
      obtain ⟨out, h1, h2⟩ := fill_run hX _ _ _ _ _ _ hparts hzr hcs
      refine ⟨_, .agg h2, ?_⟩
      have hm : (fs.mapM fun f => (do pure (f.offset, ← sizeOf f.type) : Sem (Nat × Nat))).run P w = .ok pl.toArray w := by
        rw [Array.mapM_eq_mapM_toList]
        simp only [Sem.run_map, plcs_run w hpl, Result.andThen]
      have hp : (fun i => nth pl i) = (fun i => pl.toArray[i]?) := by funext i; rw [nth_eq]; simp
      rw [hp] at h1
      simp only [Instr.build, Sem.run_bind, r_zero w hz, r_under w hu, Result.andThen, hm, h1, Sem.run_pure]
    · rename_i n e hu
      simp only [Option.bind_eq_some_iff] at hv
      obtain ⟨s, hs, cs, hcs, hv⟩ := hv
      cases hv
      obtain ⟨out, h1, h2⟩ := fill_run hX _ _ _ _ _ _ hparts hzr hcs
      refine ⟨_, .agg h2, ?_⟩
      have h1' : Instr.fill (fun i => some (i * s, s)) z.cells (ps.map fun (i, x) => (i, ρr x)).toList = some ⟨out⟩ := h1
      simp only [Instr.build, Sem.run_bind, r_zero w hz, r_under w hu, r_size w hs, Result.andThen, h1', Sem.run_pure]
    · cases hv

theorem ok_mm (mx : Bool) (c : Call) (hc : c.callee = .builtin (if mx then .max else .min)) : PureOk P X (.call c) (fun _ ρ => evMM mx (c.args.toList.map ρ)) := by
  intro E ρ ρr hρ hok v hv q hq w
  obtain ⟨dst, o, type, pos, after, guard⟩ := q
  cases hq
  have hl := hρ.list (l := c.args.toList) (fun x hx => hok x (by simp [Op.operands, Call.operands, hc]; exact Array.mem_toList_iff.1 hx))
  have hv : evMM mx (c.args.toList.map ρ) = some v := hv
  generalize hg : c.args.toList.map ρ = l at hv hl
  cases l with
  | nil => cases hv
  | cons x ys =>
    have hv : mmL mx x ys = some v := hv
    generalize hg' : c.args.toList.map ρr = l' at hl
    cases hl with
    | @cons _ y _ ys' hx hys =>
      obtain ⟨v', h1, h2⟩ := mm_run (P := P) mx ys x v _ _ w hx hys hv
      refine ⟨v', h1, ?_⟩
      have ha : (c.args.map ρr).toList = y :: ys' := by rw [Array.toList_map, hg']
      cases mx
      · have hc' : c.callee = .builtin .min := hc
        have h2' : (List.foldlM Builtin.min2 y ys').run P w = .ok v' w := h2
        simp only [execOp, resolve, hc', pure_bind, invoke, builtin, Builtin.min_, ha, Sem.run_bind, h2', Result.andThen, Sem.run_pure]
      · have hc' : c.callee = .builtin .max := hc
        have h2' : (List.foldlM Builtin.max2 y ys').run P w = .ok v' w := h2
        simp only [execOp, resolve, hc', pure_bind, invoke, builtin, Builtin.max_, ha, Sem.run_bind, h2', Result.andThen, Sem.run_pure]
end
end Go.Abs
