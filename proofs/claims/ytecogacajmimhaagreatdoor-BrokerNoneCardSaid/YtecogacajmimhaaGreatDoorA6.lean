/-
  THE EVALUATOR's SOUNDNESS, 6: what reads memory.
-/
import Derived.Test.YtecogacajmimhaaGreatDoorA5
namespace Go.Abs

def ReadOk (P : Program) (X : Nat → Option Value) (o : Op) (f : ReadK) : Prop :=
  ∀ (E : Emb) (h : Hp) (w : World) (ρ ρr : Operand → Value), ER X E ρ ρr → (∀ x ∈ o.operands.toList, okOp x = true) → HRel P X E h w → ∀ v, f P ρ h = some v →
    ∀ (q : Oper), q.op = o → ∃ v', VR X E v v' ∧ (execOp ρr q).run P w = .ok (.value v') w

section
variable {P : Program} {X : Nat → Option Value}

theorem ReadOk.of {o : Op} {f : ReadK} {s : (Operand → Value) → Sem Value}
    (hs : ∀ (ρr : Operand → Value) (q : Oper), q.op = o → execOp ρr q = (do pure (.value (← s ρr))))
    (hh : ∀ (E : Emb) (h : Hp) (w : World) (ρ ρr : Operand → Value), ER X E ρ ρr → (∀ x ∈ o.operands.toList, okOp x = true) → HRel P X E h w → ∀ v, f P ρ h = some v →
      ∃ v', VR X E v v' ∧ (s ρr).run P w = .ok v' w) : ReadOk P X o f := by
  intro E h w ρ ρr hρ hok hh0 v hv q hq
  obtain ⟨v', hr, hrun⟩ := hh E h w ρ ρr hρ hok hh0 v hv
  refine ⟨v', hr, ?_⟩
  rw [hs ρr q hq]
  simp [hrun, Result.andThen]

theorem cell_of {w : World} {b : Nat} {arr : Array Value} {e : TypeId} {fr : Nat × Nat} (h : w.heap[b]? = some (.cells arr e fr)) (j : Nat) : w.cell? ⟨b, j, none⟩ = arr[j]? := by
  simp [World.cell?, h]
theorem getObj_run {w : World} {r : Nat} {o : Obj} (h : w.heap[r]? = some o) (hc : ∀ c e f, o ≠ .cells c e f) : (getObj r).run P w = .ok o w := by
  unfold getObj
  cases o <;> first | (exact absurd rfl (hc _ _ _)) | (simp only [Sem.run, h])

theorem loadN_get {n : Nat} {pat : List Value} {over : Tr Value} : ∀ {k o : Nat} {cs : List Value}, loadN n pat over k o = some cs →
    cs.length = k ∧ ∀ (j : Nat) (v : Value), cs[j]? = some v → cellAt n pat over (o + j) = some v
  | 0, o, cs, h => by
    have : cs = [] := by injection h with h; exact h.symm
    subst this
    exact ⟨rfl, fun j v hv => by simp at hv⟩
  | k + 1, o, cs, h => by
    have h' : ((cellAt n pat over o).bind fun v => (loadN n pat over k (o + 1)).bind fun vs => some (v :: vs)) = some cs := h
    simp only [Option.bind_eq_some_iff] at h'
    obtain ⟨v, hv, vs, hvs, h2⟩ := h'
    cases h2
    obtain ⟨hl, hg⟩ := loadN_get hvs
    refine ⟨by simp [hl], fun j u hu => ?_⟩
    cases j with
    | zero => simp at hu; subst hu; exact hv
    | succ j => simp at hu; have := hg j u hu; rwa [show o + 1 + j = o + (j + 1) by omega] at this
theorem cellAt_lt {n : Nat} {pat : List Value} {over : Tr Value} {i : Nat} {v : Value} (h : cellAt n pat over i = some v) : i < n := by
  unfold cellAt at h
  rw [blt_dec] at h
  by_cases hi : i < n
  · exact hi
  · rw [decide_eq_false hi, cond_false] at h; cases h

/-- The cells of a row, as the abstract memory has them, and as the real one has them. -/
theorem load_rel {E : Emb} {h : Hp} {w : World} (hr : HRel P X E h w) {b o k : Nat} {cs : List Value} (hl : h.load b o k = some cs) :
    ∃ ad arr e ys, E b = some ad ∧ w.heap[ad.blk]? = some (.cells arr e (0, 0)) ∧ VRL X E cs ys ∧ ys.length = k ∧ ∀ (j : Nat) (y : Value), ys[j]? = some y → arr[ad.off + o + j]? = some y := by
  unfold Hp.load at hl
  split at hl
  · rename_i e n pat over opn hb
    obtain ⟨ad, hE, arr, h1, h2, h3, h4⟩ := hr.blk _ _ hb
    obtain ⟨hlen, hget⟩ := loadN_get hl
    refine ⟨ad, arr, e, (arr.toList.drop (ad.off + o)).take k, hE, h1, ?_, ?_, ?_⟩
    · have hsz : ∀ j, j < k → ad.off + o + j < arr.size := by
        intro j hj
        have hv : cs[j]? = some cs[j] := List.getElem?_eq_getElem (by omega)
        have := cellAt_lt (hget j _ hv)
        omega
      have hl2 : ((arr.toList.drop (ad.off + o)).take k).length = k := by
        rw [List.length_take, List.length_drop, Array.length_toList]
        cases k with
        | zero => simp
        | succ k => have := hsz k (by omega); omega
      refine VRL.of_get (by rw [hl2, hlen]) fun j x y hx hy => ?_
      have hj : j < k := by
        rcases Nat.lt_or_ge j k with h | h
        · exact h
        · rw [List.getElem?_eq_none (by omega)] at hx; cases hx
      obtain ⟨y', hy', hv⟩ := h3 _ _ (hget j x hx)
      rw [List.getElem?_take, if_pos hj, List.getElem?_drop, Array.getElem?_toList] at hy
      rw [show ad.off + (o + j) = ad.off + o + j by omega, hy] at hy'
      cases hy'
      exact hv
    · rw [List.length_take, List.length_drop, Array.length_toList]
      cases k with
      | zero => simp
      | succ k =>
        have hv : cs[k]? = some cs[k] := List.getElem?_eq_getElem (by omega)
        have := cellAt_lt (hget k _ hv)
        omega
    · intro j y hy
      rw [List.getElem?_take] at hy
      split at hy
      · rw [List.getElem?_drop, Array.getElem?_toList] at hy; exact hy
      · cases hy
  · cases hl

theorem load_run {E : Emb} {h : Hp} {w : World} (hr : HRel P X E h w) {b o k : Nat} {cs : List Value} (hl : h.load b o k = some cs) :
    ∃ ad ys, E b = some ad ∧ VRL X E cs ys ∧ ys.length = k ∧ (loadCells ⟨ad.blk, ad.off + o, none⟩ k).run P w = .ok ys.toArray w := by
  obtain ⟨ad, arr, e, ys, hE, h1, hv, hlen, hg⟩ := load_rel hr hl
  refine ⟨ad, ys, hE, hv, hlen, ?_⟩
  have := run_loadCells_list (P := P) w ⟨ad.blk, ad.off + o, none⟩ ys (fun j v hv => by rw [add_none, cell_of h1]; exact hg j v hv)
  rwa [hlen] at this

theorem evLoad_run {E : Emb} {h : Hp} {w : World} (hr : HRel P X E h w) {t : TypeId} {x xr v : Value} (hx : VR X E x xr) (hv : evLoad P h t x = some v) :
    ∃ v', VR X E v v' ∧ (Instr.loadAt t xr).run P w = .ok v' w := by
  unfold evLoad at hv
  split at hv
  · rename_i b o
    obtain ⟨ad, hE, rfl⟩ := hx.ptr_inv
    simp only [Option.bind_eq_some_iff] at hv
    obtain ⟨g, hg, hv⟩ := hv
    cases g with
    | true =>
      simp only [cond_true, Option.bind_eq_some_iff, Option.map_eq_some_iff] at hv
      obtain ⟨n, hn, cs, hcs, rfl⟩ := hv
      obtain ⟨ad', ys, hE', hvl, hlen, hrun⟩ := load_run hr hcs
      rw [hE] at hE'; cases hE'
      refine ⟨_, .agg hvl, ?_⟩
      simp only [Instr.loadAt, Instr.sureAddr, loadVar, Sem.run_bind, Sem.run_pure, Result.andThen, r_isAgg w hg, if_true, r_size w hn, hrun]
    | false =>
      simp only [cond_false] at hv
      unfold Hp.load1 at hv
      split at hv
      · rename_i e n pat over opn hb
        obtain ⟨ad', hE', arr, h1, h2, h3, h4⟩ := hr.blk _ _ hb
        rw [hE] at hE'; cases hE'
        obtain ⟨y, hy, hvr⟩ := h3 _ _ hv
        refine ⟨y, hvr, ?_⟩
        simp only [Instr.loadAt, Instr.sureAddr, loadVar, Sem.run_bind, Sem.run_pure, Result.andThen, r_isAgg w hg, Bool.false_eq_true, if_false, run_load, cell_of h1, hy]
      · cases hv
  · cases hv

theorem ok_load (t : TypeId) (x : Operand) : ReadOk P X (.load t x) (rLoad t x) := by
  refine ReadOk.of (s := fun ρr => Instr.loadAt t (ρr x)) (fun ρr q hq => ?_) (fun E h w ρ ρr hρ hok hr v hv => ?_)
  · obtain ⟨dst, o, type, pos, after, guard⟩ := q
    cases hq; rfl
  · exact evLoad_run hr (hρ x (hok x (by simp [Op.operands]))) hv

theorem checkKey_int (w : World) (empty : Bool) (n : Nat) {kt : TypeId} {k : IntKind} {a : Int} (hk : intKey P kt = true) : (Instr.checkKey empty (n + 1) kt (.int k a)).run P w = .ok () w := by
  unfold intKey at hk
  split at hk
  · rename_i kk hu
    simp only [Instr.checkKey, Sem.run_bind, r_under w hu, Result.andThen, Sem.run_pure]
  · cases hk

def findRel (X : Nat → Option Value) (E : Emb) : Option (Nat × Value) → Option (Nat × Value) → Prop
  | none, none => True
  | some (j, v), some (j', v') => j = j' ∧ VR X E v v'
  | _, _ => False
def optRel (X : Nat → Option Value) (E : Emb) : Option Value → Option (Nat × Value) → Prop
  | none, none => True
  | some v, some (_, v') => VR X E v v'
  | _, _ => False

theorem find_run {E : Emb} {k : IntKind} {a : Int} {kk : IntKind} : ∀ {es : List (Value × Value × Nat)} {rs : List MapEntry} {i : Nat} {r : Option (Nat × Value)}, mapRel X E es rs → keyIdx k a es i = some r →
    ∃ r', Instr.findNow (.int kk) (.int k a) rs i = some r' ∧ findRel X E r r'
  | [], rs, i, r, hm, h => by
    cases rs with
    | nil => simp [keyIdx] at h; subst h; exact ⟨none, rfl, trivial⟩
    | cons x rs => exact absurd hm.2.2 (by simp)
  | (key, v, n) :: es, rs, i, r, hm, h => by
    cases rs with
    | nil => exact absurd hm.2.2 (by simp)
    | cons x rs =>
      obtain ⟨h1, h2, h3⟩ := hm
      simp only [List.map_cons] at h1 h2 h3
      cases h1 with
      | cons hk h1 => cases h2 with
        | cons hv h2 =>
          simp only [List.cons.injEq] at h3
          unfold keyIdx at h
          split at h
          · rename_i k' b
            cases hkk : keq k k' with
            | false => rw [hkk] at h; cases h
            | true =>
              rw [hkk, cond_true] at h
              cases keq_eq hkk
              have hkey : x.key = .int k b := hk.int_inv
              rw [ieq_eq] at h
              by_cases hab : a = b
              · subst hab
                simp only [beq_self_eq_true, cond_true, Option.some.injEq] at h
                subst h
                exact ⟨some (i, x.val), by simp [Instr.findNow, Instr.sameNow, hkey], rfl, hv⟩
              · have hne : (a == b) = false := by simp [hab]
                rw [hne, cond_false] at h
                obtain ⟨r', hr', hrel⟩ := find_run (kk := kk) ⟨h1, h2, h3.2⟩ h
                exact ⟨r', by simp [Instr.findNow, Instr.sameNow, hkey, hne, hr'], hrel⟩
          · cases h

theorem findKey_run {E : Emb} (w : World) {k : IntKind} {a : Int} {kt : TypeId} {es : List (Value × Value × Nat)} {rs : List MapEntry} {r : Option (Nat × Value)} (hk : intKey P kt = true) (hm : mapRel X E es rs)
    (h : keyIdx k a es 0 = some r) : ∃ r', (Instr.findKey kt (.int k a) rs).run P w = .ok r' w ∧ findRel X E r r' := by
  unfold intKey at hk
  split at hk
  · rename_i kk hu
    obtain ⟨r', h1, h2⟩ := find_run (kk := kk) hm h
    exact ⟨r', by simp only [Instr.findKey, Sem.run_bind, r_under w hu, Result.andThen, h1, Sem.run_pure], h2⟩
  · cases hk

def lookTail (key elem : TypeId) (i : Value) (ok : Bool) (es : Array MapEntry) : Sem Value := do
  Instr.checkKey es.isEmpty 10000 key i
  let (v, b) ← match ← Instr.findKey key i es.toList with
    | some (_, v) => pure (v, true)
    | none => pure (← zeroValue elem, false)
  pure (if ok then .tuple #[v, .bool b] else v)
theorem lookup_none (w : World) {t key elem : TypeId} (hu : P.underlying t = some (.map key elem)) (i : Value) (ok : Bool) :
    (Instr.lookup t (.map none) i ok).run P w = (lookTail key elem i ok #[]).run P w := by
  simp only [Instr.lookup, lookTail, Sem.run_bind, r_under w hu, Result.andThen, Sem.run_pure, pure_bind]
  cases (Instr.checkKey #[].isEmpty 10000 key i).run P w with
  | halt => rfl
  | ok a w1 =>
    simp only []
    cases (Instr.findKey key i []).run P w1 with
    | halt => rfl
    | ok a w2 => cases a <;> rfl
theorem lookup_some (w : World) {t key elem : TypeId} (hu : P.underlying t = some (.map key elem)) (i : Value) (ok : Bool) {r : Nat} {rs : Array MapEntry} {cl : Nat} (h : w.heap[r]? = some (.map rs cl)) :
    (Instr.lookup t (.map (some r)) i ok).run P w = (lookTail key elem i ok rs).run P w := by
  simp only [Instr.lookup, lookTail, Sem.run_bind, r_under w hu, Result.andThen, getObj_run h (fun _ _ _ h => by cases h), Sem.run_pure, pure_bind]
  cases (Instr.checkKey rs.isEmpty 10000 key i).run P w with
  | halt => rfl
  | ok a w1 =>
    simp only []
    cases (Instr.findKey key i rs.toList).run P w1 with
    | halt => rfl
    | ok a w2 => cases a <;> rfl

theorem ok_lookup (t : TypeId) (x i : Operand) (ok : Bool) : ReadOk P X (.lookup t x i ok) (rLookup t x i ok) := by
  refine ReadOk.of (s := fun ρr => Instr.lookup t (ρr x) (ρr i) ok) (fun ρr q hq => ?_) (fun E h w ρ ρr hρ hok hr v hv => ?_)
  · obtain ⟨dst, o, type, pos, after, guard⟩ := q
    cases hq; rfl
  · have hx := hρ x (hok x (by simp [Op.operands]))
    have hi := hρ i (hok i (by simp [Op.operands]))
    unfold rLookup evLookup at hv
    generalize ρ x = vx at hv hx
    generalize ρ i = vi at hv hi
    generalize ρr x = xr at hx
    split at hv
    · rename_i kt et k a hu
      cases hik : intKey P kt with
      | false => rw [hik] at hv; cases hv
      | true =>
        rw [hik, cond_true] at hv
        simp only [Option.bind_eq_some_iff, Option.map_eq_some_iff] at hv
        obtain ⟨z, hz, o, ho, hv⟩ := hv
        rw [hi.int_inv]
        have key : ∃ rs : Array MapEntry, (Instr.lookup t xr (.int k a) ok).run P w = (lookTail kt et (.int k a) ok rs).run P w ∧
            ∃ r', (Instr.findKey kt (.int k a) rs.toList).run P w = .ok r' w ∧ optRel X E o r' := by
          unfold lookAt at ho
          split at ho
          · cases ho
            cases hx
            refine ⟨#[], lookup_none w hu _ _, ?_⟩
            obtain ⟨r', h1, h2⟩ := findKey_run (P := P) (X := X) (E := E) w (k := k) (a := a) hik (es := []) (rs := []) ⟨.nil, .nil, rfl⟩ rfl
            refine ⟨r', h1, ?_⟩
            cases r' with
            | none => trivial
            | some _ => exact h2.elim
          · split at ho
            · rename_i es cl hb
              obtain ⟨ad, hE, h0, rs, h1, h2⟩ := hr.blk _ _ hb
              obtain ⟨ad', hE', hxr⟩ := hx.map_inv
              rw [hE] at hE'; cases hE'
              simp only [Option.map_eq_some_iff] at ho
              obtain ⟨r0, hr0, ho⟩ := ho
              refine ⟨rs, by rw [hxr]; exact lookup_some w hu _ _ h1, ?_⟩
              obtain ⟨r', h3, h4⟩ := findKey_run (P := P) w hik h2 hr0
              refine ⟨r', h3, ?_⟩
              cases r0 with
              | none => cases r' with
                | none => cases ho; trivial
                | some _ => exact h4.elim
              | some p => obtain ⟨j, v0⟩ := p; cases r' with
                | none => exact h4.elim
                | some p' => cases ho; exact h4.2
            · cases ho
          · cases ho
        obtain ⟨rs, h1, r', h2, h3⟩ := key
        have hzr := zero_rel (X := X) (E := E) hz
        cases o with
        | none => cases r' with
          | some _ => exact h3.elim
          | none =>
            cases ok with
            | true =>
              simp only [cond_true] at hv
              subst hv
              refine ⟨.tuple #[z, .bool false], .tuple (.cons hzr (.cons (.bool _) .nil)), ?_⟩
              rw [h1]; simp only [lookTail, Sem.run_bind, Result.andThen, checkKey_int w _ 9999 hik, h2, r_zero w hz, Sem.run_pure, if_true]
            | false =>
              simp only [cond_false] at hv
              subst hv
              refine ⟨z, hzr, ?_⟩
              rw [h1]; simp only [lookTail, Sem.run_bind, Result.andThen, checkKey_int w _ 9999 hik, h2, r_zero w hz, Sem.run_pure, Bool.false_eq_true, if_false]
        | some v0 => cases r' with
          | none => exact h3.elim
          | some p =>
            obtain ⟨j, v'⟩ := p
            cases ok with
            | true =>
              simp only [cond_true] at hv
              subst hv
              refine ⟨.tuple #[v', .bool true], .tuple (.cons h3 (.cons (.bool _) .nil)), ?_⟩
              rw [h1]; simp only [lookTail, Sem.run_bind, Result.andThen, checkKey_int w _ 9999 hik, h2, Sem.run_pure, if_true]
            | false =>
              simp only [cond_false] at hv
              subst hv
              refine ⟨v', h3, ?_⟩
              rw [h1]; simp only [lookTail, Sem.run_bind, Result.andThen, checkKey_int w _ 9999 hik, h2, Sem.run_pure, Bool.false_eq_true, if_false]
    · cases hv

theorem lastL_eq : ∀ {l : List Nat} {s : Nat}, lastL l = some s → (Array.mk l).back? = some s
  | [x], s, h => by simp [lastL] at h; subst h; rfl
  | x :: y :: l, s, h => by
    have ih := lastL_eq (l := y :: l) (by simpa [lastL] using h)
    simp [Array.back?] at ih ⊢
    simpa using ih

theorem born_run {E : Emb} {s : Nat} : ∀ {es : List (Value × Value × Nat)} {rs : List MapEntry} {k v : Value}, mapRel X E es rs → findBorn s es = some (k, v) →
    ∃ e, rs.find? (·.born == s) = some e ∧ VR X E k e.key ∧ VR X E v e.val
  | [], rs, k, v, hm, h => by simp [findBorn] at h
  | (key, val, n) :: es, rs, k, v, hm, h => by
    cases rs with
    | nil => exact absurd hm.2.2 (by simp)
    | cons x rs =>
      obtain ⟨h1, h2, h3⟩ := hm
      simp only [List.map_cons] at h1 h2 h3
      cases h1 with
      | cons hk h1 => cases h2 with
        | cons hv h2 =>
          simp only [List.cons.injEq] at h3
          simp only [findBorn, beq_dec] at h
          by_cases hn : n = s
          · rw [decide_eq_true hn, cond_true] at h
            cases h
            refine ⟨x, ?_, hk, hv⟩
            rw [List.find?_cons_of_pos (by simp; omega)]
          · rw [decide_eq_false hn, cond_false] at h
            obtain ⟨e, he, g⟩ := born_run ⟨h1, h2, h3.2⟩ h
            refine ⟨e, ?_, g⟩
            rw [List.find?_cons_of_neg (by simp; omega), he]

theorem ok_entry (x : Operand) : ReadOk P X (.entry x) (rEntry x) := by
  refine ReadOk.of (s := fun ρr => Instr.entry (ρr x)) (fun ρr q hq => ?_) (fun E h w ρ ρr hρ hok hr v hv => ?_)
  · obtain ⟨dst, o, type, pos, after, guard⟩ := q
    cases hq; rfl
  · have hx := hρ x (hok x (by simp [Op.operands]))
    unfold rEntry evEntry at hv
    generalize ρ x = vx at hv hx
    split at hv
    · rename_i r
      split at hv
      · rename_i m since seen st hb
        obtain ⟨ad, hE, h0, am, hEm, h1⟩ := hr.blk _ _ hb
        obtain ⟨ad', hE', hxr⟩ := hx.ptr_inv
        rw [hE] at hE'; cases hE'
        simp only [Option.bind_eq_some_iff] at hv
        obtain ⟨s, hs, hv⟩ := hv
        split at hv
        · rename_i es cl hbm
          obtain ⟨adm, hEm', _, rs, h2, h3⟩ := hr.blk _ _ hbm
          rw [hEm] at hEm'; cases hEm'
          rw [beq_dec] at hv
          by_cases hcl : cl = st
          · subst hcl
            rw [decide_eq_true rfl, cond_true] at hv
            simp only [Option.map_eq_some_iff] at hv
            obtain ⟨⟨k, vv⟩, hf, hv⟩ := hv
            subst hv
            obtain ⟨e, he, hk, hvv⟩ := born_run h3 hf
            refine ⟨.tuple #[e.key, e.val], .tuple (.cons hk (.cons hvv .nil)), ?_⟩
            have he' : rs.find? (·.born == s) = some e := by rw [← Array.find?_toList]; exact he
            have hoff : ad.off + 0 = 0 := by omega
            rw [hxr, hoff]
            simp only [Instr.entry, Sem.run_bind, getObj_run h1 (fun _ _ _ h => by cases h), Result.andThen, lastL_eq hs, getObj_run h2 (fun _ _ _ h => by cases h), bne_self_eq_false, Bool.false_eq_true, if_false, he', Sem.run_pure]
          · rw [decide_eq_false hcl, cond_false] at hv; cases hv
        · cases hv
      · cases hv
    · cases hv

theorem ok_len (c : Call) (hc : c.callee = .builtin .len) : ReadOk P X (.call c) (rLen c.args c.argTypes) := by
  intro E h w ρ ρr hρ hok hr v hv q hq
  obtain ⟨dst, o, type, pos, after, guard⟩ := q
  cases hq
  unfold rLen at hv
  split at hv
  · rename_i x t hx ht
    have hxm : x ∈ c.args.toList := by rw [hx]; simp
    have hxr := hρ x (hok x (by simp [Op.operands, Call.operands, hc]; exact Array.mem_toList_iff.1 hxm))
    have ha : (c.args.map ρr) = #[ρr x] := by apply Array.ext'; rw [Array.toList_map, hx]; rfl
    have hts : c.argTypes = #[t] := by apply Array.ext'; rw [ht]
    have fin : ∀ n : Int, (Builtin.len_ c.argTypes type (c.args.map ρr)).run P w = .ok (.int .i64 n) w → v = .int .i64 n → ∃ v', VR X E v v' ∧ (execOp ρr { dst, op := .call c, type, pos, after, guard }).run P w = .ok (.value v') w := by
      intro n h1 h2
      subst h2
      refine ⟨_, .int _ _, ?_⟩
      simp only [execOp, resolve, hc, pure_bind, invoke, builtin, Sem.run_bind, h1, Result.andThen, Sem.run_pure]
    unfold evLen at hv
    generalize ρ x = vx at hv hxr
    split at hv
    · rename_i r
      split at hv
      · rename_i k e hu
        split at hv
        · rename_i es cl hb
          obtain ⟨ad, hE, h0, rs, h1, h2⟩ := hr.blk _ _ hb
          obtain ⟨ad', hE', hxx⟩ := hxr.map_inv
          rw [hE] at hE'; cases hE'
          cases hv
          have hsz : rs.size = es.length := by
            have := congrArg List.length h2.2.2
            simpa using this.symm
          refine fin es.length ?_ rfl
          rw [ha, hts, hxx]
          simp only [Builtin.len_, List.getElem?_toArray, List.getElem?_cons_zero, Sem.run_bind, r_under w hu, Result.andThen, getObj_run h1 (fun _ _ _ h => by cases h), Sem.run_pure, hsz, goInt]
        · cases hv
      · cases hv
    · unfold lenV at hv
      split at hv
      · rename_i a n cp hu hne
        injection hv with hv
        refine fin n ?_ hv.symm
        rw [ha, hts]
        have hxs : ∃ a' c'', ρr x = .slice a' n c'' := by
          generalize ρr x = xr at hxr
          cases hxr <;> exact ⟨_, _, rfl⟩
        obtain ⟨a', c'', hxs⟩ := hxs
        rw [hxs]
        simp only [Builtin.len_, List.getElem?_toArray, List.getElem?_cons_zero, Sem.run_bind, r_under w hu, Result.andThen, Sem.run_pure, goInt]
      · cases hv
  · cases hv
end
end Go.Abs
