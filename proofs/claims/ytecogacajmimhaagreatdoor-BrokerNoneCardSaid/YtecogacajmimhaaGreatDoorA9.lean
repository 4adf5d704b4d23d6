/-
  THE EVALUATOR's SOUNDNESS, 9: maps, iterators, 'maps.clone', 'copy', a slice from an open row's end on.
-/
import Derived.Test.YtecogacajmimhaaGreatDoorA8
namespace Go.Abs

section
variable {P : Program} {X : Nat → Option Value}

theorem setObj_run {w : World} {r : Nat} {o o' : Obj} (h : w.heap[r]? = some o') (hc : ∀ c e f, o' ≠ .cells c e f) : (setObj r o).run P w = .ok () (World.over w r o) := by
  unfold setObj
  cases o' <;> first | (exact absurd rfl (hc _ _ _)) | (simp only [Sem.run, h]; rfl)

theorem mapRel.push {E : Emb} {es : List (Value × Value × Nat)} {rs : Array MapEntry} {k k' v v' : Value} {n : Nat} (h : mapRel X E es rs.toList) (hk : VR X E k k') (hv : VR X E v v') :
    mapRel X E (es ++ [(k, v, n)]) (rs.push { key := k', val := v', born := n }).toList := by
  obtain ⟨h1, h2, h3⟩ := h
  refine ⟨?_, ?_, ?_⟩
  · simp only [List.map_append, List.map_cons, List.map_nil, Array.toList_push]
    exact h1.append (.cons hk .nil)
  · simp only [List.map_append, List.map_cons, List.map_nil, Array.toList_push]
    exact h2.append (.cons hv .nil)
  · simp only [List.map_append, List.map_cons, List.map_nil, Array.toList_push, h3]

theorem ok_mapUpdate (t : TypeId) (m k v : Operand) : EffOk P X (.mapUpdate t m k v) (fun ρ h => (evMapUpdate P h t (ρ m) (ρ k) (ρ v)).bind fun h' => some (.tuple #[], h')) := by
  intro E h w ρ ρr hρ hok hr u h' hv q hq
  obtain ⟨dst, op, type, pos, after, guard⟩ := q
  cases hq
  have hm := hρ m (hok m (by simp [Op.operands]))
  have hk := hρ k (hok k (by simp [Op.operands]))
  have hvv := hρ v (hok v (by simp [Op.operands]))
  simp only [Option.bind_eq_some_iff] at hv
  obtain ⟨h1, hst, hv⟩ := hv
  cases hv
  unfold evMapUpdate at hst
  generalize ρ m = vm at hst hm
  generalize ρ k = vk at hst hk
  split at hst
  · rename_i kt et r kk a hu
    cases hik : intKey P kt with
    | false => rw [hik] at hst; cases hst
    | true =>
      rw [hik, cond_true] at hst
      split at hst
      · rename_i es cl hb
        simp only [Option.bind_eq_some_iff] at hst
        obtain ⟨o, ho, hst⟩ := hst
        split at hst
        · cases hst
        · cases hst
          obtain ⟨ad, hE, h0, rs, h1, h2⟩ := hr.blk _ _ hb
          obtain ⟨ad', hE', hxr⟩ := hm.map_inv
          rw [hE] at hE'; cases hE'
          obtain ⟨r', h3, h4⟩ := findKey_run (P := P) w hik h2 ho
          cases r' with
          | some _ => exact h4.elim
          | none =>
            have hlt := hr.bound r ad hE
            obtain ⟨hrel, hevo⟩ := HRel.over hr hb hE (x' := .map (es ++ [(.int kk a, ρ v, cl)]) (cl + 1)) (obj := .map (rs.push { key := .int kk a, val := ρr v, born := cl }) (cl + 1))
              ⟨h0, _, over_same _ _ hlt, h2.push (.int _ _) hvv⟩
            refine ⟨E, _, undef, .skip, hevo, hrel, VR.undef_, ?_, .inr ⟨rfl, rfl⟩⟩
            simp only [execOp, hxr, hk.int_inv, Instr.mapUpdate, Sem.run_bind, r_under w hu, Result.andThen, getObj_run h1 (fun _ _ _ h => by cases h), checkKey_int w _ 9999 hik, h3, setObj_run h1 (fun _ _ _ h => by cases h), Sem.run_pure]
      · cases hst
  · cases hst

theorem ok_range (t : TypeId) (x : Operand) : EffOk P X (.range t x) (fun ρ h => evRange P h t (ρ x)) := by
  intro E h w ρ ρr hρ hok hr u h' hv q hq
  obtain ⟨dst, op, type, pos, after, guard⟩ := q
  cases hq
  have hx := hρ x (hok x (by simp [Op.operands]))
  have hv : evRange P h t (ρ x) = some (u, h') := hv
  unfold evRange at hv
  generalize ρ x = vx at hv hx
  split at hv
  · rename_i kt et m hu
    split at hv
    · rename_i es cl hb
      cases hv
      obtain ⟨ad, hE, h0, rs, h1, h2⟩ := hr.blk _ _ hb
      obtain ⟨ad', hE', hxr⟩ := hx.map_inv
      rw [hE] at hE'; cases hE'
      obtain ⟨hrel, hevo⟩ := HRel.more hr (x := .iter m cl [] cl) (obj := .mapIter (some ad.blk) cl #[] cl) (cap := 0)
        ⟨rfl, ad, Emb.upd_ext (hr.fresh h.nx (Nat.le_refl _)).1 _ _ hE, laid_at w _⟩
      refine ⟨_, _, .pointer (some ⟨w.heap.size, 0, none⟩), .value (.pointer (some ⟨w.heap.size, 0, none⟩)), hevo, hrel, .ptr (ad := ⟨w.heap.size, 0, 0⟩) (Emb.upd_same _ _ _), ?_, .inl rfl⟩
      simp only [execOp, hxr, Instr.range, Sem.run_bind, r_under w hu, Result.andThen, getObj_run h1 (fun _ _ _ h => by cases h), Sem.run_pure, pure_bind]
      rfl
    · cases hv
  · cases hv

theorem memN_eq (n : Nat) : ∀ l : List Nat, memN n l = l.contains n
  | [] => rfl
  | x :: l => by
    rw [memN, memN_eq n l, List.contains_cons, beq_dec]
    congr 1
    exact decide_eq_decide.2 ⟨Eq.symm, Eq.symm⟩

theorem mapRel.filter {E : Emb} (p : Nat → Bool) : ∀ {es : List (Value × Value × Nat)} {rs : List MapEntry}, mapRel X E es rs → mapRel X E (es.filter fun e => p e.2.2) (rs.filter fun e => p e.born)
  | [], rs, h => by
    cases rs with
    | nil => exact ⟨.nil, .nil, rfl⟩
    | cons x rs => exact absurd h.2.2 (by simp)
  | (k, v, n) :: es, rs, h => by
    cases rs with
    | nil => exact absurd h.2.2 (by simp)
    | cons x rs =>
      obtain ⟨h1, h2, h3⟩ := h
      simp only [List.map_cons] at h1 h2 h3
      cases h1 with
      | cons hk h1 => cases h2 with
        | cons hv h2 =>
          simp only [List.cons.injEq] at h3
          have ih := mapRel.filter p ⟨h1, h2, h3.2⟩
          simp only [List.filter_cons]
          rw [h3.1]
          by_cases hp : p x.born = true
          · simp only [hp, if_true]
            exact ⟨.cons hk ih.1, .cons hv ih.2.1, by simp [ih.2.2, h3.1]⟩
          · simp only [hp, if_false]
            exact ih
theorem mapRel.all {E : Emb} (p : Nat → Bool) {es : List (Value × Value × Nat)} {rs : List MapEntry} (h : mapRel X E es rs) : (es.all fun e => p e.2.2) = rs.all fun e => p e.born := by
  have : (es.map (·.2.2)).all p = (rs.map (·.born)).all p := by rw [h.2.2]
  simpa [List.all_map, Function.comp_def] using this
theorem mapRel.empty {E : Emb} {es : List (Value × Value × Nat)} {rs : List MapEntry} (h : mapRel X E es rs) : es.isEmpty = rs.isEmpty := by
  have := congrArg List.isEmpty h.2.2
  simpa using this

theorem ok_next (x : Operand) : EffOk P X (.next x false) (fun ρ h => evNext h (ρ x)) := by
  intro E h w ρ ρr hρ hok hr u h' hv q hq
  obtain ⟨dst, op, type, pos, after, guard⟩ := q
  cases hq
  have hx := hρ x (hok x (by simp [Op.operands]))
  have hv : evNext h (ρ x) = some (u, h') := hv
  unfold evNext at hv
  generalize ρ x = vx at hv hx
  split at hv
  · rename_i r
    split at hv
    · rename_i m since seen last hb
      obtain ⟨ad, hE, h0, am, hEm, h1⟩ := hr.blk _ _ hb
      obtain ⟨ad', hE', hxr⟩ := hx.ptr_inv
      rw [hE] at hE'; cases hE'
      split at hv
      · rename_i es cl hbm
        obtain ⟨adm, hEm', _, rs, h2, h3⟩ := hr.blk _ _ hbm
        rw [hEm] at hEm'; cases hEm'
        have hoff : ad.off + 0 = 0 := by omega
        have hall : (es.all fun e => Nat.ble last e.2.2) = rs.all fun e => decide (e.born ≥ last) := by
          have := h3.all (fun n => decide (n ≥ last))
          simp only [ble_dec]
          rw [this, ← Array.all_toList]
        have hcond : (!seen.isEmpty && (!es.isEmpty && es.all fun e => Nat.ble last e.2.2)) = (!(Array.mk seen).isEmpty && !rs.isEmpty && rs.all fun e => decide (e.born ≥ last)) := by
          rw [hall, h3.empty, Bool.and_assoc]
          have e1 : (Array.mk seen).isEmpty = seen.isEmpty := by cases seen <;> rfl
          have e2 : rs.toList.isEmpty = rs.isEmpty := by cases rs with | mk l => cases l <;> rfl
          rw [e1, e2]
        rw [hcond] at hv
        cases hcv : (!(Array.mk seen).isEmpty && !rs.isEmpty && rs.all fun e => decide (e.born ≥ last)) with
        | true => rw [hcv] at hv; cases hv
        | false =>
          rw [hcv, cond_false] at hv
          have hleft := h3.filter (fun n => !memN n seen)
          have hold := hleft.filter (fun n => Nat.blt n since)
          have hnew := hleft.filter (fun n => !Nat.blt n since)
          have rleft : (rs.filter fun e => !(Array.mk seen).contains e.born) = ⟨rs.toList.filter fun e => !memN e.born seen⟩ := by
            apply Array.ext'
            rw [Array.toList_filter]
            congr 1
            funext e
            rw [memN_eq]
            simp
          have rold : (Array.mk (rs.toList.filter fun e => !memN e.born seen)).filter (fun e => decide (e.born < since)) = ⟨(rs.toList.filter fun e => !memN e.born seen).filter fun e => Nat.blt e.born since⟩ := by
            apply Array.ext'
            rw [Array.toList_filter]
            simp only [blt_dec]
          have rnew : (Array.mk (rs.toList.filter fun e => !memN e.born seen)).filter (fun e => decide (e.born ≥ since)) = ⟨(rs.toList.filter fun e => !memN e.born seen).filter fun e => !Nat.blt e.born since⟩ := by
            apply Array.ext'
            rw [Array.toList_filter]
            congr 1
            funext e
            rw [blt_dec, ← decide_not]
            simp
          generalize hgl : (rs.toList.filter fun e => !memN e.born seen) = LL at *
          generalize hgo : LL.filter (fun e => Nat.blt e.born since) = OO at *
          generalize hgn : LL.filter (fun e => !Nat.blt e.born since) = NN at *
          simp only [] at hv
          split at hv
          · rename_i ho hn
            cases hv
            rw [ho] at hold
            rw [hn] at hnew
            have hO : OO = [] := by cases OO with | nil => rfl | cons a b => exact absurd hold.2.2 (by simp)
            have hN : NN = [] := by cases NN with | nil => rfl | cons a b => exact absurd hnew.2.2 (by simp)
            subst hO hN
            refine ⟨E, w, .tuple #[.bool false], .value (.tuple #[.bool false]), Evo.refl _ _ _, hr, .tuple (.cons (.bool _) .nil), ?_, .inl rfl⟩
            rw [← hcond, hcond] at hcv
            simp only [execOp, hxr, hoff, Instr.next, Sem.run_bind, Result.andThen, getObj_run h1 (fun _ _ _ h => by cases h), getObj_run h2 (fun _ _ _ h => by cases h), hcv, Bool.false_eq_true, if_false, rleft, rold, rnew, pure_bind]
            simp [choose, Sem.run, Question.forced]
          · rename_i k v n ho hn
            cases hv
            rw [ho] at hold
            rw [hn] at hnew
            have hN : NN = [] := by cases NN with | nil => rfl | cons a b => exact absurd hnew.2.2 (by simp)
            subst hN
            cases OO with
            | nil => exact absurd hold.2.2 (by simp)
            | cons e rest =>
              have hrest : rest = [] := by cases rest with | nil => rfl | cons a b => exact absurd hold.2.2 (by simp)
              subst hrest
              obtain ⟨q1, q2, q3⟩ := hold
              simp only [List.map_cons, List.map_nil] at q1 q2 q3
              have hborn : n = e.born := by simpa using q3
              cases q1 with
              | cons hk _ => cases q2 with
                | cons hvv _ =>
                  have hlt := hr.bound r ad hE
                  obtain ⟨hrel, hevo⟩ := HRel.over hr hb hE (x' := .iter m since (seen ++ [n]) cl) (obj := .mapIter (some am.blk) since ((Array.mk seen).push e.born) cl)
                    ⟨h0, am, hEm, by rw [over_same _ _ hlt, hborn]; simp⟩
                  refine ⟨E, _, .tuple #[.bool true, e.key, e.val], .value (.tuple #[.bool true, e.key, e.val]), hevo, hrel, .tuple (.cons (.bool _) (.cons hk (.cons hvv .nil))), ?_, .inl rfl⟩
                  simp only [execOp, hxr, hoff, Instr.next, Sem.run_bind, Result.andThen, getObj_run h1 (fun _ _ _ h => by cases h), getObj_run h2 (fun _ _ _ h => by cases h), hcv, Bool.false_eq_true, if_false, rleft, rold, rnew, pure_bind]
                  simp [choose, Sem.run, Question.forced, setObj_run h1 (fun _ _ _ h => by cases h), Result.andThen]
          · cases hv
      · cases hv
    · cases hv
  · cases hv

/-- 'maps.clone'. -/
theorem clone_rel {E : Emb} {h h' : Hp} {w : World} (hr : HRel P X E h w) {args argsr : List Value} {v : Value} (ha : VRL X E args argsr) (hv : evClone h args = some (v, h')) :
    ∃ E' w' v', Evo E h w E' h' w' ∧ HRel P X E' h' w' ∧ VR X E' v v' ∧ (Extern.MapsClone.clone ⟨argsr⟩).run P w = .ok v' w' := by
  unfold evClone at hv
  split at hv
  · rename_i t r
    split at hv
    · rename_i es cl hb
      cases hv
      obtain ⟨ad, hE, h0, rs, h1, h2⟩ := hr.blk _ _ hb
      cases ha with
      | cons hx ht =>
        cases ht
        cases hx with
        | iface hx =>
          obtain ⟨ad', hE', rfl⟩ := hx.map_inv
          rw [hE] at hE'; cases hE'
          have hext := Emb.upd_ext (ad := ⟨w.heap.size, 0, 0⟩) (hr.fresh h.nx (Nat.le_refl _)).1
          obtain ⟨hrel, hevo⟩ := HRel.more hr (x := .map es cl) (obj := .map rs cl) (cap := 0) ⟨rfl, rs, laid_at w _, h2.mono hext⟩
          refine ⟨_, _, .iface t (.map (some w.heap.size)), hevo, hrel, .iface (.map (ad := ⟨w.heap.size, 0, 0⟩) (Emb.upd_same _ _ _)), ?_⟩
          have hcl : Extern.MapsClone.clone #[.iface t (.map (some ad.blk))] = (do
              let .map entries clock ← getObj ad.blk | stuck "maps.clone: a map expected"
              pure (.iface t (.map (some (← newObj (.map entries clock)))))) := rfl
          show (Extern.MapsClone.clone #[.iface t (.map (some ad.blk))]).run P w = _
          rw [hcl]
          simp only [Sem.run_bind, getObj_run h1 (fun _ _ _ h => by cases h), Result.andThen, Sem.run_pure]
          rfl
    · cases hv
  · cases hv

theorem lenOf_run (w : World) {x xr : Value} {k : Nat} {E : Emb} (hx : VR X E x xr) (h : lenOfV x = some k) : (Builtin.lenOf xr).run P w = .ok k w := by
  unfold lenOfV at h
  split at h
  · cases h
    cases hx <;> rfl
  · cases h
theorem cellsFrom_run {E : Emb} {h : Hp} {w : World} (hr : HRel P X E h w) {x xr : Value} {size n : Nat} {cs : List Value} (hx : VR X E x xr) (hc : cellsFrom h size n x = some cs) :
    ∃ ys, VRL X E cs ys ∧ ys.length = n * size ∧ (Builtin.firstCells size n xr).run P w = .ok ys.toArray w := by
  unfold cellsFrom at hc
  split at hc
  · rw [beq_dec] at hc
    by_cases hn : n = 0
    · rw [decide_eq_true hn, cond_true] at hc
      cases hc
      cases hx
      exact ⟨[], .nil, by subst hn; simp, rfl⟩
    · rw [decide_eq_false hn, cond_false] at hc; cases hc
  · rename_i b o _ _
    obtain ⟨ad, ys, hE, hv, hlen, hrun⟩ := load_run hr hc
    obtain ⟨ad', hE', hcs⟩ := hx.slice_inv
    rw [hE] at hE'; cases hE'
    refine ⟨ys, hv, hlen, ?_⟩
    rcases hcs with ⟨_, rfl⟩ | ⟨_, _, _, rfl⟩ <;> exact hrun
  · cases hc

theorem ok_copy (hX : ∀ k r, X k = some r → scalar r = true) (c : Call) (hc : c.callee = .builtin .copy) : EffOk P X (.call c) (fun ρ h => evCopy P h c.argTypes.toList (c.args.toList.map ρ)) := by
  intro E h w ρ ρr hρ hok hr u h' hv q hq
  obtain ⟨dst, op, type, pos, after, guard⟩ := q
  cases hq
  have hl := hρ.list (l := c.args.toList) (fun x hx => hok x (by simp [Op.operands, Call.operands, hc]; exact Array.mem_toList_iff.1 hx))
  have hv : evCopy P h c.argTypes.toList (c.args.toList.map ρ) = some (u, h') := hv
  unfold evCopy at hv
  generalize hg : c.args.toList.map ρ = l at hv hl
  generalize hg' : c.args.toList.map ρr = l' at hl
  split at hv
  · rename_i t rest b o n cp x rest' hts
    cases hl with
    | @cons _ dr _ lr hd hl => cases hl with
      | @cons _ xr _ lr2 hx hl =>
        split at hv
        · rename_i e hu
          simp only [Option.bind_eq_some_iff] at hv
          obtain ⟨s, hs, k, hk, new, hnew, h2, hst, hv⟩ := hv
          cases hv
          obtain ⟨ad, hE, hdc⟩ := hd.slice_inv
          have hmin : (bif Nat.ble k n then k else n) = Nat.min k n := by
            rw [ble_dec]
            by_cases hkn : k ≤ n
            · rw [decide_eq_true hkn, cond_true]; exact (Nat.min_eq_left hkn).symm
            · rw [decide_eq_false hkn, cond_false]; exact (Nat.min_eq_right (by omega)).symm
          rw [hmin] at hnew ⊢
          obtain ⟨ys, hys, hlen, hrun⟩ := cellsFrom_run hr hx hnew
          obtain ⟨w', hsrun, hrel, hevo⟩ := store_rel hX hr hE hys hst
          refine ⟨E, w', .int .i64 (Nat.min k n : Nat), .value (.int .i64 (Nat.min k n : Nat)), hevo, hrel, .int _ _, ?_, .inl rfl⟩
          have ha : (c.args.map ρr) = ⟨dr :: xr :: lr2⟩ := by apply Array.ext'; rw [Array.toList_map, hg']
          have ht : c.argTypes = ⟨t :: rest⟩ := by apply Array.ext'; rw [hts]
          have hcopy : (Builtin.copy_ c.argTypes type (c.args.map ρr)).run P w = .ok (.int .i64 (Nat.min k n : Nat)) w' := by
            rw [ha, ht]
            rcases hdc with ⟨_, rfl⟩ | ⟨_, _, _, rfl⟩ <;>
              simp only [Builtin.copy_, List.getElem?_toArray, List.getElem?_cons_zero, List.getElem?_cons_succ, Sem.run_bind, r_under w hu, Result.andThen, lenOf_run w hx hk, r_size w hs, hrun, hsrun, Sem.run_pure, goInt, pure_bind]
          simp only [execOp, resolve, hc, pure_bind, invoke, builtin, Sem.run_bind, hcopy, Result.andThen, Sem.run_pure]
        · cases hv
  · cases hv

/-- A slice of an open row from its end on. -/
theorem ok_void (t : TypeId) (x : Operand) (lo hi : Option Operand) (cf cr : Caller) : EffOk P X (.slice t x lo hi none) (fun ρ h => eVoid t x lo hi P cf cr ρ h) := by
  intro E h w ρ ρr hρ hok hr u h' hv q hq
  obtain ⟨dst, op, type, pos, after, guard⟩ := q
  cases hq
  have hm : ∀ y, y = x ∨ lo = some y ∨ hi = some y → okOp y = true := fun y hy => hok y (by
    rcases hy with rfl | h | h <;> simp_all [Op.operands])
  have hx := hρ x (hm x (.inl rfl))
  have hlo := hρ.opt (o := lo) fun y hy => hm y (.inr (.inl hy))
  have hhi := hρ.opt (o := hi) fun y hy => hm y (.inr (.inr hy))
  have hv : eVoid t x lo hi P cf cr ρ h = some (u, h') := hv
  unfold eVoid at hv
  generalize ρ x = vx at hv hx
  split at hv
  · rename_i e b o n c hu
    obtain ⟨ad, hE, hc⟩ := hx.slice_inv
    rw [blt_dec] at hv
    by_cases hco : c < OPEN
    · rw [decide_eq_true hco, cond_true] at hv; cases hv
    rw [decide_eq_false hco, cond_false] at hv
    rcases hc with ⟨hc, _⟩ | ⟨k, rfl, hn, hxr⟩
    · exact absurd hc hco
    simp only [Option.bind_eq_some_iff] at hv
    obtain ⟨s, hs, ⟨l, hh, m⟩, hb, hv⟩ := hv
    rw [beq_dec, beq_dec] at hv
    by_cases hl : l = n ∧ hh = n
    case neg =>
      have : (decide (l = n) && decide (hh = n)) = false := by
        rw [Bool.eq_false_iff]; intro hz; simp at hz; exact hl hz
      rw [this, cond_false] at hv; cases hv
    obtain ⟨rfl, rfl⟩ := hl
    simp only [decide_true, Bool.and_self, cond_true, Option.some.injEq, Prod.mk.injEq] at hv
    obtain ⟨rfl, rfl⟩ := hv
    have hrun := bounds_run (P := P) (C := ad.cap - k) (mx := none) (mx' := none) w true hlo hhi trivial hb (by omega)
    simp only [Option.isNone_none, if_true] at hrun
    obtain ⟨hf1, hf2⟩ := hr.fresh h.nx (Nat.le_refl _)
    let a' : Addr := if ad.cap - k = hh then ⟨ad.blk, ad.off + o, none⟩ else (⟨ad.blk, ad.off + o, none⟩ : Addr).add (hh * s)
    have ha' : a'.block = ad.blk ∧ a'.spot = none := by
      show (if ad.cap - k = hh then _ else _ : Addr).block = _ ∧ (if ad.cap - k = hh then _ else _ : Addr).spot = _
      split
      · exact ⟨rfl, rfl⟩
      · rw [add_none]; exact ⟨rfl, rfl⟩
    let nad : Ad := ⟨ad.blk, a'.off, ad.cap - k - hh⟩
    have hext := Emb.upd_ext (ad := nad) hf1
    have cases_ : ∀ c z, E.upd h.nx nad c = some z → (c = h.nx ∧ z = nad) ∨ (c ≠ h.nx ∧ E c = some z) := fun c z hc => by
      by_cases e : c = h.nx
      · subst e; rw [Emb.upd_same] at hc; cases hc; exact .inl ⟨rfl, rfl⟩
      · rw [Emb.upd_ne _ _ e] at hc; exact .inr ⟨e, hc⟩
    have hget : ∀ c, (Hp.mk (Nat.succ h.nx) h.tr).getB c = h.getB c := fun c => by rw [Hp.getB_mk, Hp.getB_tr]
    have hne : ∀ c y, h.getB c = some y → c ≠ h.nx := fun c y hc e => by subst e; rw [hf2] at hc; cases hc
    refine ⟨E.upd h.nx nad, w, .slice (some a') 0 (nad.cap - 0), .value (.slice (some a') 0 (nad.cap - 0)), ?_, ?_, ?_, ?_, .inl rfl⟩
    · refine ⟨hext, fun c z h1 h2 => ?_, Nat.le_succ _, Nat.le_refl _, fun _ _ _ => rfl, fun i hi => ?_, rfl, rfl, fun _ => rfl⟩
      · rcases cases_ c z h1 with ⟨e, _⟩ | ⟨e, h1⟩
        · subst e; exact ⟨Nat.le_refl _, Nat.lt_succ_self _⟩
        · rw [h1] at h2; cases h2
      · obtain ⟨c, y, z, hc, hz, rfl⟩ := hi
        rw [hget] at hc
        rw [Emb.upd_ne _ _ (hne c y hc)] at hz
        exact .inl ⟨c, y, z, hc, hz, rfl⟩
    · refine ⟨fun c y hc => ?_, fun c c' y y' z z' hc hc' hz hz' he => ?_, fun c hc => ?_, fun c z hc => ?_⟩
      · rw [hget] at hc
        obtain ⟨z, h1, h2⟩ := hr.blk c y hc
        exact ⟨z, hext _ _ h1, h2.carry hext rfl⟩
      · rw [hget] at hc hc'
        rw [Emb.upd_ne _ _ (hne c y hc)] at hz
        rw [Emb.upd_ne _ _ (hne c' y' hc')] at hz'
        exact hr.inj c c' y y' z z' hc hc' hz hz' he
      · have hc' : Nat.succ h.nx ≤ c := hc
        obtain ⟨h1, h2⟩ := hr.fresh c (by omega)
        rw [hget, Emb.upd_ne _ _ (by omega)]
        exact ⟨h1, h2⟩
      · rcases cases_ c z hc with ⟨e, rfl⟩ | ⟨e, h1⟩
        · exact hr.bound b ad hE
        · exact hr.bound c z h1
    · have hs0 : VR X (E.upd h.nx nad) (.slice (some ⟨h.nx, 0, none⟩) 0 (OPEN + 0)) (.slice (some ⟨nad.blk, nad.off + 0, none⟩) 0 (nad.cap - 0)) :=
        .sliceO (Emb.upd_same _ _ _) (by omega)
      have e1 : (⟨nad.blk, nad.off + 0, none⟩ : Addr) = a' := by
        obtain ⟨p1, p2⟩ := ha'
        show (⟨ad.blk, a'.off + 0, none⟩ : Addr) = a'
        rw [← p1, ← p2]; rfl
      rw [e1] at hs0
      exact hs0
    · simp only [execOp, hxr, Instr.sliceAt, Instr.slice, Sem.run_bind, r_under w hu, Result.andThen, Sem.run_pure, hrun, r_size w hs, Option.map_some, Option.map_none, Nat.sub_self, Nat.sub_zero]
      congr 3
      show (if ad.cap - k = hh then some _ else some _) = some (if ad.cap - k = hh then _ else _)
      split <;> rfl
  · cases hv
end
end Go.Abs
