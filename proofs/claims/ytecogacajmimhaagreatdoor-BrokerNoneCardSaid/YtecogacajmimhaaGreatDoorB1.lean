/-
  THE EVALUATOR's SOUNDNESS, 10: 'append'.
-/
import Derived.Test.YtecogacajmimhaaGreatDoorA9
namespace Go.Abs

theorem growBy_le (need : Nat) : ∀ (r c : Nat), Builtin.growBy need r c ≤ (c + 768) * 2 ^ r
  | 0, c => by simp [Builtin.growBy]
  | r + 1, c => by
    unfold Builtin.growBy
    split
    · have : 1 ≤ 2 ^ (r + 1) := Nat.one_le_two_pow
      calc c ≤ (c + 768) * 1 := by omega
        _ ≤ _ := Nat.mul_le_mul_left _ this
    · refine Nat.le_trans (growBy_le need r _) ?_
      rw [Nat.pow_succ, Nat.mul_comm (2 ^ r) 2, ← Nat.mul_assoc]
      exact Nat.mul_le_mul_right _ (by omega)
theorem nextcap_le {need c : Nat} (h : c < need) (hn : need ≤ 1048576) : Builtin.nextslicecap need c ≤ 16789504 := by
  unfold Builtin.nextslicecap
  split
  · omega
  · split
    · omega
    · have := growBy_le need 4 c
      have h2 : (c + 768) * 2 ^ 4 ≤ (1048576 + 768) * 16 := Nat.mul_le_mul (by omega) (by decide)
      exact Nat.le_trans this (Nat.le_trans h2 (by decide))

section
variable {P : Program} {X : Nat → Option Value}

theorem notInt_inv {t : TypeId} (h : notIntT P t = true) : ∃ e, P.underlying t = some (.slice e) := by
  unfold notIntT at h
  split at h
  · exact ⟨_, by assumption⟩
  · cases h

theorem app_fit {t t1 e ty : TypeId} {i : TypeInfo} {base : Option Addr} {n C k : Nat} {xr : Value} {ys : List Value} {tsr : List TypeId} {argsr : List Value} {w w' : World}
    (hu : P.underlying t = some (.slice e)) (hi : P.info? e = some i) (h1 : notIntT P t1 = true) (hlen : (Builtin.lenOf xr).run P w = .ok k w) (hcells : (Builtin.firstCells i.size k xr).run P w = .ok ys.toArray w)
    (hfit : n + k ≤ C) (hst : match base with | some a => (storeCells (a.add (n * i.size)) ys 0).run P w = .ok () w' | none => w' = w) :
    (Builtin.append_ ⟨t :: t1 :: tsr⟩ ty ⟨.slice base n C :: xr :: argsr⟩).run P w = .ok (.slice base (n + k) C) w' := by
  have hs : szOf P e = some i.size := by simp [szOf, hi]
  obtain ⟨e1, hz⟩ := notInt_inv h1
  cases base with
  | none =>
    have hw : w' = w := hst
    subst hw
    simp only [Builtin.append_, List.getElem?_toArray, List.getElem?_cons_zero, List.getElem?_cons_succ, Sem.run_bind, r_under _ hu, r_size _ hs, Result.andThen, r_under _ hz, Bool.false_eq_true, if_false, hlen, hfit, if_true, Bool.not_false, hcells, pure_bind, Sem.run_pure]
  | some a =>
    have hst' : (storeCells (a.add (n * i.size)) ys 0).run P w = .ok () w' := hst
    simp only [Builtin.append_, List.getElem?_toArray, List.getElem?_cons_zero, List.getElem?_cons_succ, Sem.run_bind, r_under _ hu, r_size _ hs, Result.andThen, r_under _ hz, Bool.false_eq_true, if_false, hlen, hfit, if_true, Bool.not_false, hcells, pure_bind, Sem.run_pure, hst']

theorem app_grow {t t1 e ty : TypeId} {i : TypeInfo} {z : Value} {base : Option Addr} {n C k : Nat} {xr : Value} {os ys : List Value} {tsr : List TypeId} {argsr : List Value} (w : World)
    (hu : P.underlying t = some (.slice e)) (hi : P.info? e = some i) (hz0 : zeroOf P e = some z) (h1 : notIntT P t1 = true) (hlen : ∀ w, (Builtin.lenOf xr).run P w = .ok k w)
    (hcells : ∀ m, (Builtin.firstCells i.size k xr).run P { w with drawn := m } = .ok ys.toArray { w with drawn := m }) (hold : ∀ m, (Builtin.firstCells i.size n (.slice base n C)).run P { w with drawn := m } = .ok os.toArray { w with drawn := m })
    (hfit : C < n + k) (hneed : n + k ≤ 1048576) (hb1 : i.bytes ≤ 4096) (hb0 : i.bytes ≠ 0) :
    ∃ nc, n + k ≤ nc ∧ (Builtin.append_ ⟨t :: t1 :: tsr⟩ ty ⟨.slice base n C :: xr :: argsr⟩).run P w =
      .ok (.slice (some ⟨w.heap.size, 0, none⟩) (n + k) nc) (World.laid { w with drawn := w.drawn + 1 } (.cells (os.toArray ++ ys.toArray ++ Builtin.zeroCells z.cells (nc - (n + k))) e)) := by
  have hs : szOf P e = some i.size := by simp [szOf, hi]
  obtain ⟨e1, hz⟩ := notInt_inv h1
  refine ⟨(Question.appendCap (n + k) C e).cut (w.tape w.drawn (.appendCap (n + k) C e)), Nat.le_add_right _ _, ?_⟩
  have hnf : ¬ (n + k ≤ C) := by omega
  have hb0' : ¬ (i.bytes = 0) := hb0
  have hcap : ¬ (Builtin.nextslicecap (n + k) C * i.bytes > 2 ^ 48) := by
    have h2 := nextcap_le hfit hneed
    have h3 : Builtin.nextslicecap (n + k) C * i.bytes ≤ 16789504 * 4096 := Nat.mul_le_mul h2 hb1
    omega
  simp only [Builtin.append_, List.getElem?_toArray, List.getElem?_cons_zero, List.getElem?_cons_succ, Sem.run_bind, r_under _ hu, r_size _ hs, Result.andThen, r_under _ hz, Bool.false_eq_true, if_false, hlen, hnf, Bool.not_false, if_true, pure_bind, Sem.run_pure, r_info _ hi,
    hb0', or_self, and_false, hcap, run_choose, Question.forced, run_askRoom, hold, hcells, r_zero _ hz0, newRow_run]

theorem zeroCells_size (z : Array Value) (n : Nat) : (Builtin.zeroCells z n).size = n * z.size := by simp [Builtin.zeroCells]

/-- A block that takes an elder one's place. -/
theorem HRel.move {E : Emb} {h : Hp} {w : World} (hr : HRel P X E h w) {b : Nat} {x x' : Blk} {ad nad : Ad} {obj : Obj} (hb : h.getB b = some x) (hE : E b = some ad) (hn : nad.blk = ad.blk)
    (hx : BRel P X (E.upd h.nx nad) (World.over w ad.blk obj) nad x') :
    HRel P X (E.upd h.nx nad) (.mk (Nat.succ h.nx) ((h.tr.drop b).put h.nx x')) (World.over w ad.blk obj) ∧ Evo E h w (E.upd h.nx nad) (.mk (Nat.succ h.nx) ((h.tr.drop b).put h.nx x')) (World.over w ad.blk obj) := by
  obtain ⟨hf1, hf2⟩ := hr.fresh h.nx (Nat.le_refl _)
  have hlt := hr.bound b ad hE
  have hext := Emb.upd_ext (ad := nad) hf1
  have cases_ : ∀ c a, E.upd h.nx nad c = some a → (c = h.nx ∧ a = nad) ∨ (c ≠ h.nx ∧ E c = some a) := fun c a hc => by
    by_cases e : c = h.nx
    · subst e; rw [Emb.upd_same] at hc; cases hc; exact .inl ⟨rfl, rfl⟩
    · rw [Emb.upd_ne _ _ e] at hc; exact .inr ⟨e, hc⟩
  have hget : ∀ c y, (Hp.mk (Nat.succ h.nx) ((h.tr.drop b).put h.nx x')).getB c = some y → (c = h.nx ∧ y = x') ∨ (c ≠ h.nx ∧ c ≠ b ∧ h.getB c = some y) := fun c y hc => by
    rw [Hp.getB_mk, Tr.get_put] at hc
    split at hc
    · rename_i e; cases hc; exact .inl ⟨e, rfl⟩
    · rename_i e
      rw [Tr.get_drop] at hc
      split at hc
      · cases hc
      · rename_i e'
        rw [Hp.getB_tr] at hc
        exact .inr ⟨e, e', hc⟩
  refine ⟨⟨fun c y hc => ?_, fun c c' y y' a a' hc hc' ha ha' he => ?_, fun c hc => ?_, fun c a hc => ?_⟩, ?_⟩
  · rcases hget c y hc with ⟨e, rfl⟩ | ⟨e, e', hc⟩
    · subst e; exact ⟨nad, Emb.upd_same _ _ _, hx⟩
    · obtain ⟨a, h1, h2⟩ := hr.blk c y hc
      exact ⟨a, hext _ _ h1, h2.carry hext (over_ne _ _ fun he => e' (hr.inj c b y x a ad hc hb h1 hE he))⟩
  · rcases hget c y hc with ⟨e, _⟩ | ⟨e, e1, hc⟩ <;> rcases hget c' y' hc' with ⟨e', _⟩ | ⟨e', e1', hc'⟩
    · omega
    · subst e
      rw [Emb.upd_same] at ha
      cases ha
      rw [Emb.upd_ne _ _ e'] at ha'
      exact absurd (hr.inj c' b y' x a' ad hc' hb ha' hE (by omega)) e1'
    · subst e'
      rw [Emb.upd_same] at ha'
      cases ha'
      rw [Emb.upd_ne _ _ e] at ha
      exact absurd (hr.inj c b y x a ad hc hb ha hE (by omega)) e1
    · rw [Emb.upd_ne _ _ e] at ha
      rw [Emb.upd_ne _ _ e'] at ha'
      exact hr.inj c c' y y' a a' hc hc' ha ha' he
  · have hc' : Nat.succ h.nx ≤ c := hc
    obtain ⟨h1, h2⟩ := hr.fresh c (by omega)
    refine ⟨by rw [Emb.upd_ne _ _ (by omega)]; exact h1, ?_⟩
    cases hg : (Hp.mk (Nat.succ h.nx) ((h.tr.drop b).put h.nx x')).getB c with
    | none => rfl
    | some y =>
      rcases hget c y hg with ⟨e, _⟩ | ⟨_, _, h3⟩
      · omega
      · rw [h2] at h3; cases h3
  · rw [over_size]
    rcases cases_ c a hc with ⟨e, rfl⟩ | ⟨e, h1⟩
    · omega
    · exact hr.bound c a h1
  · refine ⟨hext, fun c a h1 h2 => ?_, Nat.le_succ _, by rw [over_size]; exact Nat.le_refl _, fun i hi hni => ?_, fun i hi => ?_, rfl, rfl, frozen_eq (k := ad.blk) (fun i hi => over_ne _ _ hi) (fun a ha => hx.cold a (by rw [hn]; exact ha)) (fun a ha => by
      obtain ⟨ad', h1, h2⟩ := hr.blk _ _ hb
      rw [hE] at h1; cases h1
      exact h2.cold a ha)⟩
    · rcases cases_ c a h1 with ⟨e, _⟩ | ⟨e, h1⟩
      · subst e; exact ⟨Nat.le_refl _, Nat.lt_succ_self _⟩
      · rw [h1] at h2; cases h2
    · exact over_ne _ _ fun e => hni ⟨b, x, ad, hb, hE, e.symm⟩
    · obtain ⟨c, y, a, hc, ha, rfl⟩ := hi
      rcases hget c y hc with ⟨e, _⟩ | ⟨e, e1, hc⟩
      · subst e
        rw [Emb.upd_same] at ha
        cases ha
        exact .inl ⟨b, x, ad, hb, hE, by omega⟩
      · rw [Emb.upd_ne _ _ e] at ha
        exact .inl ⟨c, y, a, hc, ha, rfl⟩

/-- The new row behind an append. -/
theorem grown_rel {E : Emb} {w : World} {blk nc : Nat} {e : TypeId} {i : TypeInfo} {z : Value} {old new os ys : List Value} {m : Nat} (hi : P.info? e = some i) (hzl : z.cells.size = i.size) (ho : VRL X E old os) (hn : VRL X E new ys)
    (hol : os.length + ys.length = m * i.size) (hnc : m ≤ nc) (hw : w.heap[blk]? = some (.cells (os.toArray ++ ys.toArray ++ Builtin.zeroCells z.cells (nc - m)) e (0, 0))) :
    BRel P X E w ⟨blk, 0, nc⟩ (.cells e (old ++ new).length (old ++ new) .nil true) := by
  have hcz : P.cellsOf e = i.size := cellsOf_sz (by simp [szOf, hi])
  have hlen := (ho.append hn).length
  refine ⟨_, hw, ?_, fun j v hc => ?_, fun _ => ?_⟩
  · simp only [Array.size_append, List.size_toArray, zeroCells_size]
    rw [List.length_append, List.length_append] at hlen
    rw [List.length_append]
    omega
  · obtain ⟨hj, hp⟩ := cellAt_nil hc
    rw [Nat.mod_eq_of_lt hj] at hp
    obtain ⟨y, hy, hr⟩ := (ho.append hn).get hp
    refine ⟨y, ?_, hr⟩
    have hj' : j < (os ++ ys).length := by omega
    show (os.toArray ++ ys.toArray ++ _)[0 + j]? = some y
    rw [Nat.zero_add, Array.getElem?_append_left (by simp only [Array.size_append, List.size_toArray]; rw [List.length_append] at hj'; exact hj')]
    simpa using hy
  · rw [hcz]
    simp only [Array.size_append, List.size_toArray, zeroCells_size, hzl, hol]
    have : m * i.size + (nc - m) * i.size = nc * i.size := by rw [← Nat.add_mul]; congr 1; omega
    show 0 + nc * i.size ≤ _
    omega

theorem cellsFrom_run' {E : Emb} {h : Hp} {w : World} (hr : HRel P X E h w) {x xr : Value} {size n : Nat} {cs : List Value} (hx : VR X E x xr) (hc : cellsFrom h size n x = some cs) :
    ∃ ys, VRL X E cs ys ∧ ys.length = n * size ∧ (∀ m, (Builtin.firstCells size n xr).run P { w with drawn := m } = .ok ys.toArray { w with drawn := m }) ∧
      (∀ b o n' c, x = .slice (some ⟨b, o, none⟩) n' c → ∃ ad arr e, E b = some ad ∧ w.heap[ad.blk]? = some (.cells arr e (0, 0)) ∧ ∀ (j : Nat) (y : Value), ys[j]? = some y → arr[ad.off + o + j]? = some y) := by
  unfold cellsFrom at hc
  split at hc
  · rw [beq_dec] at hc
    by_cases hn : n = 0
    · rw [decide_eq_true hn, cond_true] at hc
      cases hc
      cases hx
      exact ⟨[], .nil, by subst hn; simp, fun _ => rfl, fun _ _ _ _ h => by cases h⟩
    · rw [decide_eq_false hn, cond_false] at hc; cases hc
  · rename_i b o n' c'
    obtain ⟨ad, arr, e, ys, hE, q2, hv, hlen, q5⟩ := load_rel hr hc
    obtain ⟨ad', hE', hcs⟩ := hx.slice_inv
    rw [hE] at hE'; cases hE'
    have hrun : ∀ m, (loadCells ⟨ad.blk, ad.off + o, none⟩ (n * size)).run P { w with drawn := m } = .ok ys.toArray { w with drawn := m } := fun m => by
      have f2 := run_loadCells_list (P := P) { w with drawn := m } ⟨ad.blk, ad.off + o, none⟩ ys (fun j v hv => by rw [add_none, cell_of (w := { w with drawn := m }) q2]; exact q5 j v hv)
      rwa [hlen] at f2
    refine ⟨ys, hv, hlen, ?_, fun b' o' n2 c2 he => by cases he; exact ⟨ad, arr, e, hE, q2, q5⟩⟩
    rcases hcs with ⟨_, rfl⟩ | ⟨_, _, _, rfl⟩ <;> exact hrun
  · cases hc

theorem ok_append (hX : ∀ k r, X k = some r → scalar r = true) (c : Call) (hc : c.callee = .builtin .append) : EffOk P X (.call c) (fun ρ h => evAppend P h c.argTypes.toList (c.args.toList.map ρ)) := by
  intro E h w ρ ρr hρ hok hr u h' hv q hq
  obtain ⟨dst, op, type, pos, after, guard⟩ := q
  cases hq
  have hl := hρ.list (l := c.args.toList) (fun x hx => hok x (by simp [Op.operands, Call.operands, hc]; exact Array.mem_toList_iff.1 hx))
  have hv : evAppend P h c.argTypes.toList (c.args.toList.map ρ) = some (u, h') := hv
  have fin : ∀ {E' w' v'}, Evo E h w E' h' w' → HRel P X E' h' w' → VR X E' u v' → (Builtin.append_ c.argTypes type (c.args.map ρr)).run P w = .ok v' w' →
      ∃ E' w' v' r, Evo E h w E' h' w' ∧ HRel P X E' h' w' ∧ VR X E' u v' ∧ (execOp ρr { dst, op := .call c, type, pos, after, guard }).run P w = .ok r w' ∧ (r = .value v' ∨ (r = .skip ∧ v' = undef)) := by
    intro E' w' v' a1 a2 a3 a4
    refine ⟨E', w', v', .value v', a1, a2, a3, ?_, .inl rfl⟩
    simp only [execOp, resolve, hc, pure_bind, invoke, builtin, Sem.run_bind, a4, Result.andThen, Sem.run_pure]
  unfold evAppend at hv
  generalize hg : c.args.toList.map ρ = l at hv hl
  generalize hg' : c.args.toList.map ρr = l' at hl
  split at hv
  · rename_i t t1 tsr s x argsr hts
    cases hl with
    | @cons _ sr _ lr hs0 hl => cases hl with
      | @cons _ xr _ lr2 hx hl =>
        have ha : (c.args.map ρr) = ⟨sr :: xr :: lr2⟩ := by apply Array.ext'; rw [Array.toList_map, hg']
        have ht : c.argTypes = ⟨t :: t1 :: tsr⟩ := by apply Array.ext'; rw [hts]
        rw [ha, ht] at fin
        cases hni : notIntT P t1 with
        | false => rw [hni] at hv; cases hv
        | true =>
          rw [hni, cond_true] at hv
          split at hv
          · rename_i e base n cp hu
            simp only [Option.bind_eq_some_iff] at hv
            obtain ⟨i, hi, z, hz, k, hk, hv⟩ := hv
            have hzr := (zero_rel (X := X) (E := E) hz).cells hX
            rw [beq_dec, ble_dec] at hv
            have hlen : ∀ w, (Builtin.lenOf xr).run P w = .ok k w := fun w => lenOf_run w hx hk
            by_cases hk0 : k = 0 ∧ n ≤ cp
            · obtain ⟨rfl, hn⟩ := hk0
              rw [decide_eq_true rfl, decide_eq_true hn, Bool.and_self, cond_true] at hv
              cases hv
              have hfirst : (Builtin.firstCells i.size 0 xr).run P w = .ok ([] : List Value).toArray w := by
                unfold lenOfV at hk
                split at hk
                · cases hx with
                  | sliceNil => rfl
                  | sliceK => simp [Builtin.firstCells, loadCells, loadCellsFrom]
                  | sliceO => simp [Builtin.firstCells, loadCells, loadCellsFrom]
                · cases hk
              cases hs0 with
              | sliceNil =>
                exact fin (Evo.refl _ _ _) hr (.sliceNil _ _) (app_fit (w' := w) hu hi hni (hlen w) hfirst (by omega) rfl)
              | sliceK hc h => 
                exact fin (Evo.refl _ _ _) hr (.sliceK hc h) (app_fit (w' := w) hu hi hni (hlen w) hfirst (by omega) (by simp [storeCells]))
              | sliceO h hn' => 
                exact fin (Evo.refl _ _ _) hr (.sliceO h hn') (app_fit (w' := w) hu hi hni (hlen w) hfirst (by omega) (by simp [storeCells]))
            · have hk0' : (decide (k = 0) && decide (n ≤ cp)) = false := by
                rw [Bool.eq_false_iff]; intro hh; simp at hh; exact hk0 hh
              rw [hk0', cond_false, ble_dec, ble_dec, beq_dec, beq_dec, beq_dec] at hv
              by_cases hcond : n + k ≤ 1048576 ∧ i.bytes ≤ 4096 ∧ i.bytes ≠ 0 ∧ i.size ≠ 0 ∧ (cellsL z).length = i.size
              case neg =>
                have : (decide (Nat.add n k ≤ 1048576) && decide (i.bytes ≤ 4096) && !decide (i.bytes = 0) && !decide (i.size = 0) && decide ((cellsL z).length = i.size)) = false := by
                  rw [Bool.eq_false_iff]; intro hh; simp at hh; exact hcond ⟨hh.1.1.1.1, hh.1.1.1.2, hh.1.1.2, hh.1.2, hh.2⟩
                rw [this, cond_false] at hv; cases hv
              obtain ⟨c1, c2, c3, c4, c5⟩ := hcond
              have c1' : Nat.add n k ≤ 1048576 := c1
              rw [decide_eq_true c1', decide_eq_true c2, decide_eq_false c3, decide_eq_false c4, decide_eq_true c5] at hv
              simp only [Bool.not_false, Bool.and_self, cond_true, Option.bind_eq_some_iff] at hv
              obtain ⟨new, hnew, hv⟩ := hv
              have hzl : z.cells.size = i.size := by rw [← Array.length_toList, hzr.length, c5]
              have hcz : P.cellsOf e = i.size := cellsOf_sz (by simp [szOf, hi])
              rw [beq_dec] at hv
              by_cases hnl : new.length = Nat.mul k i.size ∧ new.all scalar = true
              case neg =>
                have : (decide (new.length = Nat.mul k i.size) && new.all scalar) = false := by
                  rw [Bool.eq_false_iff]; intro hh; simp only [Bool.and_eq_true, decide_eq_true_eq] at hh; exact hnl hh
                rw [this, cond_false] at hv; cases hv
              obtain ⟨hnl, hns⟩ := hnl
              have hnl' : new.length = k * i.size := hnl
              rw [decide_eq_true hnl, hns, Bool.and_self, cond_true, blt_dec] at hv
              obtain ⟨ys, hys, hyl, hyrun, _⟩ := cellsFrom_run' hr hx hnew
              have hyrun0 : (Builtin.firstCells i.size k xr).run P w = .ok ys.toArray w := hyrun w.drawn
              have hgrow : ∀ {base' : Option Addr} {C : Nat} {old os : List Value}, sr = .slice base' n C → C < n + k → VRL X E old os → os.length = n * i.size →
                  (∀ m, (Builtin.firstCells i.size n (.slice base' n C)).run P { w with drawn := m } = .ok os.toArray { w with drawn := m }) →
                  ∀ (hh : Hp), hh.nx = h.nx → (∀ b x, hh.getB b = some x → h.getB b = some x) →
                  u = .slice (some ⟨h.nx, 0, none⟩) (n + k) OPEN → h' = hh.new (.cells e (old ++ new).length (old ++ new) .nil true) →
                  ∃ E' w' v' r, Evo E h w E' h' w' ∧ HRel P X E' h' w' ∧ VR X E' u v' ∧ (execOp ρr { dst, op := .call c, type, pos, after, guard }).run P w = .ok r w' ∧ (r = .value v' ∨ (r = .skip ∧ v' = undef)) := by
                intro base' C old os hsr hfit hov hol hold hh hnx hsub hu' hh'
                subst hu' hh'
                obtain ⟨nc, hnc, hrun⟩ := app_grow (P := P) (ty := type) (tsr := tsr) (argsr := lr2) (base := base') (xr := xr) w hu hi hz hni hlen hyrun hold hfit c1 c2 c3
                rw [← hsr] at hrun
                have hrh : HRel P X E hh { w with drawn := w.drawn + 1 } := (HRel.less hr hsub hnx).draw _
                have hext := Emb.upd_ext (ad := ⟨w.heap.size, 0, nc⟩) (hr.fresh h.nx (Nat.le_refl _)).1
                rw [← hnx] at hext
                obtain ⟨hrel, hevo⟩ := HRel.more hrh (x := .cells e (old ++ new).length (old ++ new) .nil true) (cap := nc)
                  (obj := .cells (os.toArray ++ ys.toArray ++ Builtin.zeroCells z.cells (nc - (n + k))) e)
                  (grown_rel hi hzl (hov.mono hext) (hys.mono hext) (by rw [hol, hyl, ← Nat.add_mul]) hnc (laid_at _ _))
                have hev0 : Evo E h w E hh { w with drawn := w.drawn + 1 } :=
                  ⟨fun _ _ h => h, fun _ _ h h' => (by rw [h] at h'; cases h'), by rw [hnx]; exact Nat.le_refl _, Nat.le_refl _, fun _ _ _ => rfl,
                    fun i ⟨b, x, ad, q1, q2, q3⟩ => .inl ⟨b, x, ad, hsub b x q1, q2, q3⟩, rfl, rfl, fun _ => rfl⟩
                refine fin (hev0.trans hevo) hrel ?_ hrun
                rw [← hnx]
                exact .sliceO (k := 0) (ad := ⟨w.heap.size, 0, nc⟩) (Emb.upd_same _ _ _) (by show n + k + 0 ≤ nc; omega)
              by_cases hco : cp < OPEN
              · rw [decide_eq_true hco, cond_true] at hv
                unfold appKnown at hv
                rw [ble_dec] at hv
                by_cases hfit : Nat.add n k ≤ cp
                · rw [decide_eq_true hfit, cond_true] at hv
                  have hfit' : n + k ≤ cp := hfit
                  rcases base with _ | ⟨b, o, _ | sp⟩
                  · cases hv
                  · have hv : ((h.store b (Nat.add o (Nat.mul n i.size)) new).bind fun h' => some (.slice (some ⟨b, o, none⟩) (Nat.add n k) cp, h')) = some (u, h') := hv
                    simp only [Option.bind_eq_some_iff] at hv
                    obtain ⟨h2, hst, hv⟩ := hv
                    cases hv
                    obtain ⟨ad, hE, hsc⟩ := hs0.slice_inv
                    rcases hsc with ⟨_, hsr⟩ | ⟨kk, hk2, _⟩
                    · obtain ⟨w', hsrun, hrel, hevo⟩ := store_rel hX hr hE hys hst
                      refine fin hevo hrel (.sliceK hco (hevo.ext _ _ hE)) ?_
                      rw [hsr]
                      refine app_fit (w' := w') hu hi hni (hlen w) hyrun0 hfit' ?_
                      show (storeCells ((⟨ad.blk, ad.off + o, none⟩ : Addr).add (n * i.size)) ys 0).run P w = _
                      rw [add_none, Nat.add_assoc]
                      exact hsrun
                    · omega
                  · cases hv
                · rw [decide_eq_false hfit, cond_false] at hv
                  simp only [Option.bind_eq_some_iff] at hv
                  obtain ⟨old, hold, hv⟩ := hv
                  obtain ⟨nx, tr⟩ := h
                  cases hv
                  obtain ⟨os, hos, hol, horun, _⟩ := cellsFrom_run' hr hs0 hold
                  have hsr : ∃ base', sr = .slice base' n cp := by
                    cases hs0 with
                    | sliceNil => exact ⟨_, rfl⟩
                    | sliceK => exact ⟨_, rfl⟩
                    | sliceO => omega
                  obtain ⟨base', hsr⟩ := hsr
                  rw [hsr] at horun
                  exact hgrow hsr (by have : ¬ (n + k ≤ cp) := hfit; omega) hos hol horun (.mk nx tr) rfl (fun _ _ h => h) rfl rfl
              · rw [decide_eq_false hco, cond_false] at hv
                unfold appOpen at hv
                rcases base with _ | ⟨b, o, _ | sp⟩
                · cases hv
                · simp only [] at hv
                  split at hv
                  · rename_i e' m pat over hb
                    rw [beq_dec, beq_dec, beq_dec] at hv
                    by_cases hcc : e = e' ∧ o = (cp - OPEN) * i.size ∧ m = o + n * i.size
                    case neg =>
                      have : (decide (e = e') && decide (o = Nat.mul (Nat.sub cp OPEN) i.size) && decide (m = Nat.add o (Nat.mul n i.size))) = false := by
                        rw [Bool.eq_false_iff]; intro hh; simp only [Bool.and_eq_true, decide_eq_true_eq] at hh; exact hcc ⟨hh.1.1, hh.1.2, hh.2⟩
                      rw [this, cond_false] at hv; cases hv
                    obtain ⟨he, ho, hm⟩ := hcc
                    have ho' : o = Nat.mul (Nat.sub cp OPEN) i.size := ho
                    have hm' : m = Nat.add o (Nat.mul n i.size) := hm
                    rw [decide_eq_true he, decide_eq_true ho', decide_eq_true hm'] at hv
                    simp only [Bool.and_self, cond_true, Option.bind_eq_some_iff] at hv
                    obtain ⟨old, hold, hv⟩ := hv
                    obtain ⟨nx, tr⟩ := h
                    simp only [Option.some.injEq, Prod.mk.injEq] at hv
                    obtain ⟨hu', hh'⟩ := hv
                    obtain ⟨os, hos, hol, horun, horeal⟩ := cellsFrom_run' hr hs0 hold
                    obtain ⟨ad1, arr, e1, hE1, q2, q5⟩ := horeal b o n cp rfl
                    obtain ⟨ad, hE, arr', h1, h2, h3, h4⟩ := hr.blk _ _ hb
                    rw [hE] at hE1
                    injection hE1 with hE1
                    subst hE1
                    rw [q2] at h1
                    injection h1 with h1
                    injection h1 with h1a h1b h1c
                    rw [← he] at h1b
                    subst h1a
                    rw [h1b] at q2
                    obtain ⟨ad', hE', hsc⟩ := hs0.slice_inv
                    rw [hE] at hE'
                    injection hE' with hE'
                    subst hE'
                    rcases hsc with ⟨hc0, _⟩ | ⟨kk, hk2, hnk, hsr⟩
                    · exact absurd hc0 hco
                    have hokk : o = kk * i.size := by rw [ho, hk2, Nat.add_sub_cancel_left]
                    have hopn := h4 rfl
                    rw [← he, hcz] at hopn
                    by_cases hfit : n + k ≤ ad.cap - kk
                    · have hk00 : k ≠ 0 := fun h0 => hk0 ⟨h0, by rw [hk2]; unfold OPEN; omega⟩
                      have hbound : (n + k) * i.size + kk * i.size ≤ ad.cap * i.size := by
                        rw [← Nat.add_mul]; exact Nat.mul_le_mul_right _ (by omega)
                      rw [Nat.add_mul] at hbound
                      have hyn : ys ≠ [] := by
                        intro h0; rw [h0] at hyl
                        have : k * i.size ≠ 0 := Nat.mul_ne_zero hk00 c4
                        exact this (by simpa using hyl.symm)
                      have hysc : ∀ y ∈ ys, scalar y = true := fun y hy => by
                        obtain ⟨j, hj⟩ := List.mem_iff_getElem?.1 hy
                        have hlt : j < new.length := by
                          rcases Nat.lt_or_ge j new.length with h | h
                          · exact h
                          · rw [List.getElem?_eq_none (by rw [hys.length]; omega)] at hj; cases hj
                        obtain ⟨y', hy', hr'⟩ := hys.get (List.getElem?_eq_getElem hlt)
                        rw [hj] at hy'; cases hy'
                        exact hr'.scalar_ hX (List.all_eq_true.1 hns _ (List.getElem_mem hlt))
                      have hst := storeCells_run (P := P) (b := ad.blk) (off := ad.off + o + n * i.size) ys w arr 0 q2 (by omega) hysc
                      rw [if_neg hyn, Nat.add_zero] at hst
                      have hlt := hr.bound b ad hE
                      obtain ⟨hrel, hevo⟩ := HRel.move hr (nad := ⟨ad.blk, ad.off + o, ad.cap - kk⟩) (x' := .cells e (old ++ new).length (old ++ new) .nil true) (obj := .cells (writeL arr (ad.off + o + n * i.size) ys) e (0, 0)) hb hE rfl
                        (by
                          have hext := Emb.upd_ext (ad := ⟨ad.blk, ad.off + o, ad.cap - kk⟩) (hr.fresh nx (Nat.le_refl _)).1
                          have hl1 := hos.length
                          have hl2 := hys.length
                          refine ⟨_, over_same _ _ hlt, ?_, fun j v hc => ?_, fun _ => ?_⟩
                          · rw [writeL_size, List.length_append]
                            show ad.off + o + _ ≤ _
                            omega
                          · obtain ⟨hj, hp⟩ := cellAt_nil hc
                            rw [Nat.mod_eq_of_lt hj] at hp
                            show ∃ y, (writeL arr (ad.off + o + n * i.size) ys)[ad.off + o + j]? = some y ∧ _
                            rw [writeL_get ys arr (ad.off + o + n * i.size) _ (by omega)]
                            by_cases hjo : j < old.length
                            · rw [if_neg (by omega)]
                              rw [List.getElem?_append_left hjo] at hp
                              obtain ⟨y, hy, hr'⟩ := hos.get hp
                              exact ⟨y, q5 j y hy, hr'.mono hext⟩
                            · rw [List.getElem?_append_right (by omega)] at hp
                              rw [List.length_append] at hj
                              rw [if_pos (by omega)]
                              obtain ⟨y, hy, hr'⟩ := hys.get hp
                              refine ⟨y, ?_, hr'.mono hext⟩
                              rw [← hy]; congr 1; omega
                          · rw [writeL_size, hcz]
                            show ad.off + o + (ad.cap - kk) * i.size ≤ _
                            have : (ad.cap - kk) * i.size + kk * i.size = ad.cap * i.size := by rw [← Nat.add_mul]; congr 1; omega
                            omega)
                      subst hh'
                      subst hu'
                      refine fin hevo hrel (.sliceO (k := 0) (ad := ⟨ad.blk, ad.off + o, ad.cap - kk⟩) (Emb.upd_same _ _ _) (by show n + k + 0 ≤ ad.cap - kk; omega)) ?_
                      rw [hsr]
                      refine app_fit (w' := World.over w ad.blk _) hu hi hni (hlen w) hyrun0 hfit ?_
                      show (storeCells ((⟨ad.blk, ad.off + o, none⟩ : Addr).add (n * i.size)) ys 0).run P w = _
                      rw [add_none]
                      exact hst
                    · rw [hsr] at horun
                      refine hgrow hsr (by omega) hos hol horun (.mk nx (tr.drop b)) rfl (fun c x hc => ?_) hu'.symm hh'.symm
                      rw [Hp.getB_mk, Tr.get_drop] at hc
                      split at hc
                      · cases hc
                      · exact hc
                  · cases hv
                · cases hv
          · cases hv
  · cases hv
end
end Go.Abs
