/-
  THE EVALUATOR's SOUNDNESS, 4: the operations that look at their operands alone, the rest of them.
-/
import Derived.Test.YtecogacajmimhaaGreatDoorA3
namespace Go.Abs

theorem add_none (b o n : Nat) : (⟨b, o, none⟩ : Addr).add n = ⟨b, o + n, none⟩ := by
  unfold Addr.add
  by_cases h : n = 0
  · subst h; simp
  · rw [if_neg h]

/-- The operands in a list, and behind an option. -/
theorem ER.list {X : Nat → Option Value} {E : Emb} {ρ ρr : Operand → Value} (h : ER X E ρ ρr) : ∀ {l : List Operand}, (∀ x ∈ l, okOp x = true) → VRL X E (l.map ρ) (l.map ρr)
  | [], _ => .nil
  | x :: l, hl => .cons (h x (hl x (by simp))) (ER.list h fun y hy => hl y (by simp [hy]))

def OR (X : Nat → Option Value) (E : Emb) : Option Value → Option Value → Prop
  | none, none => True
  | some x, some y => VR X E x y
  | _, _ => False
theorem ER.opt {X : Nat → Option Value} {E : Emb} {ρ ρr : Operand → Value} (h : ER X E ρ ρr) {o : Option Operand} (ho : ∀ x, o = some x → okOp x = true) : OR X E (o.map ρ) (o.map ρr) := by
  cases o with
  | none => trivial
  | some x => exact h x (ho x rfl)

section
variable {P : Program} {X : Nat → Option Value} {E : Emb} (w : World)

theorem bnd_inv {v : Value} {n i : Nat} (h : bnd v n = some i) : ∃ k, v = .int k (i : Int) ∧ i ≤ n := by
  unfold bnd at h
  split at h
  · rename_i k j
    rw [ble_dec] at h
    by_cases hj : j ≤ n
    · rw [decide_eq_true hj, cond_true] at h; cases h; exact ⟨k, rfl, hj⟩
    · rw [decide_eq_false hj, cond_false] at h; cases h
  · cases h
theorem intIdx_inv {v : Value} {n i : Nat} (h : intIdx v n = some i) : ∃ k, v = .int k (i : Int) ∧ i < n := by
  unfold intIdx at h
  split at h
  · rename_i k j
    rw [blt_dec] at h
    by_cases hj : j < n
    · rw [decide_eq_true hj, cond_true] at h; cases h; exact ⟨k, rfl, hj⟩
    · rw [decide_eq_false hj, cond_false] at h; cases h
  · cases h

theorem bound_run {v r : Value} {n N i : Nat} (code : Go.BoundsCode) (hv : VR X E v r) (h : bnd v n = some i) (hN : n ≤ N) : (Instr.sliceBound r N code).run P w = .ok i w := by
  obtain ⟨k, rfl, hi⟩ := bnd_inv h
  rw [hv.int_inv]
  have h1 : (0 : Int) ≤ i := by omega
  have h2 : (i : Int) ≤ N := by omega
  simp [Instr.sliceBound, asIntOf, Result.andThen, h1, h2]
theorem boundO_run {v r : Option Value} {n N i : Nat} (code : Go.BoundsCode) (hv : OR X E v r) (h : bndO v n 0 = some i) (hN : n ≤ N) :
    (match r with | some v => Instr.sliceBound v N code | none => pure 0 : Sem Nat).run P w = .ok i w := by
  cases v with
  | none => cases r with
    | none => simp [bndO] at h; simp [h]
    | some r => exact hv.elim
  | some v => cases r with
    | none => exact hv.elim
    | some r => exact bound_run w code hv h hN
theorem bndO_le {v : Option Value} {n i : Nat} (h : bndO v n 0 = some i) : i ≤ n := by
  cases v with
  | none => simp [bndO] at h; omega
  | some v => obtain ⟨_, _, h⟩ := bnd_inv h; exact h

theorem bnds_le {n c : Nat} {lo hi mx : Option Value} {l h m : Nat} (hb : bnds n c lo hi mx = some (l, h, m)) (hn : n ≤ c) : l ≤ h ∧ h ≤ m ∧ m ≤ c ∧ (mx.isNone = true → m = c) := by
  unfold bnds at hb
  split at hb
  · simp only [Option.bind_eq_some_iff] at hb
    obtain ⟨m', h1, h', h2, l', h3, h4⟩ := hb
    cases h4
    obtain ⟨_, _, a1⟩ := bnd_inv h1
    obtain ⟨_, _, a2⟩ := bnd_inv h2
    exact ⟨bndO_le h3, a2, a1, fun h => by cases h⟩
  · cases hb
  · simp only [Option.bind_eq_some_iff] at hb
    obtain ⟨h', h2, l', h3, h4⟩ := hb
    cases h4
    obtain ⟨_, _, a2⟩ := bnd_inv h2
    exact ⟨bndO_le h3, a2, Nat.le_refl _, fun _ => rfl⟩
  · simp only [Option.bind_eq_some_iff] at hb
    obtain ⟨l', h3, h4⟩ := hb
    cases h4
    exact ⟨bndO_le h3, hn, Nat.le_refl _, fun _ => rfl⟩

theorem bounds_run {n c C : Nat} {lo hi mx lo' hi' mx' : Option Value} {l h m : Nat} (isSlice : Bool) (hlo : OR X E lo lo') (hhi : OR X E hi hi') (hmx : OR X E mx mx')
    (hb : bnds n c lo hi mx = some (l, h, m)) (hC : c ≤ C) : (Instr.sliceBounds isSlice n C lo' hi' mx').run P w = .ok (l, h, if mx.isNone then C else m) w := by
  unfold bnds at hb
  split at hb
  · simp only [Option.bind_eq_some_iff] at hb
    obtain ⟨m', h1, h', h2, l', h3, h4⟩ := hb
    cases h4
    cases mx' with | none => exact hmx.elim | some mx' =>
    cases hi' with | none => exact hhi.elim | some hi' =>
    have e1 := bound_run (P := P) w (if isSlice = true then .slice3Acap else .slice3Alen) hmx h1 hC
    have e2 := bound_run (P := P) w .slice3B hhi h2 (Nat.le_refl m)
    cases lo with
    | none => cases lo' with
      | some _ => exact hlo.elim
      | none => simp [bndO] at h3; subst h3; simp [Instr.sliceBounds, e1, e2, Result.andThen]
    | some lo => cases lo' with
      | none => exact hlo.elim
      | some lo' =>
        have e3 := bound_run (P := P) w .slice3C hlo h3 (Nat.le_refl h)
        simp [Instr.sliceBounds, e1, e2, e3, Result.andThen]
  · cases hb
  · simp only [Option.bind_eq_some_iff] at hb
    obtain ⟨h', h2, l', h3, h4⟩ := hb
    cases h4
    cases mx' with | some _ => exact hmx.elim | none =>
    cases hi' with | none => exact hhi.elim | some hi' =>
    have e2 := bound_run (P := P) w (if isSlice = true then .sliceAcap else .sliceAlen) hhi h2 hC
    cases lo with
    | none => cases lo' with
      | some _ => exact hlo.elim
      | none => simp [bndO] at h3; subst h3; simp [Instr.sliceBounds, e2, Result.andThen]
    | some lo => cases lo' with
      | none => exact hlo.elim
      | some lo' =>
        have e3 := bound_run (P := P) w .sliceB hlo h3 (Nat.le_refl h)
        simp [Instr.sliceBounds, e2, e3, Result.andThen]
  · simp only [Option.bind_eq_some_iff] at hb
    obtain ⟨l', h3, h4⟩ := hb
    cases h4
    cases mx' with | some _ => exact hmx.elim | none =>
    cases hi' with | some _ => exact hhi.elim | none =>
    cases lo with
    | none => cases lo' with
      | some _ => exact hlo.elim
      | none => simp [bndO] at h3; subst h3; simp [Instr.sliceBounds, Result.andThen]
    | some lo => cases lo' with
      | none => exact hlo.elim
      | some lo' =>
        have e3 := bound_run (P := P) w .sliceB hlo h3 (Nat.le_refl n)
        simp [Instr.sliceBounds, e3, Result.andThen]
end

section
variable {P : Program} {X : Nat → Option Value}

theorem VR.slice_inv {E : Emb} {b o n c : Nat} {r : Value} (h : VR X E (.slice (some ⟨b, o, none⟩) n c) r) :
    ∃ ad, E b = some ad ∧ (c < OPEN ∧ r = .slice (some ⟨ad.blk, ad.off + o, none⟩) n c ∨ ∃ k, c = OPEN + k ∧ n + k ≤ ad.cap ∧ r = .slice (some ⟨ad.blk, ad.off + o, none⟩) n (ad.cap - k)) := by
  cases h with
  | sliceK hc h => exact ⟨_, h, .inl ⟨hc, rfl⟩⟩
  | sliceO h hn => exact ⟨_, h, .inr ⟨_, rfl, hn, rfl⟩⟩

theorem if_place (m l off o s : Nat) (blk : Nat) : (if m = l then (⟨blk, off + o, none⟩ : Addr) else (⟨blk, off + o, none⟩ : Addr).add (l * s)) = ⟨blk, off + (bif Nat.beq m l then o else Nat.add o (Nat.mul l s)), none⟩ := by
  rw [beq_dec, add_none]
  by_cases h : m = l
  · rw [if_pos h, decide_eq_true h, cond_true]
  · rw [if_neg h, decide_eq_false h, cond_false]
    congr 1
    show off + o + l * s = off + (o + l * s)
    omega

theorem slice_run {E : Emb} {t : TypeId} {x xr : Value} {lo hi mx lo' hi' mx' : Option Value} {v : Value} (w : World) (hx : VR X E x xr) (hlo : OR X E lo lo') (hhi : OR X E hi hi') (hmx : OR X E mx mx')
    (h : evSlice P t x lo hi mx = some v) : ∃ v', VR X E v v' ∧ (Instr.sliceAt t xr lo' hi' mx').run P w = .ok v' w := by
  unfold evSlice at h
  split at h
  · rename_i n e b o hu
    simp only [Option.bind_eq_some_iff] at h
    obtain ⟨s, hs, ⟨l, hh, m⟩, hb, h⟩ := h
    obtain ⟨ad, hE, rfl⟩ := hx.ptr_inv
    rw [blt_dec] at h
    by_cases hm : m < OPEN
    case neg => rw [decide_eq_false hm, cond_false] at h; cases h
    rw [decide_eq_true hm, cond_true] at h
    cases h
    obtain ⟨a1, a2, a3, a4⟩ := bnds_le hb (Nat.le_refl n)
    have hr := bounds_run (P := P) w false hlo hhi hmx hb (Nat.le_refl n)
    have hm' : (if mx.isNone = true then n else m) = m := by
      by_cases hz : mx.isNone = true
      · rw [if_pos hz, a4 hz]
      · rw [if_neg hz]
    rw [hm'] at hr
    refine ⟨_, .sliceK (by show m - l < OPEN; omega) hE, ?_⟩
    simp only [Instr.sliceAt, Sem.run_bind, r_under w hu, Result.andThen, Instr.sureAddr, Sem.run_pure, hr, r_size w hs]
    rw [if_place]; rfl
  · rename_i e n c hu
    simp only [Option.bind_eq_some_iff] at h
    obtain ⟨s, hs, h⟩ := h
    rw [beq_dec, beq_dec] at h
    by_cases hz : c = 0 ∧ n = 0
    case neg =>
      have : (decide (c = 0) && decide (n = 0)) = false := by simp; intro h1 h2; exact hz ⟨h1, h2⟩
      rw [this, cond_false] at h; cases h
    obtain ⟨rfl, rfl⟩ := hz
    simp only [decide_true, Bool.and_self, cond_true, Option.bind_eq_some_iff] at h
    obtain ⟨⟨l, hh, m⟩, hb, h⟩ := h
    cases h
    cases hx
    obtain ⟨a1, a2, a3, a4⟩ := bnds_le hb (Nat.le_refl 0)
    have hr := bounds_run (P := P) w true hlo hhi hmx hb (Nat.le_refl 0)
    have hm0 : m = 0 := by omega
    have hh0 : hh = 0 := by omega
    have hl0 : l = 0 := by omega
    subst hm0 hh0 hl0
    have hm' : (if mx.isNone = true then 0 else 0) = 0 := by split <;> rfl
    rw [hm'] at hr
    refine ⟨_, .sliceNil 0 0, ?_⟩
    simp only [Instr.sliceAt, Instr.slice, Sem.run_bind, r_under w hu, Result.andThen, Sem.run_pure, hr, r_size w hs, if_true, Nat.sub_self]
  · rename_i e b o n c hu
    simp only [Option.bind_eq_some_iff] at h
    obtain ⟨s, hs, h⟩ := h
    obtain ⟨ad, hE, hc⟩ := hx.slice_inv
    rcases hc with ⟨hc, rfl⟩ | ⟨k, rfl, hn, rfl⟩
    · rw [blt_dec, decide_eq_true hc, cond_true] at h
      simp only [Option.bind_eq_some_iff] at h
      obtain ⟨⟨l, hh, m⟩, hb, h⟩ := h
      cases h
      have hr := bounds_run (P := P) w true hlo hhi hmx hb (Nat.le_refl c)
      have hm' : (if mx.isNone = true then c else m) = m := by
        by_cases hz : mx.isNone = true
        · rw [if_pos hz]
          unfold bnds at hb
          cases mx with
          | some _ => simp at hz
          | none => cases hi with
            | none => simp only [Option.bind_eq_some_iff] at hb; obtain ⟨_, _, h4⟩ := hb; cases h4; rfl
            | some _ => simp only [Option.bind_eq_some_iff] at hb; obtain ⟨_, _, _, _, h4⟩ := hb; cases h4; rfl
        · rw [if_neg hz]
      rw [hm'] at hr
      have hmc : m ≤ c := by
        unfold bnds at hb
        split at hb
        · simp only [Option.bind_eq_some_iff] at hb
          obtain ⟨m', h1, h', h2, l', h3, h4⟩ := hb
          cases h4
          obtain ⟨_, _, hle⟩ := bnd_inv h1
          exact hle
        · cases hb
        · simp only [Option.bind_eq_some_iff] at hb; obtain ⟨_, _, _, _, h4⟩ := hb; cases h4; exact Nat.le_refl _
        · simp only [Option.bind_eq_some_iff] at hb; obtain ⟨_, _, h4⟩ := hb; cases h4; exact Nat.le_refl _
      refine ⟨_, .sliceK (by show m - l < OPEN; omega) hE, ?_⟩
      simp only [Instr.sliceAt, Instr.slice, Sem.run_bind, r_under w hu, Result.andThen, Sem.run_pure, hr, r_size w hs, Option.map_some, ← if_place]
      congr 2
      split <;> rfl
    · rw [blt_dec, decide_eq_false (show ¬ OPEN + k < OPEN by omega), cond_false] at h
      simp only [Option.bind_eq_some_iff] at h
      obtain ⟨⟨l, hh, m⟩, hb, h⟩ := h
      obtain ⟨a1, a2, a3, a4⟩ := bnds_le hb (Nat.le_refl n)
      have hr := bounds_run (P := P) (C := ad.cap - k) w true hlo hhi hmx hb (by omega)
      cases mx with
      | some mx =>
        simp only [Option.isSome_some, cond_true, blt_dec] at h
        by_cases hm : m < OPEN
        case neg => rw [decide_eq_false hm, cond_false] at h; cases h
        rw [decide_eq_true hm, cond_true] at h
        cases h
        refine ⟨_, .sliceK (by show m - l < OPEN; omega) hE, ?_⟩
        simp only [Instr.sliceAt, Instr.slice, Sem.run_bind, r_under w hu, Result.andThen, Sem.run_pure, hr, r_size w hs, Option.map_some, ← if_place, Option.isNone_some, Bool.false_eq_true, if_false]
        congr 2
        split <;> rfl
      | none =>
        have hmn := a4 rfl
        subst hmn
        simp only [Option.isSome_none, cond_false, beq_dec, blt_dec] at h
        simp only [Option.isNone_none, if_true] at hr
        by_cases hl0 : l = 0
        · subst hl0
          rw [decide_eq_true rfl, cond_true] at h
          cases h
          refine ⟨_, .sliceO hE (by omega), ?_⟩
          simp only [Instr.sliceAt, Instr.slice, Sem.run_bind, r_under w hu, Result.andThen, Sem.run_pure, hr, r_size w hs, Option.map_some, Nat.zero_mul, Nat.sub_zero, add_none, Nat.add_zero, ite_self]
        · rw [decide_eq_false hl0, cond_false] at h
          by_cases hln : l < m
          case neg => rw [decide_eq_false hln, cond_false] at h; cases h
          rw [decide_eq_true hln, cond_true] at h
          cases h
          have hcap : OPEN + k + l = OPEN + (k + l) := by omega
          refine ⟨.slice (some ⟨ad.blk, ad.off + Nat.add o (Nat.mul l s), none⟩) (Nat.sub hh l) (ad.cap - (k + l)), ?_, ?_⟩
          · show VR X E (.slice _ _ (OPEN + k + l)) _
            rw [hcap]
            exact .sliceO hE (by show hh - l + (k + l) ≤ ad.cap; omega)
          · simp only [Instr.sliceAt, Instr.slice, Sem.run_bind, r_under w hu, Result.andThen, Sem.run_pure, hr, r_size w hs, Option.map_some]
            rw [if_neg (show ¬ ad.cap - k = l by omega), add_none, show ad.cap - k - l = ad.cap - (k + l) by omega, Nat.add_assoc]
            rfl
  · cases h

theorem ok_slice (t : TypeId) (x : Operand) (lo hi mx : Option Operand) : PureOk P X (.slice t x lo hi mx) (pSlice t x lo hi mx) := by
  refine PureOk.of (s := fun ρr => Instr.sliceAt t (ρr x) (lo.map ρr) (hi.map ρr) (mx.map ρr)) (fun ρr q hq => ?_) (fun E ρ ρr hρ hok v hv w => ?_)
  · obtain ⟨dst, op, type, pos, after, guard⟩ := q
    cases hq; rfl
  · have hm : ∀ y, y = x ∨ lo = some y ∨ hi = some y ∨ mx = some y → okOp y = true := fun y hy => hok y (by
      rcases hy with rfl | h | h | h <;> simp_all [Op.operands])
    exact slice_run w (hρ x (hm x (.inl rfl))) (hρ.opt fun y hy => hm y (.inr (.inl hy))) (hρ.opt fun y hy => hm y (.inr (.inr (.inl hy)))) (hρ.opt fun y hy => hm y (.inr (.inr (.inr hy)))) hv

theorem ok_fieldAddr (t : TypeId) (x : Operand) (f : Nat) : PureOk P X (.fieldAddr t x f) (pFieldAddr t x f) := by
  refine PureOk.of (s := fun ρr => Instr.fieldAt t (ρr x) f) (fun ρr q hq => ?_) (fun E ρ ρr hρ hok v hv w => ?_)
  · obtain ⟨dst, op, type, pos, after, guard⟩ := q
    cases hq; rfl
  · have hx := hρ x (hok x (by simp [Op.operands]))
    unfold pFieldAddr evFieldAddr at hv
    generalize ρ x = vx at hv hx
    split at hv
    · simp only [Option.bind_eq_some_iff] at hv
      obtain ⟨d, hd, hv⟩ := hv
      cases hv
      obtain ⟨ad, hE, hr⟩ := hx.ptr_inv
      unfold fieldAt at hd
      split at hd
      · rename_i fs hu
        simp only [Option.bind_eq_some_iff, nth_eq] at hd
        obtain ⟨fd, hf, s, hs, hd⟩ := hd
        rw [beq_dec] at hd
        by_cases hz : s = 0
        · rw [decide_eq_true hz, cond_true] at hd; cases hd
        · rw [decide_eq_false hz, cond_false] at hd
          cases hd
          refine ⟨_, .ptr hE, ?_⟩
          have hf' : fs[f]? = some fd := by simpa using hf
          simp only [Instr.fieldAt, Sem.run_bind, r_under w hu, Result.andThen, hf', hr, Instr.sureAddr, Sem.run_pure, fieldPlace, r_size w hs, hz, if_false, Sem.run_ite, add_none]
          rw [Nat.add_assoc]; rfl
      · cases hd
    · cases hv

theorem ok_field (t : TypeId) (x : Operand) (f : Nat) : PureOk P X (.field t x f) (pField t x f) := by
  refine PureOk.of (s := fun ρr => Instr.field t (ρr x) f) (fun ρr q hq => ?_) (fun E ρ ρr hρ hok v hv w => ?_)
  · obtain ⟨dst, op, type, pos, after, guard⟩ := q
    cases hq; rfl
  · have hx := hρ x (hok x (by simp [Op.operands]))
    unfold pField evField at hv
    generalize ρ x = vx at hv hx
    generalize hr : ρr x = rx at hx
    split at hv
    · rename_i fs cs hu
      simp only [Option.bind_eq_some_iff, nth_eq] at hv
      obtain ⟨fd, hf, hv⟩ := hv
      cases hx with
      | agg hl =>
        obtain ⟨v', h1, h2⟩ := part_run w hl hv
        refine ⟨v', h1, ?_⟩
        have hf' : fs[f]? = some fd := by simpa using hf
        simp only [Instr.field, Sem.run_bind, r_under w hu, Result.andThen, hf', asAgg, Sem.run_pure, h2]
    · cases hv

theorem ok_indexAddr (t : TypeId) (x i : Operand) : PureOk P X (.indexAddr t x i) (pIndexAddr t x i) := by
  refine PureOk.of (s := fun ρr => Instr.indexAt t (ρr x) (ρr i)) (fun ρr q hq => ?_) (fun E ρ ρr hρ hok v hv w => ?_)
  · obtain ⟨dst, op, type, pos, after, guard⟩ := q
    cases hq; rfl
  · have hx := hρ x (hok x (by simp [Op.operands]))
    have hi := hρ i (hok i (by simp [Op.operands]))
    unfold pIndexAddr evIndexAddr at hv
    generalize ρ x = vx at hv hx
    generalize ρ i = vi at hv hi
    split at hv
    · rename_i n e b o hu
      simp only [Option.bind_eq_some_iff] at hv
      obtain ⟨s, hs, j, hj, hv⟩ := hv
      cases hv
      obtain ⟨k, rfl, hlt⟩ := intIdx_inv hj
      obtain ⟨ad, hE, hr⟩ := hx.ptr_inv
      refine ⟨_, .ptr hE, ?_⟩
      have h1 : (0 : Int) ≤ j := by omega
      have h2 : (j : Int) < n := by omega
      have e3 : ad.off + o + j * s = ad.off + Nat.add o (Nat.mul j s) := by show _ = ad.off + (o + j * s); omega
      simp [Instr.indexAt, hr, hi.int_inv, asIntOf, r_under w hu, Result.andThen, Instr.sureAddr, r_size w hs, h1, hlt, add_none, e3]
    · rename_i e b o n c hu
      simp only [Option.bind_eq_some_iff] at hv
      obtain ⟨s, hs, j, hj, hv⟩ := hv
      cases hv
      obtain ⟨k, rfl, hlt⟩ := intIdx_inv hj
      obtain ⟨ad, hE, hc⟩ := hx.slice_inv
      refine ⟨_, .ptr hE, ?_⟩
      have h1 : (0 : Int) ≤ j := by omega
      have h2 : (j : Int) < n := by omega
      have e3 : ad.off + o + j * s = ad.off + Nat.add o (Nat.mul j s) := by show _ = ad.off + (o + j * s); omega
      rcases hc with ⟨_, hr⟩ | ⟨_, _, _, hr⟩ <;>
        (simp [Instr.indexAt, hr, hi.int_inv, asIntOf, r_under w hu, Result.andThen, Instr.sureAddr, r_size w hs, h1, hlt, add_none, e3])
    · cases hv

theorem ok_index (t : TypeId) (x i : Operand) : PureOk P X (.index t x i) (pIndex t x i) := by
  refine PureOk.of (s := fun ρr => Instr.index t (ρr x) (ρr i)) (fun ρr q hq => ?_) (fun E ρ ρr hρ hok v hv w => ?_)
  · obtain ⟨dst, op, type, pos, after, guard⟩ := q
    cases hq; rfl
  · have hx := hρ x (hok x (by simp [Op.operands]))
    have hi := hρ i (hok i (by simp [Op.operands]))
    unfold pIndex evIndex at hv
    generalize ρ x = vx at hv hx
    generalize hr : ρr x = rx at hx
    generalize ρ i = vi at hv hi
    split at hv
    · rename_i n e cs hu
      simp only [Option.bind_eq_some_iff] at hv
      obtain ⟨s, hs, j, hj, hv⟩ := hv
      obtain ⟨k, rfl, hlt⟩ := intIdx_inv hj
      cases hx with
      | agg hl =>
        obtain ⟨v', h1, h2⟩ := part_run w hl hv
        refine ⟨v', h1, ?_⟩
        have g1 : (0 : Int) ≤ j := by omega
        have g2 : (j : Int) < n := by omega
        have h2' : (part e ⟨_⟩ (j * s)).run P w = .ok v' w := h2
        simp [Instr.index, hi.int_inv, asIntOf, r_under w hu, Result.andThen, r_size w hs, g1, hlt, h2']
    · rename_i s hu
      simp only [Option.bind_eq_some_iff, Option.map_eq_some_iff, nth_eq] at hv
      obtain ⟨j, hj, c, hc, hv⟩ := hv
      cases hv
      obtain ⟨k, rfl, hlt⟩ := intIdx_inv hj
      cases hx
      refine ⟨_, .int _ _, ?_⟩
      have hc' : s[j]? = some c := by
        rw [getElem?_pos s j hlt]
        have h2 : s.data.toList[j]? = some s.data[j] := by
          rw [Array.getElem?_toList]; exact getElem?_pos s.data j hlt
        rw [h2] at hc
        exact hc
      have g1 : (0 : Int) ≤ j := by omega
      simp [Instr.index, hi.int_inv, asIntOf, r_under w hu, Result.andThen, g1, hc']
    · cases hv

theorem ok_un (op : UnOp) (t : TypeId) (x : Operand) : PureOk P X (.unOp op t x) (pUn op x) := by
  refine PureOk.of (s := fun ρr => Op.unary op (ρr x)) (fun ρr q hq => ?_) (fun E ρ ρr hρ hok v hv w => ?_)
  · obtain ⟨dst, o, type, pos, after, guard⟩ := q
    cases hq; rfl
  · have hx := hρ x (hok x (by simp [Op.operands]))
    unfold pUn at hv
    generalize ρ x = vx at hv hx
    split at hv
    · cases hv
      exact ⟨_, .bool _, by rw [hx.bool_inv]; rfl⟩
    · cases hv

theorem ok_conv (s d : TypeId) (x : Operand) : PureOk P X (.convert s d x) (pConv s d x) := by
  refine PureOk.of (s := fun ρr => convert s d (ρr x)) (fun ρr q hq => ?_) (fun E ρ ρr hρ hok v hv w => ?_)
  · obtain ⟨dst, o, type, pos, after, guard⟩ := q
    cases hq; rfl
  · have hx := hρ x (hok x (by simp [Op.operands]))
    unfold pConv at hv
    generalize ρ x = vx at hv hx
    split at hv
    · rename_i sd k k' n hsd hu
      cases hv
      refine ⟨_, .int _ _, ?_⟩
      rw [hx.int_inv]
      simp only [convert, Sem.run_bind, r_under w hu, r_under w hsd, Result.andThen]
      cases sd <;> simp [Conv.intToInt, wr_eq]
    · cases hv

theorem ok_mkI (t : TypeId) (x : Operand) : PureOk P X (.makeInterface t x) (pMkI t x) := by
  refine PureOk.of (s := fun ρr => Instr.makeInterface t (ρr x)) (fun ρr q hq => ?_) (fun E ρ ρr hρ hok v hv w => ?_)
  · obtain ⟨dst, o, type, pos, after, guard⟩ := q
    cases hq; rfl
  · have hx := hρ x (hok x (by simp [Op.operands]))
    unfold pMkI at hv
    split at hv
    · rename_i k e hu
      cases hv
      exact ⟨_, .iface hx, by simp [Instr.makeInterface, r_under w hu, Result.andThen]⟩
    · cases hv

theorem ok_mkF (fn : Fn) (a b : Array Operand) : PureOk P X (.makeFunc fn a b) (pMkF fn a b) := by
  refine PureOk.of (s := fun ρr => Instr.makeFunc fn (a.map ρr) (b.map ρr)) (fun ρr q hq => ?_) (fun E ρ ρr hρ hok v hv w => ?_)
  · obtain ⟨dst, o, type, pos, after, guard⟩ := q
    cases hq; rfl
  · unfold pMkF at hv
    split at hv
    · cases hv
      obtain ⟨a⟩ := a
      obtain ⟨b⟩ := b
      refine ⟨_, .func (hρ.list fun x hx => hok x ?_) (hρ.list fun x hx => hok x ?_), ?_⟩
      · simp [Op.operands] at hx ⊢; exact .inl hx
      · simp [Op.operands] at hx ⊢; exact .inr hx
      · simp [Instr.makeFunc]
    · cases hv

theorem ok_assert (x : Operand) (t a : TypeId) : PureOk P X (.typeAssert x t a false) (pAssert x a) := by
  refine PureOk.of (s := fun ρr => Instr.typeAssert (ρr x) t a false) (fun ρr q hq => ?_) (fun E ρ ρr hρ hok v hv w => ?_)
  · obtain ⟨dst, o, type, pos, after, guard⟩ := q
    cases hq; rfl
  · have hx := hρ x (hok x (by simp [Op.operands]))
    unfold pAssert at hv
    generalize ρ x = vx at hv hx
    generalize hr : ρr x = rx at hx
    split at hv
    · rename_i k e u v0 hu
      rw [beq_dec] at hv
      by_cases he : u = a
      · rw [decide_eq_true he, cond_true] at hv
        cases hv
        subst he
        cases hx with
        | iface h => exact ⟨_, h, by simp [Instr.typeAssert, r_under w hu, Result.andThen]⟩
      · rw [decide_eq_false he, cond_false] at hv; cases hv
    · cases hv

theorem ok_extract (x : Operand) (i : Nat) : PureOk P X (.extract x i) (pExtract x i) := by
  refine PureOk.of (s := fun ρr => Instr.extract (ρr x) i) (fun ρr q hq => ?_) (fun E ρ ρr hρ hok v hv w => ?_)
  · obtain ⟨dst, o, type, pos, after, guard⟩ := q
    cases hq; rfl
  · have hx := hρ x (hok x (by simp [Op.operands]))
    unfold pExtract at hv
    generalize ρ x = vx at hv hx
    generalize hr : ρr x = rx at hx
    split at hv
    · rw [nth_eq] at hv
      cases hx with
      | tuple hl =>
        obtain ⟨y, hy, h1⟩ := hl.get hv
        refine ⟨y, h1, ?_⟩
        simp [Instr.extract, hy]
    · cases hv

theorem mm_run {E : Emb} (mx : Bool) : ∀ (ys : List Value) (x v : Value) (xr : Value) (yrs : List Value) (w : World), VR X E x xr → VRL X E ys yrs → mmL mx x ys = some v →
    ∃ v', VR X E v v' ∧ (yrs.foldlM (if mx then Builtin.max2 else Builtin.min2) xr).run P w = .ok v' w
  | [], x, v, xr, yrs, w, hx, hl, h => by
    cases hl
    simp [mmL] at h
    subst h
    exact ⟨xr, hx, by simp⟩
  | y :: ys, x, v, xr, yrs, w, hx, hl, h => by
    cases hl with
    | cons hy hl =>
      simp only [mmL, Option.bind_eq_some_iff] at h
      obtain ⟨z, hz, h⟩ := h
      unfold mm2 at hz
      split at hz
      · rename_i k a k' b
        cases hk : keq k k' with
        | false => rw [hk] at hz; cases hz
        | true =>
          rw [hk, cond_true] at hz
          cases hz
          cases keq_eq hk
          obtain ⟨v', h1, h2⟩ := mm_run mx ys _ v _ _ w (.int k _) hl h
          refine ⟨v', h1, ?_⟩
          rw [List.foldlM_cons, Sem.run_bind, hx.int_inv, hy.int_inv]
          have : ((if mx then Builtin.max2 else Builtin.min2) (.int k a) (.int k b)).run P w = .ok (.int k (bif (bif mx then ilt a b else ilt b a) then b else a)) w := by
            cases mx
            · simp only [Bool.false_eq_true, if_false, Builtin.min2, cond_false, ilt_eq]
              by_cases hlt : b < a <;> simp [hlt]
            · simp only [if_true, Builtin.max2, cond_true, ilt_eq]
              by_cases hlt : a < b <;> simp [hlt]
          rw [this]
          exact h2
      · cases hz
end
end Go.Abs
