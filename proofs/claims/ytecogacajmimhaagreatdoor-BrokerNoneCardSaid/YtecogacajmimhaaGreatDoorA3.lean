/-
  THE EVALUATOR's SOUNDNESS, 3: the operations that look at their operands alone.
-/
import Derived.Test.YtecogacajmimhaaGreatDoorA2
namespace Go.Abs

section
variable {P : Program} {X : Nat → Option Value} {E : Emb} (w : World)

theorem r_under {t : TypeId} {d : TypeDesc} (h : P.underlying t = some d) : (underlying t).run P w = .ok d w := by simp [underlying, h]
theorem r_info {t : TypeId} {d : TypeInfo} (h : P.info? t = some d) : (typeInfo t).run P w = .ok d w := by simp [typeInfo, h]
theorem r_size {t : TypeId} {n : Nat} (h : szOf P t = some n) : (sizeOf t).run P w = .ok n w := by
  unfold szOf at h
  cases hi : P.info? t with
  | none => rw [hi] at h; cases h
  | some i => rw [hi] at h; cases h; simp [sizeOf, r_info w hi]
theorem r_isAgg {t : TypeId} {b : Bool} (h : aggT P t = some b) : (isAgg t).run P w = .ok b w := by
  unfold aggT at h
  cases hd : P.underlying t with
  | none => rw [hd] at h; cases h
  | some d =>
    rw [hd] at h
    simp only [isAgg, Sem.run_bind, r_under w hd, Result.andThen]
    cases d <;> simp only [Option.some.injEq] at h <;> subst h <;> rfl
theorem zero_inv {t : TypeId} {v : Value} (h : zeroOf P t = some v) : ∃ i, P.info? t = some i ∧ i.zero = some v ∧ okC v = true := by
  unfold zeroOf at h
  simp only [Option.bind_eq_some_iff] at h
  obtain ⟨i, hi, z, hz, h⟩ := h
  cases ho : okC z with
  | false => rw [ho] at h; cases h
  | true => rw [ho, cond_true] at h; cases h; exact ⟨i, hi, hz, ho⟩
theorem r_zero {t : TypeId} {v : Value} (h : zeroOf P t = some v) : (zeroValue t).run P w = .ok v w := by
  obtain ⟨i, hi, hz, _⟩ := zero_inv h
  simp [zeroValue, r_info w hi, hz]
theorem zero_rel {t : TypeId} {v : Value} (h : zeroOf P t = some v) : VR X E v v := by
  obtain ⟨i, hi, hz, ho⟩ := zero_inv h
  exact VR.refl_okC ho
theorem cellsOf_sz {t : TypeId} {n : Nat} (h : szOf P t = some n) : P.cellsOf t = n := by
  unfold szOf at h; unfold Program.cellsOf; rw [h]; rfl

theorem extract_list (cs : List Value) (a b : Nat) : (Array.mk cs).extract a b = ⟨(cs.drop a).take (b - a)⟩ := by
  apply Array.ext'
  simp [Array.toList_extract, List.extract_eq_take_drop]

theorem part_run {t : TypeId} {cs cs' : List Value} {off : Nat} {v : Value} (hc : VRL X E cs cs') (h : partOf P t cs off = some v) :
    ∃ v', VR X E v v' ∧ (part t ⟨cs'⟩ off).run P w = .ok v' w := by
  unfold partOf at h
  cases ha : aggT P t with
  | none => rw [ha] at h; cases h
  | some b =>
    rw [ha] at h
    simp only [Option.bind_some] at h
    simp only [part, Sem.run_bind, r_isAgg w ha, Result.andThen]
    cases b with
    | true =>
      simp only [cond_true] at h
      cases hs : szOf P t with
      | none => rw [hs] at h; cases h
      | some n =>
        rw [hs] at h
        simp only [Option.bind_some, ble_dec] at h
        by_cases hl : Nat.add off n ≤ cs.length
        · rw [decide_eq_true hl, cond_true] at h
          cases h
          refine ⟨.agg ⟨(cs'.drop off).take n⟩, .agg ((hc.drop off).take n), ?_⟩
          simp only [if_true, Sem.run_bind, r_size w hs, Result.andThen, Sem.run_pure, extract_list]
          congr 4; omega
        · rw [decide_eq_false hl, cond_false] at h; cases h
    | false =>
      simp only [cond_false, nth_eq] at h
      obtain ⟨y, hy, hr⟩ := hc.get h
      refine ⟨y, hr, ?_⟩
      have : (Array.mk cs')[off]? = some y := by simpa using hy
      simp [this]
end

def PureOk (P : Program) (X : Nat → Option Value) (o : Op) (f : PureK) : Prop :=
  ∀ (E : Emb) (ρ ρr : Operand → Value), ER X E ρ ρr → (∀ x ∈ o.operands.toList, okOp x = true) → ∀ v, f P ρ = some v →
    ∀ (q : Oper), q.op = o → ∀ w, ∃ v', VR X E v v' ∧ (execOp ρr q).run P w = .ok (.value v') w

section
variable {P : Program} {X : Nat → Option Value}

/-- From what an operation's own Sem answers to 'execOp'. -/
theorem PureOk.of {o : Op} {f : PureK} {s : (Operand → Value) → Sem Value}
    (hs : ∀ (ρr : Operand → Value) (q : Oper), q.op = o → execOp ρr q = (do pure (.value (← s ρr))))
    (h : ∀ (E : Emb) (ρ ρr : Operand → Value), ER X E ρ ρr → (∀ x ∈ o.operands.toList, okOp x = true) → ∀ v, f P ρ = some v → ∀ w, ∃ v', VR X E v v' ∧ (s ρr).run P w = .ok v' w) : PureOk P X o f := by
  intro E ρ ρr hρ hok v hv q hq w
  obtain ⟨v', hr, hrun⟩ := h E ρ ρr hρ hok v hv w
  refine ⟨v', hr, ?_⟩
  rw [hs ρr q hq]
  simp [hrun, Result.andThen]

theorem ok_move (x : Operand) : PureOk P X (.move x) (pMove x) := by
  intro E ρ ρr hρ hok v hv q hq w
  obtain ⟨dst, op, type, pos, after, guard⟩ := q
  cases hq
  cases hv
  exact ⟨ρr x, hρ x (hok x (by simp [Op.operands])), rfl⟩
theorem ok_assign (x : Operand) : PureOk P X (.assign x) (pMove x) := by
  intro E ρ ρr hρ hok v hv q hq w
  obtain ⟨dst, op, type, pos, after, guard⟩ := q
  cases hq
  cases hv
  exact ⟨ρr x, hρ x (hok x (by simp [Op.operands])), rfl⟩
theorem VR.bool_inv {E : Emb} {b : Bool} {r : Value} (h : VR X E (.bool b) r) : r = .bool b := by cases h; rfl
theorem VR.int_inv {E : Emb} {k : IntKind} {n : Int} {r : Value} (h : VR X E (.int k n) r) : r = .int k n := by cases h; rfl
theorem VR.string_inv {E : Emb} {s : ByteArray} {r : Value} (h : VR X E (.string s) r) : r = .string s := by cases h; rfl
theorem VR.ptr_inv {E : Emb} {b o : Nat} {r : Value} (h : VR X E (.pointer (some ⟨b, o, none⟩)) r) : ∃ ad, E b = some ad ∧ r = .pointer (some ⟨ad.blk, ad.off + o, none⟩) := by
  cases h with | ptr h => exact ⟨_, h, rfl⟩
theorem VR.map_inv {E : Emb} {b : Nat} {r : Value} (h : VR X E (.map (some b)) r) : ∃ ad, E b = some ad ∧ r = .map (some ad.blk) := by
  cases h with | map h => exact ⟨_, h, rfl⟩

theorem ok_pick (c a b : Operand) : PureOk P X (.pick c a b) (pPick c a b) := by
  intro E ρ ρr hρ hok v hv q hq w
  obtain ⟨dst, op, type, pos, after, guard⟩ := q
  cases hq
  unfold pPick at hv
  have hc := hρ c (hok c (by simp [Op.operands]))
  have ha := hρ a (hok a (by simp [Op.operands]))
  have hb := hρ b (hok b (by simp [Op.operands]))
  generalize ρ c = vc at hv hc
  cases vc <;> simp only [reduceCtorEq, Option.some.injEq] at hv
  rename_i t
  subst hv
  have := hc.bool_inv
  cases t with
  | true => exact ⟨ρr a, ha, by simp [execOp, this, asBool, Result.andThen]⟩
  | false => exact ⟨ρr b, hb, by simp [execOp, this, asBool, Result.andThen]⟩

theorem ok_nil (x : Operand) : PureOk P X (.nilCheck x) (pNil x) := by
  intro E ρ ρr hρ hok v hv q hq w
  obtain ⟨dst, op, type, pos, after, guard⟩ := q
  cases hq
  unfold pNil at hv
  have hx := hρ x (hok x (by simp [Op.operands]))
  generalize ρ x = vx at hv hx
  generalize hr : ρr x = rx at hx
  split at hv
  · cases hv
    obtain ⟨ad, h1, h2⟩ := hx.ptr_inv
    exact ⟨_, .ptr h1, by simp [execOp, hr, h2]⟩
  · cases hv
    cases hx with
    | func h1 h2 => exact ⟨_, .func h1 h2, by simp [execOp, hr]⟩
  · cases hv
    cases hx with
    | yield h => exact ⟨_, .yield h, by simp [execOp, hr]⟩
  · cases hv

theorem slcRel {E : Emb} {a : Addr} {n c : Nat} {r : Value} (h : VR X E (.slice (some a) n c) r) : ∃ a' c', r = .slice (some a') n c' := by
  cases h <;> exact ⟨_, _, rfl⟩

theorem equal_nil_at {E : Emb} (d : Nat) {t : TypeId} {x y xr yr : Value} {b : Bool} (w : World) (hx : VR X E x xr) (hy : VR X E y yr) (h : nilEq P t x y = some b) :
    (Op.equalIn (d + 1) t xr yr).run P w = .ok b w := by
  unfold nilEq at h
  split at h
  · rename_i e hu
    unfold ptrEq at h
    split at h <;> cases h
    · cases hx; cases hy; simp [Op.equalIn, r_under w hu, Result.andThen]
    · cases hx
      obtain ⟨ad, _, rfl⟩ := hy.ptr_inv
      simp [Op.equalIn, r_under w hu, Result.andThen]
    · cases hy
      obtain ⟨ad, _, rfl⟩ := hx.ptr_inv
      simp [Op.equalIn, r_under w hu, Result.andThen]
  · rename_i e hu
    unfold slcEq at h
    split at h <;> cases h
    · cases hx
      rename_i n c a n' c'
      cases a with
      | none => cases hy; simp [Op.equalIn, r_under w hu, Result.andThen]
      | some a => obtain ⟨_, _, rfl⟩ := slcRel hy; simp [Op.equalIn, r_under w hu, Result.andThen]
    · cases hy
      obtain ⟨_, _, rfl⟩ := slcRel hx
      simp [Op.equalIn, r_under w hu, Result.andThen]
  · rename_i k e hu
    unfold mapEq at h
    split at h <;> cases h
    · cases hx
      rename_i m
      cases m with
      | none => cases hy; simp [Op.equalIn, r_under w hu, Result.andThen]
      | some a => obtain ⟨_, _, rfl⟩ := hy.map_inv; simp [Op.equalIn, r_under w hu, Result.andThen]
    · cases hy
      obtain ⟨_, _, rfl⟩ := hx.map_inv
      simp [Op.equalIn, r_under w hu, Result.andThen]
  · cases h

theorem equal_nil {E : Emb} {t : TypeId} {x y xr yr : Value} {b : Bool} (w : World) (hx : VR X E x xr) (hy : VR X E y yr) (h : nilEq P t x y = some b) :
    (Op.equal t xr yr).run P w = .ok b w := equal_nil_at 9999 w hx hy h

theorem nilEq_real {E : Emb} {t : TypeId} {x y xr yr : Value} {b : Bool} (hx : VR X E x xr) (hy : VR X E y yr) (h : nilEq P t x y = some b) :
    (∃ a, xr = .pointer a) ∧ (∃ a, yr = .pointer a) ∨ (∃ a n c, xr = .slice a n c) ∧ (∃ a n c, yr = .slice a n c) ∨ (∃ a, xr = .map a) ∧ (∃ a, yr = .map a) := by
  unfold nilEq at h
  split at h
  · unfold ptrEq at h
    split at h <;> cases h
    · cases hx; cases hy; exact .inl ⟨⟨_, rfl⟩, ⟨_, rfl⟩⟩
    · cases hx; obtain ⟨_, _, rfl⟩ := hy.ptr_inv; exact .inl ⟨⟨_, rfl⟩, ⟨_, rfl⟩⟩
    · cases hy; obtain ⟨_, _, rfl⟩ := hx.ptr_inv; exact .inl ⟨⟨_, rfl⟩, ⟨_, rfl⟩⟩
  · unfold slcEq at h
    split at h <;> cases h
    · cases hx
      rename_i a n' c'
      cases a with
      | none => cases hy; exact .inr (.inl ⟨⟨_, _, _, rfl⟩, ⟨_, _, _, rfl⟩⟩)
      | some a => obtain ⟨_, _, rfl⟩ := slcRel hy; exact .inr (.inl ⟨⟨_, _, _, rfl⟩, ⟨_, _, _, rfl⟩⟩)
    · cases hy
      obtain ⟨_, _, rfl⟩ := slcRel hx
      exact .inr (.inl ⟨⟨_, _, _, rfl⟩, ⟨_, _, _, rfl⟩⟩)
  · unfold mapEq at h
    split at h <;> cases h
    · cases hx
      rename_i m
      cases m with
      | none => cases hy; exact .inr (.inr ⟨⟨_, rfl⟩, ⟨_, rfl⟩⟩)
      | some a => obtain ⟨_, _, rfl⟩ := hy.map_inv; exact .inr (.inr ⟨⟨_, rfl⟩, ⟨_, rfl⟩⟩)
    · cases hy
      obtain ⟨_, _, rfl⟩ := hx.map_inv
      exact .inr (.inr ⟨⟨_, rfl⟩, ⟨_, rfl⟩⟩)
  · cases h

theorem ok_bin (op : BinOp) (t : TypeId) (x y : Operand) (yt : TypeId) : PureOk P X (.binOp op t x y yt) (pBin op t x y) := by
  intro E ρ ρr hρ hok v hv q hq w
  obtain ⟨dst, o, type, pos, after, guard⟩ := q
  cases hq
  unfold pBin at hv
  have hx := hρ x (hok x (by simp [Op.operands]))
  have hy := hρ y (hok y (by simp [Op.operands]))
  generalize ρ x = vx at hv hx
  generalize ρ y = vy at hv hy
  unfold evBin at hv
  split at hv
  · rename_i k a
    have ex := hx.int_inv
    split at hv
    · rename_i k' b
      have ey := hy.int_inv
      refine ⟨v, ?_, ?_⟩
      · split at hv
        · rename_i f hs
          cases op <;> simp only [shiftOp, reduceCtorEq, Option.some.injEq] at hs <;> subst hs
          · cases b <;> simp only [oShl, reduceCtorEq, Option.some.injEq] at hv; subst hv; exact .int _ _
          · cases b <;> simp only [oShr, reduceCtorEq] at hv
            cases a <;> simp only [Option.some.injEq] at hv <;> subst hv <;> exact .int _ _
        · cases hk : keq k k' with
          | false => rw [hk] at hv; cases hv
          | true =>
            rw [hk, cond_true] at hv
            cases op <;> simp only [intOp, oAdd, oSub, oMul, oQuo, oRem, oAnd, oOr, oXor, oEql, oNeq, oLss, oLeq, oGtr, oGeq, oNone, reduceCtorEq, Option.some.injEq] at hv <;>
              first
                | (subst hv; first | exact .int _ _ | exact .bool _)
                | (generalize ieq b 0 = z at hv; cases z <;> simp only [cond_true, cond_false, reduceCtorEq, Option.some.injEq] at hv; subst hv; exact .int _ _)
      · have hg : (eqGuard op t x y (ρr x) (ρr y)).run P w = .ok () w := by
          rw [ex, ey]
          unfold eqGuard
          cases op <;> rfl
        have hb : (binOp op t (ρr x) (ρr y)).run P w = .ok v w := by
          rw [ex, ey]
          split at hv
          · rename_i f hs
            exact shiftOp_run w t hs hv
          · rename_i hs
            cases hk : keq k k' with
            | false => rw [hk] at hv; cases hv
            | true =>
              rw [hk, cond_true] at hv
              cases keq_eq hk
              exact intOp_run w t hs hv
        simp [execOp, hg, hb, Result.andThen]
    · cases hv
  · unfold binRest eqRes at hv
    have key : ∀ bb, nilEq P t vx vy = some bb → (op = .eql ∨ op = .neq) →
        (eqGuard op t x y (ρr x) (ρr y)).run P w = .ok () w ∧ (binOp .eql t (ρr x) (ρr y)).run P w = .ok (.bool bb) w ∧ (binOp .neq t (ρr x) (ρr y)).run P w = .ok (.bool (!bb)) w := by
      intro bb hbb hop
      have heq := equal_nil w hx hy hbb
      rcases nilEq_real hx hy hbb with ⟨⟨a, ea⟩, ⟨b, eb⟩⟩ | ⟨⟨a, n, c, ea⟩, ⟨b, n', c', eb⟩⟩ | ⟨⟨a, ea⟩, ⟨b, eb⟩⟩ <;>
        (rw [ea, eb] at heq ⊢
         refine ⟨?_, ?_, ?_⟩
         · rcases hop with rfl | rfl <;> rfl
         · simp [binOp, heq, Result.andThen]
         · simp [binOp, heq, Result.andThen])
    split at hv
    · cases hn : nilEq P t vx vy with
      | none => rw [hn] at hv; cases hv
      | some bb =>
        rw [hn] at hv
        cases hv
        obtain ⟨hg, h1, _⟩ := key bb hn (.inl rfl)
        exact ⟨_, .bool _, by simp [execOp, hg, h1, Result.andThen]⟩
    · cases hn : nilEq P t vx vy with
      | none => rw [hn] at hv; cases hv
      | some bb =>
        rw [hn] at hv
        cases hv
        obtain ⟨hg, _, h1⟩ := key bb hn (.inr rfl)
        exact ⟨_, .bool _, by simp [execOp, hg, h1, Result.andThen]⟩
    · cases hv
end
end Go.Abs
