/-
  THE EVALUATOR's SOUNDNESS, 2: the operations that look at their operands alone.
-/
import Derived.Test.YtecogacajmimhaaGreatDoorA1
import Derived.Laws.Sem
import Derived.Laws.Cells
namespace Go.Abs

/-! ## Numbers -/
theorem blt_dec (a b : Nat) : Nat.blt a b = decide (a < b) := by
  cases h : Nat.blt a b with
  | true => rw [Nat.blt_eq] at h; simp [h]
  | false =>
    have : ¬ a < b := fun hh => by rw [← Nat.blt_eq] at hh; rw [hh] at h; cases h
    simp [this]
theorem ble_dec (a b : Nat) : Nat.ble a b = decide (a ≤ b) := by
  cases h : Nat.ble a b with
  | true => have := Nat.le_of_ble_eq_true h; simp [this]
  | false =>
    have : ¬ a ≤ b := fun hh => by rw [Nat.ble_eq_true_of_le hh] at h; cases h
    simp [this]
theorem beq_dec (a b : Nat) : Nat.beq a b = decide (a = b) := by
  cases h : Nat.beq a b with
  | true => have := Nat.eq_of_beq_eq_true h; simp [this]
  | false => have := Nat.ne_of_beq_eq_false h; simp [this]
theorem ilt_eq (x y : Int) : ilt x y = decide (x < y) := by
  cases x <;> cases y <;> simp only [ilt, blt_dec, decide_eq_decide, Int.ofNat_eq_natCast, Bool.false_eq, decide_eq_false_iff_not, Bool.true_eq, decide_eq_true_eq] <;> omega
theorem ieq_eq (x y : Int) : ieq x y = (x == y) := by
  rw [show (x == y) = decide (x = y) from rfl]
  cases x <;> cases y <;> simp only [ieq, beq_dec, decide_eq_decide, Int.ofNat_eq_natCast, Bool.false_eq, decide_eq_false_iff_not] <;> omega
theorem keq_eq {a b : IntKind} (h : keq a b = true) : a = b := by
  cases a <;> cases b <;> first | rfl | (simp [keq, knum] at h)
theorem keq_self (a : IntKind) : keq a a = true := by cases a <;> rfl

theorem wrap64_in (n : Int) (h1 : -9223372036854775808 ≤ n) (h2 : n < 9223372036854775808) : IntKind.wrap .i64 n = n := by
  have e1 : ((2 : Int) ^ IntKind.bits .i64) = 18446744073709551616 := by decide
  have e2 : ((2 : Int) ^ (IntKind.bits .i64 - 1)) = 9223372036854775808 := by decide
  unfold IntKind.wrap
  rw [e1, e2]
  simp only [IntKind.signed, Bool.true_and, ge_iff_le, decide_eq_true_eq]
  split <;> omega
theorem wrapU_in (k : IntKind) (m N : Nat) (hs : k.signed = false) (hN : (2 : Int) ^ k.bits = (N : Int)) : k.wrap (Int.ofNat m) = Int.ofNat (m % N) := by
  unfold IntKind.wrap
  rw [hs, hN]
  simp only [Bool.false_and, Bool.false_eq_true, if_false]
  exact (Int.natCast_emod m N).symm
theorem pow_u64 : (2 : Int) ^ IntKind.bits .u64 = ((18446744073709551616 : Nat) : Int) := by decide
theorem pow_u32 : (2 : Int) ^ IntKind.bits .u32 = ((4294967296 : Nat) : Int) := by decide
theorem pow_u8 : (2 : Int) ^ IntKind.bits .u8 = ((256 : Nat) : Int) := by decide
theorem wr64_nat (m : Nat) : (bif Nat.blt m 9223372036854775808 then Int.ofNat m else IntKind.wrap .i64 (.ofNat m)) = IntKind.wrap .i64 (.ofNat m) := by
  rw [blt_dec]
  by_cases h : m < 9223372036854775808
  · rw [decide_eq_true h, cond_true, show (Int.ofNat m) = (m : Int) from rfl, wrap64_in (m : Int) (by omega) (by omega)]
  · rw [decide_eq_false h, cond_false]
theorem wr64_neg (m : Nat) : (bif Nat.blt m 9223372036854775808 then Int.negSucc m else IntKind.wrap .i64 (.negSucc m)) = IntKind.wrap .i64 (.negSucc m) := by
  rw [blt_dec]
  by_cases h : m < 9223372036854775808
  · rw [decide_eq_true h, cond_true, wrap64_in (Int.negSucc m) (by omega) (by omega)]
  · rw [decide_eq_false h, cond_false]
theorem wr_eq : ∀ (k : IntKind) (n : Int), wr k n = k.wrap n
  | .i64, .ofNat m => wr64_nat m
  | .i64, .negSucc m => wr64_neg m
  | .u64, .ofNat m => (wrapU_in .u64 m _ rfl pow_u64).symm
  | .u32, .ofNat m => (wrapU_in .u32 m _ rfl pow_u32).symm
  | .u8, .ofNat m => (wrapU_in .u8 m _ rfl pow_u8).symm
  | .u64, .negSucc _ => rfl
  | .u32, .negSucc _ => rfl
  | .u8, .negSucc _ => rfl
  | .i8, _ => rfl
  | .i16, _ => rfl
  | .i32, _ => rfl
  | .u16, _ => rfl

theorem bitsOf_eq (k : IntKind) (n : Int) : bitsOf k n = (BitVec.ofInt k.bits n).toNat := by
  rw [BitVec.toNat_ofInt]
  cases n with
  | ofNat m =>
    show m % 2 ^ k.bits = _
    rw [show (Int.ofNat m : Int) = (m : Int) from rfl, ← Int.natCast_emod]; try rfl
  | negSucc m =>
    show 2 ^ k.bits - (m % 2 ^ k.bits + 1) = _
    have hpos : 0 < 2 ^ k.bits := Nat.two_pow_pos _
    have hlt := Nat.mod_lt m hpos
    generalize 2 ^ k.bits = N at *
    have : (Int.negSucc m) % (N : Int) = ((N - (m % N + 1) : Nat) : Int) := by
      rw [show Int.negSucc m % (N : Int) = Int.subNatNat N (m % N + 1) from rfl, Int.subNatNat_of_le (by omega)]
    rw [this]; rfl

theorem fdiv_ofNat (m N : Nat) : (Int.ofNat m).fdiv (N : Int) = Int.ofNat (m / N) := by
  rw [Int.fdiv_eq_ediv_of_nonneg _ (by omega)]; rfl
theorem fdiv_negSucc (m N : Nat) (h : 0 < N) : (Int.negSucc m).fdiv (N : Int) = Int.negSucc (m / N) := by
  obtain ⟨N, rfl⟩ : ∃ M, N = M + 1 := ⟨N - 1, by omega⟩
  rfl
section
variable {P : Program} (w : World)

theorem intOp_run {op : BinOp} {k : IntKind} {a b : Int} {v : Value} (t : TypeId) (hs : shiftOp op = none) (h : intOp op k a b = some v) :
    (binOp op t (.int k a) (.int k b)).run P w = .ok v w := by
  have ha : (BitVec.ofInt k.bits a).toNat = bitsOf k a := (bitsOf_eq k a).symm
  have hb : (BitVec.ofInt k.bits b).toNat = bitsOf k b := (bitsOf_eq k b).symm
  cases op <;> simp only [shiftOp, reduceCtorEq] at hs <;>
    simp only [intOp, oAdd, oSub, oMul, oQuo, oRem, oAnd, oOr, oXor, oEql, oNeq, oLss, oLeq, oGtr, oGeq, oNone, reduceCtorEq, Option.some.injEq, ilt_eq, ieq_eq] at h
  case quo =>
    by_cases hz : b = 0
    · subst hz; simp at h
    · rw [show (b == 0) = false from by simp [hz]] at h
      simp only [cond_false, Option.some.injEq] at h
      subst h
      simp [binOp, Op.intDiv, hz, wr_eq]
  case rem =>
    by_cases hz : b = 0
    · subst hz; simp at h
    · rw [show (b == 0) = false from by simp [hz]] at h
      simp only [cond_false, Option.some.injEq] at h
      subst h
      simp [binOp, Op.intDiv, hz]
  case add => subst h; simp only [binOp, Op.intArith, wr_eq, ne_eq, not_true_eq_false, if_false, Sem.run_pure]; rfl
  case sub => subst h; simp only [binOp, Op.intArith, wr_eq, ne_eq, not_true_eq_false, if_false, Sem.run_pure]; rfl
  case mul => subst h; simp only [binOp, Op.intArith, wr_eq, ne_eq, not_true_eq_false, if_false, Sem.run_pure]; rfl
  case and => subst h; simp only [binOp, Op.intBits, wr_eq, BitVec.toNat_and, ha, hb, ne_eq, not_true_eq_false, if_false, Sem.run_pure]; rfl
  case or => subst h; simp only [binOp, Op.intBits, wr_eq, BitVec.toNat_or, ha, hb, ne_eq, not_true_eq_false, if_false, Sem.run_pure]; rfl
  case xor => subst h; simp only [binOp, Op.intBits, wr_eq, BitVec.toNat_xor, ha, hb, ne_eq, not_true_eq_false, if_false, Sem.run_pure]; rfl
  case eql => subst h; simp [binOp, Op.intCmp]
  case neq => subst h; simp only [binOp, Op.intCmp, ne_eq, not_true_eq_false, if_false, Sem.run_pure]; rfl
  case lss => subst h; simp [binOp, Op.intCmp]
  case leq => subst h; simp only [binOp, Op.intCmp, ne_eq, not_true_eq_false, if_false, Sem.run_pure, ← decide_not, Int.not_lt]
  case gtr => subst h; simp [binOp, Op.intCmp]
  case geq => subst h; simp only [binOp, Op.intCmp, ne_eq, not_true_eq_false, if_false, Sem.run_pure, ge_iff_le, ← decide_not, Int.not_lt]

theorem shiftOp_run {op : BinOp} {f : IntOp} {k k' : IntKind} {a b : Int} {v : Value} (t : TypeId) (hs : shiftOp op = some f) (h : f k a b = some v) :
    (binOp op t (.int k a) (.int k' b)).run P w = .ok v w := by
  have hmin : ∀ c : Nat, (bif Nat.ble c k.bits then c else k.bits) = min c k.bits := by
    intro c
    cases hc : Nat.ble c k.bits with
    | true => have := Nat.le_of_ble_eq_true hc; simp; omega
    | false =>
      have : ¬ c ≤ k.bits := fun hh => by rw [Nat.ble_eq_true_of_le hh] at hc; cases hc
      simp; omega
  cases op <;> simp only [shiftOp, reduceCtorEq, Option.some.injEq] at hs <;> subst hs
  case shl =>
    cases b with
    | negSucc c => simp [oShl] at h
    | ofNat c =>
      simp only [oShl, Option.some.injEq, hmin] at h
      subst h
      have hn : ¬ (Int.ofNat c < 0) := by simp
      simp only [binOp, Op.shift, hn, if_false, Sem.run_pure, wr_eq]
      have : (Int.ofNat (Nat.pow 2 (min c k.bits)) : Int) = 2 ^ (min c k.bits) := by
        show ((2 ^ (min c k.bits) : Nat) : Int) = _
        exact Int.natCast_pow 2 _
      rw [show (Int.ofNat c).toNat = c from rfl, ← this]; rfl
  case shr =>
    cases b with
    | negSucc c => simp [oShr] at h
    | ofNat c =>
      have hn : ¬ (Int.ofNat c < 0) := by simp
      have hp : ((2 : Int) ^ (min c k.bits)) = ((2 ^ (min c k.bits) : Nat) : Int) := (Int.natCast_pow 2 _).symm
      cases a with
      | ofNat m =>
        simp only [oShr, Option.some.injEq, hmin] at h
        subst h
        simp only [binOp, Op.shift, hn, if_false, Sem.run_pure]
        congr 2
        rw [show (Int.ofNat c).toNat = c from rfl, hp]
        exact fdiv_ofNat _ _
      | negSucc m =>
        simp only [oShr, Option.some.injEq, hmin] at h
        subst h
        simp only [binOp, Op.shift, hn, if_false, Sem.run_pure]
        congr 2
        rw [show (Int.ofNat c).toNat = c from rfl, hp]
        exact fdiv_negSucc _ _ (Nat.two_pow_pos _)
end
end Go.Abs
