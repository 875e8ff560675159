/-
  Contracts: numbers of bits, subnormal numbers, flushing, and the laws' own comparison of floats. Condition: bits fit the kind.
-/
import Derived.Test.YtmiajfdhdpmeoaaGreatDoorCb
namespace Go.Proofs.YtmiajfdhdpmeoaaGreatDoor
open Go.RowKit Ieee

theorem i64_and_nat (a b : Nat) (ha : a < 9223372036854775808) (hb : b < 9223372036854775808) : bits .and .i64 (a : Int) (b : Int) = ((a &&& b : Nat) : Int) := by
  have hx : a &&& b < 2 ^ 63 := Nat.and_lt_two_pow _ (by omega)
  show IntKind.i64.wrap ((BitVec.ofInt 64 (a : Int) &&& BitVec.ofInt 64 (b : Int)).toNat : Int) = _
  rw [BitVec.toNat_and, ofInt_u64 a (by omega), ofInt_u64 b (by omega), IntKind.wrap_i64]
  omega

/-! ### Bounds of integers -/
theorem impl_within (n lo hi : Int) (w : World) : Calls Tryz.prog 41 #[.int .i64 n, .int .i64 lo, .int .i64 hi] w fun e w' => e = .returned (.bool (decide (lo ≤ n) && decide (n ≤ hi))) ∧ w = w' := by
  by_cases h1 : lo ≤ n
  · by_cases h2 : n ≤ hi
    · go_enter Tryz.func41, Tryz.ntmps41
      go_wp2
      go_ret
      exact ⟨ret_bool (by simp [h1, h2]), rfl⟩
    · go_enter Tryz.func41, Tryz.ntmps41
      go_wp2
      go_ret
      exact ⟨ret_bool (by simp [h2]), rfl⟩
  · go_enter Tryz.func41, Tryz.ntmps41
    go_wp2
    go_ret
    exact ⟨ret_bool (by rw [decide_eq_false (show ¬ lo ≤ n by omega), Bool.false_and]), rfl⟩

/-! ### Numbers of bits -/
theorem spec_l01From (n : Int) (w : World) : Calls Tryz.prog 39 #[.int .i64 n] w fun e w' => e = .returned (.float .f32 (n % 4294967296).toNat) ∧ w = w' := by
  go_enter Tryz.func39, Tryz.ntmps39
  go_wp2
  go_ret
  exact ⟨rfl, rfl⟩

def fromB (n : Int) : Nat × Bool := if 0 ≤ n ∧ n ≤ 4294967295 then (n.toNat, true) else (0, false)
theorem impl_FromBits (n : Int) (w : World) : Calls Tryz.prog 19 #[.int .i64 n] w fun e w' => e = .returned (.tuple #[.float .f32 (fromB n).1, .bool (fromB n).2]) ∧ w = w' := by
  by_cases h : 0 ≤ n ∧ n ≤ 4294967295
  · have hb : (decide (0 ≤ n) && decide (n ≤ 4294967295)) = true := by simp [h.1, h.2]
    obtain ⟨h1, h2⟩ := h
    go_enter Tryz.func19, Tryz.ntmps19
    go_wp2_with (go_at_call 41; refine (impl_within _ _ _ _).mono ?_; rw [hb]; rintro e w' ⟨rfl, rfl⟩)
    go_ret2
    rw [show fromB n = (n.toNat, true) by unfold fromB; rw [if_pos ⟨h1, h2⟩]]
    exact ⟨rfl, rfl⟩
  · have hb : (decide (0 ≤ n) && decide (n ≤ 4294967295)) = false := by
      rw [Bool.and_eq_false_iff, decide_eq_false_iff_not, decide_eq_false_iff_not]; omega
    go_enter Tryz.func19, Tryz.ntmps19
    go_wp2_with (go_at_call 41; refine (impl_within _ _ _ _).mono ?_; rw [hb]; rintro e w' ⟨rfl, rfl⟩)
    go_ret2
    rw [show fromB n = (0, false) by unfold fromB; rw [if_neg h]]
    exact ⟨rfl, rfl⟩

/-! ### The laws' comparison -/
/-! ### Subnormal numbers -/
theorem ord_lt {a b : Nat} (ha : (single.read a).isNaN = false) (hb : (single.read b).isNaN = false) (h : sr single a < sr single b) : FloatKind.f32.format.order a b = some .lt := by
  rw [show FloatKind.f32.format = single from rfl, order_sr single (by decide) a b ha hb, compare_int, if_pos h]
theorem ord_eq {a b : Nat} (ha : (single.read a).isNaN = false) (hb : (single.read b).isNaN = false) (h : sr single a = sr single b) : FloatKind.f32.format.order a b = some .eq := by
  rw [show FloatKind.f32.format = single from rfl, order_sr single (by decide) a b ha hb, compare_int, if_neg (by omega), if_pos h]
theorem ord_gt {a b : Nat} (ha : (single.read a).isNaN = false) (hb : (single.read b).isNaN = false) (h : sr single b < sr single a) : FloatKind.f32.format.order a b = some .gt := by
  rw [show FloatKind.f32.format = single from rfl, order_sr single (by decide) a b ha hb, compare_int, if_neg (by omega), if_neg (by omega)]

/-- The bits of a subnormal number (no zero). -/
def subB (x : Nat) : Bool := decide (0 < x % 2147483648 ∧ x % 2147483648 < 8388608)

theorem nan_rung {x : Nat} (h : fv .f32 x = none) : 2139095040 < x % 2147483648 := by
  unfold fv at h
  split at h
  · rename_i hn
    have hn' : (single.read x).isNaN = true := hn
    have e1 : single.binade = 8388608 := by decide
    have e2 : single.signWeight = 2147483648 := by decide
    have e3 : single.infRung = 2139095040 := by decide
    unfold Format.read at hn'
    simp only [e1, e2, e3] at hn'
    split at hn'
    · cases hn'
    · split at hn'
      · cases hn'
      · split at hn'
        · cases hn'
        · omega
  · cases h

theorem and_mask (x a b : Nat) : x &&& ((2 ^ a - 1) * 2 ^ b) = x / 2 ^ b % 2 ^ a * 2 ^ b := by
  apply Nat.eq_of_testBit_eq
  intro i
  rw [Nat.testBit_and, Nat.testBit_mul_two_pow, Nat.testBit_mul_two_pow, Nat.testBit_two_pow_sub_one, Nat.testBit_mod_two_pow, Nat.testBit_div_two_pow]
  by_cases h : b ≤ i
  · rw [show i - b + b = i by omega, Bool.and_comm]
    simp only [h, decide_true, Bool.true_and]
  · simp [h]
theorem mask_exp (x : Nat) : x &&& 2139095040 = x / 8388608 % 256 * 8388608 := by
  have e := and_mask x 8 23
  have e1 : (2 ^ 8 - 1) * 2 ^ 23 = 2139095040 := by decide
  have e2 : (2 : Nat) ^ 23 = 8388608 := by decide
  have e3 : (2 : Nat) ^ 8 = 256 := by decide
  rw [e1, e2, e3] at e
  exact e
theorem cast_exp : (2139095040 : Int) = ((2139095040 : Nat) : Int) := rfl
theorem and_exp (x : Nat) (hx : x < 4294967296) : bits .and .i64 (x : Int) 2139095040 = ((x / 8388608 % 256 * 8388608 : Nat) : Int) := by
  rw [cast_exp, ← mask_exp]
  generalize hm : 2139095040 = m
  exact i64_and_nat x m (by omega) (by omega)

theorem and_nan : bits .and .i64 2143289344 2139095040 = 2139095040 := by
  have h := and_exp 2143289344 (by omega)
  rw [show (2143289344 / 8388608 % 256 * 8388608 : Nat) = 2139095040 by omega] at h
  exact h
theorem sub_exp (x : Nat) (_ : x < 4294967296) (hz : ¬ x % 2147483648 = 0) : ((((x / 8388608 % 256 * 8388608 : Nat) : Int)) == 0) = subB x := by
  have e : (x / 8388608 % 256 * 8388608 = 0) ↔ x % 2147483648 < 8388608 := by
    rw [Nat.mul_eq_zero]
    constructor
    · intro h
      rcases h with h | h <;> omega
    · intro h
      left; omega
  unfold subB
  rw [Bool.eq_iff_iff, beq_iff_eq, decide_eq_true_eq, Int.natCast_eq_zero, e]
  omega

end Go.Proofs.YtmiajfdhdpmeoaaGreatDoor
