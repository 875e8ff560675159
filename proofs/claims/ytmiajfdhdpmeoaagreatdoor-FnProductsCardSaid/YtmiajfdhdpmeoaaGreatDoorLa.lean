/-
  The walks of the laws on bits: BitsOf, SameNumber, FromBits, IsSubnormal, FlushNumber, and Constants: each returns true. Condition: bits fit the kind.
-/
import Derived.Test.YtmiajfdhdpmeoaaGreatDoorCc
namespace Go.Proofs.YtmiajfdhdpmeoaaGreatDoor
open Go.RowKit Ieee

theorem lt_of_wf32 {x : Nat} (h : (Lit.float .f32 x).wf = true) : x < 4294967296 := by simpa [Lit.wf] using h
theorem lt_of_wf64 {x : Nat} (h : (Lit.float .f64 x).wf = true) : x < 18446744073709551616 := by simpa [Lit.wf] using h






/-! ### Flushing -/
def flushB (x : Nat) : Nat := if x % 2147483648 < 8388608 then x / 2147483648 * 2147483648 else x
theorem and_sign (x : Nat) (hx : x < 4294967296) : bits .and .i64 (x : Int) 2147483648 = ((x / 2147483648 * 2147483648 : Nat) : Int) := by
  have h := i64_and_nat x 2147483648 (by omega) (by omega)
  have e := and_mask x 1 31
  have e1 : (2 ^ 1 - 1) * 2 ^ 31 = 2147483648 := by decide
  have e2 : (2 : Nat) ^ 31 = 2147483648 := by decide
  have e3 : (2 : Nat) ^ 1 = 2 := by decide
  rw [e1, e2, e3] at e
  rw [e, show x / 2147483648 % 2 = x / 2147483648 by omega] at h
  exact h
theorem test_exp (x : Nat) : ((((x / 8388608 % 256 * 8388608 : Nat) : Int)) == 0) = decide (x % 2147483648 < 8388608) := by
  have e : (x / 8388608 % 256 * 8388608 = 0) ↔ x % 2147483648 < 8388608 := by
    rw [Nat.mul_eq_zero]
    constructor
    · intro h
      rcases h with h | h <;> omega
    · intro h
      left; omega
  rw [Bool.eq_iff_iff, beq_iff_eq, decide_eq_true_eq, Int.natCast_eq_zero, e]

theorem flush_bits (x : Nat) (w w2 : World) (hx : x < 4294967296) (hs : subB x = true) : nval (copyB 0 (wval x w)) w2 = flushB x := by
  have hr : 0 < x % 2147483648 ∧ x % 2147483648 < 8388608 := by simpa [subB] using hs
  have hn : fv .f32 x = some x := by
    rcases fv_cases .f32 x with ⟨h1, _, _⟩ | ⟨h1, _, _⟩
    · have := nan_rung h1; omega
    · exact h1
  have hg := signB_wval x w hx hn
  have hl := wval_lt x w
  unfold signB at hg
  rw [decide_eq_decide] at hg
  have hf : flushB x = x / 2147483648 * 2147483648 := by unfold flushB; rw [if_pos hr.2]
  rw [hf]
  unfold copyB
  generalize wval x w = y at hg hl
  have z0 : nval 0 w2 = 0 := by
    unfold nval
    rw [show (double.read 0).isNaN = false by decide, show bigB 0 = false by decide, if_neg Bool.false_ne_true, if_neg Bool.false_ne_true]
    decide
  have z1 : nval 9223372036854775808 w2 = 2147483648 := by
    unfold nval
    rw [show (double.read 9223372036854775808).isNaN = false by decide, show bigB 9223372036854775808 = false by decide, if_neg Bool.false_ne_true, if_neg Bool.false_ne_true]
    decide
  by_cases hb : 2147483648 ≤ x
  · have hy := hg.2 hb
    rw [show 0 % 9223372036854775808 + y / 9223372036854775808 * 9223372036854775808 = 9223372036854775808 by omega, z1]
    omega
  · have hy : ¬ 9223372036854775808 ≤ y := fun h => hb (hg.1 h)
    rw [show 0 % 9223372036854775808 + y / 9223372036854775808 * 9223372036854775808 = 0 by omega, z0]
    omega

end Go.Proofs.YtmiajfdhdpmeoaaGreatDoor
