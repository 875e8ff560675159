/-
  The walks of the laws on bits: BitsOf, SameNumber, FromBits, IsSubnormal, FlushNumber, and Constants: each returns true. Condition: bits fit the kind.
-/
import Derived.Test.YtfpljaffhbfiaaaCc
namespace Go.Proofs.Ytfpljaffhbfiaaa
open Go.RowKit Ieee

theorem lt_of_wf32 {x : Nat} (h : (Lit.float .f32 x).wf = true) : x < 4294967296 := by simpa [Lit.wf] using h
theorem lt_of_wf64 {x : Nat} (h : (Lit.float .f64 x).wf = true) : x < 18446744073709551616 := by simpa [Lit.wf] using h

theorem law_FnExactConstants (w : World) : Calls Try.prog 3 #[] w fun e w' => e = .returned (.bool true) ∧ Grown w w' := by
  go_enter Try.func3, Try.ntmps3
  go_wp2
  go_ret
  exact ⟨rfl, Grown.refl _⟩

theorem spec_BitsOf (x : Nat) (w : World) (hx : x < 4294967296) : Calls Try.prog 23 #[.float .f32 x] w fun e w' => e = .returned (.int .i64 (bitsI x)) ∧ w = w' := by
  go_enter Try.func23, Try.ntmps23
  go_wp2_with (go_at_call 53; refine (spec_l01Bits _ _ hx).mono ?_; rintro e w' ⟨rfl, rfl⟩)
  go_ret
  exact ⟨rfl, rfl⟩
theorem law_FnExactBitsOf (x : Nat) (w : World) (hw : (Lit.float .f32 x).wf = true) : Calls Try.prog 6 #[.float .f32 x] w fun e w' => e = .returned (.bool true) ∧ Grown w w' := by
  have hx := lt_of_wf32 hw
  clear hw
  go_enter Try.func6, Try.ntmps6
  go_wp2_with (first | (go_at_call 23; refine (spec_BitsOf _ _ hx).mono ?_; rintro e w' ⟨rfl, rfl⟩) | (go_at_call 24; refine (impl_BitsOf _ _ hx).mono ?_; rintro e w' ⟨rfl, rfl⟩))
  go_ret
  exact ⟨rfl, Grown.refl _⟩

theorem spec_SameNumber (x y : Nat) (w : World) (hx : x < 4294967296) (hy : y < 4294967296) : Calls Try.prog 28 #[.float .f32 x, .float .f32 y] w fun e w' => e = .returned (.bool (bitsI x == bitsI y)) ∧ w = w' := by
  go_enter Try.func28, Try.ntmps28
  go_wp2_with (go_at_call 56; refine (spec_l01Same _ _ _ hx hy).mono ?_; rintro e w' ⟨rfl, rfl⟩)
  go_ret
  exact ⟨rfl, rfl⟩
theorem law_FnExactSameNumber (x y : Nat) (w : World) (hw : (Lit.float .f32 x).wf = true) (hv : (Lit.float .f32 y).wf = true) : Calls Try.prog 8 #[.float .f32 x, .float .f32 y] w fun e w' => e = .returned (.bool true) ∧ Grown w w' := by
  have hx := lt_of_wf32 hw
  have hy := lt_of_wf32 hv
  clear hw hv
  generalize hb : (bitsI x == bitsI y) = b
  have H := Lib.hid hb
  clear hb
  cases b
  all_goals
    go_enter Try.func8, Try.ntmps8
    go_wp2_with (first | (go_at_call 28; refine (spec_SameNumber _ _ _ hx hy).mono ?_; rw [H.out]; rintro e w' ⟨rfl, rfl⟩) | (go_at_call 29; refine (impl_SameNumber _ _ _ hx hy).mono ?_; rw [H.out]; rintro e w' ⟨rfl, n, rfl⟩))
    go_ret
    exact ⟨rfl, grown_draw _ _⟩

theorem law_FnExactIsSubnormal (x : Nat) (w : World) (hw : (Lit.float .f32 x).wf = true) : Calls Try.prog 5 #[.float .f32 x] w fun e w' => e = .returned (.bool true) ∧ Grown w w' := by
  have hx := lt_of_wf32 hw
  clear hw
  go_enter Try.func5, Try.ntmps5
  go_wp2_with (first | (go_at_call 21; refine (spec_IsSubnormal _ _ hx).mono ?_; rintro e w' ⟨rfl, rfl⟩) | (go_at_call 22; refine (impl_IsSubnormal _ _ hx).mono ?_; rintro e w' ⟨rfl, rfl⟩))
  go_ret
  exact ⟨rfl, Grown.refl _⟩

theorem law_FnExactFromBits (n : Int) (w : World) (_ : (Lit.int .i64 n).wf = true) : Calls Try.prog 9 #[.int .i64 n] w fun e w' => e = .returned (.bool true) ∧ Grown w w' := by
  go_enter Try.func9, Try.ntmps9
  go_wp2_with (first | (go_at_call 30; refine (spec_FromBits _ _).mono ?_; rintro e w' ⟨rfl, rfl⟩) | (go_at_call 31; refine (impl_FromBits _ _).mono ?_; rintro e w' ⟨rfl, rfl⟩) | (go_at_call 27; refine (laws_sameFloat _ _ _ (by rw [fv_wval, fv_wval])).mono ?_; rintro e w' ⟨rfl, m, rfl⟩))
  all_goals (go_ret; exact ⟨rfl, grown_draw _ _⟩)

/-! ### Flushing -/
def flushB (x : Nat) : Nat := if x % 2147483648 < 8388608 then x / 2147483648 * 2147483648 else x
theorem and_sign (x : Nat) (hx : x < 4294967296) : bits .and .i64 (x : Int) 2147483648 = ((x / 2147483648 * 2147483648 : Nat) : Int) := by
  have h := i64_and_nat x 2147483648 (by omega) (by omega)
  have e := and_mask x 1 31
  have e1 : (2 ^ 1 - 1) * 2 ^ 31 = 2147483648 := by decide
  have e2 : (2 : Nat) ^ 31 = 2147483648 := by decide
  have e3 : (2 : Nat) ^ 1 = 2 := by decide
  rw [e1, e2, e3] at e
  rw [e, show x / 2147483648 % 2 = x / 2147483648 by omega] at h
  exact h
theorem test_exp (x : Nat) : ((((x / 8388608 % 256 * 8388608 : Nat) : Int)) == 0) = decide (x % 2147483648 < 8388608) := by
  have e : (x / 8388608 % 256 * 8388608 = 0) ↔ x % 2147483648 < 8388608 := by
    rw [Nat.mul_eq_zero]
    constructor
    · intro h
      rcases h with h | h <;> omega
    · intro h
      left; omega
  rw [Bool.eq_iff_iff, beq_iff_eq, decide_eq_true_eq, Int.natCast_eq_zero, e]

theorem spec_l01Flush (x : Nat) (w : World) (hx : x < 4294967296) : Calls Try.prog 62 #[.float .f32 x] w fun e w' => e = .returned (.float .f32 (flushB x)) ∧ w = w' := by
  rcases fv_cases .f32 x with ⟨h1, _, _⟩ | ⟨h1, _, _⟩
  · have hb : bitsI x = 2143289344 := bitsI_nan h1
    have hf : flushB x = x := by have := nan_rung h1; unfold flushB; rw [if_neg (by omega)]
    have ha := and_nan
    clear h1
    go_enter Try.func62, Try.ntmps62
    go_wp2_with (go_at_call 53; refine (spec_l01Bits _ _ hx).mono ?_; rw [hb]; rintro e w' ⟨rfl, rfl⟩)
    go_ret
    exact ⟨ret_float hf.symm, rfl⟩
  · have hb : bitsI x = x := bitsI_num h1
    have ha := and_exp x hx
    have hs := and_sign x hx
    have ht := test_exp x
    have hz : x / 2147483648 * 2147483648 < 4294967296 := by omega
    clear h1
    by_cases hq : x % 2147483648 < 8388608
    · have hf : flushB x = x / 2147483648 * 2147483648 := by unfold flushB; rw [if_pos hq]
      rw [decide_eq_true hq] at ht
      clear hq
      have H := Lib.hid hf
      clear hf
      generalize x / 8388608 % 256 * 8388608 = y at ha ht
      generalize x / 2147483648 * 2147483648 = z at hs H hz
      go_enter Try.func62, Try.ntmps62
      go_wp2_with (first | (go_at_call 53; refine (spec_l01Bits _ _ hx).mono ?_; rw [hb]; rintro e w' ⟨rfl, rfl⟩) | (go_at_call 59; refine (spec_l01From _ _).mono ?_; rintro e w' ⟨rfl, rfl⟩))
      go_ret
      exact ⟨ret_float (by rw [H.out]; omega), rfl⟩
    · have hf : flushB x = x := by unfold flushB; rw [if_neg hq]
      rw [decide_eq_false hq] at ht
      clear hq
      generalize x / 8388608 % 256 * 8388608 = y at ha ht
      clear hs hz
      have H := Lib.hid hf
      clear hf
      go_enter Try.func62, Try.ntmps62
      go_wp2_with (go_at_call 53; refine (spec_l01Bits _ _ hx).mono ?_; rw [hb]; rintro e w' ⟨rfl, rfl⟩)
      go_ret
      exact ⟨ret_float H.out.symm, rfl⟩
theorem spec_FlushNumber (x : Nat) (w : World) (hx : x < 4294967296) : Calls Try.prog 32 #[.float .f32 x] w fun e w' => e = .returned (.float .f32 (flushB x)) ∧ w = w' := by
  go_enter Try.func32, Try.ntmps32
  go_wp2_with (go_at_call 62; refine (spec_l01Flush _ _ hx).mono ?_; rintro e w' ⟨rfl, rfl⟩)
  go_ret
  exact ⟨rfl, rfl⟩

theorem flush_bits (x : Nat) (w w2 : World) (hx : x < 4294967296) (hs : subB x = true) : nval (copyB 0 (wval x w)) w2 = flushB x := by
  have hr : 0 < x % 2147483648 ∧ x % 2147483648 < 8388608 := by simpa [subB] using hs
  have hn : fv .f32 x = some x := by
    rcases fv_cases .f32 x with ⟨h1, _, _⟩ | ⟨h1, _, _⟩
    · have := nan_rung h1; omega
    · exact h1
  have hg := signB_wval x w hx hn
  have hl := wval_lt x w
  unfold signB at hg
  rw [decide_eq_decide] at hg
  have hf : flushB x = x / 2147483648 * 2147483648 := by unfold flushB; rw [if_pos hr.2]
  rw [hf]
  unfold copyB
  generalize wval x w = y at hg hl
  have z0 : nval 0 w2 = 0 := by
    unfold nval
    rw [show (double.read 0).isNaN = false by decide, show bigB 0 = false by decide, if_neg Bool.false_ne_true, if_neg Bool.false_ne_true]
    decide
  have z1 : nval 9223372036854775808 w2 = 2147483648 := by
    unfold nval
    rw [show (double.read 9223372036854775808).isNaN = false by decide, show bigB 9223372036854775808 = false by decide, if_neg Bool.false_ne_true, if_neg Bool.false_ne_true]
    decide
  by_cases hb : 2147483648 ≤ x
  · have hy := hg.2 hb
    rw [show 0 % 9223372036854775808 + y / 9223372036854775808 * 9223372036854775808 = 9223372036854775808 by omega, z1]
    omega
  · have hy : ¬ 9223372036854775808 ≤ y := fun h => hb (hg.1 h)
    rw [show 0 % 9223372036854775808 + y / 9223372036854775808 * 9223372036854775808 = 0 by omega, z0]
    omega

theorem impl_FlushNumber (x : Nat) (w : World) (hx : x < 4294967296) : Calls Try.prog 33 #[.float .f32 x] w fun e w' => e = .returned (.float .f32 (flushB x)) ∧ ∃ n, w' = w.drewN n := by
  cases hs : subB x
  · have hf : flushB x = x ∨ (flushB x = x) := by
      left
      have h : ¬ (0 < x % 2147483648 ∧ x % 2147483648 < 8388608) := by simpa [subB] using hs
      unfold flushB
      split <;> omega
    have H := Lib.hid hs
    clear hs
    go_enter Try.func33, Try.ntmps33
    go_wp2_with (go_at_call 22; refine (impl_IsSubnormal _ _ hx).mono ?_; rw [H.out]; rintro e w' ⟨rfl, rfl⟩)
    go_ret
    exact ⟨ret_float (by rcases hf with hf | hf <;> exact hf.symm), 0, rfl⟩
  · have hf := flush_bits x w (w.drewN (wdr x)) hx hs
    have H := Lib.hid hs
    have F := Lib.hid hf
    clear hs hf
    go_enter Try.func33, Try.ntmps33
    go_wp2_with (first | (go_at_call 22; refine (impl_IsSubnormal _ _ hx).mono ?_; rw [H.out]; rintro e w' ⟨rfl, rfl⟩) | (go_at_call 63; refine (math_Copysign _ _ _ (by decide) (wval_lt _ _)).mono ?_; rintro e w' ⟨rfl, rfl⟩))
    go_ret
    exact ⟨ret_float F.out, _, rfl⟩

theorem law_FnExactFlushNumber (x : Nat) (w : World) (hw : (Lit.float .f32 x).wf = true) : Calls Try.prog 10 #[.float .f32 x] w fun e w' => e = .returned (.bool true) ∧ Grown w w' := by
  have hx := lt_of_wf32 hw
  clear hw
  go_enter Try.func10, Try.ntmps10
  go_wp2_with (first | (go_at_call 32; refine (spec_FlushNumber _ _ hx).mono ?_; rintro e w' ⟨rfl, rfl⟩) | (go_at_call 33; refine (impl_FlushNumber _ _ hx).mono ?_; rintro e w' ⟨rfl, n, rfl⟩) | (go_at_call 27; refine (laws_sameFloat _ _ _ (by rw [fv_wval, fv_wval])).mono ?_; rintro e w' ⟨rfl, m, rfl⟩))
  all_goals (go_ret; exact ⟨rfl, grown_draw _ _⟩)
end Go.Proofs.Ytfpljaffhbfiaaa
