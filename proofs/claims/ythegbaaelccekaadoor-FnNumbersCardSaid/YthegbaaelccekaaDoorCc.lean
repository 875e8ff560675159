/-
  Contracts: numbers of bits, subnormal numbers, flushing, and the laws' own comparison of floats. Condition: bits fit the kind.
-/
import Derived.Test.YthegbaaelccekaaDoorCb
namespace Go.Proofs.YthegbaaelccekaaDoor
open Go.RowKit Ieee

theorem i64_and_nat (a b : Nat) (ha : a < 9223372036854775808) (hb : b < 9223372036854775808) : bits .and .i64 (a : Int) (b : Int) = ((a &&& b : Nat) : Int) := by
  have hx : a &&& b < 2 ^ 63 := Nat.and_lt_two_pow _ (by omega)
  show IntKind.i64.wrap ((BitVec.ofInt 64 (a : Int) &&& BitVec.ofInt 64 (b : Int)).toNat : Int) = _
  rw [BitVec.toNat_and, ofInt_u64 a (by omega), ofInt_u64 b (by omega), IntKind.wrap_i64]
  omega

/-! ### Bounds of integers -/
theorem spec_l00In (n lo hi : Int) (w : World) : Calls Tryd.prog 85 #[.int .i64 n, .int .i64 lo, .int .i64 hi] w fun e w' => e = .returned (.bool (decide (lo ≤ n) && decide (n ≤ hi))) ∧ w = w' := by
  by_cases h1 : lo ≤ n
  · by_cases h2 : n ≤ hi
    · go_enter Tryd.func85, Tryd.ntmps85
      go_wp2
      go_ret
      exact ⟨ret_bool (by simp [h1, h2]), rfl⟩
    · go_enter Tryd.func85, Tryd.ntmps85
      go_wp2
      go_ret
      exact ⟨ret_bool (by simp [h2]), rfl⟩
  · go_enter Tryd.func85, Tryd.ntmps85
    go_wp2
    go_ret
    exact ⟨ret_bool (by rw [decide_eq_false (show ¬ lo ≤ n by omega), Bool.false_and]), rfl⟩
theorem impl_within (n lo hi : Int) (w : World) : Calls Tryd.prog 54 #[.int .i64 n, .int .i64 lo, .int .i64 hi] w fun e w' => e = .returned (.bool (decide (lo ≤ n) && decide (n ≤ hi))) ∧ w = w' := by
  by_cases h1 : lo ≤ n
  · by_cases h2 : n ≤ hi
    · go_enter Tryd.func54, Tryd.ntmps54
      go_wp2
      go_ret
      exact ⟨ret_bool (by simp [h1, h2]), rfl⟩
    · go_enter Tryd.func54, Tryd.ntmps54
      go_wp2
      go_ret
      exact ⟨ret_bool (by simp [h2]), rfl⟩
  · go_enter Tryd.func54, Tryd.ntmps54
    go_wp2
    go_ret
    exact ⟨ret_bool (by rw [decide_eq_false (show ¬ lo ≤ n by omega), Bool.false_and]), rfl⟩

/-! ### Numbers of bits -/
theorem spec_l01From (n : Int) (w : World) : Calls Tryd.prog 72 #[.int .i64 n] w fun e w' => e = .returned (.float .f32 (n % 4294967296).toNat) ∧ w = w' := by
  go_enter Tryd.func72, Tryd.ntmps72
  go_wp2
  go_ret
  exact ⟨rfl, rfl⟩

def fromB (n : Int) : Nat × Bool := if 0 ≤ n ∧ n ≤ 4294967295 then (n.toNat, true) else (0, false)
theorem impl_FromBits (n : Int) (w : World) : Calls Tryd.prog 38 #[.int .i64 n] w fun e w' => e = .returned (.tuple #[.float .f32 (fromB n).1, .bool (fromB n).2]) ∧ w = w' := by
  by_cases h : 0 ≤ n ∧ n ≤ 4294967295
  · have hb : (decide (0 ≤ n) && decide (n ≤ 4294967295)) = true := by simp [h.1, h.2]
    obtain ⟨h1, h2⟩ := h
    go_enter Tryd.func38, Tryd.ntmps38
    go_wp2_with (go_at_call 54; refine (impl_within _ _ _ _).mono ?_; rw [hb]; rintro e w' ⟨rfl, rfl⟩)
    go_ret2
    rw [show fromB n = (n.toNat, true) by unfold fromB; rw [if_pos ⟨h1, h2⟩]]
    exact ⟨rfl, rfl⟩
  · have hb : (decide (0 ≤ n) && decide (n ≤ 4294967295)) = false := by
      rw [Bool.and_eq_false_iff, decide_eq_false_iff_not, decide_eq_false_iff_not]; omega
    go_enter Tryd.func38, Tryd.ntmps38
    go_wp2_with (go_at_call 54; refine (impl_within _ _ _ _).mono ?_; rw [hb]; rintro e w' ⟨rfl, rfl⟩)
    go_ret2
    rw [show fromB n = (0, false) by unfold fromB; rw [if_neg h]]
    exact ⟨rfl, rfl⟩

/-! ### The laws' comparison -/
theorem laws_sameFloat (a b : Nat) (w : World) (h : fv .f64 a = fv .f64 b) : Calls Tryd.prog 64 #[.float .f64 a, .float .f64 b] w fun e w' => e = .returned (.bool true) ∧ ∃ n, w' = w.drewN n := by
  rcases fv_cases .f64 a with ⟨a1, _, a2⟩ | ⟨a1, an, a2⟩ <;> rcases fv_cases .f64 b with ⟨b1, _, b2⟩ | ⟨b1, bn, b2⟩
  · clear h a1 b1
    go_enter Tryd.func64, Tryd.ntmps64
    go_wp2
    go_ret
    exact ⟨rfl, 0, rfl⟩
  · rw [a1, b1] at h; cases h
  · rw [a1, b1] at h; cases h
  · rw [a1, b1, Option.some.injEq] at h
    subst h
    have hz : FloatKind.f64.format.order a 0 = some .eq ∨ (FloatKind.f64.format.order a 0 == some .eq) = false := by
      cases h : (FloatKind.f64.format.order a 0 == some .eq)
      · exact .inr rfl
      · exact .inl (by simpa using h)
    clear a1 b1 an bn b2
    rcases hz with hz | hz
    · have hgt : ∀ w1 w2, (FloatKind.f64.format.order (fval .quo .f64 4607182418800017408 a w1) 0 == some .gt) = (FloatKind.f64.format.order (fval .quo .f64 4607182418800017408 a w2) 0 == some .gt) := by
        intro w1 w2
        rw [order_ford, order_ford, fv_fval, fv_fval]
      go_enter Tryd.func64, Tryd.ntmps64
      go_wp2
      go_ret
      exact ⟨ret_bool (beq_iff_eq.2 (hgt _ _)), _, rfl⟩
    · go_enter Tryd.func64, Tryd.ntmps64
      go_wp2
      go_ret
      exact ⟨rfl, 0, rfl⟩

/-! ### Subnormal numbers -/
theorem ord_lt {a b : Nat} (ha : (single.read a).isNaN = false) (hb : (single.read b).isNaN = false) (h : sr single a < sr single b) : FloatKind.f32.format.order a b = some .lt := by
  rw [show FloatKind.f32.format = single from rfl, order_sr single (by decide) a b ha hb, compare_int, if_pos h]
theorem ord_eq {a b : Nat} (ha : (single.read a).isNaN = false) (hb : (single.read b).isNaN = false) (h : sr single a = sr single b) : FloatKind.f32.format.order a b = some .eq := by
  rw [show FloatKind.f32.format = single from rfl, order_sr single (by decide) a b ha hb, compare_int, if_neg (by omega), if_pos h]
theorem ord_gt {a b : Nat} (ha : (single.read a).isNaN = false) (hb : (single.read b).isNaN = false) (h : sr single b < sr single a) : FloatKind.f32.format.order a b = some .gt := by
  rw [show FloatKind.f32.format = single from rfl, order_sr single (by decide) a b ha hb, compare_int, if_neg (by omega), if_neg (by omega)]

/-- The bits of a subnormal number (no zero). -/
def subB (x : Nat) : Bool := decide (0 < x % 2147483648 ∧ x % 2147483648 < 8388608)

theorem nan_rung {x : Nat} (h : fv .f32 x = none) : 2139095040 < x % 2147483648 := by
  unfold fv at h
  split at h
  · rename_i hn
    have hn' : (single.read x).isNaN = true := hn
    have e1 : single.binade = 8388608 := by decide
    have e2 : single.signWeight = 2147483648 := by decide
    have e3 : single.infRung = 2139095040 := by decide
    unfold Format.read at hn'
    simp only [e1, e2, e3] at hn'
    split at hn'
    · cases hn'
    · split at hn'
      · cases hn'
      · split at hn'
        · cases hn'
        · omega
  · cases h

theorem impl_IsSubnormal (x : Nat) (w : World) (hx : x < 4294967296) : Calls Tryd.prog 45 #[.float .f32 x] w fun e w' => e = .returned (.bool (subB x)) ∧ w = w' := by
  rcases fv_cases .f32 x with ⟨h1, _, _⟩ | ⟨h1, hn, _⟩
  · have h0 : ∀ c, FloatKind.f32.format.order x c = none := fun c => by rw [order_ford, h1]; rfl
    have hs : subB x = false := by have := nan_rung h1; unfold subB; rw [decide_eq_false_iff_not]; omega
    have o0 := h0 0
    have o1 := h0 8388608
    have o2 := h0 2155872256
    clear h0 h1
    go_enter Tryd.func45, Tryd.ntmps45
    go_wp2
    go_ret
    exact ⟨ret_bool hs.symm, rfl⟩
  · have e0 : sr single 0 = 0 := by decide
    have e1 : sr single 8388608 = 8388608 := by decide
    have e2 : sr single 2155872256 = -8388608 := by decide
    have n0 : (single.read 0).isNaN = false := by decide
    have n1 : (single.read 8388608).isNaN = false := by decide
    have n2 : (single.read 2155872256).isNaN = false := by decide
    have hn' : (single.read x).isNaN = false := hn
    have ex := sr32 x hx
    have cs : x % 2147483648 = 0 ∨ (0 < x % 2147483648 ∧ x % 2147483648 < 8388608) ∨ (8388608 ≤ x % 2147483648 ∧ x < 2147483648) ∨ (8388608 ≤ x % 2147483648 ∧ 2147483648 ≤ x) := by omega
    rcases cs with c | c | c | c
    · have o0 : FloatKind.f32.format.order x 0 = some .eq := ord_eq hn' n0 (by rw [ex, e0]; split <;> omega)
      have hs : subB x = false := by unfold subB; rw [decide_eq_false_iff_not]; omega
      clear h1 hn hn' ex c n0 n1 n2
      go_enter Tryd.func45, Tryd.ntmps45
      go_wp2
      go_ret
      exact ⟨ret_bool hs.symm, rfl⟩
    · have o0 : FloatKind.f32.format.order x 0 = some .lt ∨ FloatKind.f32.format.order x 0 = some .gt := by
        by_cases hb : 2147483648 ≤ x
        · exact .inl (ord_lt hn' n0 (by rw [ex, e0]; split <;> omega))
        · exact .inr (ord_gt hn' n0 (by rw [ex, e0]; split <;> omega))
      have o1 : FloatKind.f32.format.order x 8388608 = some .lt := ord_lt hn' n1 (by rw [ex, e1]; split <;> omega)
      have o2 : FloatKind.f32.format.order x 2155872256 = some .gt := ord_gt hn' n2 (by rw [ex, e2]; split <;> omega)
      have hs : subB x = true := by unfold subB; rw [decide_eq_true_eq]; omega
      clear h1 hn hn' ex c n0 n1 n2
      rcases o0 with o0 | o0
      all_goals
        go_enter Tryd.func45, Tryd.ntmps45
        go_wp2
        go_ret
        exact ⟨ret_bool hs.symm, rfl⟩
    · have o0 : FloatKind.f32.format.order x 0 = some .gt := ord_gt hn' n0 (by rw [ex, e0]; split <;> omega)
      have o1 : FloatKind.f32.format.order x 8388608 = some .eq ∨ FloatKind.f32.format.order x 8388608 = some .gt := by
        by_cases hb : x = 8388608
        · exact .inl (ord_eq hn' n1 (by rw [ex, e1]; split <;> omega))
        · exact .inr (ord_gt hn' n1 (by rw [ex, e1]; split <;> omega))
      have hs : subB x = false := by unfold subB; rw [decide_eq_false_iff_not]; omega
      clear h1 hn hn' ex c n0 n1 n2
      rcases o1 with o1 | o1
      all_goals
        go_enter Tryd.func45, Tryd.ntmps45
        go_wp2
        go_ret
        exact ⟨ret_bool hs.symm, rfl⟩
    · have o0 : FloatKind.f32.format.order x 0 = some .lt := ord_lt hn' n0 (by rw [ex, e0]; split <;> omega)
      have o1 : FloatKind.f32.format.order x 8388608 = some .lt := ord_lt hn' n1 (by rw [ex, e1]; split <;> omega)
      have o2 : FloatKind.f32.format.order x 2155872256 = some .eq ∨ FloatKind.f32.format.order x 2155872256 = some .lt := by
        by_cases hb : x = 2155872256
        · exact .inl (ord_eq hn' n2 (by rw [ex, e2]; split <;> omega))
        · exact .inr (ord_lt hn' n2 (by rw [ex, e2]; split <;> omega))
      have hs : subB x = false := by unfold subB; rw [decide_eq_false_iff_not]; omega
      clear h1 hn hn' ex c n0 n1 n2
      rcases o2 with o2 | o2
      all_goals
        go_enter Tryd.func45, Tryd.ntmps45
        go_wp2
        go_ret
        exact ⟨ret_bool hs.symm, rfl⟩

theorem and_mask (x a b : Nat) : x &&& ((2 ^ a - 1) * 2 ^ b) = x / 2 ^ b % 2 ^ a * 2 ^ b := by
  apply Nat.eq_of_testBit_eq
  intro i
  rw [Nat.testBit_and, Nat.testBit_mul_two_pow, Nat.testBit_mul_two_pow, Nat.testBit_two_pow_sub_one, Nat.testBit_mod_two_pow, Nat.testBit_div_two_pow]
  by_cases h : b ≤ i
  · rw [show i - b + b = i by omega, Bool.and_comm]
    simp only [h, decide_true, Bool.true_and]
  · simp [h]
theorem mask_exp (x : Nat) : x &&& 2139095040 = x / 8388608 % 256 * 8388608 := by
  have e := and_mask x 8 23
  have e1 : (2 ^ 8 - 1) * 2 ^ 23 = 2139095040 := by decide
  have e2 : (2 : Nat) ^ 23 = 8388608 := by decide
  have e3 : (2 : Nat) ^ 8 = 256 := by decide
  rw [e1, e2, e3] at e
  exact e
theorem cast_exp : (2139095040 : Int) = ((2139095040 : Nat) : Int) := rfl
theorem and_exp (x : Nat) (hx : x < 4294967296) : bits .and .i64 (x : Int) 2139095040 = ((x / 8388608 % 256 * 8388608 : Nat) : Int) := by
  rw [cast_exp, ← mask_exp]
  generalize hm : 2139095040 = m
  exact i64_and_nat x m (by omega) (by omega)

theorem and_nan : bits .and .i64 2143289344 2139095040 = 2139095040 := by
  have h := and_exp 2143289344 (by omega)
  rw [show (2143289344 / 8388608 % 256 * 8388608 : Nat) = 2139095040 by omega] at h
  exact h
theorem sub_exp (x : Nat) (_ : x < 4294967296) (hz : ¬ x % 2147483648 = 0) : ((((x / 8388608 % 256 * 8388608 : Nat) : Int)) == 0) = subB x := by
  have e : (x / 8388608 % 256 * 8388608 = 0) ↔ x % 2147483648 < 8388608 := by
    rw [Nat.mul_eq_zero]
    constructor
    · intro h
      rcases h with h | h <;> omega
    · intro h
      left; omega
  unfold subB
  rw [Bool.eq_iff_iff, beq_iff_eq, decide_eq_true_eq, Int.natCast_eq_zero, e]
  omega

end Go.Proofs.YthegbaaelccekaaDoor
