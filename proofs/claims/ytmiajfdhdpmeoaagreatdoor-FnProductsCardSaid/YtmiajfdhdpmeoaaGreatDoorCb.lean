/-
  Contracts on a float32's bits: bits and numbers of bits, sameness, subnormal numbers. Condition: the bits fit the kind.
-/
import Derived.Test.YtmiajfdhdpmeoaaGreatDoorCa
import Derived.Test.YtmiajfdhdpmeoaaGreatDoorExt
namespace Go.Proofs.YtmiajfdhdpmeoaaGreatDoor
open Go.RowKit Ieee

/-! ### Plain facts -/
theorem order_self (f : Format) (x : Nat) (h : (f.read x).isNaN = false) : f.order x x = some .eq := by
  unfold Format.order
  cases hd : f.read x with
  | number s m p => simp [Datum.order]
  | infinity s => simp [Datum.order]
  | nan s t => rw [hd] at h; cases h

theorem fv_cases (k : FloatKind) (x : Nat) : (fv k x = none ∧ (k.format.read x).isNaN = true ∧ k.format.order x x = none) ∨ (fv k x = some x ∧ (k.format.read x).isNaN = false ∧ k.format.order x x = some .eq) := by
  cases h : (k.format.read x).isNaN with
  | true =>
    have e := fv_none h
    refine .inl ⟨e, rfl, ?_⟩
    rw [order_ford, e]; rfl
  | false => exact .inr ⟨fv_some h, rfl, order_self _ _ h⟩

def bitsI (x : Nat) : Int := if (fv .f32 x).isNone then 2143289344 else (x : Int)
theorem bitsI_nan {x : Nat} (h : fv .f32 x = none) : bitsI x = 2143289344 := by simp [bitsI, h]
theorem bitsI_num {x y : Nat} (h : fv .f32 x = some y) : bitsI x = x := by simp [bitsI, h]
theorem bitsI_bounds {x : Nat} (hx : x < 4294967296) : 0 ≤ bitsI x ∧ bitsI x ≤ 4294967295 := by
  unfold bitsI; split <;> omega

/-! ### Contracts -/
theorem spec_l01Bits (x : Nat) (w : World) (hx : x < 4294967296) : Calls Tryz.prog 51 #[.float .f32 x] w fun e w' => e = .returned (.int .i64 (bitsI x)) ∧ w = w' := by
  rcases fv_cases .f32 x with ⟨h1, _, h2⟩ | ⟨h1, _, h2⟩
  · go_enter Tryz.func51, Tryz.ntmps51
    go_wp2
    go_ret
    exact ⟨ret_int (bitsI_nan h1).symm, rfl⟩
  · go_enter Tryz.func51, Tryz.ntmps51
    go_wp2
    go_ret
    exact ⟨ret_int (bitsI_num h1).symm, rfl⟩

theorem impl_BitsOf (x : Nat) (w : World) (hx : x < 4294967296) : Calls Tryz.prog 20 #[.float .f32 x] w fun e w' => e = .returned (.int .i64 (bitsI x)) ∧ w = w' := by
  rcases fv_cases .f32 x with ⟨h1, _, h2⟩ | ⟨h1, _, h2⟩
  · go_enter Tryz.func20, Tryz.ntmps20
    go_wp2
    go_ret
    exact ⟨ret_int (bitsI_nan h1).symm, rfl⟩
  · go_enter Tryz.func20, Tryz.ntmps20
    go_wp2
    go_ret
    exact ⟨ret_int (bitsI_num h1).symm, rfl⟩

/-! ### Sameness -/
theorem bitsI_ne {b : Nat} (h : fv .f32 b = some b) : bitsI b ≠ 2143289344 := by
  rw [bitsI_num h]
  intro e
  have e' : b = 2143289344 := by omega
  subst e'
  revert h; decide

theorem sign_write (f : Format) (d : Datum) (s : Bool) (h : d.isNaN = false) (hs : d.neg = s) : f.write d / f.signWeight % 2 = s.toNat := by
  have hl := f.infRung_lt
  cases d with
  | number t m p =>
    subst hs
    simp only [Format.write, Format.nearest]
    split
    · exact (word_read f t 0 (Nat.two_pow_pos _)).1
    · exact (word_read f t _ (Nat.lt_of_le_of_lt (Nat.min_le_right _ _) hl)).1
  | infinity t => subst hs; exact (word_read f t _ hl).1
  | nan t u => cases h

theorem neg_read (f : Format) (w : Nat) : (f.read w).neg = (w / f.signWeight % 2 == 1) := by
  unfold Format.read
  dsimp only
  split
  · rfl
  · split
    · rfl
    · split <;> rfl

theorem signB_wval (a : Nat) (w : World) (ha : a < 4294967296) (h : fv .f32 a = some a) : signB (wval a w) = decide (2147483648 ≤ a) := by
  have hn := fv_isNum .f32 a a h
  have hn' : (single.read a).isNaN = false := hn
  have e : wval a w = double.write (single.read a) := by unfold wval; rw [hn']; rfl
  have h1 := sign_write double (single.read a) _ hn' (neg_read single a)
  have h2 := wval_lt a w
  rw [e] at h2 ⊢
  have e1 : double.signWeight = 9223372036854775808 := by decide
  have e2 : single.signWeight = 2147483648 := by decide
  rw [e1, e2] at h1
  generalize double.write (single.read a) = y at h1 h2
  unfold signB
  rw [decide_eq_decide]
  have h3 : a / 2147483648 % 2 = 0 ∨ a / 2147483648 % 2 = 1 := by omega
  rcases h3 with h3 | h3 <;> rw [h3] at h1
  · have h4 : y / 9223372036854775808 % 2 = 0 := h1
    omega
  · have h4 : y / 9223372036854775808 % 2 = 1 := h1
    omega

theorem sr32 (a : Nat) (ha : a < 4294967296) : sr single a = if 2147483648 ≤ a then 2147483648 - (a : Int) else a := by
  unfold sr
  have e2 : single.signWeight = 2147483648 := by decide
  rw [e2]
  split <;> split <;> omega

theorem spec_l01Same (a b : Nat) (w : World) (ha : a < 4294967296) (hb : b < 4294967296) : Calls Tryz.prog 31 #[.float .f32 a, .float .f32 b] w fun e w' => e = .returned (.bool (bitsI a == bitsI b)) ∧ w = w' := by
  go_enter Tryz.func31, Tryz.ntmps31
  go_wp2_with (go_at_call 51; refine (spec_l01Bits _ _ (by assumption)).mono ?_; rintro e w' ⟨rfl, rfl⟩)
  go_ret
  exact ⟨rfl, rfl⟩

theorem impl_SameNumber (a b : Nat) (w : World) (ha : a < 4294967296) (hb : b < 4294967296) : Calls Tryz.prog 47 #[.float .f32 a, .float .f32 b] w fun e w' => e = .returned (.bool (bitsI a == bitsI b)) ∧ ∃ n, w' = w.drewN n := by
  rcases fv_cases .f32 a with ⟨a1, _, a2⟩ | ⟨a1, an, a2⟩ <;> rcases fv_cases .f32 b with ⟨b1, _, b2⟩ | ⟨b1, bn, b2⟩
  · go_enter Tryz.func47, Tryz.ntmps47
    go_wp2
    go_ret
    exact ⟨ret_bool (by rw [bitsI_nan a1, bitsI_nan b1]; rfl), 0, rfl⟩
  · go_enter Tryz.func47, Tryz.ntmps47
    go_wp2
    go_ret
    exact ⟨ret_bool (by rw [bitsI_nan a1]; exact (beq_eq_false_iff_ne.2 (bitsI_ne b1).symm).symm), 0, rfl⟩
  · go_enter Tryz.func47, Tryz.ntmps47
    go_wp2
    go_ret
    exact ⟨ret_bool (by rw [bitsI_nan b1]; exact (beq_eq_false_iff_ne.2 (bitsI_ne a1)).symm), 0, rfl⟩
  · have ho := order_sr single (by decide) a b an bn
    rw [sr32 a ha, sr32 b hb] at ho
    by_cases he : (if 2147483648 ≤ a then 2147483648 - (a : Int) else a) = (if 2147483648 ≤ b then 2147483648 - (b : Int) else b)
    · have ho' : FloatKind.f32.format.order a b = some .eq := by rw [show FloatKind.f32.format = single from rfl, ho, he, compare_int]; simp
      go_enter Tryz.func47, Tryz.ntmps47
      go_wp2_with (go_at_call 63; refine (math_Signbit _ _ (wval_lt _ _)).mono ?_; rintro e w' ⟨rfl, rfl⟩)
      go_ret
      refine ⟨ret_bool ?_, _, rfl⟩
      rw [signB_wval _ _ ha a1, signB_wval _ _ hb b1, bitsI_num a1, bitsI_num b1, Bool.eq_iff_iff, beq_iff_eq, beq_iff_eq, decide_eq_decide]
      clear ho ho' a1 b1 a2 b2 an bn
      split at he <;> split at he <;> omega
    · have ho' : FloatKind.f32.format.order a b = some .lt ∨ FloatKind.f32.format.order a b = some .gt := by
        rw [show FloatKind.f32.format = single from rfl, ho]
        generalize (if 2147483648 ≤ a then 2147483648 - (a : Int) else a) = u at he ⊢
        generalize (if 2147483648 ≤ b then 2147483648 - (b : Int) else b) = v at he ⊢
        rw [compare_int, if_neg he]
        by_cases hl : u < v
        · rw [if_pos hl]; exact .inl rfl
        · rw [if_neg hl]; exact .inr rfl
      have hne : (bitsI a == bitsI b) = false := by
        rw [bitsI_num a1, bitsI_num b1, beq_eq_false_iff_ne]
        intro h
        have : a = b := by omega
        subst this
        exact he rfl
      rcases ho' with ho' | ho'
      all_goals
        go_enter Tryz.func47, Tryz.ntmps47
        go_wp2
        go_ret
        exact ⟨ret_bool hne.symm, 0, rfl⟩
end Go.Proofs.YtmiajfdhdpmeoaaGreatDoor
