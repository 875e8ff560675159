/-
  Contracts on a float32's bits: bits and numbers of bits, sameness, subnormal numbers. Condition: the bits fit the kind.
-/
import Derived.Test.YthegbaaelccekaaCa
import Derived.Test.YthegbaaelccekaaExt
namespace Go.Proofs.Ythegbaaelccekaa
open Go.RowKit Ieee

/-! ### Plain facts -/
theorem order_self (f : Format) (x : Nat) (h : (f.read x).isNaN = false) : f.order x x = some .eq := by
  unfold Format.order
  cases hd : f.read x with
  | number s m p => simp [Datum.order]
  | infinity s => simp [Datum.order]
  | nan s t => rw [hd] at h; cases h

theorem fv_cases (k : FloatKind) (x : Nat) : (fv k x = none ∧ (k.format.read x).isNaN = true ∧ k.format.order x x = none) ∨ (fv k x = some x ∧ (k.format.read x).isNaN = false ∧ k.format.order x x = some .eq) := by
  cases h : (k.format.read x).isNaN with
  | true =>
    have e := fv_none h
    refine .inl ⟨e, rfl, ?_⟩
    rw [order_ford, e]; rfl
  | false => exact .inr ⟨fv_some h, rfl, order_self _ _ h⟩

def bitsI (x : Nat) : Int := if (fv .f32 x).isNone then 2143289344 else (x : Int)
theorem bitsI_nan {x : Nat} (h : fv .f32 x = none) : bitsI x = 2143289344 := by simp [bitsI, h]
theorem bitsI_num {x y : Nat} (h : fv .f32 x = some y) : bitsI x = x := by simp [bitsI, h]
theorem bitsI_bounds {x : Nat} (hx : x < 4294967296) : 0 ≤ bitsI x ∧ bitsI x ≤ 4294967295 := by
  unfold bitsI; split <;> omega

/-! ### Contracts -/
theorem spec_l01Bits (x : Nat) (w : World) (hx : x < 4294967296) : Calls Try.prog 29 #[.float .f32 x] w fun e w' => e = .returned (.int .i64 (bitsI x)) ∧ w = w' := by
  rcases fv_cases .f32 x with ⟨h1, _, h2⟩ | ⟨h1, _, h2⟩
  · go_enter Try.func29, Try.ntmps29
    go_wp2
    go_ret
    exact ⟨ret_int (bitsI_nan h1).symm, rfl⟩
  · go_enter Try.func29, Try.ntmps29
    go_wp2
    go_ret
    exact ⟨ret_int (bitsI_num h1).symm, rfl⟩

/-! ### Sameness -/
theorem bitsI_ne {b : Nat} (h : fv .f32 b = some b) : bitsI b ≠ 2143289344 := by
  rw [bitsI_num h]
  intro e
  have e' : b = 2143289344 := by omega
  subst e'
  revert h; decide

theorem sign_write (f : Format) (d : Datum) (s : Bool) (h : d.isNaN = false) (hs : d.neg = s) : f.write d / f.signWeight % 2 = s.toNat := by
  have hl := f.infRung_lt
  cases d with
  | number t m p =>
    subst hs
    simp only [Format.write, Format.nearest]
    split
    · exact (word_read f t 0 (Nat.two_pow_pos _)).1
    · exact (word_read f t _ (Nat.lt_of_le_of_lt (Nat.min_le_right _ _) hl)).1
  | infinity t => subst hs; exact (word_read f t _ hl).1
  | nan t u => cases h

theorem neg_read (f : Format) (w : Nat) : (f.read w).neg = (w / f.signWeight % 2 == 1) := by
  unfold Format.read
  dsimp only
  split
  · rfl
  · split
    · rfl
    · split <;> rfl

theorem signB_wval (a : Nat) (w : World) (ha : a < 4294967296) (h : fv .f32 a = some a) : signB (wval a w) = decide (2147483648 ≤ a) := by
  have hn := fv_isNum .f32 a a h
  have hn' : (single.read a).isNaN = false := hn
  have e : wval a w = double.write (single.read a) := by unfold wval; rw [hn']; rfl
  have h1 := sign_write double (single.read a) _ hn' (neg_read single a)
  have h2 := wval_lt a w
  rw [e] at h2 ⊢
  have e1 : double.signWeight = 9223372036854775808 := by decide
  have e2 : single.signWeight = 2147483648 := by decide
  rw [e1, e2] at h1
  generalize double.write (single.read a) = y at h1 h2
  unfold signB
  rw [decide_eq_decide]
  have h3 : a / 2147483648 % 2 = 0 ∨ a / 2147483648 % 2 = 1 := by omega
  rcases h3 with h3 | h3 <;> rw [h3] at h1
  · have h4 : y / 9223372036854775808 % 2 = 0 := h1
    omega
  · have h4 : y / 9223372036854775808 % 2 = 1 := h1
    omega

theorem sr32 (a : Nat) (ha : a < 4294967296) : sr single a = if 2147483648 ≤ a then 2147483648 - (a : Int) else a := by
  unfold sr
  have e2 : single.signWeight = 2147483648 := by decide
  rw [e2]
  split <;> split <;> omega

theorem spec_l01Same (a b : Nat) (w : World) (ha : a < 4294967296) (hb : b < 4294967296) : Calls Try.prog 23 #[.float .f32 a, .float .f32 b] w fun e w' => e = .returned (.bool (bitsI a == bitsI b)) ∧ w = w' := by
  go_enter Try.func23, Try.ntmps23
  go_wp2_with (go_at_call 29; refine (spec_l01Bits _ _ (by assumption)).mono ?_; rintro e w' ⟨rfl, rfl⟩)
  go_ret
  exact ⟨rfl, rfl⟩

end Go.Proofs.Ythegbaaelccekaa
