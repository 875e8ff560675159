/-
  Products and powers of complex numbers in the program; the laws' differences of numbers and of complex numbers. Condition: what is narrowed is not too large for float32.
-/
import Derived.Test.YthegbaaelccekaaSin
namespace Go.Proofs.Ythegbaaelccekaa
open Go.RowKit Ieee

/-- The difference of two numbers, the greater one first. -/
def gapF (a b : Option Nat) : Option Nat := if flt a b = true then fsub b a else fsub a b
theorem laws_b10Gap (x y : Nat) (w : World) : Calls Try.prog 8 #[.float .f64 x, .float .f64 y] w fun e w' => ∃ r m, e = .returned (.float .f64 r) ∧ fv .f64 r = gapF (fv .f64 x) (fv .f64 y) ∧ w' = w.drewN m := by
  have hlt := lt_flt x y
  cases h : flt (fv .f64 x) (fv .f64 y)
  · have hg : gapF (fv .f64 x) (fv .f64 y) = fsub (fv .f64 x) (fv .f64 y) := by unfold gapF; rw [if_neg (by rw [h]; decide)]
    rw [h] at hlt
    have HG := Lib.hid hg
    clear h hg
    go_enter Try.func8, Try.ntmps8
    go_wp2_with fail
    go_ret
    exact ⟨_, _, rfl, by rw [fv_sub, HG.out], rfl⟩
  · have hg : gapF (fv .f64 x) (fv .f64 y) = fsub (fv .f64 y) (fv .f64 x) := by unfold gapF; rw [if_pos h]
    rw [h] at hlt
    have HG := Lib.hid hg
    clear h hg
    go_enter Try.func8, Try.ntmps8
    go_wp2_with fail
    go_ret
    exact ⟨_, _, rfl, by rw [fv_sub, HG.out], rfl⟩

/-- The power of a complex number, and the parts of a product, in 64 bits. -/
def powF (a b : Option Nat) : Option Nat := fadd (fmul (wid a) (wid a)) (fmul (wid b) (wid b))
def mulR (a b c d : Option Nat) : Option Nat := fsub (fmul (wid a) (wid c)) (fmul (wid b) (wid d))
def mulI (a b c d : Option Nat) : Option Nat := fadd (fmul (wid a) (wid d)) (fmul (wid b) (wid c))
theorem impl_longPower (a b : Nat) (w : World) : Calls Try.prog 18 #[.complex .f32 a b] w fun e w' => ∃ r m, e = .returned (.float .f64 r) ∧ fv .f64 r = powF (fv .f32 a) (fv .f32 b) ∧ w' = w.drewN m := by
  go_enter Try.func18, Try.ntmps18
  go_wp2_with fail
  go_ret
  exact ⟨_, _, rfl, by simp only [fv_add, fv_mul, fv_wval]; rfl, rfl⟩
theorem impl_PowerOf (a b : Nat) (w : World) (hb : Hid (big (powF (fv .f32 a) (fv .f32 b)) = false)) : Calls Try.prog 9 #[.complex .f32 a b] w fun e w' => ∃ r m, e = .returned (.float .f32 r) ∧ fv .f32 r = nar (powF (fv .f32 a) (fv .f32 b)) ∧ r < 4294967296 ∧ w' = w.drewN m := by
  go_enter Try.func9, Try.ntmps9
  go_wp2_with fail
  refine (impl_longPower a b _).mono ?_
  rintro e w' ⟨r, m, rfl, hr, rfl⟩
  have HR := Lib.hid hr
  clear hr
  go_wp2_with fail
  go_ret
  exact ⟨_, _, rfl, by rw [fv_nval _ _ (by rw [HR.out]; exact hb.out), HR.out], nval_lt _ _, rfl⟩
theorem impl_longProduct (a b c d : Nat) (w : World) : Calls Try.prog 19 #[.complex .f32 a b, .complex .f32 c d] w fun e w' => ∃ r s m, e = .returned (.tuple #[.float .f64 r, .float .f64 s]) ∧ fv .f64 r = mulR (fv .f32 a) (fv .f32 b) (fv .f32 c) (fv .f32 d) ∧ fv .f64 s = mulI (fv .f32 a) (fv .f32 b) (fv .f32 c) (fv .f32 d) ∧ w' = w.drewN m := by
  go_enter Try.func19, Try.ntmps19
  go_wp2_with fail
  go_ret2
  exact ⟨_, _, _, rfl, by simp only [fv_sub, fv_mul, fv_wval]; rfl, by simp only [fv_add, fv_mul, fv_wval]; rfl, rfl⟩
theorem impl_MulComplex (a b c d : Nat) (w : World) (hr : Hid (big (mulR (fv .f32 a) (fv .f32 b) (fv .f32 c) (fv .f32 d)) = false)) (hi : Hid (big (mulI (fv .f32 a) (fv .f32 b) (fv .f32 c) (fv .f32 d)) = false)) :
    Calls Try.prog 11 #[.complex .f32 a b, .complex .f32 c d] w fun e w' => ∃ r s m, e = .returned (.complex .f32 r s) ∧ fv .f32 r = nar (mulR (fv .f32 a) (fv .f32 b) (fv .f32 c) (fv .f32 d)) ∧ fv .f32 s = nar (mulI (fv .f32 a) (fv .f32 b) (fv .f32 c) (fv .f32 d)) ∧ w' = w.drewN m := by
  go_enter Try.func11, Try.ntmps11
  go_wp2_with fail
  refine (impl_longProduct a b c d _).mono ?_
  rintro e w' ⟨r, s, m, rfl, h1, h2, rfl⟩
  have H1 := Lib.hid h1
  have H2 := Lib.hid h2
  clear h1 h2
  go_wp2_with fail
  go_ret
  exact ⟨_, _, _, rfl, by rw [fv_nval _ _ (by rw [H1.out]; exact hr.out), H1.out], by rw [fv_nval _ _ (by rw [H2.out]; exact hi.out), H2.out], rfl⟩
/-- Both parts differ by at most c. -/
def nearF (a b x y : Option Nat) (c : Nat) : Bool := fle (gapF (wid a) (wid x)) (fc c) && fle (gapF (wid b) (wid y)) (fc c)
theorem laws_b10Near (a b x y c : Nat) (w : World) : Calls Try.prog 10 #[.complex .f32 a b, .complex .f32 x y, .float .f64 c] w fun e w' => e = .returned (.bool (nearF (fv .f32 a) (fv .f32 b) (fv .f32 x) (fv .f32 y) c)) ∧ ∃ m, w' = w.drewN m := by
  unfold nearF
  cases h1 : fle (gapF (wid (fv .f32 a)) (wid (fv .f32 x))) (fc c)
  · have H1 := Lib.hid h1
    clear h1
    go_enter Try.func10, Try.ntmps10
    go_wp2_with fail
    refine (laws_b10Gap _ _ _).mono ?_
    rintro e w' ⟨r, m, rfl, hr, rfl⟩
    rw [fv_wval, fv_wval] at hr
    have hle := le_fle r c
    rw [hr, show fv .f64 c = fc c from rfl, H1.out] at hle
    clear hr
    go_wp2_with fail
    go_ret
    exact ⟨rfl, _, rfl⟩
  · rw [Bool.true_and]
    have H1 := Lib.hid h1
    cases h2 : fle (gapF (wid (fv .f32 b)) (wid (fv .f32 y))) (fc c)
    all_goals
      have H2 := Lib.hid h2
      clear h1 h2
      go_enter Try.func10, Try.ntmps10
      go_wp2_with fail
      refine (laws_b10Gap _ _ _).mono ?_
      rintro e w' ⟨r, m, rfl, hr, rfl⟩
      rw [fv_wval, fv_wval] at hr
      have hle := le_fle r c
      rw [hr, show fv .f64 c = fc c from rfl, H1.out] at hle
      clear hr
      go_wp2_with fail
      refine (laws_b10Gap _ _ _).mono ?_
      rintro e w' ⟨r2, m2, rfl, hr2, rfl⟩
      rw [fv_wval, fv_wval] at hr2
      have hle2 := le_fle r2 c
      rw [hr2, show fv .f64 c = fc c from rfl, H2.out] at hle2
      clear hr2
      go_wp2_with fail
      go_ret
      exact ⟨rfl, _, rfl⟩
end Go.Proofs.Ythegbaaelccekaa
