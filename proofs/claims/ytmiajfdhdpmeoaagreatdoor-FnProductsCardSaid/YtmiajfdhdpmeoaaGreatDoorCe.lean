/-
  Products and powers of complex numbers in the program; the laws' differences of numbers and of complex numbers. Condition: what is narrowed is not too large for float32.
-/
import Derived.Test.YtmiajfdhdpmeoaaGreatDoorSin
namespace Go.Proofs.YtmiajfdhdpmeoaaGreatDoor
open Go.RowKit Ieee

/-- The difference of two numbers, the greater one first. -/
def gapF (a b : Option Nat) : Option Nat := if flt a b = true then fsub b a else fsub a b
/-- The power of a complex number, and the parts of a product, in 64 bits. -/
def powF (a b : Option Nat) : Option Nat := fadd (fmul (wid a) (wid a)) (fmul (wid b) (wid b))
def mulR (a b c d : Option Nat) : Option Nat := fsub (fmul (wid a) (wid c)) (fmul (wid b) (wid d))
def mulI (a b c d : Option Nat) : Option Nat := fadd (fmul (wid a) (wid d)) (fmul (wid b) (wid c))
theorem impl_longPower (a b : Nat) (w : World) : Calls Tryz.prog 30 #[.complex .f32 a b] w fun e w' => ∃ r m, e = .returned (.float .f64 r) ∧ fv .f64 r = powF (fv .f32 a) (fv .f32 b) ∧ w' = w.drewN m := by
  go_enter Tryz.func30, Tryz.ntmps30
  go_wp2_with fail
  go_ret
  exact ⟨_, _, rfl, by simp only [fv_add, fv_mul, fv_wval]; rfl, rfl⟩
theorem impl_PowerOf (a b : Nat) (w : World) (hb : Hid (big (powF (fv .f32 a) (fv .f32 b)) = false)) : Calls Tryz.prog 7 #[.complex .f32 a b] w fun e w' => ∃ r m, e = .returned (.float .f32 r) ∧ fv .f32 r = nar (powF (fv .f32 a) (fv .f32 b)) ∧ r < 4294967296 ∧ w' = w.drewN m := by
  go_enter Tryz.func7, Tryz.ntmps7
  go_wp2_with fail
  refine (impl_longPower a b _).mono ?_
  rintro e w' ⟨r, m, rfl, hr, rfl⟩
  have HR := Lib.hid hr
  clear hr
  go_wp2_with fail
  go_ret
  exact ⟨_, _, rfl, by rw [fv_nval _ _ (by rw [HR.out]; exact hb.out), HR.out], nval_lt _ _, rfl⟩
theorem impl_longProduct (a b c d : Nat) (w : World) : Calls Tryz.prog 29 #[.complex .f32 a b, .complex .f32 c d] w fun e w' => ∃ r s m, e = .returned (.tuple #[.float .f64 r, .float .f64 s]) ∧ fv .f64 r = mulR (fv .f32 a) (fv .f32 b) (fv .f32 c) (fv .f32 d) ∧ fv .f64 s = mulI (fv .f32 a) (fv .f32 b) (fv .f32 c) (fv .f32 d) ∧ w' = w.drewN m := by
  go_enter Tryz.func29, Tryz.ntmps29
  go_wp2_with fail
  go_ret2
  exact ⟨_, _, _, rfl, by simp only [fv_sub, fv_mul, fv_wval]; rfl, by simp only [fv_add, fv_mul, fv_wval]; rfl, rfl⟩
theorem impl_MulComplex (a b c d : Nat) (w : World) (hr : Hid (big (mulR (fv .f32 a) (fv .f32 b) (fv .f32 c) (fv .f32 d)) = false)) (hi : Hid (big (mulI (fv .f32 a) (fv .f32 b) (fv .f32 c) (fv .f32 d)) = false)) :
    Calls Tryz.prog 6 #[.complex .f32 a b, .complex .f32 c d] w fun e w' => ∃ r s m, e = .returned (.complex .f32 r s) ∧ fv .f32 r = nar (mulR (fv .f32 a) (fv .f32 b) (fv .f32 c) (fv .f32 d)) ∧ fv .f32 s = nar (mulI (fv .f32 a) (fv .f32 b) (fv .f32 c) (fv .f32 d)) ∧ w' = w.drewN m := by
  go_enter Tryz.func6, Tryz.ntmps6
  go_wp2_with fail
  refine (impl_longProduct a b c d _).mono ?_
  rintro e w' ⟨r, s, m, rfl, h1, h2, rfl⟩
  have H1 := Lib.hid h1
  have H2 := Lib.hid h2
  clear h1 h2
  go_wp2_with fail
  go_ret
  exact ⟨_, _, _, rfl, by rw [fv_nval _ _ (by rw [H1.out]; exact hr.out), H1.out], by rw [fv_nval _ _ (by rw [H2.out]; exact hi.out), H2.out], rfl⟩
/-- Both parts differ by at most c. -/
def nearF (a b x y : Option Nat) (c : Nat) : Bool := fle (gapF (wid a) (wid x)) (fc c) && fle (gapF (wid b) (wid y)) (fc c)
end Go.Proofs.YtmiajfdhdpmeoaaGreatDoor
