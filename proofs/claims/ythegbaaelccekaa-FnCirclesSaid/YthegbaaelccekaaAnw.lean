/-
  Angles: the reference's walk, the program's walk, and the law FnExactAngleTurns. Condition: bits fit the kind.
-/
import Derived.Test.YthegbaaelccekaaAng
namespace Go.Proofs.Ythegbaaelccekaa
open Go.RowKit Ieee
attribute [local irreducible] mg

/-- The reference's angle in 64 bits. -/
def angW (y x : Option Nat) : Option Nat :=
  if finW y = false ∨ finW x = false then none else if feq x (fc 0) = true ∧ feq y (fc 0) = true then fc 0 else angF y x

theorem zero_or (y x : Option Nat) : (feq x (fc 0) = true ∧ feq y (fc 0) = true) ∨ ((feq x (fc 0) = false ∨ (feq x (fc 0) = true ∧ feq y (fc 0) = false)) ∧ ¬ (feq x (fc 0) = true ∧ feq y (fc 0) = true)) := by
  cases feq x (fc 0) <;> cases feq y (fc 0) <;> simp

theorem fin_test (x : Nat) (w : World) : (FloatKind.f64.format.order (fval .sub .f64 x x w) 0 != some .eq) = !finW (fv .f64 x) := by
  rw [order_ford, fv_fval]; rfl

end Go.Proofs.Ythegbaaelccekaa
