/-
  The odd numbers from 2 a + 1, n of them. No program, no condition.
-/
import Derived.Test.YthegbaaelccekaaTxa
namespace Go.Proofs.Ythegbaaelccekaa
def rowO (a n : Nat) : Bool := (List.range n).all fun d => Nat.beq (a + d) 0 || fo (2 * (a + d) + 1) chkO
end Go.Proofs.Ythegbaaelccekaa
