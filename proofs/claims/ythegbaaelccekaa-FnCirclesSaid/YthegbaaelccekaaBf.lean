/-
  Bounds of closed values, by the kernel. No condition.
-/
import Derived.Test.YthegbaaelccekaaBe
namespace Go.Proofs.Ythegbaaelccekaa
open Ieee

def chkBdO (E : Int) (o : Option Nat) : Bool := match o with | none => true | some b => chkBd E b
def chkLbO (F : Int) (o : Option Nat) : Bool := match o with | none => true | some b => chkLb F b
theorem Bd.closed {E : Int} {o : Option Nat} (h : chkBdO E o = true) : Bd E o := by
  cases o with
  | none => exact Bd.none _
  | some b => exact Bd.const h
theorem Lb.closed {F : Int} {o : Option Nat} (h : chkLbO F o = true) : Lb F o := by
  cases o with
  | none => intro b hb; cases hb
  | some b => exact Lb.const h

end Go.Proofs.Ythegbaaelccekaa
