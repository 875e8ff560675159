/-
  Contracts of small functions on floats: each returns a function of its arguments' bits, NaNs all alike; the world draws at most. No condition.
-/
import Derived.Test.YthegbaaelccekaaDoorRows
import Derived.Test.YthegbaaelccekaaDoorVal
import Derived.Test.YthegbaaelccekaaDoorExt
import Derived.WalkKit
import Derived.RowKit3
import Derived.Lib.Hide
namespace Go.Proofs.YthegbaaelccekaaDoor
open Go.RowKit

theorem impl_IsFinite (x : Nat) (w : World) : Calls Tryd.prog 79 #[.float .f32 x] w fun e w' => e = .returned (.bool (finB (fv .f32 x))) ∧ ∃ n, w' = w.drewN n := by
  go_enter Tryd.func79, Tryd.ntmps79
  go_wp2
  go_ret
  exact ⟨by simp [finB, order_ford, fv_fval], _, rfl⟩

end Go.Proofs.YthegbaaelccekaaDoor
