/-
  Contracts of small functions on floats: each returns a function of its arguments' bits, NaNs all alike; the world draws at most. No condition.
-/
import Derived.Test.YthegbaaelccekaaRows
import Derived.Test.YthegbaaelccekaaVal
import Derived.Test.YthegbaaelccekaaExt
import Derived.WalkKit
import Derived.RowKit3
import Derived.Lib.Hide
namespace Go.Proofs.Ythegbaaelccekaa
open Go.RowKit

theorem impl_IsFinite (x : Nat) (w : World) : Calls Try.prog 20 #[.float .f32 x] w fun e w' => e = .returned (.bool (finB (fv .f32 x))) ∧ ∃ n, w' = w.drewN n := by
  go_enter Try.func20, Try.ntmps20
  go_wp2
  go_ret
  exact ⟨by simp [finB, order_ford, fv_fval], _, rfl⟩

end Go.Proofs.Ythegbaaelccekaa
