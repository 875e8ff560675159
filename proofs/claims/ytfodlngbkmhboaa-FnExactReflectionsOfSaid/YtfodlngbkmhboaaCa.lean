/-
  Contracts of small functions on floats: each returns a function of its arguments' bits, NaNs all alike; the world draws at most. No condition.
-/
import Derived.Test.YtfodlngbkmhboaaRows
import Derived.Test.YtfodlngbkmhboaaVal
import Derived.Test.YtfodlngbkmhboaaExt
import Derived.WalkKit
import Derived.RowKit3
import Derived.Lib.Hide
namespace Go.Proofs.Ytfodlngbkmhboaa
open Go.RowKit

theorem impl_IsFinite (x : Nat) (w : World) : Calls Try.prog 65 #[.float .f32 x] w fun e w' => e = .returned (.bool (finB (fv .f32 x))) ∧ ∃ n, w' = w.drewN n := by
  go_enter Try.func65, Try.ntmps65
  go_wp2
  go_ret
  exact ⟨by simp [finB, order_ford, fv_fval], _, rfl⟩

theorem spec_l01Finite (x : Nat) (w : World) : Calls Try.prog 77 #[.float .f32 x] w fun e w' => e = .returned (.bool (finB (fv .f32 x))) ∧ ∃ n, w' = w.drewN n := by
  go_enter Try.func77, Try.ntmps77
  go_wp2
  go_ret
  exact ⟨by simp [finB, order_ford, fv_fval], _, rfl⟩

end Go.Proofs.Ytfodlngbkmhboaa
