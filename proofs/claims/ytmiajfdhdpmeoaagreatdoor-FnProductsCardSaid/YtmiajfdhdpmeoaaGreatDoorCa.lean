/-
  Contracts of small functions on floats: each returns a function of its arguments' bits, NaNs all alike; the world draws at most. No condition.
-/
import Derived.Test.YtmiajfdhdpmeoaaGreatDoorRows
import Derived.Test.YtmiajfdhdpmeoaaGreatDoorVal
import Derived.Test.YtmiajfdhdpmeoaaGreatDoorExt
import Derived.WalkKit
import Derived.RowKit3
import Derived.Lib.Hide
namespace Go.Proofs.YtmiajfdhdpmeoaaGreatDoor
open Go.RowKit

theorem impl_IsFinite (x : Nat) (w : World) : Calls Tryz.prog 48 #[.float .f32 x] w fun e w' => e = .returned (.bool (finB (fv .f32 x))) ∧ ∃ n, w' = w.drewN n := by
  go_enter Tryz.func48, Tryz.ntmps48
  go_wp2
  go_ret
  exact ⟨by simp [finB, order_ford, fv_fval], _, rfl⟩

theorem spec_l01Finite (x : Nat) (w : World) : Calls Tryz.prog 49 #[.float .f32 x] w fun e w' => e = .returned (.bool (finB (fv .f32 x))) ∧ ∃ n, w' = w.drewN n := by
  go_enter Tryz.func49, Tryz.ntmps49
  go_wp2
  go_ret
  exact ⟨by simp [finB, order_ford, fv_fval], _, rfl⟩

theorem spec_IsFinite (x : Nat) (w : World) : Calls Tryz.prog 26 #[.float .f32 x] w fun e w' => e = .returned (.bool (finB (fv .f32 x))) ∧ ∃ n, w' = w.drewN n := by
  go_enter Tryz.func26, Tryz.ntmps26
  go_wp2_with (go_at_call 49; refine (spec_l01Finite _ _).mono ?_; rintro e w' ⟨rfl, n, rfl⟩)
  go_ret
  exact ⟨rfl, _, rfl⟩

end Go.Proofs.YtmiajfdhdpmeoaaGreatDoor
