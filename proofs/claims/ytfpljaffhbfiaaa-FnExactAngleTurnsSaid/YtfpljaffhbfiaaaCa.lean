/-
  Contracts of small functions on floats: each returns a function of its arguments' bits, NaNs all alike; the world draws at most. No condition.
-/
import Derived.Test.YtfpljaffhbfiaaaRows
import Derived.Test.YtfpljaffhbfiaaaVal
import Derived.Test.YtfpljaffhbfiaaaExt
import Derived.WalkKit
import Derived.RowKit3
import Derived.Lib.Hide
namespace Go.Proofs.Ytfpljaffhbfiaaa
open Go.RowKit

theorem impl_IsFinite (x : Nat) (w : World) : Calls Try.prog 20 #[.float .f32 x] w fun e w' => e = .returned (.bool (finB (fv .f32 x))) ∧ ∃ n, w' = w.drewN n := by
  go_enter Try.func20, Try.ntmps20
  go_wp2
  go_ret
  exact ⟨by simp [finB, order_ford, fv_fval], _, rfl⟩

theorem spec_l01Finite (x : Nat) (w : World) : Calls Try.prog 52 #[.float .f32 x] w fun e w' => e = .returned (.bool (finB (fv .f32 x))) ∧ ∃ n, w' = w.drewN n := by
  go_enter Try.func52, Try.ntmps52
  go_wp2
  go_ret
  exact ⟨by simp [finB, order_ford, fv_fval], _, rfl⟩

theorem spec_IsFinite (x : Nat) (w : World) : Calls Try.prog 19 #[.float .f32 x] w fun e w' => e = .returned (.bool (finB (fv .f32 x))) ∧ ∃ n, w' = w.drewN n := by
  go_enter Try.func19, Try.ntmps19
  go_wp2_with (go_at_call 52; refine (spec_l01Finite _ _).mono ?_; rintro e w' ⟨rfl, n, rfl⟩)
  go_ret
  exact ⟨rfl, _, rfl⟩

theorem law_FnExactIsFinite (x : Nat) (w : World) (_ : (Lit.float .f32 x).wf = true) : Calls Try.prog 4 #[.float .f32 x] w fun e w' => e = .returned (.bool true) ∧ Grown w w' := by
  go_enter Try.func4, Try.ntmps4
  go_wp2_with (first | (go_at_call 19; refine (spec_IsFinite _ _).mono ?_; rintro e w' ⟨rfl, n, rfl⟩) | (go_at_call 20; refine (impl_IsFinite _ _).mono ?_; rintro e w' ⟨rfl, n, rfl⟩))
  go_ret
  exact ⟨rfl, grown_draw _ _⟩
end Go.Proofs.Ytfpljaffhbfiaaa
