/-
  The length, the double, sameness, narrowing and finiteness of complex numbers in the program. Condition: bits fit the kind.
-/
import Derived.Test.YtmiajfdhdpmeoaaGreatDoorGa
import Derived.Test.YtmiajfdhdpmeoaaGreatDoorRt
import Derived.Test.YtmiajfdhdpmeoaaGreatDoorCb
namespace Go.Proofs.YtmiajfdhdpmeoaaGreatDoor
open Go.RowKit Ieee

theorem impl_LongOf (a b : Nat) (w : World) (hb : Hid (big (fsqrt (powF (fv .f32 a) (fv .f32 b))) = false)) : Calls Tryz.prog 10 #[.complex .f32 a b] w fun e w' => ∃ r m, e = .returned (.float .f32 r) ∧ fv .f32 r = nar (fsqrt (powF (fv .f32 a) (fv .f32 b))) ∧ r < 4294967296 ∧ w' = w.drewN m := by
  go_enter Tryz.func10, Tryz.ntmps10
  go_wp2_with fail
  refine (impl_longPower a b _).mono ?_
  rintro e w' ⟨r, m, rfl, hr, rfl⟩
  have HR := Lib.hid hr
  clear hr
  go_wp2_with (go_at_call 32; refine (math_Sqrt _ _).mono ?_; rintro e w' ⟨rfl, rfl⟩)
  go_ret
  exact ⟨_, _, rfl, by rw [fv_nval _ _ (by rw [fv_sval, HR.out]; exact hb.out), fv_sval, HR.out], nval_lt _ _, rfl⟩
theorem impl_ScaleComplex (a b c : Nat) (w : World) : Calls Tryz.prog 13 #[.complex .f32 a b, .float .f32 c] w fun e w' => ∃ r s m, e = .returned (.complex .f32 r s) ∧ fv .f32 r = fop .mul .f32 (fv .f32 a) (fv .f32 c) ∧ fv .f32 s = fop .mul .f32 (fv .f32 b) (fv .f32 c) ∧ w' = w.drewN m := by
  go_enter Tryz.func13, Tryz.ntmps13
  go_wp2_with fail
  go_ret
  exact ⟨_, _, _, rfl, fv_fval .., fv_fval .., rfl⟩
theorem impl_NarrowComplex (a b : Nat) (w : World) : Calls Tryz.prog 24 #[.complex .f64 a b] w fun e w' => ∃ w1 w2 m, e = .returned (.complex .f32 (nval a w1) (nval b w2)) ∧ w' = w.drewN m := by
  go_enter Tryz.func24, Tryz.ntmps24
  go_wp2_with fail
  go_ret
  exact ⟨_, _, _, rfl, rfl⟩
theorem impl_SameComplex (a b c d : Nat) (w : World) (ha : a < 4294967296) (hb : b < 4294967296) (hc : c < 4294967296) (hd : d < 4294967296) (h1 : Hid ((bitsI a == bitsI c) = true)) (h2 : Hid ((bitsI b == bitsI d) = true)) :
    Calls Tryz.prog 23 #[.complex .f32 a b, .complex .f32 c d] w fun e w' => e = .returned (.bool true) ∧ ∃ m, w' = w.drewN m := by
  go_enter Tryz.func23, Tryz.ntmps23
  go_wp2_with fail
  refine (impl_SameNumber a c _ ha hc).mono ?_
  rw [h1.out]
  rintro e w' ⟨rfl, m, rfl⟩
  go_wp2_with fail
  refine (impl_SameNumber b d _ hb hd).mono ?_
  rw [h2.out]
  rintro e w' ⟨rfl, m, rfl⟩
  go_wp2_with fail
  go_ret
  exact ⟨rfl, _, rfl⟩
theorem impl_IsFiniteComplex (a b : Nat) (w : World) : Calls Tryz.prog 25 #[.complex .f32 a b] w fun e w' => e = .returned (.bool (finB (fv .f32 a) && finB (fv .f32 b))) ∧ ∃ m, w' = w.drewN m := by
  cases h1 : finB (fv .f32 a)
  all_goals
    have H1 := Lib.hid h1
    clear h1
    go_enter Tryz.func25, Tryz.ntmps25
    go_wp2_with fail
    refine (impl_IsFinite a _).mono ?_
    rw [H1.out]
    rintro e w' ⟨rfl, m, rfl⟩
    go_wp2_with fail
  · go_ret
    exact ⟨rfl, _, rfl⟩
  · refine (impl_IsFinite b _).mono ?_
    rintro e w' ⟨rfl, m, rfl⟩
    go_wp2_with fail
    go_ret
    exact ⟨rfl, _, rfl⟩
end Go.Proofs.YtmiajfdhdpmeoaaGreatDoor
