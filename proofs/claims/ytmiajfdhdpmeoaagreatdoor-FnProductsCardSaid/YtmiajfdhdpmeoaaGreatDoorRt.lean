/-
  Square roots: the program's and the reference's, and the law FnExactRootNumber. Condition: bits fit the kind.
-/
import Derived.Test.YtmiajfdhdpmeoaaGreatDoorCc
import Derived.Test.YtmiajfdhdpmeoaaGreatDoorMb
import Derived.Test.YtmiajfdhdpmeoaaGreatDoorLa
namespace Go.Proofs.YtmiajfdhdpmeoaaGreatDoor
open Go.RowKit Ieee

/-- The root of a float32 is never too large for one. -/
theorem root_big (x : Nat) : big (fsqrt (wid (fv .f32 x))) = false := by
  rcases fv_cases .f32 x with ⟨h1, _, _⟩ | ⟨h1, hn, _⟩
  · rw [h1]; rfl
  · rw [h1]
    have hn' : (single.read x).isNaN = false := hn
    cases hd : single.read x with
    | nan s t => rw [hd] at hn'; cases hn'
    | infinity s =>
      have e : wid (some x) = some (double.write (.infinity s)) := by show some (double.write (single.read x)) = _; rw [hd]
      rw [e]
      cases s <;> decide +kernel
    | number s m p =>
      obtain ⟨m', p', h2, h3, h4⟩ := wide_read hd
      have hb := read_single hd
      have e : wid (some x) = some (double.write (.number s m p)) := by show some (double.write (single.read x)) = _; rw [hd]
      rw [e]
      by_cases hs : s = true ∧ m' ≠ 0
      · obtain ⟨rfl, hm⟩ := hs
        have : fsqrt (some (double.write (.number true m p))) = none := by
          show ((double.read (double.write (.number true m p))).root 54).map double.write = none
          rw [h2]
          simp only [Datum.root, if_neg hm, if_true]
          rfl
        rw [this]; rfl
      · have hnn : Nn (64 + 64) (some (double.write (.number s m p))) := by
          intro b hb'
          cases hb'
          refine ⟨s, m', p', h2, fun h => ?_, ?_⟩
          · by_cases h0 : m' = 0
            · exact h0
            · exact absurd ⟨h, h0⟩ hs
          · rw [h3]
            exact Nat.le_of_lt (mg_lt_top hb.1 (by omega) (by show p + ((24 : Nat) : Int) ≤ 64 + 64; omega))
        exact big_of_Bd (hnn.sqrt (by decide) (by decide)).bd (by decide) (by decide)

def rootB (x : Nat) : Option Nat := nar (fsqrt (wid (fv .f32 x)))

theorem root_nval (x : Nat) (w1 w2 w3 : World) : fv .f32 (nval (sval (wval x w1) w2) w3) = rootB x := by
  rw [fv_nval _ _ (by rw [fv_sval, fv_wval]; exact root_big x), fv_sval, fv_wval]; rfl

theorem spec_l01Sqrt (x : Nat) (w : World) : Calls Tryz.prog 33 #[.float .f32 x] w fun e w' => ∃ r m, e = .returned (.float .f32 r) ∧ fv .f32 r = rootB x ∧ w' = w.drewN m := by
  go_enter Tryz.func33, Tryz.ntmps33
  go_wp2
  go_ret
  exact ⟨_, _, rfl, root_nval _ _ _ _, rfl⟩
theorem spec_RootNumber (x : Nat) (w : World) : Calls Tryz.prog 11 #[.float .f32 x] w fun e w' => ∃ r m, e = .returned (.float .f32 r) ∧ fv .f32 r = rootB x ∧ w' = w.drewN m := by
  go_enter Tryz.func11, Tryz.ntmps11
  go_wp2_with fail
  refine (spec_l01Sqrt _ _).mono ?_
  rintro e w' ⟨r, m, rfl, hr, rfl⟩
  go_wp2
  go_ret
  exact ⟨_, _, rfl, hr, rfl⟩
end Go.Proofs.YtmiajfdhdpmeoaaGreatDoor
