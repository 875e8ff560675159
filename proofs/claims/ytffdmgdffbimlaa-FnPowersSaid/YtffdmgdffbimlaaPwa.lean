/-
  ExpNumber at numbers that are not large, and the gap of two numbers. Condition: what is narrowed fits a float32.
-/
import Derived.Test.YtffdmgdffbimlaaLol
import Derived.Deep.RegionWith
import Derived.Deep.LoopGhost
namespace Go.Proofs.Ytffdmgdffbimlaa
open Go.RowKit Ieee

/-- The counter of the series: 12, 11, .. -/
def kE : Nat → Option Nat
  | 0 => fc 4622945017495814144
  | j + 1 => fsub (kE j) (fc 4607182418800017408)
/-- The series behind j rounds. -/
def pE (t : Option Nat) : Nat → Option Nat
  | 0 => fc 4607182418800017408
  | j + 1 => fadd (fc 4607182418800017408) (fquo (fmul t (pE t j)) (kE j))
/-- Squared j times. -/
def sqE (p : Option Nat) : Nat → Option Nat
  | 0 => p
  | j + 1 => fmul (sqE p j) (sqE p j)
def expP (x : Option Nat) : Option Nat := sqE (pE (fquo x (fc 4643211215818981376)) 12) 8

theorem kE_test (j : Nat) (h : j < 12) : fge (kE j) (fc 4607182418800017408) = true := by
  have : j = 0 ∨ j = 1 ∨ j = 2 ∨ j = 3 ∨ j = 4 ∨ j = 5 ∨ j = 6 ∨ j = 7 ∨ j = 8 ∨ j = 9 ∨ j = 10 ∨ j = 11 := by omega
  rcases this with rfl | rfl | rfl | rfl | rfl | rfl | rfl | rfl | rfl | rfl | rfl | rfl <;> decide +kernel
theorem kE_end : fge (kE 12) (fc 4607182418800017408) = false := by decide +kernel

theorem impl_ExpNumber (x : Nat) (w : World) (h1 : (FloatKind.f32.format.order x 1128792064 == some .gt) = false) (h2 : (FloatKind.f32.format.order x 3276275712 == some .lt) = false) (hb : Hid (big (expP (wid (fv .f32 x))) = false)) :
    Calls Try.prog 16 #[.float .f32 x] w fun e w' => ∃ r m, e = .returned (.float .f32 r) ∧ fv .f32 r = nar (expP (wid (fv .f32 x))) ∧ w' = w.drewN m := by
  go_enter Try.func16, Try.ntmps16
  go_wp2_with fail
  have hT : ∀ w1 w2, fv .f64 (fval .quo .f64 (wval x w1) 4643211215818981376 w2) = fquo (wid (fv .f32 x)) (fc 4643211215818981376) := fun w1 w2 => by rw [fv_quo, fv_wval]; rfl
  have HT := Lib.hid hT
  clear hT
  go_loopg [4, 5] 12 (fun g p k wr => ∃ (j pb kb m' : Nat), g + j = 12 ∧ p = .float .f64 pb ∧ k = .float .f64 kb ∧ Hid (fv .f64 pb = pE (fquo (wid (fv .f32 x)) (fc 4643211215818981376)) j ∧ fv .f64 kb = kE j) ∧ wr = w.drewN m')
  case atStart => exact ⟨0, _, _, _, rfl, rfl, rfl, ⟨rfl, rfl⟩, rfl⟩
  case round =>
    obtain ⟨j, pb, kb, m', hj, rfl, rfl, hpk, rfl⟩ := hrel
    by_cases hlt : j < 12
    · have ht : (FloatKind.f64.format.order kb 4607182418800017408 == some .gt || FloatKind.f64.format.order kb 4607182418800017408 == some .eq) = true := by rw [ge_fge, hpk.out.2]; exact kE_test j hlt
      go_wp2_with fail
      go_roundg (gk - 1)
      case measure => omega
      case rel =>
        obtain ⟨hp, hk⟩ := hpk.out
        refine ⟨j + 1, _, _, _, by omega, rfl, rfl, ⟨?_, ?_⟩, rfl⟩
        · simp only [fv_add, fv_quo, fv_mul, fv_wval, hp, hk]; rfl
        · simp only [fv_sub, hk]; rfl
    · have h8 : j = 12 := by omega
      subst h8
      have ht : (FloatKind.f64.format.order kb 4607182418800017408 == some .gt || FloatKind.f64.format.order kb 4607182418800017408 == some .eq) = false := by rw [ge_fge, hpk.out.2]; exact kE_end
      go_wp2_with fail
      go_loopg [4, 27] 8 (fun g p i wr => ∃ (j pb m' : Nat), g + j = 8 ∧ p = .float .f64 pb ∧ i = .int .i64 j ∧ Hid (fv .f64 pb = sqE (pE (fquo (wid (fv .f32 x)) (fc 4643211215818981376)) 12) j) ∧ wr = w.drewN m')
      case atStart => exact ⟨0, _, _, rfl, rfl, rfl, hpk.out.1, rfl⟩
      case round =>
        obtain ⟨j, pb', m'', hj', rfl, rfl, hp, rfl⟩ := hrel
        by_cases hlt' : j < 8
        · have hl : (j : Int) < 8 := by omega
          go_wp2_with fail
          go_roundg (gk - 1)
          case measure => omega
          case rel => exact ⟨j + 1, _, _, by omega, rfl, by go_num, by show _ = _; rw [fv_mul, hp.out]; rfl, rfl⟩
        · have h9 : j = 8 := by omega
          subst h9
          go_wp2_with fail
          go_ret
          refine ⟨_, _, rfl, ?_, rfl⟩
          have e : fv .f64 pb' = expP (wid (fv .f32 x)) := hp.out
          rw [fv_nval _ _ (by rw [e]; exact hb.out), e]

/-- The gap of two numbers. -/
def gapF (a b : Option Nat) : Option Nat := if flt a b = true then fsub b a else fsub a b
theorem laws_b10Gap (a b : Nat) (w : World) : Calls Try.prog 17 #[.float .f64 a, .float .f64 b] w fun e w' => ∃ r m, e = .returned (.float .f64 r) ∧ fv .f64 r = gapF (fv .f64 a) (fv .f64 b) ∧ w' = w.drewN m := by
  have t := lt_flt a b
  cases h : flt (fv .f64 a) (fv .f64 b) <;> rw [h] at t
  · have HH := Lib.hid h
    clear h
    go_enter Try.func17, Try.ntmps17
    go_wp2_with fail
    go_ret
    exact ⟨_, _, rfl, by unfold gapF; rw [if_neg (by rw [HH.out]; decide), fv_sub], rfl⟩
  · have HH := Lib.hid h
    clear h
    go_enter Try.func17, Try.ntmps17
    go_wp2_with fail
    go_ret
    exact ⟨_, _, rfl, by unfold gapF; rw [if_pos HH.out, fv_sub], rfl⟩
end Go.Proofs.Ytffdmgdffbimlaa
