/-
  Angles: the reference's walk, the program's walk, and the law FnExactAngleTurns. Condition: bits fit the kind.
-/
import Derived.Test.YtfpljaffhbfiaaaAng
namespace Go.Proofs.Ytfpljaffhbfiaaa
open Go.RowKit Ieee
attribute [local irreducible] mg

/-- The reference's angle in 64 bits. -/
def angW (y x : Option Nat) : Option Nat :=
  if finW y = false ∨ finW x = false then none else if feq x (fc 0) = true ∧ feq y (fc 0) = true then fc 0 else angF y x

theorem zero_or (y x : Option Nat) : (feq x (fc 0) = true ∧ feq y (fc 0) = true) ∨ ((feq x (fc 0) = false ∨ (feq x (fc 0) = true ∧ feq y (fc 0) = false)) ∧ ¬ (feq x (fc 0) = true ∧ feq y (fc 0) = true)) := by
  cases feq x (fc 0) <;> cases feq y (fc 0) <;> simp

theorem fin_test (x : Nat) (w : World) : (FloatKind.f64.format.order (fval .sub .f64 x x w) 0 != some .eq) = !finW (fv .f64 x) := by
  rw [order_ford, fv_fval]; rfl

set_option maxHeartbeats 2000000 in
theorem spec_l01AngleWide (y x : Nat) (w : World) (hy : y < 18446744073709551616) (hx : x < 18446744073709551616) : Calls Try.prog 85 #[.float .f64 y, .float .f64 x] w fun e w' => ∃ r m, e = .returned (.float .f64 r) ∧ fv .f64 r = angW (fv .f64 y) (fv .f64 x) ∧ w' = w.drewN m := by
  have f1 := fin_test y
  have f2 := fin_test x
  cases h1 : finW (fv .f64 y)
  · have hr : angW (fv .f64 y) (fv .f64 x) = none := by unfold angW; rw [if_pos (.inl h1)]
    rw [h1] at f1
    simp only [Bool.not_false] at f1
    have R := Lib.hid hr
    clear h1 hr f2
    go_enter Try.func85, Try.ntmps85
    go_wp2_with (go_at_call 67; refine (math_NaN _).mono ?_; rintro e w' ⟨rfl, rfl⟩)
    go_ret
    exact ⟨_, _, rfl, by rw [R.out]; decide +kernel, rfl⟩
  · rw [h1] at f1
    simp only [Bool.not_true] at f1
    cases h2 : finW (fv .f64 x)
    · have hr : angW (fv .f64 y) (fv .f64 x) = none := by unfold angW; rw [if_pos (.inr h2)]
      rw [h2] at f2
      simp only [Bool.not_false] at f2
      have R := Lib.hid hr
      clear h1 h2 hr
      go_enter Try.func85, Try.ntmps85
      go_wp2_with (go_at_call 67; refine (math_NaN _).mono ?_; rintro e w' ⟨rfl, rfl⟩)
      go_ret
      exact ⟨_, _, rfl, by rw [R.out]; decide +kernel, rfl⟩
    · rw [h2] at f2
      simp only [Bool.not_true] at f2
      have gx0 := eq_feq x 0
      have gy0 := eq_feq y 0
      rw [show fv .f64 0 = fc 0 from rfl] at gx0 gy0
      have hfin : ¬ (finW (fv .f64 y) = false ∨ finW (fv .f64 x) = false) := by rw [h1, h2]; decide
      rcases zero_or (fv .f64 y) (fv .f64 x) with ⟨z1, z2⟩ | ⟨zz, hne⟩
      · have hr : angW (fv .f64 y) (fv .f64 x) = fc 0 := by unfold angW; rw [if_neg hfin, if_pos ⟨z1, z2⟩]
        rw [z1] at gx0
        rw [z2] at gy0
        have R := Lib.hid hr
        clear h1 h2 hr z1 z2 hfin
        go_enter Try.func85, Try.ntmps85
        go_wp2
        go_ret
        exact ⟨_, _, rfl, by rw [R.out]; rfl, rfl⟩
      · have hr : angW (fv .f64 y) (fv .f64 x) = angF (fv .f64 y) (fv .f64 x) := by unfold angW; rw [if_neg hfin, if_neg hne]
        have go : (FloatKind.f64.format.order (absB y) (absB x) == some .gt) = fgt (fabs (fv .f64 y)) (fabs (fv .f64 x)) := by rw [gt_fgt, fv_absB, fv_absB]
        have gx := lt_flt x 0
        have gy := lt_flt y 0
        rw [show fv .f64 0 = fc 0 from rfl] at gx gy
        unfold angF at hr
        generalize fgt (fabs (fv .f64 y)) (fabs (fv .f64 x)) = over at hr go
        generalize flt (fv .f64 x) (fc 0) = xn at hr gx
        generalize flt (fv .f64 y) (fc 0) = yn at hr gy
        unfold angG at hr
        clear h1 h2 hfin hne
        generalize hT : (if over = true then fquo (fabs (fv .f64 x)) (fabs (fv .f64 y)) else fquo (fabs (fv .f64 y)) (fabs (fv .f64 x))) = T at hr
        have R := Lib.hid hr
        have HT := Lib.hid hT
        clear hT hr
        have Z : (FloatKind.f64.format.order x 0 == some .eq) = false ∨ ((FloatKind.f64.format.order x 0 == some .eq) = true ∧ (FloatKind.f64.format.order y 0 == some .eq) = false) := by
          rcases zz with z | ⟨z1, z2⟩
          · exact .inl (by rw [gx0, z])
          · exact .inr ⟨by rw [gx0, z1], by rw [gy0, z2]⟩
        clear zz gx0 gy0
        have GX := Lib.hid gx
        have GY := Lib.hid gy
        clear gx gy
        rcases Z with k1 | ⟨k1, k2⟩ <;> cases over
        all_goals
          go_enter Try.func85, Try.ntmps85
          go_wp2_with (go_at_call 76; refine (math_Abs _ _ (by assumption)).mono ?_; rintro e w' ⟨rfl, rfl⟩)
          go_loopg [8, 9] 3 (fun g t k wr => ∃ (j tb m : Nat), g + j = 3 ∧ t = .float .f64 tb ∧ k = .int .i64 (j : Int) ∧ Hid (fv .f64 tb = tA T j) ∧ wr = w.drewN m)
          case atStart => exact ⟨0, _, _, rfl, rfl, rfl, (by show fv .f64 _ = T; rw [fv_quo, fv_absB, fv_absB, ← HT.out]; rfl), rfl⟩
          case round =>
            obtain ⟨j, tb, m, hj, rfl, rfl, ht, rfl⟩ := hrel
            by_cases hlt : j < 3
            · go_wp2_with (go_at_call 70; refine (math_Sqrt _ _).mono ?_; rintro e w' ⟨rfl, rfl⟩)
              go_roundg (gk - 1)
              case measure => omega
              case rel =>
                refine ⟨j + 1, _, _, by omega, rfl, by go_num, ?_, rfl⟩
                show fv .f64 _ = _
                simp only [fv_quo, fv_add, fv_mul, fv_sval, ht.out]
                rfl
            · have h3 : j = 3 := by omega
              subst h3
              go_wp2_with fail
              go_loopg [11, 12] 8 (fun g p k wr => ∃ (j pb m : Nat) (k2 : Int), g + j = 8 ∧ p = .float .f64 pb ∧ k = .int .i64 k2 ∧ Hid (k2 + 2 * j = 15 ∧ fv .f64 pb = rA (fmul (tA T 3) (tA T 3)) j) ∧ wr = w.drewN m)
              case atStart => exact ⟨0, _, _, 15, rfl, rfl, rfl, ⟨rfl, rfl⟩, rfl⟩
              case round =>
                obtain ⟨j, pb, m, k2, hj, rfl, rfl, hpk, rfl⟩ := hrel
                have hb1 : -1 ≤ k2 := by have := hpk.out.1; omega
                have hb2 : k2 ≤ 15 := by have := hpk.out.1; omega
                by_cases hlt : j < 8
                · have hb3 : 1 ≤ k2 := by have := hpk.out.1; omega
                  go_wp2_with fail
                  go_roundg (gk - 1)
                  case measure => omega
                  case rel =>
                    obtain ⟨hp, hk⟩ := hpk.out
                    refine ⟨j + 1, _, _, _, by omega, rfl, rfl, ⟨by omega, ?_⟩, rfl⟩
                    simp only [fv_sub, fv_quo, fv_mul, hk, ht.out, kR_int j k2 hlt hp]
                    rfl
                · have hb3 : k2 < 1 := by have := hpk.out.1; omega
                  have h8 : j = 8 := by omega
                  subst h8
                  have gx := GX.out
                  have gy := GY.out
                  cases xn <;> cases yn
                  all_goals
                    go_wp2_with fail
                    go_ret
                    refine ⟨_, _, rfl, ?_, rfl⟩
                    simp only [fv_negFloat, fv_mul, fv_sub, fv_quo, hpk.out.2, ht.out]
                    rw [R.out]
                    rfl
end Go.Proofs.Ytfpljaffhbfiaaa
