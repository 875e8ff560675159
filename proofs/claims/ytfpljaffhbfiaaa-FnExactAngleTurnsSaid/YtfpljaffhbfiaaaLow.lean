/-
  Logarithms: the reference's walk, and the law FnExactLogNumber. Condition: bits fit the kind.
-/
import Derived.Test.YtfpljaffhbfiaaaLog
namespace Go.Proofs.Ytfpljaffhbfiaaa
open Go.RowKit Ieee

def feq (a b : Option Nat) : Bool := ford .f64 a b == some .eq
theorem eq_feq (x y : Nat) : (FloatKind.f64.format.order x y == some .eq) = feq (fv .f64 x) (fv .f64 y) := by rw [order_ford]; rfl

/-- The reference's logarithm in 64 bits. -/
def logW (y : Option Nat) : Option Nat :=
  if y.isNone = true ∨ flt y (fc 0) = true then none else if feq y (fc 0) = true then fc 18442240474082181120 else if fgt y (fc 9218868437227405311) = true then y else logF y

theorem math_IsInf (x : Nat) (w : World) : Calls Try.prog 88 #[.float .f64 x, .int .i64 1] w fun e w' => e = .returned (.bool (fgt (fv .f64 x) (fc 9218868437227405311))) ∧ w = w' := by
  go_enter Try.func88, Try.ntmps88
  go_wp2
  go_ret
  exact ⟨ret_bool (gt_fgt _ _), rfl⟩

theorem kL_int (j : Nat) (k : Int) (h : j < 13) (hk : k + 2 * j = 25) : fv .f64 (floatOfInt .f64 k) = kL j := by
  have : ∀ j : Fin 13, fv .f64 (floatOfInt .f64 (25 - 2 * ((j : Nat) : Int))) = kL j := by decide +kernel
  have h2 := this ⟨j, h⟩
  rw [show k = 25 - 2 * (j : Int) by omega]
  exact h2

/-- The loops with a whole counter. -/
def RelHi (X : Option Nat) (g j xb : Nat) : Prop := RelH X g j xb (floatOfInt .f64 j)
def RelDi (X : Option Nat) (J : Nat) (g j xb : Nat) : Prop := RelD X J g j xb (floatOfInt .f64 ((J : Int) - j))

theorem RelHi.step {X : Option Nat} {g j xb : Nat} (h : RelHi X g j xb) (ht : fge (fv .f64 xb) (fc 4609434218613702656) = true) : 0 < g ∧ ∀ xb', fv .f64 xb' = fquo (fv .f64 xb) (fc 4611686018427387904) → RelHi X (g - 1) (j + 1) xb' := by
  obtain ⟨h1, h2⟩ := RelH.step h ht
  refine ⟨h1, fun xb' e => h2 _ _ e ?_⟩
  rw [fv_ofInt, fv_ofInt, count_up' _ (by have := h.2.2.2.2; omega) (by have := h.2.2.2.2; omega)]
  rfl
theorem RelDi.step {X : Option Nat} {J g j xb : Nat} (h : RelDi X J g j xb) (ht : flt (fv .f64 xb) (fc 4604930618986332160) = true) : 0 < g ∧ ∀ xb', fv .f64 xb' = fmul (fv .f64 xb) (fc 4611686018427387904) → RelDi X J (g - 1) (j + 1) xb' := by
  obtain ⟨h1, h2⟩ := RelD.step h ht
  have h5 := h.2.2.2.2.1
  have h6 := h.2.2.2.2.2
  refine ⟨h1, fun xb' e => h2 _ _ e ?_⟩
  rw [fv_ofInt, fv_ofInt, count_down' _ (by omega) (by omega)]
  congr 2
  omega

theorem spec_l01LogWide (x : Nat) (w : World) (hP : (fv .f64 x).isNone = false → flt (fv .f64 x) (fc 0) = false → feq (fv .f64 x) (fc 0) = false → fgt (fv .f64 x) (fc 9218868437227405311) = false → Px (-149) 128 (fv .f64 x)) :
    Calls Try.prog 84 #[.float .f64 x] w fun e w' => ∃ r m, e = .returned (.float .f64 r) ∧ fv .f64 r = logW (fv .f64 x) ∧ w' = w.drewN m := by
  rcases fv_cases .f64 x with ⟨a1, _, a2⟩ | ⟨a1, _, a2⟩
  · have hr : logW (fv .f64 x) = none := by rw [a1]; rfl
    have R := Lib.hid hr
    clear hr a1 hP
    go_enter Try.func84, Try.ntmps84
    go_wp2_with (go_at_call 67; refine (math_NaN _).mono ?_; rintro e w' ⟨rfl, rfl⟩)
    go_ret
    exact ⟨_, 0, rfl, by rw [R.out]; decide +kernel, rfl⟩
  · have hs : (fv .f64 x).isNone = false := by rw [a1]; rfl
    have g1 := lt_flt x 0
    have g2 := eq_feq x 0
    rw [show fv .f64 0 = fc 0 from rfl] at g1 g2
    cases h1 : flt (fv .f64 x) (fc 0)
    · cases h2 : feq (fv .f64 x) (fc 0)
      · cases h3 : fgt (fv .f64 x) (fc 9218868437227405311)
        · have hp := hP hs h1 h2 h3
          have hr : logW (fv .f64 x) = logF (fv .f64 x) := by unfold logW; rw [if_neg (by rw [hs, h1]; decide), if_neg (by rw [h2]; decide), if_neg (by rw [h3]; decide)]
          rw [h1] at g1
          rw [h2] at g2
          have H3 := Lib.hid h3
          have R := Lib.hid hr
          have HP := Lib.hid hp
          clear h1 h2 h3 hs hr hp hP a1
          generalize hX : fv .f64 x = X at HP R H3
          have HX := Lib.hid hX
          clear hX
          go_enter Try.func84, Try.ntmps84
          go_wp2_with (go_at_call 88; refine (math_IsInf _ _).mono ?_; rw [HX.out, H3.out]; rintro e w' ⟨rfl, rfl⟩)
          go_loopg [0, 3] 128 (fun g y e wr => ∃ (j xb m : Nat), y = .float .f64 xb ∧ e = .int .i64 (j : Int) ∧ Hid (RelHi X g j xb) ∧ wr = w.drewN m)
          case atStart => exact ⟨0, _, 0, rfl, rfl, ⟨HX.out, by rw [HX.out]; exact HP.out, fv_ofInt _, by rw [HX.out, Nat.add_zero], rfl⟩, rfl⟩
          case round =>
            clear g1 g2
            obtain ⟨j, xb, m, rfl, rfl, hrel, rfl⟩ := hrel
            have hjb : j ≤ 128 := by have := hrel.out.2.2.2.2; omega
            have ht := ge_fge xb 4609434218613702656
            cases hc : fge (fv .f64 xb) (fv .f64 4609434218613702656)
            · rw [hc] at ht
              obtain ⟨d1, d2, d3, d4⟩ := RelH.done hrel.out hc
              have hj : j = numH X 128 := by
                have h5 := hrel.out.2.2.2.1
                have hz : numH (fv .f64 xb) gk = 0 := by
                  cases gk with
                  | zero => rfl
                  | succ g => rw [numH, if_neg (by rw [show fc 4609434218613702656 = fv .f64 4609434218613702656 from rfl, hc]; decide)]
                omega
              have D1 := Lib.hid d1
              have D3 := Lib.hid d3
              have D4 := Lib.hid d4
              have HJ := Lib.hid hj
              clear hc d1 d2 d3 d4 hrel hj
              go_wp2
              go_loopg [0, 3] 149 (fun g y e wr => ∃ (j xb m : Nat) (kk : Int), y = .float .f64 xb ∧ e = .int .i64 kk ∧ Hid (kk = (numH X 128 : Int) - j ∧ RelDi (x1L X) (numH X 128) g j xb) ∧ wr = w.drewN m)
              case atStart => exact ⟨0, _, _, _, rfl, rfl, ⟨by rw [← HJ.out]; omega, D1.out, by rw [D1.out]; exact D3.out, fv_ofInt _, by rw [D1.out, Nat.add_zero], rfl, D4.out⟩, rfl⟩
              case round =>
                clear ht
                obtain ⟨j, xb, m, kk, rfl, rfl, hrel, rfl⟩ := hrel
                have hk1 : -149 ≤ kk := by have := hrel.out.1; have := hrel.out.2.2.2.2.2.1; omega
                have hk2 : kk ≤ 128 := by have := hrel.out.1; have := hrel.out.2.2.2.2.2.2; omega
                have ht := lt_flt xb 4604930618986332160
                cases hc : flt (fv .f64 xb) (fv .f64 4604930618986332160)
                · rw [hc] at ht
                  obtain ⟨q1, q2, q3, q4⟩ := RelD.done hrel.out.2 hc
                  have hj : j = numD (x1L X) 149 := by
                    have h5 := hrel.out.2.2.2.2.1
                    have hz : numD (fv .f64 xb) gk = 0 := by
                      cases gk with
                      | zero => rfl
                      | succ g => rw [numD, if_neg (by rw [show fc 4604930618986332160 = fv .f64 4604930618986332160 from rfl, hc]; decide)]
                    omega
                  have hkk : kk = (numH X 128 : Int) - (numD (x1L X) 149 : Int) := by rw [hrel.out.1, hj]
                  have Q1 := Lib.hid q1
                  have KK := Lib.hid hkk
                  clear hc q1 q2 q3 q4 hrel hj hkk
                  go_wp2
                  generalize hz : x2L X = Z
                  have HZ : Hid (fv .f64 xb = Z) := by rw [← hz]; exact Q1.out
                  have HL : Hid (logF X = logG Z kk) := by rw [← hz, KK.out]; rfl
                  clear hz
                  go_loopg [6, 7] 13 (fun g q k wr => ∃ (j qb m : Nat) (k2 : Int), g + j = 13 ∧ q = .float .f64 qb ∧ k = .int .i64 k2 ∧ Hid (k2 + 2 * j = 25 ∧ fv .f64 qb = qA (fmul (sL Z) (sL Z)) j) ∧ wr = w.drewN m)
                  case atStart => exact ⟨0, _, _, 25, rfl, rfl, rfl, ⟨rfl, rfl⟩, rfl⟩
                  case round =>
                    clear ht
                    obtain ⟨j, qb, m, k2, hj, rfl, rfl, hqk, rfl⟩ := hrel
                    have hb1 : -1 ≤ k2 := by have := hqk.out.1; omega
                    have hb2 : k2 ≤ 25 := by have := hqk.out.1; omega
                    by_cases hlt : j < 13
                    · have hb3 : 1 ≤ k2 := by have := hqk.out.1; omega
                      go_wp2
                      go_roundg (gk - 1)
                      case measure => omega
                      case rel =>
                        obtain ⟨hp, hk⟩ := hqk.out
                        refine ⟨j + 1, _, _, _, by omega, rfl, rfl, ⟨by omega, ?_⟩, rfl⟩
                        simp only [fv_sub, fv_quo, fv_mul, fv_add, hk, HZ.out, kL_int j k2 hlt hp]
                        rfl
                    · have hb3 : k2 < 1 := by have := hqk.out.1; omega
                      have h13 : j = 13 := by omega
                      subst h13
                      go_wp2
                      go_ret
                      refine ⟨_, _, rfl, ?_, rfl⟩
                      simp only [fv_mul, fv_add, fv_sub, fv_quo, fv_ofInt, hqk.out.2, HZ.out]
                      rw [R.out, HL.out]
                      rfl
                · rw [hc] at ht
                  obtain ⟨s1, s2⟩ := RelDi.step hrel.out.2 hc
                  have S2 := Lib.hid s2
                  have E := Lib.hid hrel.out.1
                  clear hc s2 hrel
                  go_wp2
                  go_roundg (gk - 1)
                  case measure => omega
                  case rel => exact ⟨j + 1, _, _, _, rfl, rfl, ⟨by have := E.out; omega, S2.out _ (by rw [fv_mul]; rfl)⟩, rfl⟩
            · rw [hc] at ht
              obtain ⟨s1, s2⟩ := RelHi.step hrel.out hc
              have S2 := Lib.hid s2
              clear hc s2 hrel
              go_wp2
              go_roundg (gk - 1)
              case measure => omega
              case rel => exact ⟨j + 1, _, _, rfl, by go_num, S2.out _ (by rw [fv_quo]; rfl), rfl⟩
        · have hr : logW (fv .f64 x) = fv .f64 x := by unfold logW; rw [if_neg (by rw [hs, h1]; decide), if_neg (by rw [h2]; decide), if_pos h3]
          rw [h1] at g1
          rw [h2] at g2
          have H3 := Lib.hid h3
          have R := Lib.hid hr
          clear h1 h2 h3 hs hr hP a1
          go_enter Try.func84, Try.ntmps84
          go_wp2_with (go_at_call 88; refine (math_IsInf _ _).mono ?_; rw [H3.out]; rintro e w' ⟨rfl, rfl⟩)
          go_ret
          exact ⟨_, 0, rfl, R.out.symm, rfl⟩
      · have hr : logW (fv .f64 x) = fc 18442240474082181120 := by unfold logW; rw [if_neg (by rw [hs, h1]; decide), if_pos h2]
        rw [h1] at g1
        rw [h2] at g2
        have R := Lib.hid hr
        clear h1 h2 hs hr hP a1
        go_enter Try.func84, Try.ntmps84
        go_wp2_with (go_at_call 65; refine (math_Inf _ _).mono ?_; rintro e w' ⟨rfl, rfl⟩)
        go_ret
        exact ⟨_, 0, rfl, by rw [R.out]; rfl, rfl⟩
    · have hr : logW (fv .f64 x) = none := by unfold logW; rw [if_pos (.inr h1)]
      rw [h1] at g1
      have R := Lib.hid hr
      clear h1 hs hr hP a1 g2
      go_enter Try.func84, Try.ntmps84
      go_wp2_with (go_at_call 67; refine (math_NaN _).mono ?_; rintro e w' ⟨rfl, rfl⟩)
      go_ret
      exact ⟨_, 0, rfl, by rw [R.out]; decide +kernel, rfl⟩
end Go.Proofs.Ytfpljaffhbfiaaa
