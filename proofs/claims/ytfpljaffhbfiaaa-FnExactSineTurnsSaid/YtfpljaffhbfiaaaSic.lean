/-
  The law FnExactSineTurns: the program and the reference, from their contracts. Condition: bits fit the kind.
-/
import Derived.Test.YtfpljaffhbfiaaaSib
namespace Go.Proofs.Ytfpljaffhbfiaaa
open Go.RowKit Ieee

theorem sineW_big (o : Option Nat) (ho : ∀ b, o = some b → (double.read b).isNaN = false) : big (sineW o) = false := by
  unfold sineW
  split
  · rfl
  · rename_i h1
    have h1' : finW o = true := by simpa using h1
    split
    · decide +kernel
    · rename_i h2
      have h2' : fge o (fc 4841369599423283200) = false ∧ fle o (fc 14064741636278059008) = false := by simpa using h2
      have hb := small_bd h1' h2'.1 h2'.2 ho
      cases o with
      | none => cases h1'
      | some b =>
        obtain ⟨n, _, _, _, hn, _⟩ := toi_some hb
        rw [hn]
        exact big_of_Bd (sineF_bd (fracF_bd hb hn)) (by decide) (by decide)

/-- The sine of a float32 of turns. -/
def sineB (x : Nat) : Option Nat := nar (sineW (wid (fv .f32 x)))

theorem wid_read (o : Option Nat) (ho : ∀ x, o = some x → (single.read x).isNaN = false) : ∀ b, wid o = some b → (double.read b).isNaN = false := by
  intro b hb
  cases o with
  | none => cases hb
  | some x => cases hb; exact read_write_notNaN double _ (ho x rfl)

theorem spec_l01Sine (x : Nat) (w : World) : Calls Try.prog 66 #[.float .f32 x] w fun e w' => ∃ r m, e = .returned (.float .f32 r) ∧ fv .f32 r = sineB x ∧ w' = w.drewN m := by
  go_enter Try.func66, Try.ntmps66
  go_wp2_with fail
  refine (spec_l01SineWide _ _).mono ?_
  rintro e w' ⟨r, m, rfl, hr, rfl⟩
  rw [fv_wval] at hr
  have R := Lib.hid hr
  clear hr
  go_wp2
  go_ret
  refine ⟨_, _, rfl, ?_, rfl⟩
  rw [fv_nval _ _ (by rw [R.out]; exact sineW_big _ (wid_read _ (fv_isNum .f32 x))), R.out]
  rfl
theorem spec_SineTurns (x : Nat) (w : World) : Calls Try.prog 36 #[.float .f32 x] w fun e w' => ∃ r m, e = .returned (.float .f32 r) ∧ fv .f32 r = sineB x ∧ w' = w.drewN m := by
  go_enter Try.func36, Try.ntmps36
  go_wp2_with fail
  refine (spec_l01Sine _ _).mono ?_
  rintro e w' ⟨r, m, rfl, hr, rfl⟩
  go_wp2
  go_ret
  exact ⟨_, _, rfl, hr, rfl⟩

theorem ge32 (x : Nat) : (FloatKind.f32.format.order x 1501560832 == some .gt || FloatKind.f32.format.order x 1501560832 == some .eq) = fge (wid (fv .f32 x)) (fc 4841369599423283200) := by
  have e : fc 4841369599423283200 = wid (fv .f32 1501560832) := by decide +kernel
  unfold fge
  rw [e, ford_wid _ _ (fv_isNum .f32 x) (fv_isNum .f32 _), ← order_ford]
theorem le32 (x : Nat) : (FloatKind.f32.format.order x 3649044480 == some .lt || FloatKind.f32.format.order x 3649044480 == some .eq) = fle (wid (fv .f32 x)) (fc 14064741636278059008) := by
  have e : fc 14064741636278059008 = wid (fv .f32 3649044480) := by decide +kernel
  unfold fle
  rw [e, ford_wid _ _ (fv_isNum .f32 x) (fv_isNum .f32 _), ← order_ford]

theorem nval_nan (b : Nat) (w : World) (h : fv .f64 b = none) : fv .f32 (nval b w) = none := by
  rw [fv_nval b w (by rw [h]; rfl), h]; rfl

theorem impl_SineTurns (x : Nat) (w : World) : Calls Try.prog 37 #[.float .f32 x] w fun e w' => ∃ r m, e = .returned (.float .f32 r) ∧ fv .f32 r = sineB x ∧ w' = w.drewN m := by
  have hw := finW_wid (fv .f32 x) (fv_isNum .f32 x)
  cases h1 : finB (fv .f32 x)
  · have hr : sineB x = none := by unfold sineB sineW; rw [if_pos (by rw [hw, h1])]; rfl
    have H1 := Lib.hid h1
    have R := Lib.hid hr
    clear h1 hr hw
    go_enter Try.func37, Try.ntmps37
    go_wp2_with (first | (go_at_call 20; refine (impl_IsFinite _ _).mono ?_; rw [H1.out]; rintro e w' ⟨rfl, n, rfl⟩) | (go_at_call 67; refine (math_NaN _).mono ?_; rintro e w' ⟨rfl, rfl⟩))
    go_ret
    exact ⟨_, _, rfl, by rw [R.out]; exact nval_nan _ _ (by decide +kernel), rfl⟩
  · have g1 := ge32 x
    have g2 := le32 x
    have z : fv .f32 0 = nar (fc 0) := by decide +kernel
    have H1 := Lib.hid h1
    cases h2 : fge (wid (fv .f32 x)) (fc 4841369599423283200)
    · cases h3 : fle (wid (fv .f32 x)) (fc 14064741636278059008)
      · have hb := small_bd (hw.trans h1) h2 h3 (wid_read _ (fv_isNum .f32 x))
        obtain ⟨n, hn⟩ : ∃ n, toi (wid (fv .f32 x)) = some n := by
          rcases hc : wid (fv .f32 x) with _ | b
          · rw [hc] at hw; rw [h1] at hw; cases hw
          · rw [hc] at hb
            obtain ⟨n, _, _, _, h, _⟩ := toi_some hb
            exact ⟨n, h⟩
        have hs : sineW (wid (fv .f32 x)) = sineF (fracF (wid (fv .f32 x)) n) := by
          unfold sineW
          rw [if_neg (by rw [hw, h1]; decide), if_neg (by rw [h2, h3]; decide), hn]; rfl
        have hbig := sineW_big (wid (fv .f32 x)) (wid_read _ (fv_isNum .f32 x))
        rw [h2] at g1
        rw [h3] at g2
        have HS := Lib.hid hs
        have HB := Lib.hid hbig
        have HN : Hid (∀ w, toi (fv .f64 (wval x w)) = some n) := fun w => by rw [fv_wval]; exact hn
        clear h1 h2 h3 hw hb hn hs hbig z
        go_enter Try.func37, Try.ntmps37
        go_wp2_with (first | (go_at_call 20; refine (impl_IsFinite _ _).mono ?_; rw [H1.out]; rintro e w' ⟨rfl, n, rfl⟩) | (go_at_call 68; refine (impl_sineOf _ _ _ (HN.out _)).mono ?_; rintro e w' ⟨r, m, rfl, hr, rfl⟩; have R := Lib.hid hr; clear hr))
        go_ret
        refine ⟨_, _, rfl, ?_, rfl⟩
        have hr := R.out
        rw [fv_wval, ← HS.out] at hr
        rw [fv_nval _ _ (by rw [hr]; exact HB.out), hr]
        rfl
      · have hr : sineB x = nar (fc 0) := by unfold sineB sineW; rw [if_neg (by rw [hw, h1]; decide), if_pos (by rw [h2, h3]; rfl)]
        rw [h2] at g1
        rw [h3] at g2
        have R := Lib.hid (z.trans hr.symm)
        clear h1 h2 h3 hr hw z
        go_enter Try.func37, Try.ntmps37
        go_wp2_with (go_at_call 20; refine (impl_IsFinite _ _).mono ?_; rw [H1.out]; rintro e w' ⟨rfl, n, rfl⟩)
        go_ret
        exact ⟨_, _, rfl, R.out, rfl⟩
    · have hr : sineB x = nar (fc 0) := by unfold sineB sineW; rw [if_neg (by rw [hw, h1]; decide), if_pos (by rw [h2]; rfl)]
      rw [h2] at g1
      have R := Lib.hid (z.trans hr.symm)
      clear h1 h2 hr hw z g2
      go_enter Try.func37, Try.ntmps37
      go_wp2_with (go_at_call 20; refine (impl_IsFinite _ _).mono ?_; rw [H1.out]; rintro e w' ⟨rfl, n, rfl⟩)
      go_ret
      exact ⟨_, _, rfl, R.out, rfl⟩

theorem law_FnExactSineTurns (x : Nat) (w : World) (_ : (Lit.float .f32 x).wf = true) : Calls Try.prog 12 #[.float .f32 x] w fun e w' => e = .returned (.bool true) ∧ Grown w w' := by
  go_enter Try.func12, Try.ntmps12
  go_wp2_with fail
  refine (spec_SineTurns _ _).mono ?_
  rintro e w' ⟨r1, m1, rfl, h1, rfl⟩
  have H1 := Lib.hid h1
  clear h1
  go_wp2_with fail
  refine (impl_SineTurns _ _).mono ?_
  rintro e w' ⟨r2, m2, rfl, h2, rfl⟩
  have H2 := Lib.hid h2
  clear h2
  go_wp2_with (go_at_call 27; refine (laws_sameFloat _ _ _ (by rw [fv_wval, fv_wval, H1.out, H2.out])).mono ?_; rintro e w' ⟨rfl, m, rfl⟩)
  go_ret
  exact ⟨rfl, grown_draw _ _⟩
end Go.Proofs.Ytfpljaffhbfiaaa
