/-
  PhasorOf, in the program and in the reference, and the law's walk. Condition: bits fit the kind.
-/
import Derived.Test.YtffdmgdffbimlaaPha
import Derived.Laws.ComplexArith
import Derived.Deep.RegionWith
import Derived.Deep.LoopGhost
namespace Go.Proofs.Ytffdmgdffbimlaa
open Go.RowKit Ieee

/-- The parts after the quarters: cosine and sine, turned. -/
def phP (F : Option Nat) (q : Nat) : Option Nat × Option Nat :=
  if q = 1 then (nar (fsub (fc 0) (sineW F)), nar (sineW (fsub fq F))) else
  if q = 2 then (nar (fsub (fc 0) (sineW (fsub fq F))), nar (fsub (fc 0) (sineW F))) else
  if q = 3 then (nar (sineW F), nar (fsub (fc 0) (sineW (fsub fq F)))) else
  (nar (sineW (fsub fq F)), nar (sineW F))
def phW (x : Option Nat) : Option Nat × Option Nat :=
  if finW x = false then (none, none) else
  if fge x (fc 4841369599423283200) = true ∨ fle x (fc 14064741636278059008) = true then (fv .f32 1065353216, fv .f32 0) else
  phP (qLoop 16 (fracF x ((toi x).getD 0)) 0).1 (qLoop 16 (fracF x ((toi x).getD 0)) 0).2

theorem sine_bd {o : Option Nat} (h : Bd 3 o) (hs : o.isSome = true) : Bd 127 (sineW o) := by
  obtain ⟨m, hm, he⟩ := sineW_small h hs
  rw [he]
  obtain ⟨b, rfl⟩ := Option.isSome_iff_exists.1 hs
  exact sineF_bd (fracF_bd (h.mono (by decide)) hm)
/-- What a phasor's part is worth. -/
theorem part_fv {b : Nat} {o : Option Nat} (w : World) (h : fv .f64 b = o) (ho : Bd 127 o) : fv .f32 (nval b w) = nar o := by
  rw [fv_nval b w (by rw [h]; exact big_of_Bd ho (by decide) (by decide)), h]
theorem part_neg {b : Nat} {o : Option Nat} (w w1 : World) (h : fv .f64 b = o) (ho : Bd 127 o) : fv .f32 (nval (fval .sub .f64 0 b w1) w) = nar (fsub (fc 0) o) :=
  part_fv w (by rw [fv_sub, h]; rfl) (Bd.from0 ho (by decide) (by decide))

def isPh (o : Option Nat × Option Nat) (e : Ending) : Prop := ∃ a b, e = .returned (.complex .f32 a b) ∧ fv .f32 a = o.1 ∧ fv .f32 b = o.2

theorem spec_l01Narrow (x : Nat) (w : World) : Calls Try.prog 32 #[.float .f64 x] w fun e w' => e = .returned (.float .f32 (nval x w)) ∧ w' = w.drewN (ndr x) := by
  go_enter Try.func32, Try.ntmps32
  go_wp2
  go_ret
  exact ⟨rfl, rfl⟩

set_option maxHeartbeats 1000000 in
theorem spec_l01Phasor (x : Nat) (w : World) : Calls Try.prog 22 #[.float .f64 x] w fun e w' => isPh (phW (fv .f64 x)) e ∧ ∃ m, w' = w.drewN m := by
  have hfin : ∀ w, (FloatKind.f64.format.order (fval .sub .f64 x x w) 0 != some .eq) = !finW (fv .f64 x) := by
    intro w; rw [order_ford, fv_fval]; rfl
  cases h1 : finW (fv .f64 x)
  · rw [h1] at hfin
    have hr : phW (fv .f64 x) = (none, none) := by unfold phW; rw [if_pos h1]
    have R := Lib.hid hr
    clear h1 hr
    simp only [Bool.not_false] at hfin
    go_enter Try.func22, Try.ntmps22
    go_wp2_with (go_at_call 30; refine (spec_l01From _ _).mono ?_; rintro e w' ⟨rfl, rfl⟩)
    go_ret
    exact ⟨⟨_, _, rfl, by rw [R.out]; decide +kernel, by rw [R.out]; decide +kernel⟩, _, rfl⟩
  · rw [h1] at hfin
    simp only [Bool.not_true] at hfin
    have g1 := ge_fge x 4841369599423283200
    have g2 := le_fle x 14064741636278059008
    cases h2 : fge (fv .f64 x) (fc 4841369599423283200)
    · cases h3 : fle (fv .f64 x) (fc 14064741636278059008)
      · have hb := small_bd h1 h2 h3 (fv_read x)
        rw [show fv .f64 4841369599423283200 = fc 4841369599423283200 from rfl, h2] at g1
        rw [show fv .f64 14064741636278059008 = fc 14064741636278059008 from rfl, h3] at g2
        obtain ⟨c, hc⟩ : ∃ c, fv .f64 x = some c := by
          rcases hc : fv .f64 x with _ | b
          · rw [hc] at h1; cases h1
          · exact ⟨b, rfl⟩
        obtain ⟨n, hn⟩ : ∃ n, toi (fv .f64 x) = some n := by
          rw [hc] at hb ⊢
          obtain ⟨n, _, _, _, h, _⟩ := toi_some hb
          exact ⟨n, h⟩
        have hr : phW (fv .f64 x) = phP (qLoop 16 (fracF (fv .f64 x) n) 0).1 (qLoop 16 (fracF (fv .f64 x) n) 0).2 := by
          unfold phW
          rw [if_neg (by rw [h1]; decide), if_neg (by rw [h2, h3]; decide), hn]; rfl
        have R := Lib.hid hr
        have ht := fun w => tval_of x w hn
        have hU : Up 16 (fracF (fv .f64 x) n) := Up.of_bd (fracF_bd hb hn)
        have hS : (fracF (fv .f64 x) n).isSome = true := by rw [hc] at hb hn ⊢; exact fracF_some hb hn
        have HU := Lib.hid hU
        have HS := Lib.hid hS
        clear h1 h2 h3 hr hb hn hU hS hc
        generalize hF0 : fracF (fv .f64 x) n = F0 at R HU HS
        have HF0 := Lib.hid hF0
        clear hF0
        have t0 : ∀ w, (FloatKind.f64.format.order (fval .sub .f64 x (floatOfInt .f64 n) w) 0 == some .lt) = flt (fsub (fv .f64 x) (some (floatOfInt .f64 n))) (fc 0) := by
          intro w; rw [lt_flt, fv_sub, fv_ofInt]; rfl
        cases hT0 : flt (fsub (fv .f64 x) (some (floatOfInt .f64 n))) (fc 0) <;> rw [hT0] at t0 <;> (have T0 := Lib.hid hT0) <;> clear hT0
        case' false => have HF : Hid (∀ w1, fv .f64 (fval .sub .f64 x (floatOfInt .f64 n) w1) = F0) := by
                         intro w1; rw [← HF0.out]; unfold fracF; rw [T0.out, if_neg Bool.false_ne_true, fv_sub, fv_ofInt]
        case' true => have HF : Hid (∀ w1 w2, fv .f64 (fval .add .f64 (fval .sub .f64 x (floatOfInt .f64 n) w1) 4607182418800017408 w2) = F0) := by
                        intro w1 w2; rw [← HF0.out]; unfold fracF; rw [T0.out, if_pos rfl, fv_add, fv_sub, fv_ofInt]; rfl
        all_goals
          go_enter Try.func22, Try.ntmps22
          go_wp2_with fail
          go_loopg [3, 4] 16 (fun g v q wr => ∃ (j fb m : Nat) (F : Option Nat), g + j = 16 ∧ v = .float .f64 fb ∧ q = .int .i64 j ∧ Hid (fv .f64 fb = F) ∧ Hid (Up (16 - j) F) ∧ Hid (F.isSome = true) ∧ Hid (qLoop 16 F0 0 = qLoop (16 - j) F j) ∧ wr = w.drewN m)
          case atStart => first | exact ⟨0, _, _, F0, rfl, rfl, rfl, HF.out _, HU, HS, rfl, rfl⟩ | exact ⟨0, _, _, F0, rfl, rfl, rfl, HF.out _ _, HU, HS, rfl, rfl⟩
          case round =>
            obtain ⟨j, fb, m, F, hj, rfl, rfl, hf, hup, hso, hq, rfl⟩ := hrel
            have tq := ge_fge fb 4598175219545276416
            rw [hf.out] at tq
            cases hge : fge F fq
            · rw [show fv .f64 4598175219545276416 = fq from rfl, hge] at tq
              have hq2 : qLoop 16 F0 0 = (F, j) := by rw [hq.out, qLoop_stop _ _ _ hge]
              have RR : Hid (phW (fv .f64 x) = phP F j) := by show _ = _; rw [R.out, hq2]
              have hbd := hup.out.bd
              have hbd3 : Bd 3 (fsub fq F) := Bd.sub (E1 := 2) (E2 := 2) (Bd.closed (by decide +kernel)) hbd (by decide) (by decide) (by decide) (by decide)
              have hsq : (fsub fq F).isSome = true := isSome_sub (E1 := 2) (E2 := 2) (Bd.closed (by decide +kernel)) hbd (by decide +kernel) hso.out
              have BC := Lib.hid (sine_bd hbd3 hsq)
              have BS := Lib.hid (sine_bd (hbd.mono (by decide)) hso.out)
              clear hge hq2 hbd hbd3 hsq
              have hcase : j = 1 ∨ j = 2 ∨ j = 3 ∨ (j ≠ 1 ∧ j ≠ 2 ∧ j ≠ 3) := by omega
              rcases hcase with rfl | rfl | rfl | ⟨n1, n2, n3⟩
              · go_wp2_with (first | (go_at_call_of 31 (Value.float .f64 fb); refine (spec_l01SineWide _ _).mono ?_; rintro e w' ⟨sb, ms, rfl, hs, rfl⟩; have HS0 := Lib.hid hs; clear hs) | (go_at_call 31; refine (spec_l01SineWide _ _).mono ?_; rintro e w' ⟨cb, mc, rfl, hc', rfl⟩; have HC0 := Lib.hid hc'; clear hc') | (go_at_call 32; refine (spec_l01Narrow _ _).mono ?_; rintro e w' ⟨rfl, rfl⟩))
                go_ret
                have HSB : Hid (fv .f64 sb = sineW F) := HS0.out.trans (by rw [hf.out])
                have HCB : Hid (fv .f64 cb = sineW (fsub fq F)) := HC0.out.trans (by rw [fv_sub, hf.out]; rfl)
                exact ⟨⟨_, _, rfl, by rw [RR.out]; unfold phP; rw [if_pos rfl]; exact part_neg _ _ HSB.out BS.out, by rw [RR.out]; unfold phP; rw [if_pos rfl]; exact part_fv _ HCB.out BC.out⟩, _, rfl⟩
              · go_wp2_with (first | (go_at_call_of 31 (Value.float .f64 fb); refine (spec_l01SineWide _ _).mono ?_; rintro e w' ⟨sb, ms, rfl, hs, rfl⟩; have HS0 := Lib.hid hs; clear hs) | (go_at_call 31; refine (spec_l01SineWide _ _).mono ?_; rintro e w' ⟨cb, mc, rfl, hc', rfl⟩; have HC0 := Lib.hid hc'; clear hc') | (go_at_call 32; refine (spec_l01Narrow _ _).mono ?_; rintro e w' ⟨rfl, rfl⟩))
                go_ret
                have HSB : Hid (fv .f64 sb = sineW F) := HS0.out.trans (by rw [hf.out])
                have HCB : Hid (fv .f64 cb = sineW (fsub fq F)) := HC0.out.trans (by rw [fv_sub, hf.out]; rfl)
                exact ⟨⟨_, _, rfl, by rw [RR.out]; unfold phP; rw [if_neg (by decide), if_pos rfl]; exact part_neg _ _ HCB.out BC.out, by rw [RR.out]; unfold phP; rw [if_neg (by decide), if_pos rfl]; exact part_neg _ _ HSB.out BS.out⟩, _, rfl⟩
              · go_wp2_with (first | (go_at_call_of 31 (Value.float .f64 fb); refine (spec_l01SineWide _ _).mono ?_; rintro e w' ⟨sb, ms, rfl, hs, rfl⟩; have HS0 := Lib.hid hs; clear hs) | (go_at_call 31; refine (spec_l01SineWide _ _).mono ?_; rintro e w' ⟨cb, mc, rfl, hc', rfl⟩; have HC0 := Lib.hid hc'; clear hc') | (go_at_call 32; refine (spec_l01Narrow _ _).mono ?_; rintro e w' ⟨rfl, rfl⟩))
                go_ret
                have HSB : Hid (fv .f64 sb = sineW F) := HS0.out.trans (by rw [hf.out])
                have HCB : Hid (fv .f64 cb = sineW (fsub fq F)) := HC0.out.trans (by rw [fv_sub, hf.out]; rfl)
                exact ⟨⟨_, _, rfl, by rw [RR.out]; unfold phP; rw [if_neg (by decide), if_neg (by decide), if_pos rfl]; exact part_fv _ HSB.out BS.out, by rw [RR.out]; unfold phP; rw [if_neg (by decide), if_neg (by decide), if_pos rfl]; exact part_neg _ _ HCB.out BC.out⟩, _, rfl⟩
              · have b1 : ((j : Int) == 1) = false := by simp; omega
                have b2 : ((j : Int) == 2) = false := by simp; omega
                have b3 : ((j : Int) == 3) = false := by simp; omega
                go_wp2_with (first | (go_at_call_of 31 (Value.float .f64 fb); refine (spec_l01SineWide _ _).mono ?_; rintro e w' ⟨sb, ms, rfl, hs, rfl⟩; have HS0 := Lib.hid hs; clear hs) | (go_at_call 31; refine (spec_l01SineWide _ _).mono ?_; rintro e w' ⟨cb, mc, rfl, hc', rfl⟩; have HC0 := Lib.hid hc'; clear hc') | (go_at_call 32; refine (spec_l01Narrow _ _).mono ?_; rintro e w' ⟨rfl, rfl⟩))
                go_ret
                have HSB : Hid (fv .f64 sb = sineW F) := HS0.out.trans (by rw [hf.out])
                have HCB : Hid (fv .f64 cb = sineW (fsub fq F)) := HC0.out.trans (by rw [fv_sub, hf.out]; rfl)
                exact ⟨⟨_, _, rfl, by rw [RR.out]; unfold phP; rw [if_neg n1, if_neg n2, if_neg n3]; exact part_fv _ HCB.out BC.out, by rw [RR.out]; unfold phP; rw [if_neg n1, if_neg n2, if_neg n3]; exact part_fv _ HSB.out BS.out⟩, _, rfl⟩
            · rw [show fv .f64 4598175219545276416 = fq from rfl, hge] at tq
              obtain ⟨hk, hup'⟩ := hup.out.step (by omega) hge
              have hso' : (fsub F fq).isSome = true := isSome_sub (E1 := 2) (E2 := 2) hup.out.bd (Bd.closed (by decide +kernel)) hso.out (by decide +kernel)
              have hq' : qLoop 16 F0 0 = qLoop (16 - (j + 1)) (fsub F fq) (j + 1) := by
                rw [hq.out, show 16 - j = (16 - (j + 1)) + 1 by omega]
                exact qLoop_go _ _ _ hge
              have HK := Lib.hid hk
              have HU' := Lib.hid hup'
              have HSO' := Lib.hid hso'
              have HQ' := Lib.hid hq'
              clear hge hk hup' hso' hq'
              go_wp2_with fail
              go_roundg (gk - 1)
              case measure => have := HK.out; omega
              case rel => exact ⟨j + 1, _, _, fsub F fq, by have := HK.out; omega, rfl, by go_num, by show _ = _; rw [fv_sub, hf.out]; rfl, by rw [show 16 - (j + 1) = 16 - j - 1 by omega]; exact HU'.out, HSO'.out, HQ'.out, rfl⟩
      · have hr : phW (fv .f64 x) = (fv .f32 1065353216, fv .f32 0) := by unfold phW; rw [if_neg (by rw [h1]; decide), if_pos (Or.inr h3)]
        have R := Lib.hid hr
        rw [show fv .f64 4841369599423283200 = fc 4841369599423283200 from rfl, h2] at g1
        rw [show fv .f64 14064741636278059008 = fc 14064741636278059008 from rfl, h3] at g2
        clear hr h1 h2 h3
        go_enter Try.func22, Try.ntmps22
        go_wp2_with fail
        go_ret
        exact ⟨⟨_, _, rfl, by rw [R.out], by rw [R.out]⟩, _, rfl⟩
    · have hr : phW (fv .f64 x) = (fv .f32 1065353216, fv .f32 0) := by unfold phW; rw [if_neg (by rw [h1]; decide), if_pos (Or.inl h2)]
      have R := Lib.hid hr
      rw [show fv .f64 4841369599423283200 = fc 4841369599423283200 from rfl, h2] at g1
      clear hr h1 h2 g2
      go_enter Try.func22, Try.ntmps22
      go_wp2_with fail
      go_ret
      exact ⟨⟨_, _, rfl, by rw [R.out], by rw [R.out]⟩, _, rfl⟩
end Go.Proofs.Ytffdmgdffbimlaa
