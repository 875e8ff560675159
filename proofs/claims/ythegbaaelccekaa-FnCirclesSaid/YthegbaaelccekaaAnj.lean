/-
  Angles: the program's walk, and the law FnExactAngleTurns. Condition: bits fit the kind.
-/
import Derived.Test.YthegbaaelccekaaAnw
namespace Go.Proofs.Ythegbaaelccekaa
open Go.RowKit Ieee
attribute [local irreducible] mg

/-- The angle of a point of two float32s. -/
def angB (y x : Nat) : Option Nat := nar (angW (wid (fv .f32 y)) (wid (fv .f32 x)))

theorem wid_number {x : Nat} (h : finB (fv .f32 x) = true) : ∃ b s m p, wid (fv .f32 x) = some b ∧ fv .f32 x = some x ∧ double.read b = .number s m p ∧ b = double.write (single.read x) := by
  rcases fv_cases .f32 x with ⟨a1, _, _⟩ | ⟨a1, hn, _⟩
  · rw [a1] at h; cases h
  · have hn' : (single.read x).isNaN = false := hn
    rw [a1, finB_some x hn'] at h
    cases hd : single.read x with
    | nan s t => rw [hd] at hn'; cases hn'
    | infinity s => rw [hd] at h; cases h
    | number s m p =>
      obtain ⟨m', p', k1, _, _⟩ := wide_read hd
      exact ⟨double.write (single.read x), s, m', p', by rw [a1]; rfl, a1, by rw [hd]; exact k1, by rw [hd]⟩

theorem feq_zero {b m : Nat} {s : Bool} {p : Int} (h : double.read b = .number s m p) (hm : mg m p = 0) : feq (some b) (fc 0) = true := by
  have bx := read_double h
  have z1 : fc 0 = some 0 := by decide +kernel
  have z2 : double.read 0 = .number false 0 (-1074) := by decide +kernel
  have o : ford .f64 (some b) (some 0) = some (compare (sv s m p) (sv false 0 (-1074))) := order_mg double h z2 (by omega) (by decide)
  unfold feq
  rw [z1, o]
  unfold sv
  rw [hm, mg_zero]
  cases s <;> rfl

theorem angW_big (y x : Nat) : big (angW (wid (fv .f32 y)) (wid (fv .f32 x))) = false := by
  unfold angW
  split
  · rfl
  · rename_i h1
    have hy : finB (fv .f32 y) = true := by
      rw [← finW_wid _ (fv_isNum .f32 y)]
      cases h : finW (wid (fv .f32 y))
      · exact absurd (.inl h) h1
      · rfl
    have hx : finB (fv .f32 x) = true := by
      rw [← finW_wid _ (fv_isNum .f32 x)]
      cases h : finW (wid (fv .f32 x))
      · exact absurd (.inr h) h1
      · rfl
    obtain ⟨b, s, m, p, e1, _, r1, _⟩ := wid_number hy
    obtain ⟨c, t, n, q, e2, _, r2, _⟩ := wid_number hx
    split
    · decide +kernel
    · rename_i h2
      rw [e1, e2] at h2 ⊢
      refine big_of_Bd (angF_bd r1 r2 ?_) (by decide) (by decide)
      by_cases k1 : mg m p = 0
      · by_cases k2 : mg n q = 0
        · exact absurd ⟨feq_zero r2 k2, feq_zero r1 k1⟩ h2
        · exact .inr (Nat.pos_of_ne_zero k2)
      · exact .inl (Nat.pos_of_ne_zero k1)

set_option maxHeartbeats 2000000 in
theorem impl_AngleTurns (y x : Nat) (w : World) : Calls Try.prog 17 #[.float .f32 y, .float .f32 x] w fun e w' => ∃ r m, e = .returned (.float .f32 r) ∧ fv .f32 r = angB y x ∧ r < 4294967296 ∧ w' = w.drewN m := by
  cases h1 : finB (fv .f32 x)
  · have hr : angB y x = none := by unfold angB angW; rw [if_pos (.inr (by rw [finW_wid _ (fv_isNum .f32 x), h1]))]; rfl
    have H1 := Lib.hid h1
    have R := Lib.hid hr
    clear h1 hr
    go_enter Try.func17, Try.ntmps17
    go_wp2_with (first | (go_at_call 20; refine (impl_IsFinite _ _).mono ?_; rw [H1.out]; rintro e w' ⟨rfl, n, rfl⟩) | (go_at_call 14; refine (math_NaN _).mono ?_; rintro e w' ⟨rfl, rfl⟩))
    go_ret
    exact ⟨_, _, rfl, by rw [R.out]; exact nval_none _ _ (by decide +kernel), nval_lt _ _, rfl⟩
  · cases h2 : finB (fv .f32 y)
    · have hr : angB y x = none := by unfold angB angW; rw [if_pos (.inl (by rw [finW_wid _ (fv_isNum .f32 y), h2]))]; rfl
      have H1 := Lib.hid h1
      have H2 := Lib.hid h2
      have R := Lib.hid hr
      clear h1 h2 hr
      go_enter Try.func17, Try.ntmps17
      go_wp2_with fail
      refine (impl_IsFinite _ _).mono ?_
      rw [H1.out]
      rintro e w' ⟨rfl, n, rfl⟩
      go_wp2_with fail
      refine (impl_IsFinite _ _).mono ?_
      rw [H2.out]
      rintro e w' ⟨rfl, n2, rfl⟩
      go_wp2_with (go_at_call 14; refine (math_NaN _).mono ?_; rintro e w' ⟨rfl, rfl⟩)
      go_ret
      exact ⟨_, _, rfl, by rw [R.out]; exact nval_none _ _ (by decide +kernel), nval_lt _ _, rfl⟩
    · have gx0 := eq32_zero x
      have gy0 := eq32_zero y
      have hfin : ¬ (finW (wid (fv .f32 y)) = false ∨ finW (wid (fv .f32 x)) = false) := by rw [finW_wid _ (fv_isNum .f32 y), finW_wid _ (fv_isNum .f32 x), h1, h2]; decide
      have H1 := Lib.hid h1
      have H2 := Lib.hid h2
      rcases zero_or (wid (fv .f32 y)) (wid (fv .f32 x)) with ⟨z1, z2⟩ | ⟨zz, hne⟩
      · have hr : angB y x = nar (fc 0) := by unfold angB angW; rw [if_neg hfin, if_pos ⟨z1, z2⟩]
        rw [z1] at gx0
        rw [z2] at gy0
        have R := Lib.hid hr
        clear h1 h2 hr z1 z2 hfin
        go_enter Try.func17, Try.ntmps17
        go_wp2_with fail
        refine (impl_IsFinite _ _).mono ?_
        rw [H1.out]
        rintro e w' ⟨rfl, n, rfl⟩
        go_wp2_with fail
        refine (impl_IsFinite _ _).mono ?_
        rw [H2.out]
        rintro e w' ⟨rfl, n2, rfl⟩
        go_wp2
        go_ret
        exact ⟨_, _, rfl, by rw [R.out]; decide +kernel, by decide, rfl⟩
      · have hbig := angW_big y x
        have hr : angW (wid (fv .f32 y)) (wid (fv .f32 x)) = angF (wid (fv .f32 y)) (wid (fv .f32 x)) := by unfold angW; rw [if_neg hfin, if_neg hne]
        have hB : angB y x = nar (angF (wid (fv .f32 y)) (wid (fv .f32 x))) := by unfold angB; rw [hr]
        rw [hr] at hbig
        rw [hB]
        have gx := lt32_zero x
        have gy := lt32_zero y
        obtain ⟨X, _, _, _, ex, ax, rx, bx⟩ := wid_number h1
        obtain ⟨Y, _, _, _, ey, ay, ry, bY⟩ := wid_number h2
        have wx : ∀ w, wval x w = X := fun w => by
          unfold wval
          rw [show (single.read x).isNaN = false from fv_isNum .f32 x x ax, if_neg Bool.false_ne_true, bx]
        have wy : ∀ w, wval y w = Y := fun w => by
          unfold wval
          rw [show (single.read y).isNaN = false from fv_isNum .f32 y y ay, if_neg Bool.false_ne_true, bY]
        have lx : X < 18446744073709551616 := by rw [bx]; exact double.write_lt _
        have ly : Y < 18446744073709551616 := by rw [bY]; exact double.write_lt _
        have fX : fv .f64 X = some X := fv_some (by show (double.read X).isNaN = false; rw [rx]; rfl)
        have fY : fv .f64 Y = some Y := fv_some (by show (double.read Y).isNaN = false; rw [ry]; rfl)
        rw [ex] at gx gx0 hbig zz ⊢
        rw [ey] at gy gy0 hbig zz ⊢
        have go : (FloatKind.f64.format.order (absB Y) (absB X) == some .gt) = fgt (fabs (some Y)) (fabs (some X)) := by rw [gt_fgt, fv_absB, fv_absB, fX, fY]
        have HbA := Lib.hid hbig
        clear hr hB hbig hfin hne h1 h2 ex ey ax ay rx ry bx bY
        unfold angF at HbA ⊢
        generalize fgt (fabs (some Y)) (fabs (some X)) = over at go HbA ⊢
        generalize flt (some X) (fc 0) = xn at gx HbA ⊢
        generalize flt (some Y) (fc 0) = yn at gy HbA ⊢
        unfold angG at HbA ⊢
        generalize hT : (if over = true then fquo (fabs (some X)) (fabs (some Y)) else fquo (fabs (some Y)) (fabs (some X))) = T at HbA ⊢
        have HT := Lib.hid hT
        clear hT
        generalize hRR : angH T over xn yn = RR at HbA ⊢
        have HRR := Lib.hid hRR
        clear hRR
        have Z : (FloatKind.f32.format.order x 0 == some .eq) = false ∨ ((FloatKind.f32.format.order x 0 == some .eq) = true ∧ (FloatKind.f32.format.order y 0 == some .eq) = false) := by
          rcases zz with z | ⟨z1, z2⟩
          · exact .inl (by rw [gx0, z])
          · exact .inr ⟨by rw [gx0, z1], by rw [gy0, z2]⟩
        clear zz gx0 gy0
        have GX := Lib.hid gx
        have GY := Lib.hid gy
        have FX := Lib.hid fX
        have FY := Lib.hid fY
        clear gx gy fX fY
        rcases Z with k1 | ⟨k1, k2⟩ <;> cases over
        all_goals
          go_enter Try.func17, Try.ntmps17
          go_wp2_with fail
          refine (impl_IsFinite _ _).mono ?_
          rw [H1.out]
          rintro e w' ⟨rfl, n, rfl⟩
          go_wp2_with fail
          refine (impl_IsFinite _ _).mono ?_
          rw [H2.out]
          rintro e w' ⟨rfl, n2, rfl⟩
          go_wp2_with (go_at_call 25; refine (math_Abs _ _ (by assumption)).mono ?_; rintro e w' ⟨rfl, rfl⟩)
          go_loopg [7, 45] 3 (fun g t k wr => ∃ (j tb m : Nat), g + j = 3 ∧ t = .float .f64 tb ∧ k = .int .i64 (j : Int) ∧ Hid (fv .f64 tb = tA T j) ∧ wr = w.drewN m)
          case atStart => exact ⟨0, _, _, rfl, rfl, rfl, (by show fv .f64 _ = T; rw [fv_quo, fv_absB, fv_absB, FX.out, FY.out, ← HT.out]; rfl), rfl⟩
          case round =>
            obtain ⟨j, tb, m, hj, rfl, rfl, ht, rfl⟩ := hrel
            by_cases hlt : j < 3
            · go_wp2_with (go_at_call 26; refine (math_Sqrt _ _).mono ?_; rintro e w' ⟨rfl, rfl⟩)
              go_roundg (gk - 1)
              case measure => omega
              case rel =>
                refine ⟨j + 1, _, _, by omega, rfl, by go_num, ?_, rfl⟩
                show fv .f64 _ = _
                simp only [fv_quo, fv_add, fv_mul, fv_sval, ht.out]
                rfl
            · have h3 : j = 3 := by omega
              subst h3
              go_wp2_with fail
              go_loopg [9, 10] 8 (fun g p k wr => ∃ (j pb kb m : Nat), g + j = 8 ∧ p = .float .f64 pb ∧ k = .float .f64 kb ∧ Hid (fv .f64 kb = kR j ∧ fv .f64 pb = rA (fmul (tA T 3) (tA T 3)) j) ∧ wr = w.drewN m)
              case atStart => exact ⟨0, _, _, _, rfl, rfl, rfl, ⟨rfl, rfl⟩, rfl⟩
              case round =>
                obtain ⟨j, pb, kb, m, hj, rfl, rfl, hpk, rfl⟩ := hrel
                have hgt := ge_fge kb 4607182418800017408
                rw [hpk.out.1, show fv .f64 4607182418800017408 = fc 4607182418800017408 from rfl] at hgt
                by_cases hlt : j < 8
                · rw [kR_test j hlt] at hgt
                  go_wp2_with fail
                  go_roundg (gk - 1)
                  case measure => omega
                  case rel =>
                    obtain ⟨hp, hk⟩ := hpk.out
                    refine ⟨j + 1, _, _, _, by omega, rfl, rfl, ⟨?_, ?_⟩, rfl⟩
                    · simp only [fv_sub, hp]; rfl
                    · simp only [fv_sub, fv_quo, fv_mul, hk, hp, ht.out]
                      rfl
                · have h8 : j = 8 := by omega
                  subst h8
                  rw [kR_end] at hgt
                  have gx := GX.out
                  have gy := GY.out
                  cases xn <;> cases yn
                  all_goals
                    go_wp2_with fail
                    go_ret
                    refine ⟨_, _, rfl, ?_, nval_lt _ _, rfl⟩
                    have hv : ∀ b w2, fv .f64 b = RR → fv .f32 (nval b w2) = nar RR := fun b w2 hb => by rw [fv_nval _ _ (by rw [hb]; exact HbA.out), hb]
                    apply hv
                    simp only [fv_negFloat, fv_mul, fv_sub, fv_quo, hpk.out.2, ht.out]
                    rw [← HRR.out]
                    rfl

end Go.Proofs.Ythegbaaelccekaa
