/-
  The law FnProducts's walk, from its callees' contracts. Condition: the listed variables read as listed, internal/bytealg.MaxLen holds some number; lists of bytes longer than 2^20 are not asked.
-/
import Derived.Test.YtmiajfdhdpmeoaaGreatDoorGk
namespace Go.Proofs.YtmiajfdhdpmeoaaGreatDoor
open Go.RowKit Go.Lib Go.Joins Ieee

set_option maxHeartbeats 8000000 in
set_option maxRecDepth 10000 in
theorem law_FnProducts (w : World) (a : Option Addr) (n c : Nat) (bs : List Nat) (hn : bs.length = n) (ha : bys w a bs) (hb : ∀ i, i < n → bs.getD i 0 < 256) (hl : n < 9223372036854775808)
    (a' : Option Addr) (n' c' : Nat) (bs' : List Nat) (hn' : bs'.length = n') (ha' : bys w a' bs') (hb' : ∀ i, i < n' → bs'.getD i 0 < 256) (hl' : n' < 9223372036854775808)
    (hm : Hid (MaxLenIs w)) (hd : Hid (Bru w)) (he : Hid (ErrS w)) :
    Calls Tryz.prog 3 #[.slice a n c, .slice a' n' c'] w fun e w' => e = .returned (.bool true) ∧ Below w.heap.size w w' := by
  have HN := Lib.hid hn
  have HA := Lib.hid ha
  have HB := Lib.hid hb
  have HN' := Lib.hid hn'
  have HA' := Lib.hid ha'
  have HB' := Lib.hid hb'
  clear hn ha hb hn' ha' hb'
  have CL := Lib.hid (laws_b10Long a a' n c n' c' w hl hl')
  cases hlong : (decide (1048576 < n) || decide (1048576 < n'))
  · have hs1 : n < 2147483648 ∧ n' < 2147483648 := by simp at hlong; omega
    rw [hlong] at CL
    clear hlong
    go_enter Tryz.func3, Tryz.ntmps3
    go_wp2_with fail
    refine CL.out.mono ?_
    rintro e w' ⟨rfl, rfl⟩
    go_wp2_with fail
    refine (spec_B10Whole a n c bs _ HN.out HA HB hs1.1).mono ?_
    rintro e w1 ⟨⟨la, lca, x, y, rfl, hxy, hrow1⟩, b1⟩
    have D1 := Lib.hid b1
    obtain ⟨B1, hr1⟩ := hrow1.out
    obtain ⟨g1, rfl, _, hca1⟩ := hr1.cell (i := 0) (Nat.succ_pos _)
    have hca1' : w1.cell? ⟨g1, 0, none⟩ = some (.complex .f32 (floatOfInt .f32 x) (floatOfInt .f32 y)) := hca1
    clear b1 hr1 hrow1 hca1
    go_wp2_with fail
    refine (spec_B10Whole a' n' c' bs' _ HN'.out (Lib.hid (HA'.out.stays D1.out)) HB' hs1.2).mono ?_
    rintro e w2 ⟨⟨lb, lcb, u, v, rfl, huv, hrow2⟩, b2⟩
    have D2 := Lib.hid (onB D1.out b2)
    obtain ⟨B2, hr2⟩ := hrow2.out
    obtain ⟨g2, rfl, _, hca2⟩ := hr2.cell (i := 0) (Nat.succ_pos _)
    have hca2' : w2.cell? ⟨g2, 0, none⟩ = some (.complex .f32 (floatOfInt .f32 u) (floatOfInt .f32 v)) := hca2
    clear b2 hr2 hrow2 hca2 hca1'
    have hx := Lib.hid (show x.natAbs ≤ 200 by have := hxy.out; omega)
    have hy := Lib.hid (show y.natAbs ≤ 200 by have := hxy.out; omega)
    have hu := Lib.hid (show u.natAbs ≤ 200 by have := huv.out; omega)
    have hv := Lib.hid (show v.natAbs ≤ 200 by have := huv.out; omega)
    have ZX := Lib.hid (Z.ofInt .f32 (n := x) (Nat.le_trans hx.out (by decide)))
    have ZY := Lib.hid (Z.ofInt .f32 (n := y) (Nat.le_trans hy.out (by decide)))
    have ZU := Lib.hid (Z.ofInt .f32 (n := u) (Nat.le_trans hu.out (by decide)))
    have ZV := Lib.hid (Z.ofInt .f32 (n := v) (Nat.le_trans hv.out (by decide)))
    have LG := Lib.hid (fun w => long_at (x := x) (y := y) w hx.out hy.out)
    generalize floatOfInt .f32 x = ar at *
    generalize floatOfInt .f32 y = ai at *
    generalize floatOfInt .f32 u = br at *
    generalize floatOfInt .f32 v = bi at *
    go_wp2_with fail
    refine (mul_at _ ZX.out ZY.out ZU.out ZV.out hx.out hy.out hu.out hv.out).mono ?_
    rintro e w' ⟨pr, pi, m1, rfl, zpr, zpi, rfl⟩
    have ZPR := Lib.hid zpr
    have ZPI := Lib.hid zpi
    clear zpr zpi hca2'
    have q1 := abs_mul hx.out hu.out
    have q2 := abs_mul hy.out hv.out
    have q3 := abs_mul hx.out hv.out
    have q4 := abs_mul hy.out hu.out
    have q5 := abs_mul hx.out hx.out
    have q6 := abs_mul hy.out hy.out
    have i1 : -40000 ≤ x * u ∧ x * u ≤ 40000 := by omega
    have i2 : -40000 ≤ y * v ∧ y * v ≤ 40000 := by omega
    have i3 : -40000 ≤ x * v ∧ x * v ≤ 40000 := by omega
    have i4 : -40000 ≤ y * u ∧ y * u ≤ 40000 := by omega
    have i5 : -40000 ≤ x * x ∧ x * x ≤ 40000 := by omega
    have i6 : -40000 ≤ y * y ∧ y * y ≤ 40000 := by omega
    clear q1 q2 q3 q4 q5 q6
    have cx := fun w => run_convert_float_int (P := Tryz.prog) w 28 2 .f32 .i64 ar x (by kernel_rfl) (by kernel_rfl) (ZX.out.toI (Nat.le_trans hx.out (by decide)))
    have cy := fun w => run_convert_float_int (P := Tryz.prog) w 28 2 .f32 .i64 ai y (by kernel_rfl) (by kernel_rfl) (ZY.out.toI (Nat.le_trans hy.out (by decide)))
    have cu := fun w => run_convert_float_int (P := Tryz.prog) w 28 2 .f32 .i64 br u (by kernel_rfl) (by kernel_rfl) (ZU.out.toI (Nat.le_trans hu.out (by decide)))
    have cv := fun w => run_convert_float_int (P := Tryz.prog) w 28 2 .f32 .i64 bi v (by kernel_rfl) (by kernel_rfl) (ZV.out.toI (Nat.le_trans hv.out (by decide)))
    have zp1 := Z.ofInt .f32 (n := x * u - y * v) (Nat.le_trans (m := 80000) (by omega) (by decide))
    have zp2 := Z.ofInt .f32 (n := x * v + y * u) (Nat.le_trans (m := 80000) (by omega) (by decide))
    have ZQ := Lib.hid (Z.ofInt .f32 (n := x * x + y * y) (Nat.le_trans (m := 80000) (by omega) (by decide)))
    have o1 := ZPR.out.same zp1 rfl
    have o2 := ZPI.out.same zp2 rfl
    clear zp1 zp2
    go_wp2_with fail
    refine (mul_at _ ZU.out ZV.out ZX.out ZY.out hu.out hv.out hx.out hy.out).mono ?_
    rintro e w' ⟨r1, s1, m2, rfl, z1, z2, rfl⟩
    have o3 := z1.same ZPR.out (by rw [Int.mul_comm u x, Int.mul_comm v y])
    have o4 := z2.same ZPI.out (by rw [Int.mul_comm u y, Int.mul_comm v x, Int.add_comm])
    clear z1 z2 o1 o2
    go_wp2_with fail
    refine (power_at _ ZX.out ZY.out hx.out hy.out).mono ?_
    rintro e w' ⟨r2, m3, rfl, z1, rfl⟩
    have o5 := z1.same ZQ.out rfl
    clear z1 o3 o4
    go_wp2_with fail
    refine (impl_ConjugateOf ar ai _).mono ?_
    rintro e w' ⟨rfl, m4, rfl⟩
    go_wp2_with fail
    refine (mul_at _ ZX.out ZY.out ZX.out ZY.out.neg hx.out hy.out hx.out (by rw [Int.natAbs_neg]; exact hy.out)).mono ?_
    rintro e w' ⟨r3, s3, m5, rfl, z1, z2, rfl⟩
    have o6 := z1.same ZQ.out (by rw [Int.mul_neg]; omega)
    have o7 := z2.same (Z.nought .f32) (by rw [Int.mul_neg, Int.mul_comm y x]; omega)
    clear z1 z2 o5
    go_wp2_with fail
    refine (LG.out _).mono ?_
    rintro e w' ⟨r4, m6, rfl, h4, hlt4, rfl⟩
    have H4 := Lib.hid h4
    clear h4 o6 o7
    go_wp2_with fail
    refine (root_at _ _).mono ?_
    rintro e w' ⟨r5, m7, rfl, h5, hlt5, rfl⟩
    have HRR : Hid ((bitsI r4 == bitsI r5) = true) := by show _ = _; rw [bitsI_of_fv (H4.out.trans h5.symm)]; simp
    clear h5
    go_wp2_with fail
    refine (same_num r4 r5 true _ hlt4 hlt5 HRR).mono ?_
    rintro e w' ⟨rfl, rfl⟩
    clear hlt4 hlt5 HRR H4 LG cx cy cu cv i1 i2 i3 i4 i5 i6
    obtain ⟨d1, hd1, zd1⟩ := ZX.out.double hx.out
    obtain ⟨d2, hd2, zd2⟩ := ZY.out.double hy.out
    have ZD1 := Lib.hid zd1
    have ZD2 := Lib.hid zd2
    have csum := fun w t => run_complex_sum (P := Tryz.prog) w .add (Or.inl rfl) t .f32 ar ai ar ai d1 d2 (by unfold cSumBits; rw [hd1, hd2]; rfl)
    clear hd1 hd2 zd1 zd2
    have CSC := Lib.hid (fun W => scale_at (w := W) ZX.out ZY.out hx.out hy.out)
    have CAT := Lib.hid (fun m => laws_b10At a n c bs 0 9 (w2.drewN m) HN.out (HA.out.stays (belowD D2.out m)) HB.out hs1.1 (by decide) (by decide) (by decide))
    have hk9 := atB_lt bs 0 (show 0 < 9 by decide)
    have CAN := Lib.hid (fun m => spec_B10Any a' n' c' (atB bs 0 9) bs' (w2.drewN m) HN'.out (Lib.hid (HA'.out.stays (belowD D2.out m))) HB' hs1.2 (by omega))
    generalize atB bs 0 9 = k at hk9 CAT CAN
    by_cases hz : u = 0 ∧ v = 0
    focus
      have o8 := ZU.out.same (Z.nought .f32) hz.1
      have o9 := ZV.out.same (Z.nought .f32) hz.2
      clear hz
      go_wp2_with fail
      refine (CSC.out _).mono ?_
      rintro e w' ⟨r6, s6, m8, rfl, z1, z2, rfl⟩
      have o10 := z1.same ZD1.out rfl
      have o11 := z2.same ZD2.out rfl
      clear z1 z2 o8 o9
      go_wp2_with fail
      refine (CAT.out _).mono ?_
      rintro e w' ⟨rfl, rfl⟩
    rotate_left
    focus
      have bnz : ∀ t w, (binOp .neq t (.complex .f32 br bi) (.complex .f32 0 0)).run Tryz.prog w = .ok (.bool true) w := fun t w => by
        rw [run_neq_complex]
        by_cases h1 : u = 0
        · rw [(ZV.out.differ (Z.nought .f32) (fun h2 => hz ⟨h1, h2⟩)), Bool.and_false]; rfl
        · rw [(ZU.out.differ (Z.nought .f32) h1), Bool.false_and]; rfl
      have h0 : u * u + v * v ≠ 0 := fun h => by
        obtain ⟨p1, p2⟩ := sq_nonneg u
        obtain ⟨p3, p4⟩ := sq_nonneg v
        exact hz ⟨p2 (by omega), p4 (by omega)⟩
      have CQ := Lib.hid (fun W => quotient_at (w := W) ZPR.out ZPI.out ZU.out ZV.out hx.out hy.out hu.out hv.out h0)
      clear h0 hz
      go_wp2_with fail
      refine (CQ.out _).mono ?_
      rintro e w' ⟨r7, s7, m9, rfl, z1, z2, rfl⟩
      have o12 := z1.same ZX.out rfl
      have o13 := z2.same ZY.out rfl
      clear z1 z2 bnz
      go_wp2_with fail
      refine (CSC.out _).mono ?_
      rintro e w' ⟨r6, s6, m8, rfl, z1, z2, rfl⟩
      have o10 := z1.same ZD1.out rfl
      have o11 := z2.same ZD2.out rfl
      clear z1 z2 o12 o13
      go_wp2_with fail
      refine (CAT.out _).mono ?_
      rintro e w' ⟨rfl, rfl⟩
    all_goals
      go_wp2_with fail
      refine (CAN.out _).mono ?_
      rintro e w3 ⟨⟨la, lc, xs, rfl, hxl, h32, hrow⟩, b3⟩
      have D3 := Lib.hid (onB (belowD D2.out _) b3)
      obtain ⟨BL, hrw⟩ := hrow.out
      have HR3 := Lib.hid hrw
      clear b3 hrow hrw
      go_wp2_with fail
      refine (impl_ComplexText la k lc BL xs _ hxl.out HR3 (by omega) h32 (Lib.hid (hd.out.on D3.out (Nat.le_refl _)))).mono ?_
      rintro e w4 ⟨rfl, b4⟩
      have D4 := Lib.hid (onB D3.out b4)
      have HR4 := Lib.hid (HR3.out.stays b4)
      clear b4
      go_wp2_with fail
      refine (read_backC xs k _ hxl h32 (by omega) (Lib.hid (hm.out.on D4.out (Nat.le_refl _))) (Lib.hid (hd.out.on D4.out (Nat.le_refl _))) (Lib.hid (he.out.on D4.out (Nat.le_refl _)))).mono ?_
      rintro e w5 ⟨ra, rc, rfl, b5, hr5⟩
      have D5 := Lib.hid (onB D4.out b5)
      have HR5 := Lib.hid (HR4.out.stays b5)
      clear b5
      go_wp2_with fail
      refine (spec_B10Number a n c bs _ HN.out (Lib.hid (HA.out.stays D5.out)) HB hs1.1).mono ?_
      rintro e w6 ⟨⟨z, hz, rfl⟩, b6⟩
      have D6 := Lib.hid (onB D5.out b6)
      have HR6 := Lib.hid (HR5.out.stays b6)
      have RR6 := Lib.hid (hr5.out.stays b6)
      clear b6
      go_wp2_with fail
      refine (impl_BitsOf z _ hz).mono ?_
      rintro e w' ⟨rfl, rfl⟩
      go_wp2_with fail
      refine (impl_FromBits (bitsI z) _).mono ?_
      rw [fromB_bits hz]
      rintro e w' ⟨rfl, rfl⟩
      go_wp2_with fail
      refine (spec_B10Complex a n c bs _ HN.out (Lib.hid (HA.out.stays D6.out)) HB hs1.1).mono ?_
      rintro e w7 ⟨⟨p, q, hp, hq, rfl⟩, b7⟩
      have D7 := Lib.hid (onB D6.out b7)
      have HR7 := Lib.hid (HR6.out.stays b7)
      have RR7 := Lib.hid (RR6.out.stays b7)
      have CBS := Lib.hid (fun m => laws_b10Same ra la k rc lc _ _ xs (w7.drewN m) hxl.out h32 (Lib.hid (RR7.out.stays (belowD (Below.refl _ _) m))) (Lib.hid (HR7.out.stays (belowD (Below.refl _ _) m))) (by omega))
      clear b7
      go_wp2_with fail
      refine (CBS.out _).mono ?_
      rintro e w' ⟨rfl, m10, rfl⟩
      go_wp2_with fail
      refine (same_num (bitsN z) z true _ (bitsN_eq hz).2 hz (Lib.hid (same_back hz))).mono ?_
      rintro e w' ⟨rfl, rfl⟩
      go_wp2_with fail
      refine (narrowC_at p q _ _ _ hp hq).mono ?_
      rintro e w' ⟨r8, s8, m11, rfl, hr8, hs8, hh1, hh2, rfl⟩
      go_wp2_with fail
      refine (impl_SameComplex r8 s8 p q _ hr8 hs8 hp hq hh1 hh2).mono ?_
      rintro e w' ⟨rfl, m12, rfl⟩
      have hneg : Op.negFloat .f32 (Op.negFloat .f32 q) = q := negF_two
      go_wp2_with fail
      refine (impl_ConjugateOf p q _).mono ?_
      rintro e w' ⟨rfl, m13, rfl⟩
      go_wp2_with fail
      refine (impl_ConjugateOf p _ _).mono ?_
      rw [hneg]
      rintro e w' ⟨rfl, m14, rfl⟩
      clear hneg
      go_wp2_with fail
      refine (impl_SameComplex p q p q _ hp hq hp hq (Lib.hid (by simp)) (Lib.hid (by simp))).mono ?_
      rintro e w' ⟨rfl, m15, rfl⟩
      have CF := Lib.hid (fun W => impl_IsFiniteComplex p q W)
      have CP := Lib.hid (fun W => spec_IsFinite p W)
      have CQ2 := Lib.hid (fun W => spec_IsFinite q W)
      generalize finB (fv .f32 p) = f1 at CF CP
      generalize finB (fv .f32 q) = f2 at CF CQ2
      cases f1 <;> cases f2
      all_goals
        go_wp2_with fail
        refine (CF.out _).mono ?_
        rintro e w' ⟨rfl, m16, rfl⟩
        go_wp2_with fail
        refine (CP.out _).mono ?_
        rintro e w' ⟨rfl, m17, rfl⟩
        go_wp2_with fail
        try (refine (CQ2.out _).mono ?_; rintro e w' ⟨rfl, m18, rfl⟩; go_wp2_with fail)
        go_ret
        exact ⟨rfl, belowD D7.out _⟩
  · rw [hlong] at CL
    clear hlong
    go_enter Tryz.func3, Tryz.ntmps3
    go_wp2_with fail
    refine CL.out.mono ?_
    rintro e w' ⟨rfl, rfl⟩
    go_wp2_with fail
    go_ret
    exact ⟨rfl, Below.refl _ _⟩
end Go.Proofs.YtmiajfdhdpmeoaaGreatDoor
