/-
  The law FnCircles: its walk. No condition: what it reads of its input are two numbers below 256 and two below 200.
-/
import Derived.Test.YthegbaaelccekaaCh
import Derived.Test.YthegbaaelccekaaCj
import Derived.Test.YthegbaaelccekaaTxj
import Derived.Test.YthegbaaelccekaaTxs
import Derived.Test.YthegbaaelccekaaPhc
import Derived.Test.YthegbaaelccekaaBys
import Derived.Below
import Derived.WalkLawsBesides
namespace Go.Proofs.Ythegbaaelccekaa
open Go.RowKit Ieee

theorem prow_all : ∀ i, i < 64 → rowP i = true
  | 0, _ => prow_0
  | 1, _ => prow_1
  | 2, _ => prow_2
  | 3, _ => prow_3
  | 4, _ => prow_4
  | 5, _ => prow_5
  | 6, _ => prow_6
  | 7, _ => prow_7
  | 8, _ => prow_8
  | 9, _ => prow_9
  | 10, _ => prow_10
  | 11, _ => prow_11
  | 12, _ => prow_12
  | 13, _ => prow_13
  | 14, _ => prow_14
  | 15, _ => prow_15
  | 16, _ => prow_16
  | 17, _ => prow_17
  | 18, _ => prow_18
  | 19, _ => prow_19
  | 20, _ => prow_20
  | 21, _ => prow_21
  | 22, _ => prow_22
  | 23, _ => prow_23
  | 24, _ => prow_24
  | 25, _ => prow_25
  | 26, _ => prow_26
  | 27, _ => prow_27
  | 28, _ => prow_28
  | 29, _ => prow_29
  | 30, _ => prow_30
  | 31, _ => prow_31
  | 32, _ => prow_32
  | 33, _ => prow_33
  | 34, _ => prow_34
  | 35, _ => prow_35
  | 36, _ => prow_36
  | 37, _ => prow_37
  | 38, _ => prow_38
  | 39, _ => prow_39
  | 40, _ => prow_40
  | 41, _ => prow_41
  | 42, _ => prow_42
  | 43, _ => prow_43
  | 44, _ => prow_44
  | 45, _ => prow_45
  | 46, _ => prow_46
  | 47, _ => prow_47
  | 48, _ => prow_48
  | 49, _ => prow_49
  | 50, _ => prow_50
  | 51, _ => prow_51
  | 52, _ => prow_52
  | 53, _ => prow_53
  | 54, _ => prow_54
  | 55, _ => prow_55
  | 56, _ => prow_56
  | 57, _ => prow_57
  | 58, _ => prow_58
  | 59, _ => prow_59
  | 60, _ => prow_60
  | 61, _ => prow_61
  | 62, _ => prow_62
  | 63, _ => prow_63
  | i + 64, h => absurd h (by omega)
theorem pr_tab (s t : Nat) : okP s t := by
  have h := chkP_to (List.all_eq_true.1 (prow_all (s % 64) (by omega)) (t % 64) (List.mem_range.2 (by omega)))
  have e : ∀ s, pR (s % 64) = pR s ∧ pI (s % 64) = pI s := fun s => by
    have : s % 64 % 64 = s % 64 := by omega
    unfold pR pI
    rw [this]
    exact ⟨rfl, rfl⟩
  have e2 : pR (s % 64 + t % 64) = pR (s + t) ∧ pI (s % 64 + t % 64) = pI (s + t) := by
    have : (s % 64 + t % 64) % 64 = (s + t) % 64 := by omega
    unfold pR pI
    rw [this]
    exact ⟨rfl, rfl⟩
  unfold okP at h ⊢
  rw [(e s).1, (e s).2, (e t).1, (e t).2, e2.1, e2.2] at h
  exact h

theorem fv_is {k : FloatKind} {b z : Nat} (h : fv k b = some z) : b = z := by
  unfold fv at h; split at h <;> simp_all
theorem fval_is {op : BinOp} {k : FloatKind} {x y z : Nat} (h : floatBits op k x y = some z) : ∀ w, fval op k x y w = z := by intro w; unfold fval; rw [h]; rfl
theorem fdr_is {op : BinOp} {k : FloatKind} {x y z : Nat} (h : floatBits op k x y = some z) : fdr op k x y = 0 := by unfold fdr; rw [h]; rfl

/-- The argument of a phasor: a number of 64ths. -/
def isX (s x : Nat) : Prop := fv .f64 x = fquo (fv .f64 (floatOfInt .f64 ((s : Int) - 256))) (fc 4634204016564240384)
theorem phasor_at {s x : Nat} (h : s < 511) (hx : isX s x) (w : World) : Calls Try.prog 6 #[.float .f64 x] w fun e w' => e = .returned (.complex .f32 (pR s) (pI s)) ∧ ∃ m, w' = w.drewN m :=
  (impl_PhasorOf x w).mono (by
    rintro e w' ⟨⟨a, b, rfl, ha, hb⟩, m, rfl⟩
    unfold isX at hx
    rw [hx, ph_tab h] at ha hb
    exact ⟨by rw [fv_is ha, fv_is hb], m, rfl⟩)
theorem angle_of (x y : Nat) (w : World) : Calls Try.prog 7 #[.complex .f32 x y] w fun e w' => ∃ r m, e = .returned (.float .f32 r) ∧ fv .f32 r = angB y x ∧ r < 4294967296 ∧ w' = w.drewN m := by
  go_enter Try.func7, Try.ntmps7
  go_wp2_with fail
  refine (impl_AngleTurns y x _).mono ?_
  rintro e w' ⟨r, m, rfl, hr, hlt, rfl⟩
  have HR := Lib.hid hr
  clear hr
  go_wp2_with fail
  go_ret
  exact ⟨r, m, rfl, HR.out, hlt, rfl⟩
theorem angle_at (s : Nat) (w : World) : Calls Try.prog 7 #[.complex .f32 (pR s) (pI s)] w fun e w' => e = .returned (.float .f32 (pN s)) ∧ ∃ m, w' = w.drewN m :=
  (angle_of (pR s) (pI s) w).mono (by rintro e w' ⟨r, m, rfl, hr, _, rfl⟩; rw [an_tab s] at hr; exact ⟨by rw [fv_is hr], m, rfl⟩)
theorem angle_one (w : World) : Calls Try.prog 7 #[.complex .f32 0 1065353216] w fun e w' => e = .returned (.float .f32 1048576000) ∧ ∃ m, w' = w.drewN m :=
  (angle_of 0 1065353216 w).mono (by rintro e w' ⟨r, m, rfl, hr, _, rfl⟩; rw [an_one] at hr; exact ⟨by rw [fv_is hr], m, rfl⟩)
theorem same_no (w : World) : Calls Try.prog 13 #[.float .f32 1048576000, .float .f32 0] w fun e w' => e = .returned (.bool false) ∧ w = w' := by
  have C := Lib.hid (spec_l01Same 1048576000 0 w (by decide) (by decide))
  rw [show (bitsI 1048576000 == bitsI 0) = false by decide +kernel] at C
  go_enter Try.func13, Try.ntmps13
  go_wp2_with fail
  refine C.out.mono ?_
  rintro e w' ⟨rfl, rfl⟩
  go_wp2_with fail
  go_ret
  exact ⟨rfl, rfl⟩
theorem ten_at {x : Nat} {n : Int} (h : tenB x = (n, true)) (w : World) : Calls Try.prog 12 #[.float .f32 x] w fun e w' => ∃ m, e = .returned (.tuple #[.int .i64 n, .bool true]) ∧ w' = w.drewN m := by
  have := impl_TenthsOf x w
  rw [h] at this
  exact this

attribute [local irreducible] pR pI pN atB gapF wh pT
set_option maxRecDepth 100000 in
set_option maxHeartbeats 4000000 in
theorem law_FnCircles (w : World) (a : Option Addr) (n c : Nat) (bs : List Nat) (hn : bs.length = n) (ha : bys w a bs) (hb : ∀ i, i < n → bs.getD i 0 < 256) (hnl : n < 9223372036854775808)
    (a' : Option Addr) (k d : Nat) (cs : List Nat) (hk : cs.length = k) (ha' : bys w a' cs) (hb' : ∀ i, i < k → cs.getD i 0 < 256) (hkl : k < 9223372036854775808) :
    Calls Try.prog 3 #[.slice a n c, .slice a' k d] w fun e w' => e = .returned (.bool true) ∧ Below w.heap.size w w' := by
  by_cases hL : (decide (1048576 < n) || decide (1048576 < k)) = true
  · have L := laws_b10Long a a' n c k d w hnl hkl
    rw [hL] at L
    clear ha hb hn ha' hb' hk hL
    go_enter Try.func3, Try.ntmps3
    go_wp2_with (go_at_call 4; refine L.mono ?_; rintro e w' ⟨rfl, rfl⟩)
    go_ret
    exact ⟨rfl, Below.refl _ _⟩
  · have L := laws_b10Long a a' n c k d w hnl hkl
    rw [Bool.not_eq_true] at hL
    rw [hL] at L
    have hn' : n ≤ 1048576 ∧ k ≤ 1048576 := by simpa using hL
    have A1 := laws_b10At a n c bs 0 256 w hn ha hb (by omega) (by omega) (by omega) (by omega)
    have A2 := laws_b10At a n c bs 1 256 w hn ha hb (by omega) (by omega) (by omega) (by omega)
    have A3 := fun W (h : bys W a' cs) => laws_b10At a' k d cs 0 200 W hk h hb' (by omega) (by omega) (by omega) (by omega)
    have A4 := fun W (h : bys W a' cs) => laws_b10At a' k d cs 1 200 W hk h hb' (by omega) (by omega) (by omega) (by omega)
    have HA := Lib.hid ha'
    have l1 := atB_lt bs 0 (m := 256) (by omega)
    have l2 := atB_lt bs 1 (m := 256) (by omega)
    have l3 := atB_lt cs 0 (m := 200) (by omega)
    have l4 := atB_lt cs 1 (m := 200) (by omega)
    generalize atB bs 0 256 = A at A1 l1
    generalize atB bs 1 256 = B at A2 l2
    generalize atB cs 0 200 = i at A3 l3
    generalize atB cs 1 200 = j at A4 l4
    clear ha hb hn ha' hb' hk hL
    obtain ⟨t1, t2, t3, k1, k2, k3, b1, b2, b3, s1, s2⟩ := tenths_law l3 l4
    have V1 := fval_is (x_tab l3)
    have D1 := fdr_is (x_tab l3)
    have V2 := fval_is (x_tab l4)
    have D2 := fdr_is (x_tab l4)
    have V3 := fval_is (xy_tab l3 l4)
    have D3 := fdr_is (xy_tab l3 l4)
    have N0 : ∀ W : World, W.drewN 0 = W := fun W => rfl
    have X1 : ∀ w1, isX (A + 128) (fval .quo .f64 (floatOfInt .f64 ((A : Int) - 128)) 4634204016564240384 w1) := fun w1 => by
      unfold isX; rw [fv_quo, show ((A + 128 : Nat) : Int) - 256 = (A : Int) - 128 by omega]; rfl
    have X2 : ∀ w1, isX (B + 128) (fval .quo .f64 (floatOfInt .f64 ((B : Int) - 128)) 4634204016564240384 w1) := fun w1 => by
      unfold isX; rw [fv_quo, show ((B + 128 : Nat) : Int) - 256 = (B : Int) - 128 by omega]; rfl
    have X3 : ∀ w1, isX (A + B) (fval .quo .f64 (floatOfInt .f64 ((A : Int) - 128 + ((B : Int) - 128))) 4634204016564240384 w1) := fun w1 => by
      unfold isX; rw [fv_quo, show ((A + B : Nat) : Int) - 256 = (A : Int) - 128 + ((B : Int) - 128) by omega]; rfl
    have HX1 := Lib.hid X1
    have HX2 := Lib.hid X2
    have HX3 := Lib.hid X3
    clear X1 X2 X3
    have TT : ∀ w1 w2 w3 w4, tval (fval .add .f64 (fval .sub .f64 (fval .mul .f64 (wval (pN A) w1) 4634204016564240384 w2) (floatOfInt .f64 ((A : Int) - 128)) w3) 4666723447345250304 w4) = fun _ => wh A := fun w1 w2 w3 w4 => by
      funext w5
      refine tval_of _ _ ?_
      rw [fv_add, fv_sub, fv_mul, fv_wval]
      exact (tn_tab l1).1
    obtain ⟨wh1, wh2, wh3⟩ := wh_facts l1
    go_enter Try.func3, Try.ntmps3
    go_wp2_with (go_at_call 4; refine L.mono ?_; rintro e w' ⟨rfl, rfl⟩)
    refine A1.mono ?_
    rintro e w' ⟨rfl, rfl⟩
    go_wp2_with fail
    refine A2.mono ?_
    rintro e w' ⟨rfl, rfl⟩
    go_wp2_with fail
    refine (phasor_at (s := A + 128) (by omega) (HX1.out _) _).mono ?_
    rw [(p_128 A).1, (p_128 A).2]
    rintro e w' ⟨rfl, m1, rfl⟩
    go_wp2_with fail
    refine (phasor_at (s := B + 128) (by omega) (HX2.out _) _).mono ?_
    rw [(p_128 B).1, (p_128 B).2]
    rintro e w' ⟨rfl, m2, rfl⟩
    go_wp2_with fail
    refine (phasor_at (s := A + B) (by omega) (HX3.out _) _).mono ?_
    rintro e w' ⟨rfl, m3, rfl⟩
    go_wp2_with fail
    refine (angle_at A _).mono ?_
    rintro e w' ⟨rfl, m4, rfl⟩
    go_wp2_with fail
    refine (impl_PowerOf _ _ _ (Lib.hid (pw_tab A).1)).mono ?_
    rintro e w' ⟨r1, m5, rfl, h1, _, rfl⟩
    have H1 := Lib.hid h1
    clear h1
    go_wp2_with fail
    refine (laws_b10Gap _ _ _).mono ?_
    rintro e w' ⟨r2, m6, rfl, h2, rfl⟩
    have g1 : (FloatKind.f64.format.order r2 4547007122018943789 == some .gt) = false := by rw [gt_fgt, h2, fv_wval, H1.out]; exact (pw_tab A).2
    clear h2
    go_wp2_with fail
    refine (impl_MulComplex _ _ _ _ _ (Lib.hid (pr_tab A B).1) (Lib.hid (pr_tab A B).2.1)).mono ?_
    rintro e w' ⟨r3, r4, m7, rfl, h3, h4, rfl⟩
    have H3 := Lib.hid h3
    have H4 := Lib.hid h4
    clear h3 h4
    go_wp2_with fail
    refine (laws_b10Near _ _ _ _ _ _).mono ?_
    rintro e w' ⟨he, m8, rfl⟩
    rw [H3.out, H4.out, (pr_tab A B).2.2] at he
    subst he
    go_wp2_with fail
    refine (laws_b10Gap _ _ _).mono ?_
    rintro e w' ⟨r5, m9, rfl, h5, rfl⟩
    have g2 : (FloatKind.f64.format.order r5 4562254508917369340 == some .gt) = false := by rw [gt_fgt, h5, fv_sub, fv_mul, fv_wval]; exact (tn_tab l1).2
    clear h5
    have q3 : (((A : Int) - 128).tmod 16 = 0 ∧ feq (gapF (wid (fv .f32 (pR A))) (fc 0)) (fc 0) = true) ∨
        (((A : Int) - 128).tmod 16 = 0 ∧ feq (gapF (wid (fv .f32 (pR A))) (fc 0)) (fc 0) = false ∧ feq (gapF (wid (fv .f32 (pR A))) (fc 0)) (fc 4607182418800017408) = true) ∨ ¬((A : Int) - 128).tmod 16 = 0 := by
      by_cases q : ((A : Int) - 128).tmod 16 = 0
      · have qa : A % 16 = 0 := by
          have := Int.dvd_of_tmod_eq_zero q
          omega
        rcases qt_tab l1 qa with f | f
        · exact .inl ⟨q, f⟩
        · exact .inr (.inl ⟨q, f⟩)
      · exact .inr (.inr q)
    rcases q3 with ⟨q, f⟩ | ⟨q, f1, f2⟩ | q
    case' inl =>
      have F := Lib.hid f
      clear f
      go_wp2_with fail
      refine (laws_b10Gap _ _ _).mono ?_
      rintro e w' ⟨r6, m10, rfl, h6, rfl⟩
      have g3 : FloatKind.f64.format.order r6 0 = some .eq := beq_iff_eq.1 (by rw [eq_feq, h6, fv_wval]; exact F.out)
      clear h6
      go_wp2_with fail
    case' inr.inl =>
      have F1 := Lib.hid f1
      have F2 := Lib.hid f2
      clear f1 f2
      go_wp2_with fail
      refine (laws_b10Gap _ _ _).mono ?_
      rintro e w' ⟨r6, m10, rfl, h6, rfl⟩
      have g3 : ¬FloatKind.f64.format.order r6 0 = some .eq := fun e => by
        have e' : (FloatKind.f64.format.order r6 0 == some .eq) = true := beq_iff_eq.2 e
        rw [eq_feq, h6, fv_wval] at e'
        exact Bool.noConfusion (e'.symm.trans F1.out)
      clear h6
      go_wp2_with fail
      refine (laws_b10Gap _ _ _).mono ?_
      rintro e w' ⟨r7, m11, rfl, h7, rfl⟩
      have g4 : FloatKind.f64.format.order r7 4607182418800017408 = some .eq := beq_iff_eq.1 (by rw [eq_feq, h7, fv_wval]; exact F2.out)
      clear h7
      go_wp2_with fail
    case' inr.inr =>
      go_wp2_with fail
    all_goals
      clear TT
      refine (A3 _ (by exact HA.out)).mono ?_
      rintro e w' ⟨rfl, rfl⟩
      go_wp2_with fail
      refine (A4 _ (by exact HA.out)).mono ?_
      rintro e w' ⟨rfl, rfl⟩
      go_wp2_with fail
      refine (ten_at k1 _).mono ?_
      rintro e w' ⟨m12, rfl, rfl⟩
      go_wp2_with fail
      refine (ten_at k2 _).mono ?_
      rintro e w' ⟨m13, rfl, rfl⟩
      go_wp2_with fail
      refine (ten_at k3 _).mono ?_
      rintro e w' ⟨m14, rfl, rfl⟩
      go_wp2_with fail
      refine (ten_at ten_one _).mono ?_
      rintro e w' ⟨m15, rfl, rfl⟩
      go_wp2_with fail
      refine (angle_one _).mono ?_
      rintro e w' ⟨rfl, m16, rfl⟩
      go_wp2_with fail
      refine (same_no _).mono ?_
      rintro e w' ⟨rfl, rfl⟩
      go_wp2_with fail
      go_ret
      refine ⟨rfl, ?_⟩
      repeat' refine below_drewN ?_ _
      exact Below.refl _ _
end Go.Proofs.Ythegbaaelccekaa
