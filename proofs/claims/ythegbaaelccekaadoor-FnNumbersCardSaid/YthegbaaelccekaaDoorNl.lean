/-
  The law FnNumbers's walk, from its callees' contracts. Condition: the listed variables read as listed, internal/bytealg.MaxLen holds some number; lists of bytes longer than 2^20 are not asked.
-/
import Derived.Test.YthegbaaelccekaaDoorNn
import Derived.Test.YthegbaaelccekaaDoorNw
import Derived.Test.YthegbaaelccekaaDoorSd
import Derived.Test.YthegbaaelccekaaDoorRq
import Derived.Test.YthegbaaelccekaaDoorAm
namespace Go.Proofs.YthegbaaelccekaaDoor
open Go.RowKit Go.Lib Go.Joins Ieee

theorem impl_SumNumbersB (a : Option Addr) (c n : Nat) (xs : List Nat) (w : World) (hn : xs.length = n) (ha : Hid (fls w a xs)) (hx : n < 2147483648) :
    Calls Tryd.prog 43 #[.slice a n c] w fun e w' => ∃ r m, e = .returned (.tuple #[.float .f32 r, .bool (decide (n ≤ 256))]) ∧ fv .f32 r = (if n ≤ 256 then sumS xs n else some 0) ∧ r < 4294967296 ∧ w' = w.drewN m := by
  have HN := Lib.hid hn
  clear hn
  by_cases h : n ≤ 256
  · rw [decide_eq_true h, if_pos h]
    go_enter Tryd.func43, Tryd.ntmps43
    go_wp2
    go_loopg [4, 12] n (fun g s i wr => ∃ j sb m : Nat, g + j = n ∧ s = .float .f32 sb ∧ i = .int .i64 j ∧ Hid (fv .f32 sb = sumS xs j ∧ sb < 4294967296) ∧ wr = w.drewN m)
    case atStart => exact ⟨0, _, 0, by omega, rfl, rfl, ⟨fv_zeroS, by decide⟩, rfl⟩
    case round =>
      obtain ⟨j, sb, m, hj, rfl, rfl, hs, rfl⟩ := hrel
      by_cases hlt : j < n
      · obtain ⟨ba, oa, rfl, hca⟩ := ha.out j (by rw [HN.out]; exact hlt)
        generalize hxj : xs.getD j 0 = x at hca
        have HX := Lib.hid hxj
        clear hxj
        go_wp2
        go_roundg (gk - 1)
        case measure => omega
        case rel => exact ⟨j + 1, _, _, by omega, rfl, by go_num, ⟨by show fv .f32 _ = _; rw [fv_addS, hs.out.1, sumS, HX.out], fval32 _ _ _ _⟩, rfl⟩
      · have hjn : j = n := by omega
        subst hjn
        go_wp2
        go_ret2
        exact ⟨_, _, rfl, hs.out.1, hs.out.2, rfl⟩
  · rw [decide_eq_false h, if_neg h]
    go_enter Tryd.func43, Tryd.ntmps43
    go_wp2
    go_ret2
    exact ⟨_, 0, rfl, fv_zeroS, by decide, rfl⟩


theorem spec_B10Numbers (a : Option Addr) (n c k : Nat) (bs : List Nat) (w : World) (hn : bs.length = n) (ha : Hid (bys w a bs)) (hb : Hid (∀ i, i < n → bs.getD i 0 < 256)) (hx : n < 2147483648) (hk : k ≤ 12) :
    Calls Tryd.prog 41 #[.slice a n c, .int .i64 k] w fun e w' => (∃ (a : Option Addr) (cap : Nat) (xs : List Nat), e = .returned (.slice a k cap) ∧ Hid (xs.length = k) ∧ Hid (lt32 xs) ∧ Hid (∃ B, rowV w' 51 B a (fvals xs))) ∧ Below w.heap.size w w' := by
  have C := Lib.hid (src_from a n c bs w hn ha hb hx)
  clear hn
  go_enter Tryd.func41, Tryd.ntmps41
  go_wp2_with fail
  refine C.out.mono ?_
  rintro e w1 ⟨rfl, s1, b1⟩
  have B1 := Lib.hid b1
  have S1 := Lib.hid s1
  clear s1 b1
  go_wp2_with fail
  refine (src_floats w.heap.size 0 k bs w1 S1 (by decide) hk).mono ?_
  rintro e w2 ⟨⟨a2, cap, xs, rfl, hl, h32, hr⟩, o2⟩
  have B2 := Lib.hid (B1.out.trans o2.1)
  have HL := Lib.hid hl
  have H32 := Lib.hid h32
  have HR := Lib.hid hr
  clear o2 hl h32 hr
  go_wp2_with fail
  go_ret
  exact ⟨⟨a2, cap, xs, rfl, HL, H32, ⟨_, HR.out⟩⟩, B2.out⟩

theorem same_num (x y : Nat) (t : Bool) (w : World) (hx : x < 4294967296) (hy : y < 4294967296) (ht : Hid ((bitsI x == bitsI y) = t)) : Calls Tryd.prog 44 #[.float .f32 x, .float .f32 y] w fun e w' => e = .returned (.bool t) ∧ w = w' := by
  have C := Lib.hid (spec_l01Same x y w hx hy)
  rw [ht.out] at C
  clear ht
  go_enter Tryd.func44, Tryd.ntmps44
  go_wp2_with fail
  refine C.out.mono ?_
  rintro e w' ⟨rfl, rfl⟩
  go_wp2_with fail
  go_ret
  exact ⟨rfl, rfl⟩
theorem impl_AngleOf (x y : Nat) (w : World) : Calls Tryd.prog 47 #[.complex .f32 x y] w fun e w' => ∃ r m, e = .returned (.float .f32 r) ∧ fv .f32 r = angB y x ∧ r < 4294967296 ∧ w' = w.drewN m := by
  go_enter Tryd.func47, Tryd.ntmps47
  go_wp2_with fail
  refine (impl_AngleTurns y x _).mono ?_
  rintro e w' ⟨r, m, rfl, hr, hlt, rfl⟩
  have HR := Lib.hid hr
  clear hr
  go_wp2_with fail
  go_ret
  exact ⟨r, m, rfl, HR.out, hlt, rfl⟩
theorem impl_NarrowB (b : Nat) (w : World) : Calls Tryd.prog 48 #[.float .f64 b] w fun e w' => ∃ w2, e = .returned (.float .f32 (nval b w2)) ∧ ∃ m, w' = w.drewN m := by
  go_enter Tryd.func48, Tryd.ntmps48
  go_wp2_with fail
  go_ret
  exact ⟨_, rfl, _, rfl⟩
theorem sine_quarter : sineB 1048576000 = some 1065353216 := by decide +kernel
theorem fv_is {k : FloatKind} {r v : Nat} (h : fv k r = some v) : r = v := by
  unfold fv at h
  split at h
  · cases h
  · exact Option.some.inj h
theorem flushB_lt {x : Nat} (hx : x < 4294967296) : flushB x < 4294967296 := by unfold flushB; split <;> omega
theorem bys.stays {w w' : World} {a : Option Addr} {bs : List Nat} (h : bys w a bs) (hb : Below w.heap.size w w') : bys w' a bs := by
  intro i hi
  obtain ⟨c, off, e, hc⟩ := h i hi
  refine ⟨c, off, e, ?_⟩
  rw [hb.cell (p := ⟨c, off + i, none⟩) (World.block_lt_of_cell? w ⟨c, off + i, none⟩ hc)]
  exact hc
/-- A list's text is read back. -/
theorem read_back (xs : List Nat) (n : Nat) (w : World) (hn : Hid (xs.length = n)) (hl : Hid (lt32 xs)) (hx : n ≤ 256) (hm : Hid (MaxLenIs w)) (hd : Hid (Bru w)) (he : Hid (ErrS w)) :
    Calls Tryd.prog 28 #[.string (textF xs)] w fun e w' => ∃ (a : Option Addr) (cap : Nat), e = .returned (.tuple #[.slice a n cap, .bool true]) ∧ Below w.heap.size w w' ∧ Hid (rowV w' 51 w.heap.size a (fvals (xs.map bitsN))) := by
  refine (impl_ReadNumbers (textF xs) w (textF_size (by rw [hn.out]; exact hx)) hm hd he).mono ?_
  rintro e w' ⟨a, cap, rfl, hb, hr⟩
  obtain ⟨h1, h2⟩ := read_text hl.out (by rw [hn.out]; exact hx)
  rw [h2] at hr
  exact ⟨a, cap, by rw [h1, h2, List.length_map, hn.out], hb, hr⟩
theorem fromB_bits {x : Nat} (hx : x < 4294967296) : fromB (bitsI x) = (bitsN x, true) := by
  obtain ⟨h1, h2⟩ := bitsN_eq hx
  rw [h1]
  unfold fromB
  rw [if_pos ⟨by omega, by omega⟩]; rfl
theorem same_back {x : Nat} (hx : x < 4294967296) : (bitsI (bitsN x) == bitsI x) = true := by
  obtain ⟨h1, h2⟩ := bitsN_eq hx
  obtain ⟨h3, _⟩ := bitsN_eq h2
  rw [h1, h3, bitsN_idem]; simp

set_option maxHeartbeats 4000000 in
set_option maxRecDepth 10000 in
theorem law_FnNumbers (w : World) (a : Option Addr) (n c : Nat) (bs : List Nat) (hn : bs.length = n) (ha : bys w a bs) (hb : ∀ i, i < n → bs.getD i 0 < 256) (hl : n < 9223372036854775808)
    (a' : Option Addr) (n' c' : Nat) (bs' : List Nat) (hn' : bs'.length = n') (ha' : bys w a' bs') (hb' : ∀ i, i < n' → bs'.getD i 0 < 256) (hl' : n' < 9223372036854775808)
    (hm : Hid (MaxLenIs w)) (hd : Hid (Bru w)) (he : Hid (ErrS w)) :
    Calls Tryd.prog 10 #[.slice a n c, .slice a' n' c'] w fun e w' => e = .returned (.bool true) ∧ Below w.heap.size w w' := by
  have HN := Lib.hid hn
  have HA := Lib.hid ha
  have HB := Lib.hid hb
  have HN' := Lib.hid hn'
  have HA' := Lib.hid ha'
  have HB' := Lib.hid hb'
  clear hn ha hb hn' ha' hb'
  have CL := Lib.hid (laws_b10Long a a' n c n' c' w hl hl')
  cases hlong : (decide (1048576 < n) || decide (1048576 < n'))
  · have hs1 : n < 2147483648 ∧ n' < 2147483648 := by simp at hlong; omega
    rw [hlong] at CL
    clear hlong
    go_enter Tryd.func10, Tryd.ntmps10
    go_wp2_with fail
    refine CL.out.mono ?_
    rintro e w' ⟨rfl, rfl⟩
    go_wp2_with fail
    refine (spec_B10Number a n c bs _ HN.out HA HB hs1.1).mono ?_
    rintro e w1 ⟨⟨x, hx, rfl⟩, b1⟩
    have D1 := Lib.hid b1
    clear b1
    go_wp2_with fail
    refine (spec_B10Number a' n' c' bs' _ HN'.out (Lib.hid (HA'.out.stays D1.out)) HB' hs1.2).mono ?_
    rintro e w2 ⟨⟨y, hy, rfl⟩, b2⟩
    have D2 := Lib.hid (onB D1.out b2)
    clear b2
    go_wp2_with fail
    refine (impl_BitsOf x _ hx).mono ?_
    rintro e w' ⟨rfl, rfl⟩
    go_wp2_with fail
    refine (impl_FromBits (bitsI x) _).mono ?_
    rw [fromB_bits hx]
    rintro e w' ⟨rfl, rfl⟩
    go_wp2_with fail
    refine (impl_FlushNumber x _ hx).mono ?_
    rintro e w' ⟨rfl, m3, rfl⟩
    have hz := flushB_lt hx
    have FL := Lib.hid (flush_law hx)
    generalize flushB x = z at hz FL ⊢
    go_wp2_with fail
    refine (laws_b10At a n c bs 0 12 _ HN.out (HA.out.stays (belowD D2.out m3)) HB.out hs1.1 (by decide) (by decide) (by decide)).mono ?_
    rintro e w' ⟨rfl, rfl⟩
    have hk := atB_lt bs 0 (show 0 < 12 by decide)
    generalize atB bs 0 12 = k at hk ⊢
    go_wp2_with fail
    refine (spec_B10Numbers a' n' c' k bs' _ HN'.out (Lib.hid (HA'.out.stays (belowD D2.out m3))) HB' hs1.2 (by omega)).mono ?_
    rintro e w4 ⟨⟨la, lc, xs, rfl, hxl, h32, hrow⟩, b4⟩
    have D4 := Lib.hid (onB (belowD D2.out m3) b4)
    have FLS : Hid (fls w4 la xs) := by obtain ⟨B, hr⟩ := hrow.out; exact hr.fls
    clear b4
    go_wp2_with fail
    go_loopg [11, 41] k (fun g s i wr => ∃ j sb m : Nat, g + j = k ∧ s = .float .f32 sb ∧ i = .int .i64 j ∧ Hid (fv .f32 sb = sumS xs j ∧ sb < 4294967296) ∧ wr = w4.drewN m)
    case atStart => exact ⟨0, _, 0, by omega, rfl, rfl, ⟨fv_zeroS, by decide⟩, rfl⟩
    case round =>
      obtain ⟨j, sb, m, hj, rfl, rfl, hs, rfl⟩ := hrel
      by_cases hlt : j < k
      · obtain ⟨ba, oa, rfl, hca⟩ := FLS.out j (by rw [hxl.out]; exact hlt)
        generalize hxj : xs.getD j 0 = xj at hca
        have HX := Lib.hid hxj
        clear hxj
        go_wp2_with fail
        go_roundg (gk - 1)
        case measure => omega
        case rel => exact ⟨j + 1, _, _, by omega, rfl, by go_num, ⟨by show fv .f32 _ = _; rw [fv_addS, hs.out.1, sumS, HX.out], fval32 _ _ _ _⟩, rfl⟩
      · obtain rfl : j = k := by omega
        have hkk : j ≤ 256 := by omega
        have C1 := Lib.hid (fun W h => impl_SumNumbersB la lc j xs W hxl.out h (by omega))
        have C2 := Lib.hid (fun W h h2 => impl_NumbersText la j lc xs W hxl.out h (by omega) h32 h2)
        rw [decide_eq_true hkk] at C1 C2
        rw [if_pos hkk] at C1
        have hout : outF xs j = textF xs := if_pos hkk
        rw [hout] at C2
        clear hout hlt
        go_wp2_with fail
        refine (C1.out (w4.drewN m) (Lib.hid (FLS.out.drewN m))).mono ?_
        rintro e w' ⟨got, m5, rfl, hgot, hg32, rfl⟩
        have HGOT := Lib.hid (bitsI_of_fv (hgot.trans hs.out.1.symm))
        clear hgot
        go_wp2_with fail
        refine (C2.out _ (Lib.hid (FLS.out.stays (belowD (Below.refl _ w4) _))) (Lib.hid (hd.out.on (belowD D4.out _) (Nat.le_refl _)))).mono ?_
        rintro e w6 ⟨rfl, b6⟩
        have D6 := Lib.hid (onB (belowD D4.out _) b6)
        have E6 := Lib.hid (onB (belowD (Below.refl _ w4) _) b6)
        clear b6
        go_wp2_with fail
        refine (read_back xs j _ hxl h32 hkk (Lib.hid (hm.out.on D6.out (Nat.le_refl _))) (Lib.hid (hd.out.on D6.out (Nat.le_refl _))) (Lib.hid (he.out.on D6.out (Nat.le_refl _)))).mono ?_
        rintro e w7 ⟨ra, rc, rfl, b7, hr7⟩
        have D7 := Lib.hid (onB D6.out b7)
        have FL7 := Lib.hid (FLS.out.stays (onB E6.out b7))
        have RL7 := Lib.hid hr7.out.fls
        clear b7
        have hsub : ∃ sx, subB x = sx ∧ (bitsI x == bitsI z) = !sx := ⟨_, rfl, by
          have := FL.out.2
          cases h1 : subB x <;> cases h2 : (bitsI x == bitsI z) <;> rw [h1, h2] at this <;> simp at this ⊢⟩
        obtain ⟨sx, hsx, hsame⟩ := hsub
        have HSX := Lib.hid hsx
        have HSAME := Lib.hid hsame
        have FZ := Lib.hid FL.out.1
        have HGS : Hid ((bitsI got == bitsI sb) = true) := by show _ = _; rw [HGOT.out]; simp
        have hself : FloatKind.f32.format.order 1065353216 1065353216 = some .eq := by decide +kernel
        have hsb := hs.out.2
        have hxn := (bitsN_eq hx).2
        clear hsx hsame FL
        cases sx
        all_goals
          go_wp2_with fail
          refine (same_num (bitsN x) x true _ hxn hx (Lib.hid (same_back hx))).mono ?_
          rintro e w' ⟨rfl, rfl⟩
          go_wp2_with fail
          refine (impl_IsSubnormal z _ hz).mono ?_
          rw [FZ.out]
          rintro e w' ⟨rfl, rfl⟩
          go_wp2_with fail
          refine (impl_IsSubnormal x _ hx).mono ?_
          rw [HSX.out]
          rintro e w' ⟨rfl, rfl⟩
          go_wp2_with fail
          refine (same_num x z _ _ hx hz HSAME).mono ?_
          rintro e w' ⟨rfl, rfl⟩
          go_wp2_with fail
          refine (same_num got sb true _ hg32 hsb HGS).mono ?_
          rintro e w' ⟨rfl, rfl⟩
          go_wp2_with fail
          go_loopg [19, 113] j (fun g _ i wr => ∃ i' m' : Nat, g + i' = j ∧ i = .int .i64 i' ∧ wr = w7.drewN m')
          case atStart => exact ⟨0, 0, by omega, rfl, rfl⟩
          case round =>
            obtain ⟨i, m', hi, rfl, rfl⟩ := hrel
            by_cases hlti : i < j
            · obtain ⟨ga, oa, hga, hca⟩ := RL7.out i (by rw [List.length_map, hxl.out]; exact hlti)
              obtain ⟨gb, ob, hgb, hcb⟩ := FL7.out i (by rw [hxl.out]; exact hlti)
              rw [getD_map bitsN xs i 0 0 (by rw [hxl.out]; exact hlti)] at hca
              have hv := h32.out i (by rw [hxl.out]; exact hlti)
              generalize xs.getD i 0 = v at hca hcb hv
              have hvn := (bitsN_eq hv).2
              have HSV := Lib.hid (same_back hv)
              subst hga hgb
              go_wp2_with fail
              go_region_with (go_at_call 44; refine (same_num (bitsN v) v true _ hvn hv HSV).mono ?_; rintro e w' ⟨rfl, rfl⟩)
              all_goals
                go_wp2_with fail
                go_roundg (j - (i + 1))
                case measure => omega
                case rel => exact ⟨i + 1, _, by omega, by go_num, rfl⟩
            · obtain rfl : i = j := by omega
              go_wp2_with fail
              refine (impl_AngleTurns y x _).mono ?_
              rintro e w' ⟨r1, m8, rfl, h1, h1b, rfl⟩
              have H1 := Lib.hid h1
              clear h1
              go_wp2_with fail
              refine (impl_AngleOf x y _).mono ?_
              rintro e w' ⟨r2, m9, rfl, h2, h2b, rfl⟩
              have HRR : Hid ((bitsI r1 == bitsI r2) = true) := by show _ = _; rw [bitsI_of_fv (H1.out.trans h2.symm)]; simp
              clear h2
              go_wp2_with fail
              refine (same_num r1 r2 true _ h1b h2b HRR).mono ?_
              rintro e w' ⟨rfl, rfl⟩
              go_wp2_with fail
              refine (impl_NarrowB _ _).mono ?_
              rintro e w' ⟨w2', rfl, m10, rfl⟩
              go_wp2_with fail
              refine (same_num _ x true _ (nval_lt _ _) hx (Lib.hid (by rw [bitsI_of_fv (narrow_wide hx _ _)]; simp))).mono ?_
              rintro e w' ⟨rfl, rfl⟩
              go_wp2_with fail
              refine (impl_SineTurns 1048576000 _).mono ?_
              rintro e w' ⟨r3, m11, rfl, h3, rfl⟩
              obtain rfl := fv_is (h3.trans sine_quarter)
              clear h3
              go_wp2_with fail
              go_ret
              exact ⟨rfl, belowD D7.out _⟩
  · rw [hlong] at CL
    clear hlong
    go_enter Tryd.func10, Tryd.ntmps10
    go_wp2_with fail
    refine CL.out.mono ?_
    rintro e w' ⟨rfl, rfl⟩
    go_wp2_with fail
    go_ret
    exact ⟨rfl, Below.refl _ _⟩
end Go.Proofs.YthegbaaelccekaaDoor
