/-
  ReadComplex in the reference. Condition: a text of at most 2^20 bytes.
-/
import Derived.Test.YthegbaaelccekaaDoorRp
import Derived.Test.YthegbaaelccekaaDoorCy
namespace Go.Proofs.YthegbaaelccekaaDoor
open Go.RowKit Go.Lib Go.Joins

theorem cvals_nil : cvals [] = [] := by simp [cvals]
/-- What is read of eight bytes. -/
def digV (l : List UInt8) : Nat := if okW bitsN l = true then numW l else 0
theorem digV_yes {l : List UInt8} (h : okW bitsN l = true) : digV l = numW l := if_pos h
theorem digV_no {l : List UInt8} (h : okW bitsN l = false) : digV l = 0 := by unfold digV; rw [h]; rfl

set_option maxRecDepth 10000 in
theorem spec_l01Digits (p : ByteArray) (w : World) (h8 : p.size = 8) :
    Calls Tryd.prog 95 #[.string p] w fun e w' => e = .returned (.tuple #[.float .f32 (digV p.data.toList), .bool (okW bitsN p.data.toList)]) ∧ w' = w := by
  have hl8 : p.data.toList.length = 8 := by simpa using h8
  have HL8 := Lib.hid hl8
  have hge : (p.size : Int) ≤ 8 ∧ 8 ≤ (p.size : Int) := by omega
  obtain ⟨hg1, hg2⟩ := hge
  have H8 := Lib.hid h8
  clear hl8 h8
  go_enter Tryd.func95, Tryd.ntmps95
  go_wp2_with fail
  go_loopg [4, 5] 8 (fun g n k w2 => ∃ i acc : Nat, g + i = 8 ∧ n = .int .i64 acc ∧ k = .int .i64 i ∧ Hid (acc < 16 ^ i ∧ readF hexC 0 p.data.toList = readF hexC acc (p.data.toList.drop i)) ∧ w2 = w)
  case atStart => exact ⟨0, 0, by omega, rfl, rfl, ⟨by decide, rfl⟩, rfl⟩
  case round =>
    obtain ⟨i, acc, hi, rfl, rfl, hacc, rfl⟩ := hrel
    by_cases hi8 : i < 8
    · have hp : 16 ^ i ≤ 268435456 := Nat.le_trans (Nat.pow_le_pow_right (by decide) (show i ≤ 7 by omega)) (by decide)
      have hacc1 : acc < 268435456 := by have := hacc.out.1; omega
      have hrd := readF_byte hexC p.data.toList acc i (by rw [HL8.out]; exact hi8)
      rw [hexC_byte] at hrd
      have hbv := byteAt_eq (s := p) (i := i) (by omega)
      have hb2 := byteAt_lt p i
      have hpow := Nat.pow_succ 16 i
      have hlp : i < p.size := by omega
      have hstep : ∀ d : Nat, d < 16 → readF hexC acc (p.data.toList.drop i) = readF hexC (16 * acc + d) (p.data.toList.drop (i + 1)) → Hid (16 * acc + d < 16 ^ (i + 1) ∧ readF hexC 0 p.data.toList = readF hexC (16 * acc + d) (p.data.toList.drop (i + 1))) := by
        intro d hd he
        have := hacc.out
        exact ⟨by rw [hpow]; omega, this.2.trans he⟩
      have HST := Lib.hid hstep
      clear hp hpow hstep
      generalize byteAt p i = x at hrd hbv hb2
      by_cases hdig : 48 ≤ x ∧ x ≤ 57
      · rw [if_pos hdig] at hrd
        have HN := HST.out (x - 48) (by omega) hrd
        obtain ⟨hd0, hd1⟩ := hdig
        clear hrd
        go_wp2_with fail
        go_roundg (7 - i)
        case measure => omega
        case rel => exact ⟨i + 1, 16 * acc + (x - 48), by omega, by go_num, by go_num, HN.out, rfl⟩
      · rw [if_neg hdig] at hrd
        have hdig' : x < 48 ∨ 57 < x := by omega
        clear hdig
        by_cases hlet : 97 ≤ x ∧ x ≤ 102
        · rw [if_pos hlet] at hrd
          have HN := HST.out (x - 87) (by omega) hrd
          obtain ⟨hl0, hl1⟩ := hlet
          clear hrd hdig'
          go_wp2_with fail
          go_roundg (7 - i)
          case measure => omega
          case rel => exact ⟨i + 1, 16 * acc + (x - 87), by omega, by go_num, by go_num, HN.out, rfl⟩
        · rw [if_neg hlet] at hrd
          have hR := okW_none (hacc.out.2.trans hrd)
          have HR := Lib.hid hR
          have HV := Lib.hid (digV_no hR)
          clear hrd hR
          have hway : x < 48 ∨ (57 < x ∧ x < 97) ∨ 102 < x := by omega
          clear hdig' hlet
          rcases hway with h | ⟨h, h'⟩ | h
          all_goals
            go_wp2_with fail
            go_ret2
            exact ⟨by rw [HR.out, HV.out]; rfl, rfl⟩
    · obtain rfl : i = 8 := by omega
      have hacc2 : acc < 4294967296 := by have := hacc.out.1; rw [show (16 : Nat) ^ 8 = 4294967296 by decide] at this; exact this
      have hrd : readF hexC 0 p.data.toList = some acc := by
        have := hacc.out.2
        rw [List.drop_eq_nil_of_le (by rw [HL8.out]; decide)] at this
        exact this
      have hoW := okW_some HL8.out hrd
      have hfrom : ((acc : Int) % 4294967296).toNat = acc := by rw [Int.emod_eq_of_lt (by omega) (by omega)]; omega
      have HF := Lib.hid hfrom
      have HBI := Lib.hid (bitsN_eq hacc2).1
      by_cases hcan : bitsN acc = acc
      · have hR := hoW.1.trans (decide_eq_true hcan)
        have HR := Lib.hid hR
        have HV := Lib.hid ((digV_yes hR).trans hoW.2)
        have HBI2 : Hid (bitsI acc = (acc : Int)) := by show _ = _; rw [HBI.out, hcan]
        clear hR hcan hoW hrd hfrom hacc hi8
        go_wp2_with (first
          | (go_at_call 72; refine (spec_l01From _ _).mono ?_; rw [HF.out]; rintro e w' ⟨rfl, rfl⟩)
          | (go_at_call 93; refine (spec_l01Bits acc _ hacc2).mono ?_; rw [HBI2.out]; rintro e w' ⟨rfl, rfl⟩))
        go_ret2
        exact ⟨by rw [HR.out, HV.out]; rfl, rfl⟩
      · have hR := hoW.1.trans (decide_eq_false hcan)
        have HR := Lib.hid hR
        have HV := Lib.hid (digV_no hR)
        have hne2 : (((bitsN acc : Nat) : Int) != (acc : Int)) = true := by rw [bne_iff_ne]; omega
        clear hR hoW hrd hfrom hacc hcan hi8
        generalize bitsN acc = m at HBI hne2
        go_wp2_with (first
          | (go_at_call 72; refine (spec_l01From _ _).mono ?_; rw [HF.out]; rintro e w' ⟨rfl, rfl⟩)
          | (go_at_call 93; refine (spec_l01Bits acc _ hacc2).mono ?_; rw [HBI.out]; rintro e w' ⟨rfl, rfl⟩))
        go_ret2
        exact ⟨by rw [HR.out, HV.out]; rfl, rfl⟩

theorem okC_two {p : ByteArray} (h : p.size = 16) : okC 2 p = (okW bitsN (ck p.data.toList 0) && okW bitsN (ck p.data.toList 1)) ∧ numC 2 p = [numW (ck p.data.toList 0), numW (ck p.data.toList 1)] := by
  unfold okC numC
  have e : chunks 2 p.data.toList = [ck p.data.toList 0, ck p.data.toList 1] := by simp [chunks, ck]
  rw [e, decide_eq_true (show p.size = 8 * 2 by omega)]
  simp
/-- What a reader of complex numbers hands back. -/
def readsC (s : ByteArray) (w w' : World) (e : Ending) : Prop := ∃ (a : Option Addr) (cap : Nat), e = .returned (.tuple #[.slice a ((numS 2 s).length / 2) cap, .bool (okS 2 s)]) ∧ Below w.heap.size w w' ∧ rowV w' 64 w.heap.size a (cvals (numS 2 s))
theorem readsC.mk {s : ByteArray} {w w' : World} {v : Value} {xs : List Nat} {b : Bool} (hb : Below w.heap.size w w') (ho : okS 2 s = b) (hz : numS 2 s = xs) (hown : ownV w' 64 w.heap.size v (cvals xs)) : readsC s w w' (.returned (.tuple #[v, .bool b])) := by
  subst ho hz
  obtain ⟨a, cap, rfl, hr⟩ := hown.row
  exact ⟨a, cap, by rw [cvals_len], hb, hr⟩

set_option maxRecDepth 10000 in
set_option maxHeartbeats 1000000 in
theorem spec_l01CRead (s : ByteArray) (w : World) (hs : s.size ≤ 1048576) :
    Calls Tryd.prog 67 #[.string s] w fun e w' => readsC s w w' e := by
  by_cases hn : isNone s
  · have ho : okS 2 s = true ∧ numS 2 s = [] := ⟨if_pos hn, if_pos hn⟩
    have HO := Lib.hid ho
    have e := isNone_eq hn
    clear hn ho
    subst e
    go_enter Tryd.func67, Tryd.ntmps67
    go_wp2
    go_ret2
    exact readsC.mk ((Below.refl _ _).alloc (Nat.le_refl _) _) HO.out.1 HO.out.2 (ownV.empty _ _ _ (Nat.le_refl _))
  · have ho : okS 2 s = okF 2 (pcs s) ∧ numS 2 s = numF 2 (pcs s) := ⟨if_neg hn, if_neg hn⟩
    have HO := Lib.hid ho
    have hne : (s.toList == [110, 111, 110, 101]) = false := by
      rw [ByteArray.toList_eq, beq_eq_false_iff_ne]; exact hn
    clear hn ho
    go_enter Tryd.func67, Tryd.ntmps67
    go_wp2_with fail
    refine (spec_l01Cut s _ hs).mono ?_
    rintro e w1 ⟨pa, pc, Ps, rfl, hP, b1, hR⟩
    obtain rfl := pcs_of hP
    have b1' : Below w.heap.size w w1 := ((Below.refl _ _).alloc (Nat.le_refl _) _).trans (b1.mono (by simp))
    have O1 := Lib.hid ((ownV.empty w 64 _ (Nat.le_refl _)).on b1 (Nat.le_refl _))
    have HB1 := Lib.hid b1'
    have HR1 := Lib.hid hR
    clear b1 b1' hR hP
    generalize hPs : pcs s = Ps at *
    have HPs := Lib.hid hPs
    clear hPs
    by_cases h256 : (256 : Int) < Ps.length
    · have hq := okF_short (tg := 2) (Ps := Ps) (by omega)
      have HQ := Lib.hid hq
      clear hq
      go_wp2
      go_ret2
      exact readsC.mk HB1.out (HO.out.1.trans HQ.out) (HO.out.2.trans (numF_not HQ.out)) (ownV.nil _ _ _)
    · go_wp2_with fail
      go_loopg [4, 6] Ps.length (fun g o i wr => ∃ (j : Nat) (a : Option Addr) (cap : Nat), g + j = Ps.length ∧ o = .slice a j cap ∧ i = .int .i64 j ∧ Hid (okG 2 Ps j = true) ∧ Hid (ownV wr 64 w.heap.size (.slice a j cap) (cvals (numG 2 Ps j))) ∧ Hid (Below w.heap.size w wr) ∧ Hid (∃ B, rowV wr 9 B pa (Ps.map Value.string)))
      case atStart => exact ⟨0, _, _, by omega, rfl, rfl, rfl, (by rw [show cvals (numG 2 Ps 0) = [] from cvals_nil]; exact O1.out), HB1.out, ⟨_, HR1.out⟩⟩
      case round =>
        obtain ⟨j, a, cap, hj, rfl, rfl, hok, hown, hb, hrow⟩ := hrel
        obtain ⟨B, hrow⟩ := hrow.out
        have HROW := Lib.hid hrow
        by_cases hlt : j < Ps.length
        · obtain ⟨gp, rfl, _, hcell⟩ := hrow.cell (i := j) (by simpa using hlt)
          rw [str_cell hlt] at hcell
          have hbad := Lib.hid (okF_bad (tg := 2) (Ps := Ps) hlt)
          have hgood : okC 2 (Ps.getD j ⟨#[]⟩) = true → okG 2 Ps (j + 1) = true := fun h => by unfold okG; rw [hok.out, h]; rfl
          have HG := Lib.hid hgood
          have HN := Lib.hid (numG_step (tg := 2) hlt)
          have HLN := Lib.hid (numG_len (tg := 2) j (Nat.le_of_lt hlt))
          generalize Ps.getD j ⟨#[]⟩ = p at *
          clear hgood hrow
          by_cases h16 : p.size = 16
          · have htwo := Lib.hid (okC_two h16)
            obtain ⟨t, ht⟩ : ∃ t, p.extract 0 8 = t := ⟨_, rfl⟩
            obtain ⟨u, hu⟩ : ∃ u, p.extract 8 p.size = u := ⟨_, rfl⟩
            have hts : t.size = 8 := by rw [← ht, ByteArray.size_extract]; omega
            have hus : u.size = 8 := by rw [← hu, ByteArray.size_extract]; omega
            have htd : t.data.toList = ck p.data.toList 0 := by rw [← ht]; unfold ck; rw [extract_data]
            have hud : u.data.toList = ck p.data.toList 1 := by rw [← hu]; unfold ck; rw [extract_data, h16]
            have CT := Lib.hid (fun W => spec_l01Digits t W hts)
            have CU := Lib.hid (fun W => spec_l01Digits u W hus)
            rw [htd] at CT
            rw [hud] at CU
            have hp16 : (p.size : Int) = 16 := by omega
            have H16 := Lib.hid h16
            clear hts hus htd hud h16
            have hsz := hb.out.size
            have HFL : Hid ((cvals (numG 2 Ps j)).length = j) := by show _ = _; rw [cvals_len, HLN.out]; omega
            cases h1 : okW bitsN (ck p.data.toList 0)
            · have hR : okC 2 p = false := by rw [htwo.out.1, h1]; rfl
              have HQ := Lib.hid (hbad.out hR)
              rw [h1] at CT
              clear hR h1
              go_wp2_with (first
                | (go_at_call 95; with_reducible refine (CT.out _).mono ?_; rintro e w' ⟨rfl, rfl⟩)
                | (go_at_call 95; with_reducible refine (CU.out _).mono ?_; rintro e w' ⟨rfl, rfl⟩))
              go_ret2
              exact readsC.mk hb.out (HO.out.1.trans HQ.out) (HO.out.2.trans (numF_not HQ.out)) (ownV.nil _ _ _)
            · cases h2 : okW bitsN (ck p.data.toList 1)
              · have hR : okC 2 p = false := by rw [htwo.out.1, h2, Bool.and_false]
                have HQ := Lib.hid (hbad.out hR)
                rw [h1] at CT
                rw [h2] at CU
                clear hR h1 h2
                go_wp2_with (first
                  | (go_at_call 95; with_reducible refine (CT.out _).mono ?_; rintro e w' ⟨rfl, rfl⟩)
                  | (go_at_call 95; with_reducible refine (CU.out _).mono ?_; rintro e w' ⟨rfl, rfl⟩))
                go_ret2
                exact readsC.mk hb.out (HO.out.1.trans HQ.out) (HO.out.2.trans (numF_not HQ.out)) (ownV.nil _ _ _)
              · have hR : okC 2 p = true := by rw [htwo.out.1, h1, h2]; rfl
                have HK := Lib.hid (HG.out hR)
                have hnum : numC 2 p = [digV (ck p.data.toList 0), digV (ck p.data.toList 1)] := by rw [htwo.out.2, digV_yes h1, digV_yes h2]
                have HNU := Lib.hid hnum
                rw [h1] at CT
                rw [h2] at CU
                clear hR h1 h2 hnum
                generalize digV (ck p.data.toList 0) = x at *
                generalize digV (ck p.data.toList 1) = y at *
                go_wp2_with (first
                  | (go_at_call 95; with_reducible refine (CT.out _).mono ?_; rintro e w' ⟨rfl, rfl⟩)
                  | (go_at_call 95; with_reducible refine (CU.out _).mono ?_; rintro e w' ⟨rfl, rfl⟩)
                  | (at_builtin; refine wpList_append_keep 44 64 (.complex .f32 0 0) 8 Tryd.underlying44 info_c64 rfl (by decide) (.complex .f32 x y) rfl rfl (.tmp 56) (.tmp 60) rfl w.heap.size _ (cvals (numG 2 Ps j)) _ _ rfl rfl rfl hown.out hsz (by rw [HFL.out]; omega) ?_; intro ad cap' w' hown' hbel' hkeep; have R3 := Lib.hid (HROW.out.keep hown.out (by decide) hkeep); have O3 := Lib.hid hown'; have B3 := Lib.hid (hb.out.trans hbel'); clear hown' hbel' hkeep))
                go_roundg (gk - 1)
                case measure => omega
                case rel =>
                  have O4 := O3.out
                  rw [HFL.out] at O4
                  have e : cvals (numG 2 Ps (j + 1)) = cvals (numG 2 Ps j) ++ [.complex .f32 x y] := by rw [HN.out, HNU.out]; exact cvals_snoc x y (by rw [HLN.out])
                  exact ⟨j + 1, ad, cap', by omega, by rw [HFL.out], by go_num, HK.out, by rw [e]; exact O4, B3.out, ⟨_, R3.out⟩⟩
          · have HQ := Lib.hid (hbad.out (okC_not (tg := 2) (p := p) (by omega)))
            have h8' : ((p.size : Int) != 16) = true := by rw [bne_iff_ne]; omega
            have h8'' : ¬ (p.size : Int) = 16 := by omega
            clear h16
            go_wp2_with fail
            go_ret2
            exact readsC.mk hb.out (HO.out.1.trans HQ.out) (HO.out.2.trans (numF_not HQ.out)) (ownV.nil _ _ _)
        · have hjn : j = Ps.length := by omega
          have hq := okF_all (tg := 2) (Ps := Ps) (by omega) (by rw [← hjn]; exact hok.out)
          have HQ := Lib.hid hq
          have HJ := Lib.hid hjn
          clear hq hrow
          go_wp2
          go_ret2
          exact readsC.mk hb.out (HO.out.1.trans HQ.out.1) (HO.out.2.trans (HQ.out.2.trans (by rw [← HJ.out]))) hown.out

theorem spec_ReadComplex (s : ByteArray) (w : World) (hs : s.size ≤ 1048576) :
    Calls Tryd.prog 31 #[.string s] w fun e w' => readsC s w w' e := by
  go_enter Tryd.func31, Tryd.ntmps31
  go_wp2_with fail
  refine (spec_l01CRead s _ hs).mono ?_
  rintro e w1 ⟨a, cap, rfl, b1, hr⟩
  have HB := Lib.hid b1
  have HR := Lib.hid hr
  clear b1 hr
  go_wp2
  go_ret2
  exact ⟨a, cap, rfl, HB.out, HR.out⟩
end Go.Proofs.YthegbaaelccekaaDoor
