/-
  ReadNumbers in the reference. Condition: a text of at most 2^20 bytes.
-/
import Derived.Test.YthegbaaelccekaaDoorRe
namespace Go.Proofs.YthegbaaelccekaaDoor
open Go.RowKit Go.Lib Go.Joins

theorem hexC_byte (p : ByteArray) (i : Nat) : hexC (p.data.toList.getD i 0) = if 48 ≤ byteAt p i ∧ byteAt p i ≤ 57 then some (byteAt p i - 48) else if 97 ≤ byteAt p i ∧ byteAt p i ≤ 102 then some (byteAt p i - 87) else none := rfl
theorem readF_byte (f : UInt8 → Option Nat) (l : List UInt8) (acc i : Nat) (h : i < l.length) : readF f acc (l.drop i) = match f (l.getD i 0) with
    | some d => readF f (16 * acc + d) (l.drop (i + 1))
    | none => none := by
  rw [List.drop_eq_getElem_cons h, readF, List.getD_eq_getElem?_getD, List.getElem?_eq_getElem h]; rfl
theorem okW_none {l : List UInt8} (h : readF hexC 0 l = none) : okW bitsN l = false := by unfold okW; rw [h]; simp
theorem okW_some {l : List UInt8} {n : Nat} (hl : l.length = 8) (h : readF hexC 0 l = some n) : okW bitsN l = decide (bitsN n = n) ∧ numW l = n := by
  unfold okW numW; rw [h, hl]; simp

set_option maxRecDepth 10000 in
set_option maxHeartbeats 1000000 in
theorem spec_l01NRead (s : ByteArray) (w : World) (hs : s.size ≤ 1048576) :
    Calls Tryd.prog 65 #[.string s] w fun e w' => readsF 1 s w w' e := by
  by_cases hn : isNone s
  · have ho : okS 1 s = true ∧ numS 1 s = [] := ⟨if_pos hn, if_pos hn⟩
    have HO := Lib.hid ho
    have e := isNone_eq hn
    clear hn ho
    subst e
    go_enter Tryd.func65, Tryd.ntmps65
    go_wp2
    go_ret2
    exact readsF.mk ((Below.refl _ _).alloc (Nat.le_refl _) _) HO.out.1 HO.out.2 (ownV.empty _ _ _ (Nat.le_refl _))
  · have ho : okS 1 s = okF 1 (pcs s) ∧ numS 1 s = numF 1 (pcs s) := ⟨if_neg hn, if_neg hn⟩
    have HO := Lib.hid ho
    have hne : (s.toList == [110, 111, 110, 101]) = false := by
      rw [ByteArray.toList_eq, beq_eq_false_iff_ne]; exact hn
    have hpz : ∀ i, i < (pcs s).length → ((pcs s).getD i ⟨#[]⟩).size ≤ 1048576 := fun i hi => Nat.le_trans (pcs_size hi) hs
    have HPZ := Lib.hid hpz
    clear hn ho hpz
    go_enter Tryd.func65, Tryd.ntmps65
    go_wp2_with fail
    refine (spec_l01Cut s _ hs).mono ?_
    rintro e w1 ⟨pa, pc, Ps, rfl, hP, b1, hR⟩
    obtain rfl := pcs_of hP
    have b1' : Below w.heap.size w w1 := ((Below.refl _ _).alloc (Nat.le_refl _) _).trans (b1.mono (by simp))
    have O1 := Lib.hid ((ownV.empty w 51 _ (Nat.le_refl _)).on b1 (Nat.le_refl _))
    have HB1 := Lib.hid b1'
    have HR1 := Lib.hid hR
    clear b1 b1' hR hP
    generalize hPs : pcs s = Ps at *
    have HPs := Lib.hid hPs
    clear hPs
    by_cases h256 : (256 : Int) < Ps.length
    · have hq := okF_short (tg := 1) (Ps := Ps) (by omega)
      have HQ := Lib.hid hq
      clear hq
      go_wp2
      go_ret2
      exact readsF.mk HB1.out (HO.out.1.trans HQ.out) (HO.out.2.trans (numF_not HQ.out)) (ownV.nil _ _ _)
    · go_wp2_with fail
      go_loopg [4, 6] Ps.length (fun g o i wr => ∃ (j : Nat) (a : Option Addr) (cap : Nat), g + j = Ps.length ∧ o = .slice a j cap ∧ i = .int .i64 j ∧ Hid (okG 1 Ps j = true) ∧ Hid (ownV wr 51 w.heap.size (.slice a j cap) (fvals (numG 1 Ps j))) ∧ Hid (Below w.heap.size w wr) ∧ Hid (∃ B, rowV wr 9 B pa (Ps.map Value.string)))
      case atStart => exact ⟨0, _, _, by omega, rfl, rfl, rfl, O1.out, HB1.out, ⟨_, HR1.out⟩⟩
      case round =>
        obtain ⟨j, a, cap, hj, rfl, rfl, hok, hown, hb, hrow⟩ := hrel
        obtain ⟨B, hrow⟩ := hrow.out
        have HROW := Lib.hid hrow
        by_cases hlt : j < Ps.length
        · obtain ⟨gp, rfl, _, hcell⟩ := hrow.cell (i := j) (by simpa using hlt)
          rw [str_cell hlt] at hcell
          have hbad := Lib.hid (okF_bad (tg := 1) (Ps := Ps) hlt)
          have hgood : okC 1 (Ps.getD j ⟨#[]⟩) = true → okG 1 Ps (j + 1) = true := fun h => by unfold okG; rw [hok.out, h]; rfl
          have HG := Lib.hid hgood
          have HN := Lib.hid (numG_step (tg := 1) hlt)
          have HLN := Lib.hid (numG_len (tg := 1) j (Nat.le_of_lt hlt))
          generalize Ps.getD j ⟨#[]⟩ = p at *
          clear hgood hrow
          by_cases h8 : p.size = 8
          · have hone := Lib.hid (okC_one h8)
            have hl8 : p.data.toList.length = 8 := by simpa using h8
            have HL8 := Lib.hid hl8
            have H8 := Lib.hid h8
            have hp8 : (p.size : Int) = 8 := by omega
            clear hl8
            go_wp2_with fail
            clear hp8
            have hge : 8 ≤ p.size := by omega
            clear h8
            go_loopg [7, 8] 8 (fun g n k w2 => ∃ i acc : Nat, g + i = 8 ∧ n = .int .i64 acc ∧ k = .int .i64 i ∧ Hid (acc < 16 ^ i ∧ readF hexC 0 p.data.toList = readF hexC acc (p.data.toList.drop i)) ∧ w2 = wr)
            case atStart => exact ⟨0, 0, by omega, rfl, rfl, ⟨by decide, rfl⟩, rfl⟩
            case round =>
              obtain ⟨i, acc, hi, rfl, rfl, hacc, rfl⟩ := hrel
              by_cases hi8 : i < 8
              · have hp : 16 ^ i ≤ 268435456 := Nat.le_trans (Nat.pow_le_pow_right (by decide) (show i ≤ 7 by omega)) (by decide)
                have hacc1 : acc < 268435456 := by have := hacc.out.1; omega
                have hrd := readF_byte hexC p.data.toList acc i (by rw [HL8.out]; exact hi8)
                rw [hexC_byte] at hrd
                have hbv := byteAt_eq (s := p) (i := i) (by omega)
                have hb2 := byteAt_lt p i
                have hpow := Nat.pow_succ 16 i
                have hlp : i < p.size := by omega
                have hstep : ∀ d : Nat, d < 16 → readF hexC acc (p.data.toList.drop i) = readF hexC (16 * acc + d) (p.data.toList.drop (i + 1)) → Hid (16 * acc + d < 16 ^ (i + 1) ∧ readF hexC 0 p.data.toList = readF hexC (16 * acc + d) (p.data.toList.drop (i + 1))) := by
                  intro d hd he
                  have := hacc.out
                  exact ⟨by rw [hpow]; omega, this.2.trans he⟩
                have HST := Lib.hid hstep
                clear hp hpow hstep
                generalize byteAt p i = x at hrd hbv hb2
                by_cases hdig : 48 ≤ x ∧ x ≤ 57
                · rw [if_pos hdig] at hrd
                  have HN := HST.out (x - 48) (by omega) hrd
                  obtain ⟨hd0, hd1⟩ := hdig
                  clear hrd
                  go_wp2_with fail
                  go_roundg (7 - i)
                  case measure => omega
                  case rel => exact ⟨i + 1, 16 * acc + (x - 48), by omega, by go_num, by go_num, HN.out, rfl⟩
                · rw [if_neg hdig] at hrd
                  have hdig' : x < 48 ∨ 57 < x := by omega
                  clear hdig
                  by_cases hlet : 97 ≤ x ∧ x ≤ 102
                  · rw [if_pos hlet] at hrd
                    have HN := HST.out (x - 87) (by omega) hrd
                    obtain ⟨hl0, hl1⟩ := hlet
                    clear hrd hdig'
                    go_wp2_with fail
                    go_roundg (7 - i)
                    case measure => omega
                    case rel => exact ⟨i + 1, 16 * acc + (x - 87), by omega, by go_num, by go_num, HN.out, rfl⟩
                  · rw [if_neg hlet] at hrd
                    have hR : okC 1 p = false := hone.out.1.trans (okW_none (hacc.out.2.trans hrd))
                    have HQ := Lib.hid (hbad.out hR)
                    clear hrd hR
                    have hway : x < 48 ∨ (57 < x ∧ x < 97) ∨ 102 < x := by omega
                    clear hdig' hlet
                    rcases hway with h | ⟨h, h'⟩ | h
                    all_goals
                      go_wp2_with fail
                      go_ret2
                      exact readsF.mk hb.out (HO.out.1.trans HQ.out) (HO.out.2.trans (numF_not HQ.out)) (ownV.nil _ _ _)
              · obtain rfl : i = 8 := by omega
                have hacc2 : acc < 4294967296 := by have := hacc.out.1; rw [show (16 : Nat) ^ 8 = 4294967296 by decide] at this; exact this
                have hrd : readF hexC 0 p.data.toList = some acc := by
                  have := hacc.out.2
                  rw [List.drop_eq_nil_of_le (by rw [HL8.out]; decide)] at this
                  exact this
                have hoW := okW_some HL8.out hrd
                have hfrom : ((acc : Int) % 4294967296).toNat = acc := by rw [Int.emod_eq_of_lt (by omega) (by omega)]; omega
                have HF := Lib.hid hfrom
                have HBI := Lib.hid (bitsN_eq hacc2).1
                by_cases hcan : bitsN acc = acc
                · have hR : okC 1 p = true := hone.out.1.trans (hoW.1.trans (decide_eq_true hcan))
                  have hnum : numC 1 p = [acc] := by rw [hone.out.2, hoW.2]
                  have HK := Lib.hid (HG.out hR)
                  have HNU := Lib.hid hnum
                  have HBI2 : Hid (bitsI acc = (acc : Int)) := by show _ = _; rw [HBI.out, hcan]
                  have hlen := HLN.out
                  have hsz := hb.out.size
                  clear hR hnum hcan hoW hrd hfrom hacc hi8
                  go_wp2_with (first
                    | (go_at_call 72; refine (spec_l01From _ _).mono ?_; rw [HF.out]; rintro e w' ⟨rfl, rfl⟩)
                    | (go_at_call 93; refine (spec_l01Bits acc _ hacc2).mono ?_; rw [HBI2.out]; rintro e w' ⟨rfl, rfl⟩)
                    | (at_builtin; refine wpList_append_keep 36 51 (.float .f32 0) 4 Tryd.underlying36 info_f32 rfl (by decide) (.float .f32 acc) rfl rfl (.tmp 74) (.tmp 76) rfl w.heap.size _ (fvals (numG 1 Ps j)) _ _ rfl rfl rfl hown.out hsz (by rw [fvals_len, hlen]; omega) ?_; intro ad cap' w' hown' hbel' hkeep; have R3 := Lib.hid (HROW.out.keep hown.out (by decide) hkeep); have O3 := Lib.hid hown'; have B3 := Lib.hid (hb.out.trans hbel'); clear hown' hbel' hkeep))
                  go_roundg (Ps.length - (j + 1))
                  case measure => omega
                  case rel =>
                    have hl : (fvals (numG 1 Ps j)).length = j := by rw [fvals_len, HLN.out]; omega
                    have O4 := O3.out
                    rw [hl] at O4
                    have e : fvals (numG 1 Ps (j + 1)) = fvals (numG 1 Ps j) ++ [.float .f32 acc] := by rw [HN.out, HNU.out]; simp [fvals]
                    exact ⟨j + 1, ad, cap', by omega, by rw [hl], by go_num, HK.out, by rw [e]; exact O4, B3.out, ⟨_, R3.out⟩⟩
                · have hR : okC 1 p = false := hone.out.1.trans (hoW.1.trans (decide_eq_false hcan))
                  have HQ := Lib.hid (hbad.out hR)
                  have hne2 : (((bitsN acc : Nat) : Int) != (acc : Int)) = true := by rw [bne_iff_ne]; omega
                  clear hR hoW hrd hfrom hacc hcan hi8
                  generalize bitsN acc = m at HBI hne2
                  go_wp2_with (first
                    | (go_at_call 72; refine (spec_l01From _ _).mono ?_; rw [HF.out]; rintro e w' ⟨rfl, rfl⟩)
                    | (go_at_call 93; refine (spec_l01Bits acc _ hacc2).mono ?_; rw [HBI.out]; rintro e w' ⟨rfl, rfl⟩))
                  go_ret2
                  exact readsF.mk hb.out (HO.out.1.trans HQ.out) (HO.out.2.trans (numF_not HQ.out)) (ownV.nil _ _ _)
          · have HQ := Lib.hid (hbad.out (okC_not (tg := 1) (p := p) (by omega)))
            have h8' : ((p.size : Int) != 8) = true := by rw [bne_iff_ne]; omega
            have h8'' : ¬ (p.size : Int) = 8 := by omega
            clear h8
            go_wp2_with fail
            go_ret2
            exact readsF.mk hb.out (HO.out.1.trans HQ.out) (HO.out.2.trans (numF_not HQ.out)) (ownV.nil _ _ _)
        · have hjn : j = Ps.length := by omega
          have hq := okF_all (tg := 1) (Ps := Ps) (by omega) (by rw [← hjn]; exact hok.out)
          have HQ := Lib.hid hq
          have HJ := Lib.hid hjn
          clear hq hrow
          go_wp2
          go_ret2
          exact readsF.mk hb.out (HO.out.1.trans HQ.out.1) (HO.out.2.trans (HQ.out.2.trans (by rw [← HJ.out]))) hown.out
end Go.Proofs.YthegbaaelccekaaDoor
