/-
  ListText in the program; its law's walk. Condition: the table reads as listed; a list longer than 2^20 is not asked.
-/
import Derived.Test.YthegbaaelccekaaDoorIb
namespace Go.Proofs.YthegbaaelccekaaDoor
open Go.RowKit Go.Lib Go.Joins

theorem belowD {B : Nat} {a w : World} (h : Below B a w) (n : Nat) : Below B a (w.drewN n) := h.trans ⟨rfl, rfl, rfl, Nat.le_refl _, fun _ _ => rfl⟩

theorem impl_allWithin (a : Option Addr) (n c : Nat) (zs : List Int) (w : World) (hn : zs.length = n) (ha : Hid (ils w a zs)) (hx : n < 2147483648) :
    Calls Tryd.prog 57 #[.slice a n c, .int .i64 (-1000000000000000), .int .i64 1000000000000000] w fun e w' => e = .returned (.bool (allV zs n)) ∧ w' = w := by
  have HN := Lib.hid hn
  clear hn
  go_enter Tryd.func57, Tryd.ntmps57
  go_wp2
  go_loopg [11] n (fun g i wr => ∃ j : Nat, g + j = n ∧ i = .int .i64 j ∧ Hid (allV zs j = true) ∧ wr = w)
  case atStart => exact ⟨0, by omega, rfl, rfl, rfl⟩
  case round =>
    obtain ⟨j, hj, rfl, hall, rfl⟩ := hrel
    by_cases hlt : j < n
    · obtain ⟨ba, oa, rfl, hca⟩ := ha.out j (by rw [HN.out]; exact hlt)
      cases hb : inV (zs.getD j 0)
      · have HF : Hid (allV zs n = false) := allV_false hlt hb
        generalize zs.getD j 0 = x at hca hb
        have HB := Lib.hid (show (decide (-1000000000000000 ≤ x) && decide (x ≤ 1000000000000000)) = false from hb)
        clear hb
        go_wp2_with (go_at_call 54; refine (impl_withinD _ _ _ _).mono ?_; rintro e w' ⟨he, rfl⟩; rw [HB.out] at he; subst he)
        go_ret
        exact ⟨by rw [HF.out]; rfl, rfl⟩
      · have HJ : Hid (allV zs (j + 1) = true) := by show _ = _; unfold allV; rw [hall.out, hb]; rfl
        generalize zs.getD j 0 = x at hca hb
        have HB := Lib.hid (show (decide (-1000000000000000 ≤ x) && decide (x ≤ 1000000000000000)) = true from hb)
        clear hb
        go_wp2_with (go_at_call 54; refine (impl_withinD _ _ _ _).mono ?_; rintro e w' ⟨he, rfl⟩; rw [HB.out] at he; subst he)
        go_roundg (gk - 1)
        case measure => omega
        case rel => exact ⟨j + 1, by omega, by go_num, HJ, rfl⟩
    · have hjn : j = n := by omega
      subst hjn
      go_wp2
      go_ret
      exact ⟨by rw [hall.out]; rfl, rfl⟩

theorem info_str : (Tryd.prog.info? 9).map (fun i => (i.zero, i.size, i.bytes)) = some (some (.string ⟨#[]⟩), 1, 16) := by kernel_rfl
theorem lens_le {L : List (List UInt8)} (h : ∀ l ∈ L, l.length ≤ 21) : lens L ≤ 21 * L.length := by
  induction L with
  | nil => simp [lens]
  | cons x r ih =>
    have h1 := h x (by simp)
    have h2 := ih (fun l hl => h l (by simp [hl]))
    simp only [lens, List.map_cons, List.sum_cons, List.length_cons] at h2 ⊢
    omega
theorem join_le {L : List (List UInt8)} (h : ∀ l ∈ L, l.length ≤ 21) : (join L [44]).length ≤ 22 * L.length := by
  rcases L with _ | ⟨x, r⟩
  · simp [join_nil]
  · have h1 := h x (by simp)
    have h2 := lens_le (fun l hl => h l (by simp [hl]) : ∀ l ∈ r, l.length ≤ 21)
    rw [join_cons, List.length_append, joinTail_length, List.length_cons]
    simp only [List.length_cons, List.length_nil]
    omega
/-- strings.Join of decimals that lie in a row. -/
theorem join_row (g n : Nat) (zs : List Int) (W : World) (hn : zs.length = n) (h0 : 0 < n) (hx : n ≤ 64) (hv : Hid (allV zs n = true)) (hr : Hid (W.rowIs g 9 n (fun i => .string ⟨(itoa (zs.getD i 0)).toArray⟩))) :
    Calls Tryd.prog 88 #[.slice (some ⟨g, 0, none⟩) n n, .string ⟨#[44]⟩] W fun e w' => e = .returned (.string ⟨(textL zs).toArray⟩) ∧ Below W.heap.size W w' := by
  have e1 : (zs.map (fun z => (⟨(itoa z).toArray⟩ : ByteArray))).length = n := by simp [hn]
  have e2 : ((zs.map (fun z => (⟨(itoa z).toArray⟩ : ByteArray))).map (·.data.toList)) = zs.map itoa := by
    rw [List.map_map]
    exact List.map_congr_left (fun z _ => by simp)
  have hz : zs ≠ [] := by rintro rfl; simp at hn; omega
  have hlen : (join (zs.map itoa) [44]).length ≤ 22 * n := by
    have := join_le (L := zs.map itoa) (fun l hl => by
      obtain ⟨z, hz, rfl⟩ := List.mem_map.1 hl
      obtain ⟨i, hi, rfl⟩ := List.getElem_of_mem hz
      have hb := allV_at hv.out (show i < n by omega)
      rw [List.getD_eq_getElem?_getD, List.getElem?_eq_getElem hi] at hb
      simp only [Option.getD_some] at hb
      exact itoa_length_le _ (by omega) (by omega))
    simpa [hn] using this
  have := Tryd.strings_Join g 0 n (zs.map (fun z => (⟨(itoa z).toArray⟩ : ByteArray))) ⟨#[44]⟩ W (fun j x hj => by
      have hj2 : j < n := by
        apply Nat.lt_of_not_le; intro hle
        rw [List.getElem?_eq_none (by rw [e1]; exact hle)] at hj; cases hj
      rw [Nat.zero_add, hr.out.cell hj2]
      rw [List.getElem?_map, List.getElem?_eq_getElem (by omega)] at hj
      rw [List.getD_eq_getElem?_getD, List.getElem?_eq_getElem (by omega)]
      simp only [Option.map_some, Option.some.injEq, Option.getD_some] at hj ⊢
      rw [hj]) hr.out.lt (by rw [e1]; omega) (by rw [e1]; exact Nat.le_refl _) (by rw [e2]; show (join (zs.map itoa) [44]).length ≤ _; omega)
  rw [e1, e2] at this
  have ht : textL zs = join (zs.map itoa) [44] := if_neg hz
  rw [ht]
  exact this

set_option maxRecDepth 10000 in
theorem impl_joinDecimals (a : Option Addr) (n c : Nat) (zs : List Int) (w : World) (hn : zs.length = n) (ha : Hid (ils w a zs)) (hx : n ≤ 64) (h0 : 0 < n) (hv : Hid (allV zs n = true)) (ht : Hid (Tab w)) :
    Calls Tryd.prog 58 #[.slice a n c, .string ⟨#[44]⟩] w fun e w' => e = .returned (.string ⟨(textL zs).toArray⟩) ∧ Below w.heap.size w w' := by
  have HN := Lib.hid hn
  clear hn
  have hmk := run_make_row' (P := Tryd.prog) 76 9 (.string ⟨#[]⟩) 16 Tryd.underlying76 info_str rfl .i64 .i64 n (by omega) (by omega)
  go_enter Tryd.func58, Tryd.ntmps58
  go_wp2
  go_loopg [13] n (fun g i wr => ∃ j : Nat, g + j = n ∧ i = .int .i64 j ∧ Hid (Below w.heap.size w wr) ∧ Hid (w.heap.size < wr.heap.size) ∧ Hid (wr.rowIs w.heap.size 9 n (fun i => if i < j then .string ⟨(itoa (zs.getD i 0)).toArray⟩ else .string ⟨#[]⟩)))
  case atStart => exact ⟨0, by omega, rfl, (Below.refl _ _).alloc (Nat.le_refl _) _, by show _ < _; simp, (World.rowIs_made w (.string ⟨#[]⟩) n 9).congr (fun i _ => rfl)⟩
  case round =>
    obtain ⟨j, hj, rfl, hbel, hsz, hrow⟩ := hrel
    by_cases hlt : j < n
    · obtain ⟨ba, oa, rfl, hca⟩ := (ha.out.on hbel.out (Nat.le_refl _)) j (by rw [HN.out]; exact hlt)
      have h2 := allV_at hv.out hlt
      generalize hxj : zs.getD j 0 = x at hca h2
      have HXJ := Lib.hid hxj
      clear hxj
      go_wp2_with (go_at_call 12; refine (impl_Decimal x _ (by omega) (by omega) (Lib.hid (ht.out.on hbel.out (Nat.le_refl _)))).mono ?_; rintro e w2 ⟨rfl, b2⟩; have hrow2 := Lib.hid (hrow.out.of_block (b2.block w.heap.size hsz.out)); have hdst := (hrow2.out.cell hlt).trans (by rw [if_neg (by omega)]); have hfr := hrow2.out.frozen j)
      go_roundg (gk - 1)
      case measure => omega
      case rel =>
        refine ⟨j + 1, by omega, by go_num, (hbel.out.trans (b2.mono (Nat.le_of_lt hsz.out))).setCell (Nat.le_refl _) _, ?_, (hrow2.out.set j (.string ⟨(itoa x).toArray⟩)).congr fun i hi => ?_⟩
        · have h8 := hsz.out
          have h9 := b2.size
          show _ < _
          simp only [World.setCell, Array.size_modify]
          omega
        · by_cases h1 : i = j
          · subst h1
            rw [if_pos (show i < i + 1 by omega), if_pos rfl, HXJ.out]
          · rw [if_neg h1]
            by_cases h2 : i < j
            · rw [if_pos h2, if_pos (by omega)]
            · rw [if_neg h2, if_neg (by omega)]
    · have hjn : j = n := by omega
      subst hjn
      have hr2 := Lib.hid (hrow.out.congr (g := fun i => .string ⟨(itoa (zs.getD i 0)).toArray⟩) (fun i hi => by rw [if_pos hi]))
      go_wp2_with (go_at_call 88; refine (join_row w.heap.size j zs _ HN.out h0 hx hv hr2).mono ?_; rintro e w2 ⟨rfl, b2⟩)
      go_ret
      exact ⟨rfl, hbel.out.trans (b2.mono (Nat.le_of_lt hsz.out))⟩

theorem impl_ListText (a : Option Addr) (n c : Nat) (zs : List Int) (w : World) (hn : zs.length = n) (ha : Hid (ils w a zs)) (hx : n < 2147483648) (ht : Hid (Tab w)) :
    Calls Tryd.prog 17 #[.slice a n c] w fun e w' => e = .returned (.tuple #[.string ⟨(outT zs n).toArray⟩, .bool (okT zs n)]) ∧ Below w.heap.size w w' := by
  have HN := Lib.hid hn
  by_cases h64 : (64 : Int) < n
  · have ho : okT zs n = false ∧ outT zs n = [] := by
      have h9 : okT zs n = false := by unfold okT; rw [decide_eq_false (by omega), Bool.and_false]
      exact ⟨h9, by unfold outT; rw [h9]; rfl⟩
    have HO := Lib.hid ho
    clear ho hn
    go_enter Tryd.func17, Tryd.ntmps17
    go_wp2
    go_ret2
    exact ⟨by rw [HO.out.1, HO.out.2]; rfl, Below.refl _ _⟩
  · have HL := Lib.hid (impl_allWithin a n c zs w hn ha hx)
    cases hv : allV zs n
    · have ho : okT zs n = false ∧ outT zs n = [] := by
        have h9 : okT zs n = false := by unfold okT; rw [hv]; rfl
        exact ⟨h9, by unfold outT; rw [h9]; rfl⟩
      have HO := Lib.hid ho
      rw [hv] at HL
      clear ho hn hv
      go_enter Tryd.func17, Tryd.ntmps17
      go_wp2_with (go_at_call 57; refine HL.out.mono ?_; rintro e w' ⟨rfl, rfl⟩)
      go_ret2
      exact ⟨by rw [HO.out.1, HO.out.2]; rfl, Below.refl _ _⟩
    · have ho : okT zs n = true ∧ outT zs n = textL zs := by
        have h9 : okT zs n = true := by unfold okT; rw [hv, decide_eq_true (by omega)]; rfl
        exact ⟨h9, by unfold outT; rw [h9]; rfl⟩
      have HO := Lib.hid ho
      have HV := Lib.hid hv
      rw [hv] at HL
      clear ho hv
      by_cases h0 : n = 0
      · have hz : zs = [] := List.eq_nil_of_length_eq_zero (hn.trans h0)
        have HZ := Lib.hid hz
        clear hz hn
        subst h0
        go_enter Tryd.func17, Tryd.ntmps17
        go_wp2_with (go_at_call 57; refine HL.out.mono ?_; rintro e w' ⟨rfl, rfl⟩)
        go_ret2
        exact ⟨by rw [HO.out.1, HO.out.2, HZ.out]; rfl, Below.refl _ _⟩
      · have h0' : ((n : Int) == 0) = false := by rw [beq_eq_false_iff_ne]; omega
        have hj := Lib.hid (impl_joinDecimals a n c zs w hn ha (by omega) (by omega) HV ht)
        clear hn
        go_enter Tryd.func17, Tryd.ntmps17
        go_wp2_with (first | (go_at_call 57; refine HL.out.mono ?_; rintro e w' ⟨rfl, rfl⟩) | (go_at_call 58; refine hj.out.mono ?_; rintro e w1 ⟨rfl, b1⟩))
        go_ret2
        exact ⟨by rw [HO.out.1, HO.out.2]; rfl, b1⟩

set_option maxRecDepth 10000 in
theorem law_FnExactListText (w : World) (a : Option Addr) (n c : Nat) (zs : List Int) (hn : zs.length = n) (ha : ils w a zs) (_ : ∀ i, i < n → -9223372036854775808 ≤ zs.getD i 0 ∧ zs.getD i 0 ≤ 9223372036854775807) (_ : n < 9223372036854775808) (ht : Hid (Tab w)) :
    Calls Tryd.prog 5 #[.slice a n c] w fun e w' => e = .returned (.bool true) ∧ Below w.heap.size w w' := by
  have HN := Lib.hid hn
  have HA := Lib.hid ha
  clear hn ha
  by_cases h : (n : Int) ≤ 1048576
  · have hx : n < 2147483648 := by omega
    go_enter Tryd.func5, Tryd.ntmps5
    go_wp2_with fail
    refine (laws_toInt64S a n c zs _ HN.out HA hx).mono ?_
    rintro e w1 ⟨rfl, B1, R1, _⟩
    have F1 := Lib.hid R1.ils
    clear R1
    go_wp2_with fail
    refine (spec_ListText _ n n zs _ HN.out F1 hx).mono ?_
    rintro e w2 ⟨rfl, B2⟩
    have C2 := onB B1 B2
    go_wp2_with fail
    refine (laws_toInt64S a n c zs _ HN.out (Lib.hid (HA.out.on C2 (Nat.le_refl _))) hx).mono ?_
    rintro e w3 ⟨rfl, B3, R3, _⟩
    have F3 := Lib.hid R3.ils
    have C3 := onB C2 B3
    clear R3
    go_wp2_with fail
    refine (impl_ListText _ n n zs _ HN.out F3 hx (Lib.hid (ht.out.on C3 (Nat.le_refl _)))).mono ?_
    rintro e w4 ⟨rfl, B4⟩
    have F4 := Lib.hid (F3.out.on B4 (Nat.le_refl _))
    have C4 := onB C3 B4
    go_wp2_with fail
    refine (laws_toInt64S a n c zs _ HN.out (Lib.hid (HA.out.on C4 (Nat.le_refl _))) hx).mono ?_
    rintro e w5 ⟨rfl, B5, R5, _⟩
    have F5 := Lib.hid R5.ils
    have F6 := Lib.hid (F4.out.on B5 (Nat.le_refl _))
    have C5 := onB C4 B5
    clear R5
    go_wp2_with fail
    refine (laws_eqInt64S _ _ n n n zs _ HN.out F6 F5 hx).mono ?_
    rintro e w' ⟨rfl, m, rfl⟩
    go_wp2
    go_ret
    exact ⟨rfl, belowD C5 _⟩
  · go_enter Tryd.func5, Tryd.ntmps5
    go_wp2
    go_ret
    exact ⟨rfl, Below.refl _ _⟩
end Go.Proofs.YthegbaaelccekaaDoor
