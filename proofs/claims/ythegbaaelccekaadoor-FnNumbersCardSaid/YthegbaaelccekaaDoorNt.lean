/-
  NumbersText in the reference and in the program; its law's walk. Condition: the table math/bits.deBruijn64tab reads as listed; a list longer than 2^20 is not asked.
-/
import Derived.Test.YthegbaaelccekaaDoorHv
import Derived.Test.YthegbaaelccekaaDoorJn
import Derived.Test.YthegbaaelccekaaDoorFu
namespace Go.Proofs.YthegbaaelccekaaDoor
open Go.RowKit Go.Lib Go.Joins

def hexX (x : Nat) : List UInt8 := hexL 8 (bitsN x)
def hexs (xs : List Nat) : List (List UInt8) := xs.map hexX
theorem hexs_len (xs : List Nat) : (hexs xs).length = xs.length := by simp [hexs]
theorem hexs_short (xs : List Nat) : ∀ l ∈ hexs xs, l.length ≤ 21 := by
  intro l hl
  obtain ⟨x, _, rfl⟩ := List.mem_map.1 hl
  unfold hexX; rw [hexL_len]; decide
theorem hexs_get {xs : List Nat} {i : Nat} (h : i < xs.length) : (hexs xs).getD i [] = hexX (xs.getD i 0) := getD_map hexX xs i 0 [] h
/-- The text of a list. -/
def textF (xs : List Nat) : ByteArray := ⟨(textA (hexs xs)).toArray⟩
def outF (xs : List Nat) (n : Nat) : ByteArray := if n ≤ 256 then textF xs else ⟨#[]⟩
def lt32 (xs : List Nat) : Prop := ∀ i, i < xs.length → xs.getD i 0 < 4294967296

set_option maxRecDepth 10000 in
theorem spec_l01NText (a : Option Addr) (n c : Nat) (xs : List Nat) (w : World) (hn : xs.length = n) (ha : Hid (fls w a xs)) (hx : n ≤ 256) (hv : Hid (lt32 xs)) :
    Calls Tryd.prog 62 #[.slice a n c] w fun e w' => e = .returned (.string (textF xs)) ∧ Below w.heap.size w w' := by
  have HN := Lib.hid hn
  clear hn
  by_cases h0 : n = 0
  · have hz : textF xs = ⟨#[110, 111, 110, 101]⟩ := by
      obtain rfl : xs = [] := List.eq_nil_of_length_eq_zero (HN.out.trans h0)
      rfl
    have HZ := Lib.hid hz
    subst h0
    clear hz
    go_enter Tryd.func62, Tryd.ntmps62
    go_wp2
    go_ret
    exact ⟨by rw [HZ.out]; rfl, Below.refl _ _⟩
  · have h0' : ((n : Int) == 0) = false := by rw [beq_eq_false_iff_ne]; omega
    have h1 := hv.out 0 (by rw [HN.out]; omega)
    obtain ⟨ba, oa, rfl, hca⟩ := ha.out 0 (by rw [HN.out]; omega)
    have H1 := Lib.hid ((textK_one (L := hexs xs) (by rw [hexs_len, HN.out]; omega)).trans (hexs_get (by rw [HN.out]; omega)))
    have HT := Lib.hid (textK_all (L := hexs xs) (by rw [hexs_len, HN.out]; omega))
    generalize xs.getD 0 0 = z0 at hca h1 H1
    rw [Nat.add_zero] at hca
    go_enter Tryd.func62, Tryd.ntmps62
    go_wp2_with (go_at_call 91; refine (spec_l01Hex z0 _ h1).mono ?_; rintro e w1 ⟨rfl, b1⟩)
    clear hca h1
    go_loopg [3, 4] (n - 1) (fun g o i wr => ∃ (j : Nat) (l : List UInt8), g + j = n ∧ 1 ≤ j ∧ o = .string ⟨l.toArray⟩ ∧ i = .int .i64 j ∧ l.length ≤ 9 * j ∧ Hid (l = textK (hexs xs) j) ∧ Hid (Below w.heap.size w wr))
    case atStart => exact ⟨1, hexX z0, by omega, by omega, rfl, rfl, by unfold hexX; rw [hexL_len]; decide, H1.out.symm, b1⟩
    case round =>
      obtain ⟨j, l, hj, hj1, rfl, rfl, hll, hl, hb⟩ := hrel
      by_cases hlt : j < n
      · have hl2 := Lib.hid ((textK_step (L := hexs xs) hj1 (by rw [hexs_len, HN.out]; exact hlt)))
        have hl3 := Lib.hid (hexs_get (xs := xs) (i := j) (by rw [HN.out]; exact hlt))
        have h2 := hv.out j (by rw [HN.out]; exact hlt)
        obtain ⟨ba', oa', e, hca⟩ := (ha.out.stays hb.out) j (by rw [HN.out]; exact hlt)
        cases e
        generalize xs.getD j 0 = z at hca h2 hl3
        have hzl : (hexT z).size = 8 := hexT_size z
        have hz8 := Lib.hid (hexL_len 8 (bitsN z))
        go_wp2_with (go_at_call 91; refine (spec_l01Hex z _ h2).mono ?_; rintro e w2 ⟨rfl, b2⟩)
        go_roundg (gk - 1)
        case measure => omega
        case rel => exact ⟨j + 1, l ++ (44 :: hexX z), by omega, by omega, congrArg Value.string (cat3 l (hexX z)), by go_num, by unfold hexX; rw [List.length_append, List.length_cons, hz8.out]; omega, by show _ = _; rw [hl2.out, hl3.out, ← hl.out], onB hb.out b2⟩
      · have hjn : j = n := by omega
        subst hjn
        have HL : Hid (textF xs = ⟨l.toArray⟩) := by show _ = _; unfold textF; rw [← HT.out, hexs_len, HN.out, ← hl.out]
        go_wp2
        go_ret
        exact ⟨by rw [HL.out]; rfl, hb.out⟩

theorem spec_NumbersText (a : Option Addr) (n c : Nat) (xs : List Nat) (w : World) (hn : xs.length = n) (ha : Hid (fls w a xs)) (hx : n < 2147483648) (hv : Hid (lt32 xs)) :
    Calls Tryd.prog 23 #[.slice a n c] w fun e w' => e = .returned (.tuple #[.string (outF xs n), .bool (decide (n ≤ 256))]) ∧ Below w.heap.size w w' := by
  have few := fun w => spec_l01Few a c n w hx
  by_cases h : n ≤ 256
  · rw [decide_eq_true h] at few ⊢
    have HO : Hid (outF xs n = textF xs) := by show _ = _; unfold outF; rw [if_pos h]
    have HN := Lib.hid hn
    clear hn
    go_enter Tryd.func23, Tryd.ntmps23
    go_wp2_with (first | (go_at_call 61; refine (few _).mono ?_; rintro e w' ⟨rfl, rfl⟩) | (go_at_call 62; refine (spec_l01NText a n c xs _ HN.out ha h hv).mono ?_; rintro e w1 ⟨rfl, b1⟩))
    go_ret2
    exact ⟨by rw [HO.out]; rfl, b1⟩
  · rw [decide_eq_false h] at few ⊢
    have HO : Hid (outF xs n = ⟨#[]⟩) := by show _ = _; unfold outF; rw [if_neg h]
    clear hn
    go_enter Tryd.func23, Tryd.ntmps23
    go_wp2_with (go_at_call 61; refine (few _).mono ?_; rintro e w' ⟨rfl, rfl⟩)
    go_ret2
    exact ⟨by rw [HO.out]; rfl, Below.refl _ _⟩

set_option maxRecDepth 10000 in
theorem impl_numbersText (a : Option Addr) (n c : Nat) (xs : List Nat) (w : World) (hn : xs.length = n) (ha : Hid (fls w a xs)) (hx : n ≤ 256) (hv : Hid (lt32 xs)) (hd : Hid (Bru w)) :
    Calls Tryd.prog 63 #[.slice a n c] w fun e w' => e = .returned (.string (textF xs)) ∧ Below w.heap.size w w' := by
  have HN := Lib.hid hn
  clear hn
  by_cases h0 : n = 0
  · have hz : textF xs = ⟨#[110, 111, 110, 101]⟩ := by
      obtain rfl : xs = [] := List.eq_nil_of_length_eq_zero (HN.out.trans h0)
      rfl
    have HZ := Lib.hid hz
    subst h0
    clear hz
    go_enter Tryd.func63, Tryd.ntmps63
    go_wp2
    go_ret
    exact ⟨by rw [HZ.out]; rfl, Below.refl _ _⟩
  · have h0' : ((n : Int) == 0) = false := by rw [beq_eq_false_iff_ne]; omega
    have hmk := run_make_row' (P := Tryd.prog) 76 9 (.string ⟨#[]⟩) 16 Tryd.underlying76 info_str rfl .i64 .i64 n (by omega) (by omega)
    go_enter Tryd.func63, Tryd.ntmps63
    go_wp2
    go_loopg [14] n (fun g i wr => ∃ j : Nat, g + j = n ∧ i = .int .i64 j ∧ Hid (Below w.heap.size w wr) ∧ Hid (w.heap.size < wr.heap.size) ∧ Hid (wr.rowIs w.heap.size 9 n (fun i => if i < j then .string ⟨((hexs xs).getD i []).toArray⟩ else .string ⟨#[]⟩)))
    case atStart => exact ⟨0, by omega, rfl, (Below.refl _ _).alloc (Nat.le_refl _) _, by show _ < _; simp, (World.rowIs_made w (.string ⟨#[]⟩) n 9).congr (fun i _ => rfl)⟩
    case round =>
      obtain ⟨j, hj, rfl, hbel, hsz, hrow⟩ := hrel
      by_cases hlt : j < n
      · obtain ⟨ba, oa, rfl, hca⟩ := (ha.out.stays hbel.out) j (by rw [HN.out]; exact hlt)
        have h2 := hv.out j (by rw [HN.out]; exact hlt)
        have hl3 := Lib.hid (hexs_get (xs := xs) (i := j) (by rw [HN.out]; exact hlt))
        generalize xs.getD j 0 = x at hca h2 hl3
        go_wp2_with (go_at_call 92; refine (impl_hexText x _ h2 (Lib.hid (hd.out.on hbel.out (Nat.le_refl _)))).mono ?_; rintro e w2 ⟨rfl, b2⟩; have hrow2 := Lib.hid (hrow.out.of_block (b2.block w.heap.size hsz.out)); have hdst := (hrow2.out.cell hlt).trans (by rw [if_neg (by omega)]); have hfr := hrow2.out.frozen j)
        go_roundg (gk - 1)
        case measure => omega
        case rel =>
          refine ⟨j + 1, by omega, by go_num, (hbel.out.trans (b2.mono (Nat.le_of_lt hsz.out))).setCell (Nat.le_refl _) _, ?_, (hrow2.out.set j (.string (hexT x))).congr fun i hi => ?_⟩
          · have h8 := hsz.out
            have h9 := b2.size
            show _ < _
            simp only [World.setCell, Array.size_modify]
            omega
          · by_cases h1 : i = j
            · subst h1
              rw [if_pos (show i < i + 1 by omega), if_pos rfl, hl3.out]; rfl
            · rw [if_neg h1]
              by_cases h2 : i < j
              · rw [if_pos h2, if_pos (by omega)]
              · rw [if_neg h2, if_neg (by omega)]
      · have hjn : j = n := by omega
        subst hjn
        have hr2 := Lib.hid (hrow.out.congr (g := fun i => .string ⟨((hexs xs).getD i []).toArray⟩) (fun i hi => by rw [if_pos hi]))
        go_wp2_with (go_at_call 88; refine (join_texts w.heap.size j (hexs xs) _ (by rw [hexs_len]; exact HN.out) (by omega) hx (hexs_short xs) hr2).mono ?_; rintro e w2 ⟨rfl, b2⟩)
        go_ret
        exact ⟨rfl, hbel.out.trans (b2.mono (Nat.le_of_lt hsz.out))⟩

theorem impl_NumbersText (a : Option Addr) (n c : Nat) (xs : List Nat) (w : World) (hn : xs.length = n) (ha : Hid (fls w a xs)) (hx : n < 2147483648) (hv : Hid (lt32 xs)) (hd : Hid (Bru w)) :
    Calls Tryd.prog 25 #[.slice a n c] w fun e w' => e = .returned (.tuple #[.string (outF xs n), .bool (decide (n ≤ 256))]) ∧ Below w.heap.size w w' := by
  have HN := Lib.hid hn
  clear hn
  by_cases h : n ≤ 256
  · rw [decide_eq_true h]
    have HO : Hid (outF xs n = textF xs) := by show _ = _; unfold outF; rw [if_pos h]
    go_enter Tryd.func25, Tryd.ntmps25
    go_wp2_with (go_at_call 63; refine (impl_numbersText a n c xs _ HN.out ha h hv hd).mono ?_; rintro e w1 ⟨rfl, b1⟩)
    go_ret2
    exact ⟨by rw [HO.out]; rfl, b1⟩
  · rw [decide_eq_false h]
    have HO : Hid (outF xs n = ⟨#[]⟩) := by show _ = _; unfold outF; rw [if_neg h]
    go_enter Tryd.func25, Tryd.ntmps25
    go_wp2
    go_ret2
    exact ⟨by rw [HO.out]; rfl, Below.refl _ _⟩

theorem fls.under {B : Nat} {w w' : World} {a : Option Addr} {xs : List Nat} (h : fls w a xs) (hb : Below B w w') (hB : w.heap.size ≤ B) : fls w' a xs := h.stays (hb.mono hB)

set_option maxRecDepth 10000 in
theorem law_FnExactNumbersText (w : World) (a : Option Addr) (n c : Nat) (xs : List Nat) (hn : xs.length = n) (ha : fls w a xs) (hv : ∀ i, i < n → xs.getD i 0 < 4294967296) (_ : n < 9223372036854775808) (hd : Hid (Bru w)) :
    Calls Tryd.prog 7 #[.slice a n c] w fun e w' => e = .returned (.bool true) ∧ Below w.heap.size w w' := by
  have HN := Lib.hid hn
  have HA := Lib.hid ha
  have HV : Hid (lt32 xs) := fun i hi => hv i (by rw [← HN.out]; exact hi)
  clear hn ha hv
  by_cases h : (n : Int) ≤ 1048576
  · have hx : n < 2147483648 := by omega
    go_enter Tryd.func7, Tryd.ntmps7
    go_wp2_with fail
    refine (laws_copy a c n xs _ HN.out HA hx).mono ?_
    rintro e w1 ⟨b1, rfl, B1, F1⟩
    go_wp2_with fail
    refine (spec_NumbersText _ n n xs _ HN.out F1 hx HV).mono ?_
    rintro e w2 ⟨rfl, B2⟩
    have C2 := onB B1 B2
    go_wp2_with fail
    refine (laws_copy a c n xs _ HN.out (Lib.hid (HA.out.stays C2)) hx).mono ?_
    rintro e w3 ⟨b3, rfl, B3, F3⟩
    have C3 := onB C2 B3
    go_wp2_with fail
    refine (impl_NumbersText _ n n xs _ HN.out F3 hx HV (Lib.hid (hd.out.on C3 (Nat.le_refl _)))).mono ?_
    rintro e w4 ⟨rfl, B4⟩
    have F4 := Lib.hid (F3.out.stays B4)
    have C4 := onB C3 B4
    go_wp2_with fail
    refine (laws_copy a c n xs _ HN.out (Lib.hid (HA.out.stays C4)) hx).mono ?_
    rintro e w5 ⟨b5, rfl, B5, F5⟩
    have F6 := Lib.hid (F4.out.stays B5)
    have C5 := onB C4 B5
    go_wp2_with fail
    refine (laws_eqs b3 b5 n n n xs xs _ HN.out F6 F5 hx rfl).mono ?_
    rintro e w' ⟨rfl, m, rfl⟩
    go_wp2
    go_ret
    exact ⟨rfl, belowD C5 _⟩
  · go_enter Tryd.func7, Tryd.ntmps7
    go_wp2
    go_ret
    exact ⟨rfl, Below.refl _ _⟩
end Go.Proofs.YthegbaaelccekaaDoor
