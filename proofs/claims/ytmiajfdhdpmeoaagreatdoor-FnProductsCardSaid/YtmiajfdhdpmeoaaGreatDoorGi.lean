/-
  ComplexText in the program. Condition: the table math/bits.deBruijn64tab reads as listed; a list of at most 256 complex numbers.
-/
import Derived.Test.YtmiajfdhdpmeoaaGreatDoorMg
import Derived.Test.YtmiajfdhdpmeoaaGreatDoorNt
import Derived.Test.YtmiajfdhdpmeoaaGreatDoorCy
namespace Go.Proofs.YtmiajfdhdpmeoaaGreatDoor
open Go.RowKit Go.Lib Go.Joins

theorem cat_hex (x y : Nat) : (hexT x ++ hexT y : ByteArray) = ⟨(hexX x ++ hexX y).toArray⟩ := by apply ByteArray.ext; simp [hexT, hexX]
set_option maxRecDepth 10000 in
set_option maxHeartbeats 1000000 in
theorem impl_ComplexText (a : Option Addr) (n c B : Nat) (xs : List Nat) (w : World) (hn : xs.length = 2 * n) (ha : Hid (rowV w 24 B a (cvals xs))) (hx : n ≤ 256) (hv : Hid (lt32 xs)) (hd : Hid (Bru w)) :
    Calls Tryz.prog 16 #[.slice a n c] w fun e w' => e = .returned (.tuple #[.string (textC xs n), .bool true]) ∧ Below w.heap.size w w' := by
  have HN := Lib.hid hn
  clear hn
  by_cases h0 : n = 0
  · have hz : textC xs n = ⟨#[110, 111, 110, 101]⟩ := by
      subst h0
      rfl
    have HZ := Lib.hid hz
    subst h0
    clear hz
    go_enter Tryz.func16, Tryz.ntmps16
    go_wp2
    go_ret2
    exact ⟨by rw [HZ.out]; rfl, Below.refl _ _⟩
  · have h0' : ((n : Int) == 0) = false := by rw [beq_eq_false_iff_ne]; omega
    have hmk := run_make_row' (P := Tryz.prog) 60 9 (.string ⟨#[]⟩) 16 Tryz.underlying60 info_str rfl .i64 .i64 n (by omega) (by omega)
    go_enter Tryz.func16, Tryz.ntmps16
    go_wp2
    go_loopg [18] n (fun g i wr => ∃ j : Nat, g + j = n ∧ i = .int .i64 j ∧ Hid (Below w.heap.size w wr) ∧ Hid (w.heap.size < wr.heap.size) ∧ Hid (wr.rowIs w.heap.size 9 n (fun i => if i < j then .string ⟨((hexZ xs n).getD i []).toArray⟩ else .string ⟨#[]⟩)))
    case atStart => exact ⟨0, by omega, rfl, (Below.refl _ _).alloc (Nat.le_refl _) _, by show _ < _; simp, (World.rowIs_made w (.string ⟨#[]⟩) n 9).congr (fun i _ => rfl)⟩
    case round =>
      obtain ⟨j, hj, rfl, hbel, hsz, hrow⟩ := hrel
      by_cases hlt : j < n
      · have hj2 : j < xs.length / 2 := by rw [HN.out]; omega
        obtain ⟨ba, rfl, _, hca⟩ := (ha.out.stays hbel.out).cell (i := j) (by rw [cvals_len]; exact hj2)
        rw [cvals_get xs j hj2] at hca
        have h2 := hv.out (2 * j) (by rw [HN.out]; omega)
        have h3 := hv.out (2 * j + 1) (by rw [HN.out]; omega)
        have hl3 := Lib.hid (hexZ_get xs hlt)
        generalize xs.getD (2 * j) 0 = x at hca h2 hl3
        generalize xs.getD (2 * j + 1) 0 = y at hca h3 hl3
        have hxl : (hexT x).size = 8 := hexT_size x
        have hyl : (hexT y).size = 8 := hexT_size y
        clear hj2
        go_wp2_with fail
        refine (impl_hexText x _ h2 (Lib.hid (hd.out.on hbel.out (Nat.le_refl _)))).mono ?_
        rintro e w2 ⟨rfl, b2⟩
        have B2 := Lib.hid b2
        clear b2
        go_wp2_with fail
        refine (impl_hexText y _ h3 (Lib.hid (hd.out.on (hbel.out.trans (B2.out.mono (Nat.le_of_lt hsz.out))) (Nat.le_refl _)))).mono ?_
        rintro e w3 ⟨rfl, b3⟩
        have B3 : Hid (Below wr.heap.size wr w3) := onB B2.out b3
        have hrow2 := Lib.hid (hrow.out.of_block (B3.out.block w.heap.size hsz.out))
        have hdst := (hrow2.out.cell hlt).trans (by rw [if_neg (by omega)])
        have hfr := hrow2.out.frozen j
        clear b3
        go_wp2_with fail
        go_roundg (gk - 1)
        case measure => omega
        case rel =>
          refine ⟨j + 1, by omega, by go_num, (hbel.out.trans (B3.out.mono (Nat.le_of_lt hsz.out))).setCell (Nat.le_refl _) _, ?_, (hrow2.out.set j (.string (hexT x ++ hexT y))).congr fun i hi => ?_⟩
          · have h8 := hsz.out
            have h9 := B3.out.size
            show _ < _
            simp only [World.setCell, Array.size_modify]
            omega
          · by_cases h1 : i = j
            · subst h1
              rw [if_pos (show i < i + 1 by omega), if_pos rfl, hl3.out, cat_hex]
            · rw [if_neg h1]
              by_cases h2 : i < j
              · rw [if_pos h2, if_pos (by omega)]
              · rw [if_neg h2, if_neg (by omega)]
      · have hjn : j = n := by omega
        subst hjn
        have hr2 := Lib.hid (hrow.out.congr (g := fun i => .string ⟨((hexZ xs j).getD i []).toArray⟩) (fun i hi => by rw [if_pos hi]))
        go_wp2_with (go_at_call 36; refine (join_texts w.heap.size j (hexZ xs j) _ (hexZ_len xs j) (by omega) hx (hexZ_short xs j) hr2).mono ?_; rintro e w2 ⟨rfl, b2⟩)
        go_ret2
        exact ⟨rfl, hbel.out.trans (b2.mono (Nat.le_of_lt hsz.out))⟩
end Go.Proofs.YtmiajfdhdpmeoaaGreatDoor
