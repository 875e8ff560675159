/-
  The reference's choice of a complex number. Condition: the bytes are a byte slice's.
  The reference's choice of a list of complex numbers. Condition: at most twelve.
  The laws' drawn lists of complex numbers. Condition: at most twelve.
  The laws' drawn complex number with whole parts. Condition: parts to 200, one number.
  The text of a list of complex numbers. No program, no condition.
-/
import Derived.Test.YtmiajfdhdpmeoaaGreatDoorSd
namespace Go.Proofs.YtmiajfdhdpmeoaaGreatDoor
open Go.RowKit

/-- Some complex number's bits. -/
def someC (e : Ending) : Prop := ∃ x y, x < 4294967296 ∧ y < 4294967296 ∧ e = .returned (.complex .f32 x y)
theorem src_complex (b A : Nat) (bs : List Nat) (w : World) (hs : Hid (SrcAt w b bs A)) (hA : A < 700000) :
    Calls Tryz.prog 44 #[.pointer (some ⟨b, 0, none⟩)] w fun e w' => someC e ∧ SrcAt w' b bs (A + 24) ∧ Only b w w' := by
  have H1 := Lib.hid (src_float b A bs w hs (by omega))
  go_enter Tryz.func44, Tryz.ntmps44
  go_wp2_with fail
  refine H1.out.mono ?_
  rintro e w1 ⟨⟨x, hx, rfl⟩, s1, o1⟩
  have O1 := Lib.hid o1
  have S1 := Lib.hid s1
  clear s1 o1
  go_wp2_with fail
  refine (src_float b (A + 12) bs w1 S1 (by omega)).mono ?_
  rintro e w2 ⟨⟨y, hy, rfl⟩, s2, o2⟩
  have O2 := Lib.hid (O1.out.trans o2)
  have S2 := Lib.hid s2
  clear s2 o2
  go_wp2_with fail
  go_ret
  exact ⟨⟨x, y, hx, hy, rfl⟩, S2.out.mono (by omega), O2.out⟩
theorem src_fine (b A : Nat) (bs : List Nat) (w : World) (hs : Hid (SrcAt w b bs A)) (hA : A < 700000) :
    Calls Tryz.prog 45 #[.pointer (some ⟨b, 0, none⟩)] w fun e w' => someC e ∧ SrcAt w' b bs (A + 24) ∧ Only b w w' := by
  have H1 := Lib.hid (src_pick b A 65 bs w hs (by omega) (by decide) (by decide))
  go_enter Tryz.func45, Tryz.ntmps45
  go_wp2_with fail
  refine H1.out.mono ?_
  rintro e w1 ⟨⟨v, hv, rfl⟩, s1, o1⟩
  have O1 := Lib.hid o1
  have S1 := Lib.hid s1
  clear s1 o1
  go_wp2_with fail
  refine (src_pick b (A + 2) 65 bs _ (Lib.hid (by exact S1.out)) (by omega) (by decide) (by decide)).mono ?_
  rintro e w2 ⟨⟨u, hu, rfl⟩, s2, o2⟩
  have O2 := Lib.hid o2
  have S2 := Lib.hid s2
  clear s2 o2
  go_wp2_with fail
  go_ret
  refine ⟨⟨_, _, fval32 _ _ _ _, fval32 _ _ _ _, rfl⟩, ?_, ?_⟩
  · exact S2.out.mono (by omega)
  · exact (O1.out.trans (Only.drewN _ _ _)).trans (O2.out.trans (Only.drewN _ _ _))
theorem spec_B10Complex (a : Option Addr) (n c : Nat) (bs : List Nat) (w : World) (hn : bs.length = n) (ha : Hid (bys w a bs)) (hb : Hid (∀ i, i < n → bs.getD i 0 < 256)) (hx : n < 2147483648) :
    Calls Tryz.prog 21 #[.slice a n c] w fun e w' => someC e ∧ Below w.heap.size w w' := by
  have C := Lib.hid (src_from a n c bs w hn ha hb hx)
  clear hn
  go_enter Tryz.func21, Tryz.ntmps21
  go_wp2_with fail
  refine C.out.mono ?_
  rintro e w1 ⟨rfl, s1, b1⟩
  have B1 := Lib.hid b1
  have S1 := Lib.hid s1
  clear s1 b1
  go_wp2_with fail
  refine (src_one w.heap.size 0 4 bs w1 S1 (by decide) (by decide) (by decide)).mono ?_
  rintro e w2 ⟨⟨t, rfl⟩, s2, o2⟩
  have B2 := Lib.hid (B1.out.trans o2.1)
  have S2 := Lib.hid s2
  clear s2 o2
  cases t
  · go_wp2_with fail
    refine (src_fine w.heap.size 2 bs w2 S2 (by decide)).mono ?_
    rintro e w3 ⟨⟨x, y, hx3, hy3, rfl⟩, s3, o3⟩
    have B3 := Lib.hid (B2.out.trans o3.1)
    clear s3 o3
    go_wp2_with fail
    go_ret
    exact ⟨⟨x, y, hx3, hy3, rfl⟩, B3.out⟩
  · go_wp2_with fail
    refine (src_complex w.heap.size 2 bs w2 S2 (by decide)).mono ?_
    rintro e w3 ⟨⟨x, y, hx3, hy3, rfl⟩, s3, o3⟩
    have B3 := Lib.hid (B2.out.trans o3.1)
    clear s3 o3
    go_wp2_with fail
    go_ret
    exact ⟨⟨x, y, hx3, hy3, rfl⟩, B3.out⟩
end Go.Proofs.YtmiajfdhdpmeoaaGreatDoor

namespace Go.Proofs.YtmiajfdhdpmeoaaGreatDoor
open Go.RowKit Go.Lib Go.Joins

set_option maxHeartbeats 1000000 in
theorem src_complexes (b A n : Nat) (bs : List Nat) (w : World) (hs : Hid (SrcAt w b bs A)) (hA : A < 1000) (hn : n ≤ 12) :
    Calls Tryz.prog 34 #[.pointer (some ⟨b, 0, none⟩), .int .i64 n] w fun e w' => (∃ (a : Option Addr) (cap : Nat) (xs : List Nat), e = .returned (.slice a n cap) ∧ xs.length = 2 * n ∧ lt32 xs ∧ rowV w' 24 w.heap.size a (cvals xs)) ∧ Only b w w' := by
  have hbw := hs.out.lt
  have O0 := Lib.hid (ownV.empty w 24 w.heap.size (Nat.le_refl _))
  have S0 := Lib.hid (hs.out.alloc (.cells #[] 24))
  have B0 := Lib.hid (Only.alloc w (.cells #[] 24) (Nat.le_of_lt hbw))
  go_enter Tryz.func34, Tryz.ntmps34
  go_wp2_with fail
  refine (src_one b A 5 bs _ S0 (by omega) (by decide) (by decide)).mono ?_
  rintro e w1 ⟨⟨t, rfl⟩, s1, o1⟩
  have O1 := Lib.hid (O0.out.only o1 hbw)
  have B1 := Lib.hid (B0.out.trans o1)
  have S1 := Lib.hid s1
  clear s1 o1
  go_wp2_with fail
  go_loopg [1, 5] n (fun g k o wr => ∃ (j : Nat) (xs : List Nat) (a : Option Addr) (cap : Nat), g + j = n ∧ k = .int .i64 g ∧ o = .slice a j cap ∧ Hid (xs.length = 2 * j) ∧ Hid (lt32 xs) ∧ Hid (ownV wr 24 w.heap.size (.slice a j cap) (cvals xs)) ∧ Hid (SrcAt wr b bs (A + 2 + 24 * j)) ∧ Hid (Only b w wr))
  case atStart => exact ⟨0, [], _, _, by omega, rfl, rfl, rfl, fun i hi => absurd hi (Nat.not_lt_zero _), O1.out, S1.out, B1.out⟩
  case round =>
    obtain ⟨j, xs, a, cap, hj, rfl, rfl, hxl, hlt, hown, hsrc, hon⟩ := hrel
    by_cases h0 : 0 < gk
    · have hsnoc : ∀ x y : Nat, x < 4294967296 → y < 4294967296 → Hid (lt32 (xs ++ [x, y]) ∧ (xs ++ [x, y]).length = 2 * (j + 1)) := by
        intro x y hx hy
        refine ⟨fun i hi => ?_, by rw [List.length_append, hxl.out]; simp only [List.length_cons, List.length_nil]; omega⟩
        rw [List.length_append, hxl.out] at hi
        simp only [List.length_cons, List.length_nil] at hi
        by_cases hi2 : i < 2 * j
        · rw [getD_left (by rw [hxl.out]; exact hi2)]; exact hlt.out i (by rw [hxl.out]; exact hi2)
        · by_cases hi3 : i = 2 * j
          · subst hi3
            rw [List.getD_eq_getElem?_getD, List.getElem?_append_right (by rw [hxl.out]; exact Nat.le_refl _), hxl.out, Nat.sub_self]
            exact hx
          · have : i = 2 * j + 1 := by omega
            subst this
            rw [List.getD_eq_getElem?_getD, List.getElem?_append_right (by rw [hxl.out]; omega), hxl.out, show 2 * j + 1 - 2 * j = 1 by omega]
            exact hy
      have HSN := Lib.hid hsnoc
      clear hsnoc
      have hsz := hon.out.1.size
      have HFL : Hid ((cvals xs).length = j) := by show _ = _; rw [cvals_len, hxl.out]; omega
      have hbwle := Nat.le_of_lt hbw
      have hj12 : j < 12 := by omega
      cases t
      · have C := Lib.hid (src_fine b (A + 2 + 24 * j) bs wr hsrc (by omega))
        go_wp2_with fail
        refine C.out.mono ?_
        rintro e w2 ⟨⟨x, y, hx, hy, rfl⟩, s2, o2⟩
        have O2 := Lib.hid (hown.out.only o2 hbw)
        have B2 := Lib.hid (hon.out.trans o2)
        have S2 := Lib.hid s2
        have hsz2 := B2.out.1.size
        clear s2 o2
        have HXN := HSN.out x y hx hy
        go_wp2_with (at_builtin; refine wpList_append_keep 25 24 (.complex .f32 0 0) 8 Tryz.underlying25 info_c64 rfl (by decide) (.complex .f32 x y) rfl rfl (.tmp 20) (.tmp 23) rfl w.heap.size _ (cvals xs) _ _ rfl rfl rfl O2.out hsz2 (by rw [HFL.out]; omega) ?_; intro ad cap' w' hown' hbel' _; have O3 := Lib.hid hown'; have B3 := Lib.hid (B2.out.then hbel' (Nat.le_refl _) hbwle); have S3 := Lib.hid (S2.out.above hbel' hbw); clear hown' hbel')
        go_roundg (gk - 1)
        case measure => omega
        case rel =>
          have O4 := O3.out
          rw [HFL.out] at O4
          have e : cvals (xs ++ [x, y]) = cvals xs ++ [.complex .f32 x y] := cvals_snoc x y hxl.out
          exact ⟨j + 1, xs ++ [x, y], ad, cap', by omega, by go_num, by rw [HFL.out], HXN.out.2, HXN.out.1, by rw [e]; exact O4, S3.out.mono (by omega), B3.out⟩
      · have C := Lib.hid (src_complex b (A + 2 + 24 * j) bs wr hsrc (by omega))
        go_wp2_with fail
        refine C.out.mono ?_
        rintro e w2 ⟨⟨x, y, hx, hy, rfl⟩, s2, o2⟩
        have O2 := Lib.hid (hown.out.only o2 hbw)
        have B2 := Lib.hid (hon.out.trans o2)
        have S2 := Lib.hid s2
        have hsz2 := B2.out.1.size
        clear s2 o2
        have HXN := HSN.out x y hx hy
        go_wp2_with (at_builtin; refine wpList_append_keep 25 24 (.complex .f32 0 0) 8 Tryz.underlying25 info_c64 rfl (by decide) (.complex .f32 x y) rfl rfl (.tmp 15) (.tmp 18) rfl w.heap.size _ (cvals xs) _ _ rfl rfl rfl O2.out hsz2 (by rw [HFL.out]; omega) ?_; intro ad cap' w' hown' hbel' _; have O3 := Lib.hid hown'; have B3 := Lib.hid (B2.out.then hbel' (Nat.le_refl _) hbwle); have S3 := Lib.hid (S2.out.above hbel' hbw); clear hown' hbel')
        go_roundg (gk - 1)
        case measure => omega
        case rel =>
          have O4 := O3.out
          rw [HFL.out] at O4
          have e : cvals (xs ++ [x, y]) = cvals xs ++ [.complex .f32 x y] := cvals_snoc x y hxl.out
          exact ⟨j + 1, xs ++ [x, y], ad, cap', by omega, by go_num, by rw [HFL.out], HXN.out.2, HXN.out.1, by rw [e]; exact O4, S3.out.mono (by omega), B3.out⟩
    · obtain rfl : gk = 0 := by omega
      obtain rfl : j = n := by omega
      go_wp2_with fail
      go_ret
      obtain ⟨a2, cap2, e2, hr⟩ := hown.out.row
      obtain ⟨rfl, _, rfl⟩ : a = a2 ∧ j = (cvals xs).length ∧ cap = cap2 := by simpa using e2
      exact ⟨⟨a, cap, xs, rfl, hxl.out, hlt.out, hr⟩, hon.out⟩
end Go.Proofs.YtmiajfdhdpmeoaaGreatDoor

namespace Go.Proofs.YtmiajfdhdpmeoaaGreatDoor
open Go.RowKit Go.Lib Go.Joins

theorem spec_B10Any (a : Option Addr) (n c k : Nat) (bs : List Nat) (w : World) (hn : bs.length = n) (ha : Hid (bys w a bs)) (hb : Hid (∀ i, i < n → bs.getD i 0 < 256)) (hx : n < 2147483648) (hk : k ≤ 12) :
    Calls Tryz.prog 14 #[.slice a n c, .int .i64 k] w fun e w' => (∃ (a : Option Addr) (cap : Nat) (xs : List Nat), e = .returned (.slice a k cap) ∧ Hid (xs.length = 2 * k) ∧ Hid (lt32 xs) ∧ Hid (∃ B, rowV w' 24 B a (cvals xs))) ∧ Below w.heap.size w w' := by
  have C := Lib.hid (src_from a n c bs w hn ha hb hx)
  clear hn
  go_enter Tryz.func14, Tryz.ntmps14
  go_wp2_with fail
  refine C.out.mono ?_
  rintro e w1 ⟨rfl, s1, b1⟩
  have B1 := Lib.hid b1
  have S1 := Lib.hid s1
  clear s1 b1
  go_wp2_with fail
  refine (src_complexes w.heap.size 0 k bs w1 S1 (by decide) hk).mono ?_
  rintro e w2 ⟨⟨a2, cap, xs, rfl, hl, h32, hr⟩, o2⟩
  have B2 := Lib.hid (B1.out.trans o2.1)
  have HL := Lib.hid hl
  have H32 := Lib.hid h32
  have HR := Lib.hid hr
  clear o2 hl h32 hr
  go_wp2_with fail
  go_ret
  exact ⟨⟨a2, cap, xs, rfl, HL, H32, ⟨_, HR.out⟩⟩, B2.out⟩

end Go.Proofs.YtmiajfdhdpmeoaaGreatDoor

namespace Go.Proofs.YtmiajfdhdpmeoaaGreatDoor
open Go.RowKit Go.Lib Go.Joins

/-- What it hands back. -/
def isWhole (e : Ending) (w' : World) : Prop := ∃ (a : Option Addr) (cap : Nat) (x y : Int), e = .returned (.slice a 1 cap) ∧ Hid (-200 ≤ x ∧ x ≤ 200 ∧ -200 ≤ y ∧ y ≤ 200) ∧ Hid (∃ B, rowV w' 24 B a [.complex .f32 (floatOfInt .f32 x) (floatOfInt .f32 y)])
set_option maxHeartbeats 1000000 in
/-- A list of one complex number with whole parts. -/
theorem spec_B10Whole (a : Option Addr) (n c : Nat) (bs : List Nat) (w : World) (hn : bs.length = n) (ha : Hid (bys w a bs)) (hb : Hid (∀ i, i < n → bs.getD i 0 < 256)) (hx : n < 2147483648) :
    Calls Tryz.prog 5 #[.slice a n c, .int .i64 1, .int .i64 200] w fun e w' => isWhole e w' ∧ Below w.heap.size w w' := by
  have C := Lib.hid (src_from a n c bs w hn ha hb hx)
  clear hn
  go_enter Tryz.func5, Tryz.ntmps5
  go_wp2_with fail
  refine C.out.mono ?_
  rintro e w1 ⟨rfl, s1, b1⟩
  have hbw := s1.lt
  have O0 := Lib.hid (ownV.empty w1 24 w1.heap.size (Nat.le_refl _))
  have S0 := Lib.hid (s1.alloc (.cells #[] 24))
  have B0 := Lib.hid (Only.alloc w1 (.cells #[] 24) (Nat.le_of_lt hbw))
  have BB := Lib.hid b1
  clear s1 b1
  go_wp2_with fail
  go_loopg [1, 8] 1 (fun g k o wr => ∃ (j : Nat) (us : List Value) (a : Option Addr) (cap : Nat), g + j = 1 ∧ k = .int .i64 g ∧ o = .slice a j cap ∧ Hid (us.length = j) ∧ Hid (j = 1 → ∃ x y : Int, (-200 ≤ x ∧ x ≤ 200 ∧ -200 ≤ y ∧ y ≤ 200) ∧ us = [.complex .f32 (floatOfInt .f32 x) (floatOfInt .f32 y)]) ∧ Hid (ownV wr 24 w1.heap.size (.slice a j cap) us) ∧ Hid (SrcAt wr w.heap.size bs (0 + 4 * j)) ∧ Hid (Only w.heap.size w1 wr))
  case atStart => exact ⟨0, [], _, _, by omega, rfl, rfl, rfl, fun h => absurd h (by decide), O0.out, S0.out, B0.out⟩
  case round =>
    obtain ⟨j, us, a, cap, hj, rfl, rfl, hul, hone, hown, hsrc, hon⟩ := hrel
    by_cases h0 : 0 < gk
    · have hj0 : j = 0 := by omega
      have hg1 : gk = 1 := by omega
      subst hj0
      subst hg1
      have hbwle := Nat.le_of_lt hbw
      have C1 := Lib.hid (src_pick w.heap.size 0 401 bs wr (Lib.hid (by exact hsrc.out)) (by decide) (by decide) (by decide))
      go_wp2_with fail
      refine C1.out.mono ?_
      rintro e w2 ⟨⟨v, hv, rfl⟩, s2, o2⟩
      have O2 := Lib.hid (hown.out.only o2 hbw)
      have B2 := Lib.hid (hon.out.trans o2)
      have S2 := Lib.hid s2
      clear s2 o2
      go_wp2_with fail
      refine (src_pick w.heap.size 2 401 bs w2 (Lib.hid (by exact S2.out)) (by decide) (by decide) (by decide)).mono ?_
      rintro e w3 ⟨⟨u, hu, rfl⟩, s3, o3⟩
      have O3 := Lib.hid (O2.out.only o3 hbw)
      have B3 := Lib.hid (B2.out.trans o3)
      have S3 := Lib.hid s3
      have hsz3 := B3.out.1.size
      clear s3 o3
      go_wp2_with (at_builtin; refine wpList_append_keep 25 24 (.complex .f32 0 0) 8 Tryz.underlying25 info_c64 rfl (by decide) (.complex .f32 (floatOfInt .f32 ((v : Int) - 200)) (floatOfInt .f32 ((u : Int) - 200))) rfl rfl (.tmp 25) (.tmp 36) rfl w1.heap.size _ us _ _ rfl rfl rfl O3.out hsz3 (by rw [hul.out]; omega) ?_; intro ad cap' w' hown' hbel' _; have O4 := Lib.hid hown'; have B4 := Lib.hid (B3.out.then hbel' (Nat.le_refl _) hbwle); have S4 := Lib.hid (S3.out.above hbel' hbw); clear hown' hbel')
      go_roundg 0
      case measure => omega
      case rel =>
        have O5 := O4.out
        have hus : us = [] := List.eq_nil_of_length_eq_zero hul.out
        subst hus
        exact ⟨1, [.complex .f32 (floatOfInt .f32 ((v : Int) - 200)) (floatOfInt .f32 ((u : Int) - 200))], ad, cap', by omega, rfl, rfl, rfl, fun _ => ⟨(v : Int) - 200, (u : Int) - 200, by omega, rfl⟩, O5, S4.out.mono (by omega), B4.out⟩
    · obtain rfl : gk = 0 := by omega
      obtain rfl : j = 1 := by omega
      go_wp2_with fail
      go_ret
      obtain ⟨x, y, hb1, rfl⟩ := hone.out (by trivial)
      obtain ⟨a2, cap2, e2, hr⟩ := hown.out.row
      obtain ⟨rfl, _, rfl⟩ : a = a2 ∧ 1 = 1 ∧ cap = cap2 := by simpa using e2
      exact ⟨⟨a, cap, x, y, rfl, hb1, ⟨_, hr⟩⟩, BB.out.trans hon.out.1⟩
end Go.Proofs.YtmiajfdhdpmeoaaGreatDoor

namespace Go.Proofs.YtmiajfdhdpmeoaaGreatDoor
open Go.RowKit Go.Lib Go.Joins

def hexZ (xs : List Nat) (n : Nat) : List (List UInt8) := (List.range n).map fun i => hexX (xs.getD (2 * i) 0) ++ hexX (xs.getD (2 * i + 1) 0)
theorem hexZ_len (xs : List Nat) (n : Nat) : (hexZ xs n).length = n := by simp [hexZ]
theorem hexZ_short (xs : List Nat) (n : Nat) : ∀ l ∈ hexZ xs n, l.length ≤ 21 := by
  intro l hl
  obtain ⟨i, _, rfl⟩ := List.mem_map.1 hl
  unfold hexX; rw [List.length_append, hexL_len, hexL_len]; decide
theorem hexZ_get (xs : List Nat) {n i : Nat} (h : i < n) : (hexZ xs n).getD i [] = hexX (xs.getD (2 * i) 0) ++ hexX (xs.getD (2 * i + 1) 0) := by
  unfold hexZ
  rw [List.getD_eq_getElem?_getD, List.getElem?_map, List.getElem?_eq_getElem (by simpa using h)]
  simp
/-- The text of a list of complex numbers. -/
def textC (xs : List Nat) (n : Nat) : ByteArray := ⟨(textA (hexZ xs n)).toArray⟩
end Go.Proofs.YtmiajfdhdpmeoaaGreatDoor
