/-
  The laws' drawn numbers and lists of numbers, from bytes. Condition: lists of bytes below 2^31, at most 12 numbers.
-/
import Derived.Test.YthegbaaelccekaaDoorSc
import Derived.Test.YthegbaaelccekaaDoorCy
import Derived.Test.YthegbaaelccekaaDoorNt
namespace Go.Proofs.YthegbaaelccekaaDoor
open Go.RowKit Go.Lib Go.Joins

theorem Only.then {b B : Nat} {w w1 w2 : World} (h : Only b w w1) (k : Below B w1 w2) (hB : w.heap.size ≤ B) (hb : b ≤ B) : Only b w w2 :=
  ⟨h.1.trans (k.mono hb), fun j hj hne => (k.block j (Nat.lt_of_lt_of_le hj hB)).trans (h.2 j hj hne)⟩
theorem ownV.only {w w' : World} {e : TypeId} {B b : Nat} {v : Value} {us : List Value} (h : ownV w e B v us) (ho : Only b w w') (hb : b < B) : ownV w' e B v us := by
  obtain ⟨hl, hh⟩ := h
  refine ⟨hl, ?_⟩
  rcases hh with h1 | ⟨g, cap, cur, h1, h2, h3, h4⟩
  · exact Or.inl h1
  · have hlt : g < w.heap.size := by
      apply Nat.lt_of_not_le; intro hle
      rw [Array.getElem?_eq_none hle] at h3; cases h3
    exact Or.inr ⟨g, cap, cur, h1, h2, by rw [ho.2 g hlt (by omega)]; exact h3, h4⟩

theorem src_from (a : Option Addr) (n c : Nat) (bs : List Nat) (w : World) (hn : bs.length = n) (ha : Hid (bys w a bs)) (hb : Hid (∀ i, i < n → bs.getD i 0 < 256)) (hx : n < 2147483648) :
    Calls Tryd.prog 69 #[.slice a n c] w fun e w' => e = .returned (.pointer (some ⟨w.heap.size, 0, none⟩)) ∧ SrcAt w' w.heap.size bs 0 ∧ Below w.heap.size w w' := by
  have HN := Lib.hid hn
  clear hn
  go_enter Tryd.func69, Tryd.ntmps69
  go_wp2
  go_ret
  have hbel := (Below.refl w.heap.size w).alloc (Nat.le_refl _) (.cells #[.slice a n c, .int .i64 0, .int .u64 0] 105)
  refine ⟨rfl, ⟨a, n, c, 0, 0, Deep.blk_alloc_new _ _, HN.out, ?_, hb.out, by omega, by omega, hx, ?_⟩, hbel⟩
  · intro i hi
    obtain ⟨g, off, e, hc⟩ := ha.out i hi
    refine ⟨g, off, e, ?_⟩
    rw [hbel.cell (p := ⟨g, off + i, none⟩) (World.block_lt_of_cell? w ⟨g, off + i, none⟩ hc)]
    exact hc
  · intro h0 x hx2
    obtain ⟨g, off, e, hc⟩ := ha.out 0 (by rw [HN.out]; exact h0)
    rw [hx2] at e
    cases e
    exact World.block_lt_of_cell? w ⟨g, off + 0, none⟩ hc

theorem spec_B10Number (a : Option Addr) (n c : Nat) (bs : List Nat) (w : World) (hn : bs.length = n) (ha : Hid (bys w a bs)) (hb : Hid (∀ i, i < n → bs.getD i 0 < 256)) (hx : n < 2147483648) :
    Calls Tryd.prog 37 #[.slice a n c] w fun e w' => someF e ∧ Below w.heap.size w w' := by
  have C := Lib.hid (src_from a n c bs w hn ha hb hx)
  clear hn
  go_enter Tryd.func37, Tryd.ntmps37
  go_wp2_with fail
  refine C.out.mono ?_
  rintro e w1 ⟨rfl, s1, b1⟩
  have B1 := Lib.hid b1
  have S1 := Lib.hid s1
  clear s1 b1
  go_wp2_with fail
  refine (src_one w.heap.size 0 2 bs w1 S1 (by decide) (by decide) (by decide)).mono ?_
  rintro e w2 ⟨⟨t, rfl⟩, s2, o2⟩
  have B2 := Lib.hid (B1.out.trans o2.1)
  have S2 := Lib.hid s2
  clear s2 o2
  cases t
  · go_wp2_with fail
    refine (src_float w.heap.size 2 bs w2 S2 (by decide)).mono ?_
    rintro e w3 ⟨⟨x, hx3, rfl⟩, s3, o3⟩
    have B3 := Lib.hid (B2.out.trans o3.1)
    clear s3 o3
    go_wp2_with fail
    go_ret
    exact ⟨⟨x, hx3, rfl⟩, B3.out⟩
  · go_wp2_with fail
    refine (src_pick w.heap.size 2 65536 bs w2 S2 (by omega) (by decide) (by decide)).mono ?_
    rintro e w3 ⟨⟨v, hv3, rfl⟩, s3, o3⟩
    have B3 := Lib.hid (B2.out.trans o3.1)
    have S3 := Lib.hid s3
    clear s3 o3
    go_wp2_with fail
    refine (src_pick w.heap.size 4 65536 bs w3 S3 (by omega) (by decide) (by decide)).mono ?_
    rintro e w4 ⟨⟨u, hu4, rfl⟩, s4, o4⟩
    have B4 := Lib.hid (B3.out.trans o4.1)
    clear s4 o4
    go_wp2_with fail
    refine (spec_l01From _ _).mono ?_
    rintro e w' ⟨rfl, rfl⟩
    go_wp2_with fail
    go_ret
    exact ⟨⟨_, by omega, rfl⟩, B4.out⟩

set_option maxHeartbeats 1000000 in
theorem src_floats (b A n : Nat) (bs : List Nat) (w : World) (hs : Hid (SrcAt w b bs A)) (hA : A < 1000) (hn : n ≤ 12) :
    Calls Tryd.prog 77 #[.pointer (some ⟨b, 0, none⟩), .int .i64 n] w fun e w' => (∃ (a : Option Addr) (cap : Nat) (xs : List Nat), e = .returned (.slice a n cap) ∧ xs.length = n ∧ lt32 xs ∧ rowV w' 51 w.heap.size a (fvals xs)) ∧ Only b w w' := by
  have hbw := hs.out.lt
  have O0 := Lib.hid (ownV.empty w 51 w.heap.size (Nat.le_refl _))
  have S0 := Lib.hid (hs.out.alloc (.cells #[] 51))
  have B0 := Lib.hid (Only.alloc w (.cells #[] 51) (Nat.le_of_lt hbw))
  go_enter Tryd.func77, Tryd.ntmps77
  go_wp2_with fail
  refine (src_one b A 4 bs _ S0 (by omega) (by decide) (by decide)).mono ?_
  rintro e w1 ⟨⟨t, rfl⟩, s1, o1⟩
  have O1 := Lib.hid (O0.out.only o1 hbw)
  have B1 := Lib.hid (B0.out.trans o1)
  have S1 := Lib.hid s1
  clear s1 o1
  go_wp2_with fail
  go_loopg [1, 5] n (fun g k o wr => ∃ (j : Nat) (xs : List Nat) (a : Option Addr) (cap : Nat), g + j = n ∧ k = .int .i64 g ∧ o = .slice a j cap ∧ Hid (xs.length = j) ∧ Hid (lt32 xs) ∧ Hid (ownV wr 51 w.heap.size (.slice a j cap) (fvals xs)) ∧ Hid (SrcAt wr b bs (A + 2 + 12 * j)) ∧ Hid (Only b w wr))
  case atStart => exact ⟨0, [], _, _, by omega, rfl, rfl, rfl, fun i hi => absurd hi (Nat.not_lt_zero _), O1.out, S1.out, B1.out⟩
  case round =>
    obtain ⟨j, xs, a, cap, hj, rfl, rfl, hxl, hlt, hown, hsrc, hon⟩ := hrel
    by_cases h0 : 0 < gk
    · have hsnoc : ∀ x : Nat, x < 4294967296 → Hid (lt32 (xs ++ [x]) ∧ (xs ++ [x]).length = j + 1) := by
        intro x hx
        refine ⟨fun i hi => ?_, by rw [List.length_append, hxl.out]; rfl⟩
        rw [List.length_append, hxl.out] at hi
        by_cases hi2 : i < j
        · rw [getD_left (by rw [hxl.out]; exact hi2)]; exact hlt.out i (by rw [hxl.out]; exact hi2)
        · have : i = j := by simp at hi; omega
          subst this
          rw [List.getD_eq_getElem?_getD, List.getElem?_append_right (by rw [hxl.out]; exact Nat.le_refl _), hxl.out, Nat.sub_self]
          exact hx
      have HSN := Lib.hid hsnoc
      clear hsnoc
      have hsz := hon.out.1.size
      have HFL : Hid ((fvals xs).length = j) := by show _ = _; rw [fvals_len]; exact hxl.out
      have hbwle := Nat.le_of_lt hbw
      have hj12 : j < 12 := by omega
      cases t
      · have C := Lib.hid (src_plain b (A + 2 + 12 * j) bs wr hsrc (by omega))
        go_wp2_with fail
        refine C.out.mono ?_
        rintro e w2 ⟨⟨x, hx, rfl⟩, s2, o2⟩
        have O2 := Lib.hid (hown.out.only o2 hbw)
        have B2 := Lib.hid (hon.out.trans o2)
        have S2 := Lib.hid s2
        have hsz2 := B2.out.1.size
        clear s2 o2
        have HXN := HSN.out x hx
        go_wp2_with (at_builtin; refine wpList_append_keep 36 51 (.float .f32 0) 4 Tryd.underlying36 info_f32 rfl (by decide) (.float .f32 x) rfl rfl (.tmp 20) (.tmp 23) rfl w.heap.size _ (fvals xs) _ _ rfl rfl rfl O2.out hsz2 (by rw [HFL.out]; omega) ?_; intro ad cap' w' hown' hbel' _; have O3 := Lib.hid hown'; have B3 := Lib.hid (B2.out.then hbel' (Nat.le_refl _) hbwle); have S3 := Lib.hid (S2.out.above hbel' hbw); clear hown' hbel')
        go_roundg (gk - 1)
        case measure => omega
        case rel =>
          have O4 := O3.out
          rw [HFL.out] at O4
          have e : fvals (xs ++ [x]) = fvals xs ++ [.float .f32 x] := by simp [fvals]
          exact ⟨j + 1, xs ++ [x], ad, cap', by omega, by go_num, by rw [HFL.out], HXN.out.2, HXN.out.1, by rw [e]; exact O4, S3.out.mono (by omega), B3.out⟩
      · have C := Lib.hid (src_float b (A + 2 + 12 * j) bs wr hsrc (by omega))
        go_wp2_with fail
        refine C.out.mono ?_
        rintro e w2 ⟨⟨x, hx, rfl⟩, s2, o2⟩
        have O2 := Lib.hid (hown.out.only o2 hbw)
        have B2 := Lib.hid (hon.out.trans o2)
        have S2 := Lib.hid s2
        have hsz2 := B2.out.1.size
        clear s2 o2
        have HXN := HSN.out x hx
        go_wp2_with (at_builtin; refine wpList_append_keep 36 51 (.float .f32 0) 4 Tryd.underlying36 info_f32 rfl (by decide) (.float .f32 x) rfl rfl (.tmp 15) (.tmp 18) rfl w.heap.size _ (fvals xs) _ _ rfl rfl rfl O2.out hsz2 (by rw [HFL.out]; omega) ?_; intro ad cap' w' hown' hbel' _; have O3 := Lib.hid hown'; have B3 := Lib.hid (B2.out.then hbel' (Nat.le_refl _) hbwle); have S3 := Lib.hid (S2.out.above hbel' hbw); clear hown' hbel')
        go_roundg (gk - 1)
        case measure => omega
        case rel =>
          have O4 := O3.out
          rw [HFL.out] at O4
          have e : fvals (xs ++ [x]) = fvals xs ++ [.float .f32 x] := by simp [fvals]
          exact ⟨j + 1, xs ++ [x], ad, cap', by omega, by go_num, by rw [HFL.out], HXN.out.2, HXN.out.1, by rw [e]; exact O4, S3.out.mono (by omega), B3.out⟩
    · obtain rfl : gk = 0 := by omega
      obtain rfl : j = n := by omega
      go_wp2_with fail
      go_ret
      obtain ⟨a2, cap2, e2, hr⟩ := hown.out.row
      obtain ⟨rfl, _, rfl⟩ : a = a2 ∧ j = (fvals xs).length ∧ cap = cap2 := by simpa using e2
      exact ⟨⟨a, cap, xs, rfl, hxl.out, hlt.out, hr⟩, hon.out⟩
end Go.Proofs.YthegbaaelccekaaDoor
