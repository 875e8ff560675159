/-
  The laws FnExactSumNumbers and FnExactDotNumbers: the program and the reference, from their contracts. Condition: the lists' numbers are read off memory.
-/
import Derived.Test.YtfodlngbkmhboaaFu
namespace Go.Proofs.Ytfodlngbkmhboaa
open Go.RowKit Ieee

/-- Two steps: what stood below the first world's end stands. -/
theorem Below.on {w0 w1 w2 : World} (h : Below w0.heap.size w0 w1) (k : Below w1.heap.size w1 w2) : Below w0.heap.size w0 w2 := h.trans (k.mono h.size)

theorem law_FnExactSumNumbers (w : World) (a : Option Addr) (n c : Nat) (xs : List Nat) (hn : xs.length = n) (ha : fls w a xs) (_ : ∀ i, i < n → xs.getD i 0 < 4294967296) : Calls Try.prog 3 #[.slice a n c] w fun e w' => e = .returned (.bool true) ∧ Below w.heap.size w w' := by
  have HN := Lib.hid hn
  have HA := Lib.hid ha
  clear hn ha
  by_cases h : n ≤ 1048576
  · have hx : n < 2147483648 := by omega
    go_enter Try.func3, Try.ntmps3
    go_wp2_with fail
    refine (laws_copy a c n xs _ HN.out HA hx).mono ?_
    rintro e w1 ⟨b1, rfl, B1, F1⟩
    go_wp2_with fail
    refine (spec_SumNumbers b1 n n xs _ HN.out F1 hx).mono ?_
    rintro e w' ⟨r1, m1, rfl, h1, rfl⟩
    have C1 := below_drewN B1 m1
    have R1 := Lib.hid h1
    clear h1
    go_wp2_with fail
    refine (laws_copy a c n xs _ HN.out (HA.out.stays C1) hx).mono ?_
    rintro e w2 ⟨b2, rfl, B2, F2⟩
    go_wp2_with fail
    refine (impl_SumNumbers b2 n n xs _ HN.out F2 hx).mono ?_
    rintro e w' ⟨r2, m2, rfl, h2, rfl⟩
    have R2 := Lib.hid h2
    have D2 := Below.on C1 B2
    clear h2
    go_wp2_with (go_at_call 20; refine (laws_sameFloat _ _ _ (by rw [fv_wval, fv_wval, R1.out, R2.out])).mono ?_; rintro e w' ⟨rfl, m, rfl⟩)
    refine (laws_copy a c n xs _ HN.out (HA.out.stays (below_drewN D2 _)) hx).mono ?_
    rintro e w3 ⟨b3, rfl, B3, F3⟩
    go_wp2_with fail
    refine (laws_eqs b2 b3 n n n xs xs _ HN.out ((F2.out.drewN _).stays B3) F3 hx rfl).mono ?_
    rintro e w' ⟨rfl, m', rfl⟩
    go_wp2
    go_ret
    exact ⟨rfl, below_drewN (Below.on (below_drewN D2 _) B3) _⟩
  · go_enter Try.func3, Try.ntmps3
    go_wp2
    go_ret
    exact ⟨rfl, Below.refl _ _⟩

theorem law_FnExactDotNumbers (w : World) (a : Option Addr) (n c : Nat) (xs : List Nat) (hn : xs.length = n) (ha : fls w a xs) (_ : ∀ i, i < n → xs.getD i 0 < 4294967296)
    (b : Option Addr) (k d : Nat) (ys : List Nat) (hk : ys.length = k) (hb : fls w b ys) (_ : ∀ i, i < k → ys.getD i 0 < 4294967296) :
    Calls Try.prog 4 #[.slice a n c, .slice b k d] w fun e w' => e = .returned (.bool true) ∧ Below w.heap.size w w' := by
  have HN := Lib.hid hn
  have HA := Lib.hid ha
  have HK := Lib.hid hk
  have HB := Lib.hid hb
  clear hn ha hk hb
  by_cases h : n ≤ 1048576
  · have hx : n < 2147483648 := by omega
    by_cases h2 : k ≤ 1048576
    · have hy : k < 2147483648 := by omega
      go_enter Try.func4, Try.ntmps4
      go_wp2_with fail
      refine (laws_copy a c n xs _ HN.out HA hx).mono ?_
      rintro e w1 ⟨b1, rfl, B1, F1⟩
      go_wp2_with fail
      refine (laws_copy b d k ys _ HK.out (HB.out.stays B1) hy).mono ?_
      rintro e w2 ⟨b2, rfl, B2, F2⟩
      go_wp2_with fail
      refine (spec_DotNumbers b1 b2 n k n k xs ys _ HN.out HK.out (F1.out.stays B2) F2 hx hy).mono ?_
      rintro e w' ⟨r1, m1, rfl, h1, rfl⟩
      have C2 := below_drewN (Below.on B1 B2) m1
      have R1 := Lib.hid h1
      clear h1
      go_wp2_with fail
      refine (laws_copy a c n xs _ HN.out (HA.out.stays C2) hx).mono ?_
      rintro e w3 ⟨b3, rfl, B3, F3⟩
      go_wp2_with fail
      refine (laws_copy b d k ys _ HK.out (HB.out.stays (Below.on C2 B3)) hy).mono ?_
      rintro e w4 ⟨b4, rfl, B4, F4⟩
      go_wp2_with fail
      refine (impl_DotNumbers b3 b4 n k n k xs ys _ HN.out HK.out (F3.out.stays B4) F4 hx hy).mono ?_
      rintro e w' ⟨r2, m2, rfl, h2, rfl⟩
      have R2 := Lib.hid h2
      have D4 := Below.on (Below.on C2 B3) B4
      clear h2
      go_wp2_with (go_at_call 20; refine (laws_sameFloat _ _ _ (by rw [fv_wval, fv_wval, R1.out, R2.out])).mono ?_; rintro e w' ⟨rfl, m, rfl⟩)
      refine (laws_copy a c n xs _ HN.out (HA.out.stays (below_drewN D4 _)) hx).mono ?_
      rintro e w5 ⟨b5, rfl, B5, F5⟩
      go_wp2_with fail
      refine (laws_eqs b3 b5 n n n xs xs _ HN.out ((((F3.out.stays B4).drewN _)).stays B5) F5 hx rfl).mono ?_
      rintro e w' ⟨rfl, m', rfl⟩
      have D5 := below_drewN (Below.on (below_drewN D4 _) B5) m'
      go_wp2_with fail
      refine (laws_copy b d k ys _ HK.out (HB.out.stays D5) hy).mono ?_
      rintro e w6 ⟨b6, rfl, B6, F6⟩
      go_wp2_with fail
      refine (laws_eqs b4 b6 k k k ys ys _ HK.out ((((F4.out.drewN _).stays B5).drewN _).stays B6) F6 hy rfl).mono ?_
      rintro e w' ⟨rfl, m6, rfl⟩
      go_wp2
      go_ret
      exact ⟨rfl, below_drewN (Below.on D5 B6) _⟩
    · go_enter Try.func4, Try.ntmps4
      go_wp2
      go_ret
      exact ⟨rfl, Below.refl _ _⟩
  · go_enter Try.func4, Try.ntmps4
    go_wp2
    go_ret
    exact ⟨rfl, Below.refl _ _⟩
end Go.Proofs.Ytfodlngbkmhboaa
