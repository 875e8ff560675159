/-
  The law FnExactValidTube: the program and the reference, from their contracts. Condition: the tube is read off memory.
-/
import Derived.Test.YtfodlngbkmhboaaTb
namespace Go.Proofs.Ytfodlngbkmhboaa
open Go.RowKit Ieee

theorem tube_stays {W w' : World} {B : Nat} {T : TypeId} {a : Option Addr} {n c l t p : Nat} (h : W.rowIs B T 4 (tubeF a n c l t p)) (hb : Below W.heap.size W w') : tubeAt w' B 0 a n c l t p := by
  have k := h.of_block (hb.block _ h.lt)
  exact ⟨k.cell (i := 0) (by decide), k.cell (i := 1) (by decide), k.cell (i := 2) (by decide), k.cell (i := 3) (by decide)⟩

set_option maxHeartbeats 4000000 in
theorem law_FnExactValidTube (w : World) (a : Option Addr) (n c : Nat) (xs : List Nat) (l t p : Nat) (hn : xs.length = n) (ha : fls w a xs) (hx : (∀ i, i < n → xs.getD i 0 < 4294967296) ∧ n ≤ maxLen) (_ : l < 4294967296) (_ : t < 4294967296) (_ : p < 4294967296) :
    Calls Try.prog 6 #[.agg #[.slice a n c, .float .f32 l, .float .f32 t, .float .f32 p]] w fun e w' => e = .returned (.bool true) ∧ Below w.heap.size w w' := by
  have HN := Lib.hid hn
  have hm : n ≤ 9223372036854775807 := hx.2
  have B := leftI_bounds (n := n) (k := 1048576) (by decide)
  have R0 := tubeF_row w 37 a n c l t p
  have A0 : Below w.heap.size w (w.alloc (.cells #[.slice a n c, .float .f32 l, .float .f32 t, .float .f32 p] 37)) := (Below.refl _ _).alloc (Nat.le_refl _) _
  have HA := Lib.hid (ha.stays A0)
  clear hn ha hx
  by_cases h : leftI n 1048576 < 0
  · go_enter Try.func6, Try.ntmps6
    go_wp2_with fail
    refine (laws_szTube a n c l t p _ _ hm (by decide) (by decide)).mono ?_
    rintro e w0 ⟨rfl, B0⟩
    go_wp2_with fail
    go_ret
    exact ⟨rfl, Below.on A0 B0⟩
  · have hx : n < 2147483648 := by have := leftI_ok (n := n) (k := 1048576) (by decide) h; omega
    go_enter Try.func6, Try.ntmps6
    go_wp2_with fail
    generalize hWa : w.alloc (.cells #[.slice a n c, .float .f32 l, .float .f32 t, .float .f32 p] 37) = Wa at R0 A0 HA
    clear hWa
    refine (laws_szTube a n c l t p _ Wa hm (by decide) (by decide)).mono ?_
    rintro e w0 ⟨rfl, B0⟩
    obtain ⟨c0, c1, c2, c3⟩ := tube_stays R0 B0
    go_wp2_with fail
    refine (laws_toTube a n c l t p xs _ HN.out (HA.out.stays B0) hx).mono ?_
    rintro e w1 ⟨b1, rfl, B1, F1⟩
    have D1 := Below.on B0 B1
    clear c0 c1 c2 c3
    go_wp2_with fail
    refine (spec_ValidTube b1 n n l t p xs _ HN.out F1 hx).mono ?_
    rintro e w2 ⟨rfl, B2⟩
    have D2 := Below.on D1 B2
    obtain ⟨c0, c1, c2, c3⟩ := tube_stays R0 D2
    go_wp2_with fail
    refine (laws_toTube a n c l t p xs _ HN.out (HA.out.stays D2) hx).mono ?_
    rintro e w3 ⟨b3, rfl, B3, F3⟩
    have D3 := Below.on D2 B3
    clear c0 c1 c2 c3
    go_wp2_with fail
    have R3 := tubeF_row w3 40 b3 n n l t p
    have A3 : Below w3.heap.size w3 (w3.alloc (.cells #[.slice b3 n n, .float .f32 l, .float .f32 t, .float .f32 p] 40)) := (Below.refl _ _).alloc (Nat.le_refl _) _
    generalize hW3 : w3.alloc (.cells #[.slice b3 n n, .float .f32 l, .float .f32 t, .float .f32 p] 40) = W3 at R3 A3
    clear hW3
    have G3 := Lib.hid (F3.out.stays A3)
    refine (impl_ValidTube b3 n n l t p xs W3 HN.out G3 hx).mono ?_
    rintro e w4 ⟨rfl, B4⟩
    have D4 := Below.on (Below.on D3 A3) B4
    have F4 := Lib.hid (G3.out.stays B4)
    obtain ⟨c0, c1, c2, c3⟩ := tube_stays R0 D4
    obtain ⟨d0, d1, d2, d3⟩ := tube_stays R3 B4
    go_wp2_with fail
    go_region_with (first
      | (go_at_call 30; refine (laws_toTube a n c l t p xs _ HN.out (HA.out.stays D4.drew) hx).mono ?_; rintro e w5 ⟨b5, rfl, B5, F5⟩; obtain ⟨e0, e1, e2, e3⟩ := tube_stays R3 (Below.on B4.drew B5))
      | (go_at_call 32; refine (laws_eqTube b3 b5 n n n l t p l t p xs xs _ HN.out ((F4.out.drewN 1).stays B5) F5 hx rfl rfl rfl rfl).mono ?_; rintro e w6 ⟨rfl, B6⟩))
    all_goals
      go_wp2_with fail
      go_ret
      exact ⟨rfl, Below.on A0 (Below.on (Below.on D4.drew B5) B6)⟩
end Go.Proofs.Ytfodlngbkmhboaa
