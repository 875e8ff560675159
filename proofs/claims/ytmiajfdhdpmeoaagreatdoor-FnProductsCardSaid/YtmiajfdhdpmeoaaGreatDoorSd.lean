/-
  The laws' drawn numbers and lists of numbers, from bytes. Condition: lists of bytes below 2^31, at most 12 numbers.
-/
import Derived.Test.YtmiajfdhdpmeoaaGreatDoorSc
import Derived.Test.YtmiajfdhdpmeoaaGreatDoorCy
import Derived.Test.YtmiajfdhdpmeoaaGreatDoorNt
namespace Go.Proofs.YtmiajfdhdpmeoaaGreatDoor
open Go.RowKit Go.Lib Go.Joins

theorem Only.then {b B : Nat} {w w1 w2 : World} (h : Only b w w1) (k : Below B w1 w2) (hB : w.heap.size ≤ B) (hb : b ≤ B) : Only b w w2 :=
  ⟨h.1.trans (k.mono hb), fun j hj hne => (k.block j (Nat.lt_of_lt_of_le hj hB)).trans (h.2 j hj hne)⟩
theorem ownV.only {w w' : World} {e : TypeId} {B b : Nat} {v : Value} {us : List Value} (h : ownV w e B v us) (ho : Only b w w') (hb : b < B) : ownV w' e B v us := by
  obtain ⟨hl, hh⟩ := h
  refine ⟨hl, ?_⟩
  rcases hh with h1 | ⟨g, cap, cur, h1, h2, h3, h4⟩
  · exact Or.inl h1
  · have hlt : g < w.heap.size := by
      apply Nat.lt_of_not_le; intro hle
      rw [Array.getElem?_eq_none hle] at h3; cases h3
    exact Or.inr ⟨g, cap, cur, h1, h2, by rw [ho.2 g hlt (by omega)]; exact h3, h4⟩

theorem src_from (a : Option Addr) (n c : Nat) (bs : List Nat) (w : World) (hn : bs.length = n) (ha : Hid (bys w a bs)) (hb : Hid (∀ i, i < n → bs.getD i 0 < 256)) (hx : n < 2147483648) :
    Calls Tryz.prog 27 #[.slice a n c] w fun e w' => e = .returned (.pointer (some ⟨w.heap.size, 0, none⟩)) ∧ SrcAt w' w.heap.size bs 0 ∧ Below w.heap.size w w' := by
  have HN := Lib.hid hn
  clear hn
  go_enter Tryz.func27, Tryz.ntmps27
  go_wp2
  go_ret
  have hbel := (Below.refl w.heap.size w).alloc (Nat.le_refl _) (.cells #[.slice a n c, .int .i64 0, .int .u64 0] 76)
  refine ⟨rfl, ⟨a, n, c, 0, 0, Deep.blk_alloc_new _ _, HN.out, ?_, hb.out, by omega, by omega, hx, ?_⟩, hbel⟩
  · intro i hi
    obtain ⟨g, off, e, hc⟩ := ha.out i hi
    refine ⟨g, off, e, ?_⟩
    rw [hbel.cell (p := ⟨g, off + i, none⟩) (World.block_lt_of_cell? w ⟨g, off + i, none⟩ hc)]
    exact hc
  · intro h0 x hx2
    obtain ⟨g, off, e, hc⟩ := ha.out 0 (by rw [HN.out]; exact h0)
    rw [hx2] at e
    cases e
    exact World.block_lt_of_cell? w ⟨g, off + 0, none⟩ hc

theorem spec_B10Number (a : Option Addr) (n c : Nat) (bs : List Nat) (w : World) (hn : bs.length = n) (ha : Hid (bys w a bs)) (hb : Hid (∀ i, i < n → bs.getD i 0 < 256)) (hx : n < 2147483648) :
    Calls Tryz.prog 18 #[.slice a n c] w fun e w' => someF e ∧ Below w.heap.size w w' := by
  have C := Lib.hid (src_from a n c bs w hn ha hb hx)
  clear hn
  go_enter Tryz.func18, Tryz.ntmps18
  go_wp2_with fail
  refine C.out.mono ?_
  rintro e w1 ⟨rfl, s1, b1⟩
  have B1 := Lib.hid b1
  have S1 := Lib.hid s1
  clear s1 b1
  go_wp2_with fail
  refine (src_one w.heap.size 0 2 bs w1 S1 (by decide) (by decide) (by decide)).mono ?_
  rintro e w2 ⟨⟨t, rfl⟩, s2, o2⟩
  have B2 := Lib.hid (B1.out.trans o2.1)
  have S2 := Lib.hid s2
  clear s2 o2
  cases t
  · go_wp2_with fail
    refine (src_float w.heap.size 2 bs w2 S2 (by decide)).mono ?_
    rintro e w3 ⟨⟨x, hx3, rfl⟩, s3, o3⟩
    have B3 := Lib.hid (B2.out.trans o3.1)
    clear s3 o3
    go_wp2_with fail
    go_ret
    exact ⟨⟨x, hx3, rfl⟩, B3.out⟩
  · go_wp2_with fail
    refine (src_pick w.heap.size 2 65536 bs w2 S2 (by omega) (by decide) (by decide)).mono ?_
    rintro e w3 ⟨⟨v, hv3, rfl⟩, s3, o3⟩
    have B3 := Lib.hid (B2.out.trans o3.1)
    have S3 := Lib.hid s3
    clear s3 o3
    go_wp2_with fail
    refine (src_pick w.heap.size 4 65536 bs w3 S3 (by omega) (by decide) (by decide)).mono ?_
    rintro e w4 ⟨⟨u, hu4, rfl⟩, s4, o4⟩
    have B4 := Lib.hid (B3.out.trans o4.1)
    clear s4 o4
    go_wp2_with fail
    refine (spec_l01From _ _).mono ?_
    rintro e w' ⟨rfl, rfl⟩
    go_wp2_with fail
    go_ret
    exact ⟨⟨_, by omega, rfl⟩, B4.out⟩

end Go.Proofs.YtmiajfdhdpmeoaaGreatDoor
