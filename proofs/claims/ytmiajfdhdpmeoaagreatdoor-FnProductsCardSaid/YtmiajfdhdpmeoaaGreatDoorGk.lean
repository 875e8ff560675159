/-
  Sameness of complex numbers and of lists of them, in the laws; a list's text read back; the root with its bound. Condition: bits fit the kind; the listed variables read as listed, internal/bytealg.MaxLen holds some number.
-/
import Derived.Test.YtmiajfdhdpmeoaaGreatDoorGc
import Derived.Test.YtmiajfdhdpmeoaaGreatDoorGb
import Derived.Test.YtmiajfdhdpmeoaaGreatDoorMg
import Derived.Test.YtmiajfdhdpmeoaaGreatDoorGi
import Derived.Test.YtmiajfdhdpmeoaaGreatDoorGj
import Derived.Test.YtmiajfdhdpmeoaaGreatDoorNw
namespace Go.Proofs.YtmiajfdhdpmeoaaGreatDoor
open Go.RowKit Go.Lib Go.Joins Ieee

theorem same_num (x y : Nat) (t : Bool) (w : World) (hx : x < 4294967296) (hy : y < 4294967296) (ht : Hid ((bitsI x == bitsI y) = t)) : Calls Tryz.prog 9 #[.float .f32 x, .float .f32 y] w fun e w' => e = .returned (.bool t) ∧ w = w' := by
  have C := Lib.hid (spec_l01Same x y w hx hy)
  rw [ht.out] at C
  clear ht
  go_enter Tryz.func9, Tryz.ntmps9
  go_wp2_with fail
  refine C.out.mono ?_
  rintro e w' ⟨rfl, rfl⟩
  go_wp2_with fail
  go_ret
  exact ⟨rfl, rfl⟩
theorem same_comp (a b c d : Nat) (w : World) (ha : a < 4294967296) (hb : b < 4294967296) (hc : c < 4294967296) (hd : d < 4294967296) (h1 : Hid ((bitsI a == bitsI c) = true)) (h2 : Hid ((bitsI b == bitsI d) = true)) :
    Calls Tryz.prog 46 #[.complex .f32 a b, .complex .f32 c d] w fun e w' => e = .returned (.bool true) ∧ w = w' := by
  have C1 := Lib.hid (fun w => spec_l01Same a c w ha hc)
  have C2 := Lib.hid (fun w => spec_l01Same b d w hb hd)
  rw [h1.out] at C1
  rw [h2.out] at C2
  have C : Hid (∀ w, Calls Tryz.prog 62 #[.complex .f32 a b, .complex .f32 c d] w fun e w' => e = .returned (.bool true) ∧ w = w') := by
    show ∀ w, _
    intro w
    go_enter Tryz.func62, Tryz.ntmps62
    go_wp2_with fail
    refine (C1.out _).mono ?_
    rintro e w' ⟨rfl, rfl⟩
    go_wp2_with fail
    refine (C2.out _).mono ?_
    rintro e w' ⟨rfl, rfl⟩
    go_wp2_with fail
    go_ret
    exact ⟨rfl, rfl⟩
  clear ha hb hc hd h1 h2 C1 C2
  go_enter Tryz.func46, Tryz.ntmps46
  go_wp2_with fail
  refine (C.out _).mono ?_
  rintro e w' ⟨rfl, rfl⟩
  go_wp2_with fail
  go_ret
  exact ⟨rfl, rfl⟩
theorem same_back {x : Nat} (hx : x < 4294967296) : (bitsI (bitsN x) == bitsI x) = true := by
  obtain ⟨h1, h2⟩ := bitsN_eq hx
  obtain ⟨h3, _⟩ := bitsN_eq h2
  rw [h1, h3, bitsN_idem]; simp
theorem fromB_bits {x : Nat} (hx : x < 4294967296) : fromB (bitsI x) = (bitsN x, true) := by
  obtain ⟨h1, h2⟩ := bitsN_eq hx
  rw [h1]
  unfold fromB
  rw [if_pos ⟨by omega, by omega⟩]; rfl
theorem bys.stays {w w' : World} {a : Option Addr} {bs : List Nat} (h : bys w a bs) (hb : Below w.heap.size w w') : bys w' a bs := by
  intro i hi
  obtain ⟨c, off, e, hc⟩ := h i hi
  refine ⟨c, off, e, ?_⟩
  rw [hb.cell (p := ⟨c, off + i, none⟩) (World.block_lt_of_cell? w ⟨c, off + i, none⟩ hc)]
  exact hc
theorem getD_bits {xs : List Nat} {i : Nat} (h : i < xs.length) : (xs.map bitsN).getD i 0 = bitsN (xs.getD i 0) := by
  rw [List.getD_eq_getElem?_getD, List.getElem?_map, List.getElem?_eq_getElem h, List.getD_eq_getElem?_getD, List.getElem?_eq_getElem h]; rfl

set_option maxHeartbeats 4000000 in
/-- The list that is read back is the same, part by part. -/
theorem laws_b10Same (a b : Option Addr) (n c1 c2 Ba Bb : Nat) (xs : List Nat) (w : World) (hn : xs.length = 2 * n) (hv : Hid (lt32 xs)) (ha : Hid (rowV w 24 Ba a (cvals (xs.map bitsN)))) (hb : Hid (rowV w 24 Bb b (cvals xs))) (hx : n < 512) :
    Calls Tryz.prog 22 #[.slice a n c1, .slice b n c2] w fun e w' => e = .returned (.bool true) ∧ ∃ m, w' = w.drewN m := by
  have HN := Lib.hid hn
  clear hn
  go_enter Tryz.func22, Tryz.ntmps22
  go_wp2
  go_loopg [13] n (fun g i wr => ∃ (j : Nat) (m : Nat), g + j = n ∧ i = .int .i64 j ∧ wr = w.drewN m)
  case atStart => exact ⟨0, 0, by omega, rfl, rfl⟩
  case round =>
    obtain ⟨j, m, hj, rfl, rfl⟩ := hrel
    by_cases hlt : j < n
    · obtain ⟨ga, rfl, _, hca⟩ := ha.out.cell (i := j) (by rw [cvals_len, List.length_map, HN.out]; omega)
      obtain ⟨gb, rfl, _, hcb⟩ := hb.out.cell (i := j) (by rw [cvals_len, HN.out]; omega)
      rw [cvals_get _ j (by rw [List.length_map, HN.out]; omega), getD_bits (by rw [HN.out]; omega), getD_bits (by rw [HN.out]; omega)] at hca
      rw [cvals_get xs j (by rw [HN.out]; omega)] at hcb
      have h1 := hv.out (2 * j) (by rw [HN.out]; omega)
      have h2 := hv.out (2 * j + 1) (by rw [HN.out]; omega)
      generalize xs.getD (2 * j) 0 = x at hca hcb h1
      generalize xs.getD (2 * j + 1) 0 = y at hca hcb h2
      have C := Lib.hid (fun w => same_comp (bitsN x) (bitsN y) x y w (bitsN_eq h1).2 (bitsN_eq h2).2 h1 h2 (same_back h1) (same_back h2))
      clear h1 h2
      go_wp2
      go_region_with (go_at_call 46; refine (C.out _).mono ?_; rintro e w' ⟨rfl, rfl⟩)
      all_goals
        go_wp2
        go_roundg (gk - 1)
        case measure => omega
        case rel => exact ⟨j + 1, _, by omega, by go_num, rfl⟩
    · have hjn : j = n := by omega
      subst hjn
      go_wp2
      go_ret
      exact ⟨rfl, _, rfl⟩
/-- A list's text is read back. -/
theorem read_backC (xs : List Nat) (n : Nat) (w : World) (hn : Hid (xs.length = 2 * n)) (hl : Hid (lt32 xs)) (hx : n ≤ 256) (hm : Hid (MaxLenIs w)) (hd : Hid (Bru w)) (he : Hid (ErrS w)) :
    Calls Tryz.prog 17 #[.string (textC xs n)] w fun e w' => ∃ (a : Option Addr) (cap : Nat), e = .returned (.tuple #[.slice a n cap, .bool true]) ∧ Below w.heap.size w w' ∧ Hid (rowV w' 24 w.heap.size a (cvals (xs.map bitsN))) := by
  refine (impl_ReadComplex (textC xs n) w (textC_size hx) hm hd he).mono ?_
  rintro e w' ⟨a, cap, rfl, hb, hr⟩
  obtain ⟨h1, h2⟩ := read_textC hl.out hn.out hx
  rw [h2] at hr
  exact ⟨a, cap, by rw [h1, h2, List.length_map, hn.out, Nat.mul_div_cancel_left _ (by decide)], hb, hr⟩

theorem root_at (x : Nat) (w : World) : Calls Tryz.prog 11 #[.float .f32 x] w fun e w' => ∃ r m, e = .returned (.float .f32 r) ∧ fv .f32 r = rootB x ∧ r < 4294967296 ∧ w' = w.drewN m := by
  have C : Hid (∀ w, Calls Tryz.prog 33 #[.float .f32 x] w fun e w' => ∃ r m, e = .returned (.float .f32 r) ∧ fv .f32 r = rootB x ∧ r < 4294967296 ∧ w' = w.drewN m) := by
    show ∀ w, _
    intro w
    go_enter Tryz.func33, Tryz.ntmps33
    go_wp2
    go_ret
    exact ⟨_, _, rfl, root_nval _ _ _ _, nval_lt _ _, rfl⟩
  go_enter Tryz.func11, Tryz.ntmps11
  go_wp2_with fail
  refine (C.out _).mono ?_
  rintro e w' ⟨r, m, rfl, hr, hlt, rfl⟩
  have HR := Lib.hid hr
  clear hr
  go_wp2
  go_ret
  exact ⟨_, _, rfl, HR.out, hlt, rfl⟩

/-- Equal whole numbers compare as equal. -/
theorem Z.same {k : FloatKind} {a b : Nat} {x y : Int} (ha : Z k (some a) x) (hb : Z k (some b) y) (h : x = y) : k.format.order a b = some .eq := by
  rw [ha.order hb, h, compare_int, if_neg (Int.lt_irrefl _), if_pos rfl]
theorem Z.differ {k : FloatKind} {a b : Nat} {x y : Int} (ha : Z k (some a) x) (hb : Z k (some b) y) (h : x ≠ y) : (k.format.order a b == some .eq) = false := by
  rw [ha.order hb, compare_int]
  by_cases h1 : x < y
  · rw [if_pos h1]; rfl
  · rw [if_neg h1, if_neg h]; rfl
theorem Z.nought (k : FloatKind) : Z k (some 0) 0 := by
  have h := Z.ofInt k (n := 0) (Nat.zero_le _)
  have e : floatOfInt k 0 = 0 := by cases k <;> decide +kernel
  rwa [e] at h
theorem Z.two : Z .f32 (some 1073741824) 2 := by
  have h := Z.ofInt .f32 (n := 2) (by decide)
  have e : floatOfInt .f32 2 = 1073741824 := by decide +kernel
  rwa [e] at h
/-- The sum of a number with itself. -/
theorem Z.double {a : Nat} {x : Int} (ha : Z .f32 (some a) x) (hx : x.natAbs ≤ 200) : ∃ r, floatBits .add .f32 a a = some r ∧ Z .f32 (some r) (x + x) := by
  have h := ha.add ha (Nat.le_trans (m := 400) (by omega) (by decide))
  rw [floatBits_fop, ha.fv]
  obtain ⟨b, s, m, p, e, h1, h2, h3⟩ := h
  rw [e]
  exact ⟨b, rfl, b, s, m, p, rfl, h1, h2, h3⟩
theorem scale_at {a b : Nat} {x y : Int} (w : World) (ha : Z .f32 (some a) x) (hb : Z .f32 (some b) y) (hx : x.natAbs ≤ 200) (hy : y.natAbs ≤ 200) :
    Calls Tryz.prog 13 #[.complex .f32 a b, .float .f32 1073741824] w fun e w' => ∃ r s m, e = .returned (.complex .f32 r s) ∧ Z .f32 (some r) (x + x) ∧ Z .f32 (some s) (y + y) ∧ w' = w.drewN m := by
  refine (impl_ScaleComplex a b 1073741824 w).mono ?_
  rintro e w' ⟨r, s, m, rfl, hr, hs, rfl⟩
  have h1 := ha.mul Z.two (Nat.le_trans (m := 400) (by omega) (by decide))
  have h2 := hb.mul Z.two (Nat.le_trans (m := 400) (by omega) (by decide))
  rw [show x * 2 = x + x by omega] at h1
  rw [show y * 2 = y + y by omega] at h2
  rw [ha.fv, Z.two.fv] at hr
  rw [hb.fv, Z.two.fv] at hs
  exact ⟨r, s, m, rfl, z_bits (by rw [hr]; exact h1), z_bits (by rw [hs]; exact h2), rfl⟩
/-- The length of a complex number with whole parts is the root of its power. -/
theorem long_at {x y : Int} (w : World) (hx : x.natAbs ≤ 200) (hy : y.natAbs ≤ 200) :
    Calls Tryz.prog 10 #[.complex .f32 (floatOfInt .f32 x) (floatOfInt .f32 y)] w fun e w' => ∃ r m, e = .returned (.float .f32 r) ∧ fv .f32 r = rootB (floatOfInt .f32 (x * x + y * y)) ∧ r < 4294967296 ∧ w' = w.drewN m := by
  have h := powF_same hx hy
  refine (impl_LongOf _ _ w (Lib.hid (by rw [h]; exact root_big _))).mono ?_
  rintro e w' ⟨r, m, rfl, hr, hlt, rfl⟩
  exact ⟨r, m, rfl, by rw [hr, h]; rfl, hlt, rfl⟩
theorem negF_two {x : Nat} : Op.negFloat .f32 (Op.negFloat .f32 x) = x := by
  unfold Op.negFloat
  rw [Nat.xor_assoc, Nat.xor_self, Nat.xor_zero]
theorem narrowC_at (p q : Nat) (w1 w2 w : World) (hp : p < 4294967296) (hq : q < 4294967296) :
    Calls Tryz.prog 24 #[.complex .f64 (wval p w1) (wval q w2)] w fun e w' => ∃ r s m, e = .returned (.complex .f32 r s) ∧ r < 4294967296 ∧ s < 4294967296 ∧ Hid ((bitsI r == bitsI p) = true) ∧ Hid ((bitsI s == bitsI q) = true) ∧ w' = w.drewN m := by
  refine (impl_NarrowComplex _ _ w).mono ?_
  rintro e w' ⟨v1, v2, m, rfl, rfl⟩
  exact ⟨_, _, m, rfl, nval_lt _ _, nval_lt _ _, Lib.hid (by rw [bitsI_of_fv (narrow_wide hp w1 v1)]; simp), Lib.hid (by rw [bitsI_of_fv (narrow_wide hq w2 v2)]; simp), rfl⟩
end Go.Proofs.YtmiajfdhdpmeoaaGreatDoor
