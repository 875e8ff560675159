/-
  Tubes measured: VolumeOf, NarrowestOf. Condition: what they hold is read off memory; lengths below 2^31.
-/
import Derived.Test.YtfodlngbkmhboaaTd
import Derived.OwnWalk
import Derived.Deep.QuietTactic
namespace Go.Proofs.Ytfodlngbkmhboaa
open Go.RowKit Ieee

theorem alloc_below (w : World) (x : Obj) : Below w.heap.size w (w.alloc x) := (Below.refl _ _).alloc (Nat.le_refl _) _
theorem validT_len {xs : List Nat} {n l t p : Nat} (h : validT xs n l t p = true) : 1 ≤ n ∧ n ≤ 16 := by
  unfold validT areasOk at h
  simp only [Bool.and_eq_true, decide_eq_true_eq] at h
  exact ⟨h.1.1.1.1.1.1, h.1.1.1.1.1.2⟩

/-- The number of the narrowest of the first j. -/
def bestN (xs : List Nat) : Nat → Nat
  | 0 => 0
  | j + 1 => if FloatKind.f32.format.order (xs.getD j 0) (xs.getD (bestN xs j) 0) == some .lt then j else bestN xs j
theorem bestN_le (xs : List Nat) (j : Nat) : bestN xs j ≤ j := by
  induction j with
  | zero => exact Nat.le_refl _
  | succ j ih => unfold bestN; split <;> omega
theorem bestN_lt {xs : List Nat} {j n : Nat} (h : j ≤ n) (h1 : 1 ≤ n) : bestN xs j < n := by
  cases j with
  | zero => exact h1
  | succ j =>
    have := bestN_le xs j
    unfold bestN; split <;> omega
theorem bestN_one (xs : List Nat) : bestN xs 1 = 0 := by unfold bestN; split <;> rfl

/-- One of two, by a test. -/
def pickO (b : Bool) (x : Option Nat) : Option Nat := if b = true then x else some 0

theorem spec_l02Number (x : Nat) (w : World) : Calls Try.prog 74 #[.float .f32 x] w fun e w' => ∃ r, e = .returned (.tuple #[.float .f32 r, .bool (finB (fv .f32 x))]) ∧ fv .f32 r = pickO (finB (fv .f32 x)) (fv .f32 x) ∧ ∃ n, w' = w.drewN n := by
  cases h : finB (fv .f32 x) <;> (have H := Lib.hid h) <;> clear h
  · go_enter Try.func74, Try.ntmps74
    go_wp2_with (go_at_call 77; refine (spec_l01Finite _ _).mono ?_; rw [H.out]; rintro e w' ⟨rfl, n, rfl⟩)
    go_ret2
    exact ⟨_, rfl, fv_zeroS, _, rfl⟩
  · go_enter Try.func74, Try.ntmps74
    go_wp2_with (go_at_call 77; refine (spec_l01Finite _ _).mono ?_; rw [H.out]; rintro e w' ⟨rfl, n, rfl⟩)
    go_ret2
    exact ⟨_, rfl, rfl, _, rfl⟩
theorem impl_checkedNumber (x : Nat) (w : World) : Calls Try.prog 75 #[.float .f32 x] w fun e w' => ∃ r, e = .returned (.tuple #[.float .f32 r, .bool (finB (fv .f32 x))]) ∧ fv .f32 r = pickO (finB (fv .f32 x)) (fv .f32 x) ∧ ∃ n, w' = w.drewN n := by
  cases h : finB (fv .f32 x) <;> (have H := Lib.hid h) <;> clear h
  · go_enter Try.func75, Try.ntmps75
    go_wp2_with (go_at_call 65; refine (impl_IsFinite _ _).mono ?_; rw [H.out]; rintro e w' ⟨rfl, n, rfl⟩)
    go_ret2
    exact ⟨_, rfl, fv_zeroS, _, rfl⟩
  · go_enter Try.func75, Try.ntmps75
    go_wp2_with (go_at_call 65; refine (impl_IsFinite _ _).mono ?_; rw [H.out]; rintro e w' ⟨rfl, n, rfl⟩)
    go_ret2
    exact ⟨_, rfl, rfl, _, rfl⟩

/-- What VolumeOf answers. -/
def volOk (xs : List Nat) (n l t p : Nat) : Bool := validT xs n l t p && finB (sumS xs n)
theorem impl_VolumeOf (a : Option Addr) (n c l t p : Nat) (xs : List Nat) (w : World) (hn : xs.length = n) (ha : Hid (fls w a xs)) (hx : n < 2147483648) :
    Calls Try.prog 43 #[.agg #[.slice a n c, .float .f32 l, .float .f32 t, .float .f32 p]] w fun e w' => ∃ r, e = .returned (.tuple #[.float .f32 r, .bool (volOk xs n l t p)]) ∧ fv .f32 r = pickO (volOk xs n l t p) (sumS xs n) ∧ Below w.heap.size w w' := by
  have HN := Lib.hid hn
  clear hn
  have A1 := alloc_below w (.cells #[.slice a n c, .float .f32 l, .float .f32 t, .float .f32 p] 40)
  have R1 := tubeF_row w 40 a n c l t p
  have H1 := Lib.hid (ha.out.stays A1)
  cases hV : validT xs n l t p
  · have HV := Lib.hid hV
    have HO : Hid (volOk xs n l t p = false) := by show _ = _; unfold volOk; rw [hV]; rfl
    clear hV
    rw [HO.out]
    go_enter Try.func43, Try.ntmps43
    go_wp2_with fail
    generalize hW1 : w.alloc (.cells #[.slice a n c, .float .f32 l, .float .f32 t, .float .f32 p] 40) = W1 at A1 R1 H1
    clear hW1
    refine (impl_ValidTube a n c l t p xs W1 HN.out H1 hx).mono ?_
    rw [HV.out]
    rintro e w2 ⟨rfl, B2⟩
    go_wp2
    go_ret2
    exact ⟨_, rfl, fv_zeroS, Below.on A1 B2⟩
  · have HV := Lib.hid hV
    have HO : Hid (volOk xs n l t p = finB (sumS xs n)) := by show _ = _; unfold volOk; rw [hV]; rfl
    clear hV
    rw [HO.out]
    go_enter Try.func43, Try.ntmps43
    go_wp2_with fail
    generalize hW1 : w.alloc (.cells #[.slice a n c, .float .f32 l, .float .f32 t, .float .f32 p] 40) = W1 at A1 R1 H1
    clear hW1
    refine (impl_ValidTube a n c l t p xs W1 HN.out H1 hx).mono ?_
    rw [HV.out]
    rintro e w2 ⟨rfl, B2⟩
    obtain ⟨c0, c1, c2, c3⟩ := tube_stays R1 B2
    have H2 := Lib.hid (H1.out.stays B2)
    go_wp2
    go_loopg [4, 13] n (fun g s i wr => ∃ j sb m : Nat, g + j = n ∧ s = .float .f32 sb ∧ i = .int .i64 j ∧ Hid (fv .f32 sb = sumS xs j) ∧ wr = w2.drewN m)
    case atStart => exact ⟨0, _, 0, by omega, rfl, rfl, fv_zeroS, rfl⟩
    case round =>
      obtain ⟨j, sb, m, hj, rfl, rfl, hs, rfl⟩ := hrel
      by_cases hlt : j < n
      · obtain ⟨ba, oa, rfl, hca⟩ := H2.out j (by rw [HN.out]; exact hlt)
        generalize hxj : xs.getD j 0 = x at hca
        have HX := Lib.hid hxj
        clear hxj
        go_wp2
        go_roundg (gk - 1)
        case measure => omega
        case rel => exact ⟨j + 1, _, _, by omega, rfl, by go_num, by show fv .f32 _ = _; rw [fv_addS, hs.out, sumS, HX.out], rfl⟩
      · have hjn : j = n := by omega
        subst hjn
        go_wp2_with (go_at_call 75; refine (impl_checkedNumber _ _).mono ?_; rw [hs.out]; rintro e w' ⟨r, rfl, hr, q, rfl⟩; have HR := Lib.hid hr; clear hr)
        go_ret2
        exact ⟨_, rfl, HR.out, below_drewN (Below.on A1 B2) _⟩

theorem spec_VolumeOf (a : Option Addr) (n c l t p : Nat) (xs : List Nat) (w : World) (hn : xs.length = n) (ha : Hid (fls w a xs)) (hx : n < 2147483648) :
    Calls Try.prog 42 #[.agg #[.slice a n c, .float .f32 l, .float .f32 t, .float .f32 p]] w fun e w' => ∃ r, e = .returned (.tuple #[.float .f32 r, .bool (volOk xs n l t p)]) ∧ fv .f32 r = pickO (volOk xs n l t p) (sumS xs n) ∧ Below w.heap.size w w' := by
  have HN := Lib.hid hn
  clear hn
  have A1 := alloc_below w (.cells #[.slice a n c, .float .f32 l, .float .f32 t, .float .f32 p] 40)
  have R1 := tubeF_row w 40 a n c l t p
  have H1 := Lib.hid (ha.out.stays A1)
  cases hV : validT xs n l t p
  · have HV := Lib.hid hV
    have HO : Hid (volOk xs n l t p = false) := by show _ = _; unfold volOk; rw [hV]; rfl
    clear hV
    rw [HO.out]
    go_enter Try.func42, Try.ntmps42
    go_wp2_with fail
    generalize hW1 : w.alloc (.cells #[.slice a n c, .float .f32 l, .float .f32 t, .float .f32 p] 40) = W1 at A1 R1 H1
    clear hW1
    refine (spec_l02Is _ _ a n c l t p xs W1 HN.out H1 hx (tube_stays R1 (Below.refl _ _))).mono ?_
    rw [HV.out]
    rintro e w2 ⟨rfl, q, rfl⟩
    go_wp2
    go_ret2
    exact ⟨_, rfl, fv_zeroS, below_drewN A1 _⟩
  · have HV := Lib.hid hV
    have HO : Hid (volOk xs n l t p = finB (sumS xs n)) := by show _ = _; unfold volOk; rw [hV]; rfl
    clear hV
    rw [HO.out]
    go_enter Try.func42, Try.ntmps42
    go_wp2_with fail
    generalize hW1 : w.alloc (.cells #[.slice a n c, .float .f32 l, .float .f32 t, .float .f32 p] 40) = W1 at A1 R1 H1
    clear hW1
    obtain ⟨c0, c1, c2, c3⟩ := tube_stays R1 (Below.refl _ _)
    refine (spec_l02Is _ _ a n c l t p xs W1 HN.out H1 hx ⟨c0, c1, c2, c3⟩).mono ?_
    rw [HV.out]
    rintro e w2 ⟨rfl, q, rfl⟩
    go_wp2
    go_loopg [4, 5] n (fun g s i wr => ∃ j sb m : Nat, g + j = n ∧ s = .float .f32 sb ∧ i = .int .i64 j ∧ Hid (fv .f32 sb = sumS xs j) ∧ wr = W1.drewN m)
    case atStart => exact ⟨0, _, _, by omega, rfl, rfl, fv_zeroS, rfl⟩
    case round =>
      obtain ⟨j, sb, m, hj, rfl, rfl, hs, rfl⟩ := hrel
      by_cases hlt : j < n
      · obtain ⟨ba, oa, rfl, hca⟩ := H1.out j (by rw [HN.out]; exact hlt)
        generalize hxj : xs.getD j 0 = x at hca
        have HX := Lib.hid hxj
        clear hxj
        go_wp2
        go_roundg (gk - 1)
        case measure => omega
        case rel => exact ⟨j + 1, _, _, by omega, rfl, by go_num, by show fv .f32 _ = _; rw [fv_addS, hs.out, sumS, HX.out], rfl⟩
      · have hjn : j = n := by omega
        subst hjn
        go_wp2_with (go_at_call 74; refine (spec_l02Number _ _).mono ?_; rw [hs.out]; rintro e w' ⟨r, rfl, hr, q, rfl⟩; have HR := Lib.hid hr; clear hr)
        go_ret2
        exact ⟨_, rfl, HR.out, below_drewN A1 _⟩

/-! ### The narrowest -/
def narI (xs : List Nat) (n l t p : Nat) : Nat := if validT xs n l t p = true then bestN xs n else 0
def narX (xs : List Nat) (n l t p : Nat) : Nat := if validT xs n l t p = true then xs.getD (bestN xs n) 0 else 0

theorem impl_NarrowestOf (a : Option Addr) (n c l t p : Nat) (xs : List Nat) (w : World) (hn : xs.length = n) (ha : Hid (fls w a xs)) (hx : n < 2147483648) :
    Calls Try.prog 41 #[.agg #[.slice a n c, .float .f32 l, .float .f32 t, .float .f32 p]] w fun e w' => e = .returned (.tuple #[.int .i64 (narI xs n l t p), .float .f32 (narX xs n l t p), .bool (validT xs n l t p)]) ∧ Below w.heap.size w w' := by
  have HN := Lib.hid hn
  clear hn
  have A1 := alloc_below w (.cells #[.slice a n c, .float .f32 l, .float .f32 t, .float .f32 p] 40)
  have R1 := tubeF_row w 40 a n c l t p
  have H1 := Lib.hid (ha.out.stays A1)
  cases hV : validT xs n l t p
  · have HV := Lib.hid hV
    have HO : Hid (narI xs n l t p = 0 ∧ narX xs n l t p = 0) := by constructor <;> simp [narI, narX, hV]
    clear hV
    rw [HO.out.1, HO.out.2]
    go_enter Try.func41, Try.ntmps41
    go_wp2_with fail
    generalize hW1 : w.alloc (.cells #[.slice a n c, .float .f32 l, .float .f32 t, .float .f32 p] 40) = W1 at A1 R1 H1
    clear hW1
    refine (impl_ValidTube a n c l t p xs W1 HN.out H1 hx).mono ?_
    rw [HV.out]
    rintro e w2 ⟨rfl, B2⟩
    go_wp2
    go_ret3
    exact ⟨rfl, Below.on A1 B2⟩
  · have HV := Lib.hid hV
    have hn1 := (validT_len hV).1
    have HO : Hid (narI xs n l t p = bestN xs n ∧ narX xs n l t p = xs.getD (bestN xs n) 0) := by constructor <;> simp [narI, narX, hV]
    clear hV
    rw [HO.out.1, HO.out.2]
    go_enter Try.func41, Try.ntmps41
    go_wp2_with fail
    generalize hW1 : w.alloc (.cells #[.slice a n c, .float .f32 l, .float .f32 t, .float .f32 p] 40) = W1 at A1 R1 H1
    clear hW1
    refine (impl_ValidTube a n c l t p xs W1 HN.out H1 hx).mono ?_
    rw [HV.out]
    rintro e w2 ⟨rfl, B2⟩
    obtain ⟨c0, c1, c2, c3⟩ := tube_stays R1 B2
    have H2 := Lib.hid (H1.out.stays B2)
    go_wp2
    go_loopg [5, 14] n (fun g s i wr => ∃ j b m : Nat, g + j = n ∧ s = .int .i64 b ∧ i = .int .i64 j ∧ Hid (b = bestN xs j) ∧ b < n ∧ wr = w2.drewN m)
    case atStart => exact ⟨0, 0, 0, by omega, rfl, rfl, rfl, by omega, rfl⟩
    case round =>
      obtain ⟨j, b, m, hj, rfl, rfl, hb, hbn, rfl⟩ := hrel
      obtain ⟨bb, ob, rfl, hcb⟩ := H2.out b (by rw [HN.out]; exact hbn)
      by_cases hlt : j < n
      · obtain ⟨ba, oa, e0, hca⟩ := H2.out j (by rw [HN.out]; exact hlt)
        cases e0
        cases hs : (FloatKind.f32.format.order (xs.getD j 0) (xs.getD b 0) == some .lt)
        · have HJ : Hid (b = bestN xs (j + 1)) := by show _ = _; unfold bestN; rw [← hb.out, hs]; rfl
          generalize xs.getD j 0 = x at hca hs
          generalize xs.getD b 0 = y at hcb hs
          go_wp2
          go_roundg (gk - 1)
          case measure => omega
          case rel => exact ⟨j + 1, b, _, by omega, rfl, by go_num, HJ, hbn, rfl⟩
        · have HJ : Hid (j = bestN xs (j + 1)) := by show _ = _; unfold bestN; rw [← hb.out, hs]; rfl
          generalize xs.getD j 0 = x at hca hs
          generalize xs.getD b 0 = y at hcb hs
          go_wp2
          go_roundg (gk - 1)
          case measure => omega
          case rel => exact ⟨j + 1, j, _, by omega, rfl, by go_num, HJ, hlt, rfl⟩
      · have hjn : j = n := by omega
        subst hjn
        generalize hy : xs.getD b 0 = y at hcb
        have HY := Lib.hid hy
        clear hy
        go_wp2
        go_quiet (fail)
        go_wp2
        go_ret3
        rw [← hb.out, HY.out]
        exact ⟨rfl, below_drewN (below_drewN (Below.on A1 B2) _) _⟩

theorem spec_NarrowestOf (a : Option Addr) (n c l t p : Nat) (xs : List Nat) (w : World) (hn : xs.length = n) (ha : Hid (fls w a xs)) (hx : n < 2147483648) :
    Calls Try.prog 40 #[.agg #[.slice a n c, .float .f32 l, .float .f32 t, .float .f32 p]] w fun e w' => e = .returned (.tuple #[.int .i64 (narI xs n l t p), .float .f32 (narX xs n l t p), .bool (validT xs n l t p)]) ∧ Below w.heap.size w w' := by
  have HN := Lib.hid hn
  clear hn
  have A1 := alloc_below w (.cells #[.slice a n c, .float .f32 l, .float .f32 t, .float .f32 p] 40)
  have R1 := tubeF_row w 40 a n c l t p
  have H1 := Lib.hid (ha.out.stays A1)
  cases hV : validT xs n l t p
  · have HV := Lib.hid hV
    have HO : Hid (narI xs n l t p = 0 ∧ narX xs n l t p = 0) := by constructor <;> simp [narI, narX, hV]
    clear hV
    rw [HO.out.1, HO.out.2]
    go_enter Try.func40, Try.ntmps40
    go_wp2_with fail
    generalize hW1 : w.alloc (.cells #[.slice a n c, .float .f32 l, .float .f32 t, .float .f32 p] 40) = W1 at A1 R1 H1
    clear hW1
    refine (spec_l02Is _ _ a n c l t p xs W1 HN.out H1 hx (tube_stays R1 (Below.refl _ _))).mono ?_
    rw [HV.out]
    rintro e w2 ⟨rfl, q, rfl⟩
    go_wp2
    go_ret3
    exact ⟨rfl, below_drewN A1 _⟩
  · have HV := Lib.hid hV
    have hn1 := (validT_len hV).1
    have HO : Hid (narI xs n l t p = bestN xs n ∧ narX xs n l t p = xs.getD (bestN xs n) 0) := by constructor <;> simp [narI, narX, hV]
    clear hV
    rw [HO.out.1, HO.out.2]
    go_enter Try.func40, Try.ntmps40
    go_wp2_with fail
    generalize hW1 : w.alloc (.cells #[.slice a n c, .float .f32 l, .float .f32 t, .float .f32 p] 40) = W1 at A1 R1 H1
    clear hW1
    obtain ⟨c0, c1, c2, c3⟩ := tube_stays R1 (Below.refl _ _)
    refine (spec_l02Is _ _ a n c l t p xs W1 HN.out H1 hx ⟨c0, c1, c2, c3⟩).mono ?_
    rw [HV.out]
    rintro e w2 ⟨rfl, q, rfl⟩
    go_wp2
    go_loopg [5, 6] (n - 1) (fun g s i wr => ∃ j b m : Nat, g + j = n ∧ s = .int .i64 b ∧ i = .int .i64 j ∧ Hid (b = bestN xs j) ∧ b < n ∧ wr = W1.drewN m)
    case atStart => exact ⟨1, 0, _, by omega, rfl, rfl, (bestN_one xs).symm, by omega, rfl⟩
    case round =>
      obtain ⟨j, b, m, hj, rfl, rfl, hb, hbn, rfl⟩ := hrel
      obtain ⟨bb, ob, rfl, hcb⟩ := H1.out b (by rw [HN.out]; exact hbn)
      by_cases hlt : j < n
      · obtain ⟨ba, oa, e0, hca⟩ := H1.out j (by rw [HN.out]; exact hlt)
        cases e0
        cases hs : (FloatKind.f32.format.order (xs.getD j 0) (xs.getD b 0) == some .lt)
        · have HJ : Hid (b = bestN xs (j + 1)) := by show _ = _; unfold bestN; rw [← hb.out, hs]; rfl
          generalize xs.getD j 0 = x at hca hs
          generalize xs.getD b 0 = y at hcb hs
          go_wp2
          go_quiet (fail)
          go_wp2
          go_roundg (gk - 1)
          case measure => omega
          case rel => exact ⟨j + 1, b, _, by omega, rfl, by go_num, HJ, hbn, rfl⟩
        · have HJ : Hid (j = bestN xs (j + 1)) := by show _ = _; unfold bestN; rw [← hb.out, hs]; rfl
          generalize xs.getD j 0 = x at hca hs
          generalize xs.getD b 0 = y at hcb hs
          go_wp2
          go_quiet (fail)
          go_wp2
          go_roundg (gk - 1)
          case measure => omega
          case rel => exact ⟨j + 1, j, _, by omega, rfl, by go_num, HJ, hlt, rfl⟩
      · have hjn : j = n := by omega
        subst hjn
        generalize hy : xs.getD b 0 = y at hcb
        have HY := Lib.hid hy
        clear hy
        go_wp2
        go_quiet (fail)
        go_wp2
        go_ret3
        rw [← hb.out, HY.out]
        exact ⟨rfl, below_drewN (below_drewN A1 _) _⟩
end Go.Proofs.Ytfodlngbkmhboaa
