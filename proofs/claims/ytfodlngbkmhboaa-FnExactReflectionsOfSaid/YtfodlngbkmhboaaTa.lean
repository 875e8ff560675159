/-
  Tubes: which are valid: the program's ValidTube and the reference's. Condition: the areas' numbers are read off memory; lengths below 2^31.
-/
import Derived.Test.YtfodlngbkmhboaaFu
namespace Go.Proofs.Ytfodlngbkmhboaa
open Go.RowKit Ieee

/-! ### The plain functions -/
def gtS (x c : Nat) : Bool := FloatKind.f32.format.order x c == some .gt
def leS (x c : Nat) : Bool := FloatKind.f32.format.order x c == some .lt || FloatKind.f32.format.order x c == some .eq
def geS (x c : Nat) : Bool := FloatKind.f32.format.order x c == some .gt || FloatKind.f32.format.order x c == some .eq
/-- An area: finite, above 0. -/
def okA (x : Nat) : Bool := finB (fv .f32 x) && gtS x 0
def btw (x lo hi : Nat) : Bool := geS x lo && leS x hi
/-- All of the first j are so. -/
def allU (p : Nat → Bool) (xs : List Nat) : Nat → Bool
  | 0 => true
  | j + 1 => allU p xs j && p (xs.getD j 0)
theorem allU_false {p : Nat → Bool} {xs : List Nat} {j n : Nat} (hj : j < n) (h : p (xs.getD j 0) = false) : allU p xs n = false := by
  induction n with
  | zero => omega
  | succ k ih =>
    by_cases hk : j = k
    · subst hk; unfold allU; rw [h, Bool.and_false]
    · simp [allU, ih (by omega)]
def areasOk (xs : List Nat) (n : Nat) : Bool := decide (1 ≤ n) && decide (n ≤ 16) && allU okA xs n
def validT (xs : List Nat) (n l t p : Nat) : Bool := areasOk xs n && gtS l 0 && leS l 1065353216 && btw t 3212836864 1065353216 && btw p 3212836864 1065353216

theorem fin_le (x : Nat) (h : finB (fv .f32 x) = true) : leS x 0 = !gtS x 0 := by
  have hx : (FloatKind.f32.format.read x).isNaN = false := by
    rcases fv_cases .f32 x with ⟨e, _⟩ | ⟨_, e, _⟩
    · rw [e] at h; cases h
    · exact e
  unfold leS gtS
  rw [order_sr FloatKind.f32.format (by decide) x 0 hx (by decide +kernel)]
  cases compare (sr FloatKind.f32.format x) (sr FloatKind.f32.format 0) <;> rfl

/-! ### The walks -/
theorem spec_l02Above (x : Nat) (w : World) : Calls Try.prog 94 #[.float .f32 x] w fun e w' => e = .returned (.bool (okA x)) ∧ ∃ n, w' = w.drewN n := by
  go_enter Try.func94, Try.ntmps94
  go_wp2_with (go_at_call 77; refine (spec_l01Finite _ _).mono ?_; rintro e w' ⟨rfl, n, rfl⟩)
  all_goals
    go_ret
    exact ⟨by simp_all [okA, gtS], _, rfl⟩
theorem spec_l02End (x : Nat) (w : World) : Calls Try.prog 90 #[.float .f32 x] w fun e w' => e = .returned (.bool (btw x 3212836864 1065353216)) ∧ w = w' := by
  go_enter Try.func90, Try.ntmps90
  go_wp2_with fail
  all_goals
    go_ret
    exact ⟨by simp_all [btw, geS, leS], rfl⟩
theorem impl_isBetween (x lo hi : Nat) (w : World) : Calls Try.prog 69 #[.float .f32 x, .float .f32 lo, .float .f32 hi] w fun e w' => e = .returned (.bool (btw x lo hi)) ∧ w = w' := by
  go_enter Try.func69, Try.ntmps69
  go_wp2_with fail
  all_goals
    go_ret
    exact ⟨by simp_all [btw, geS, leS], rfl⟩

theorem spec_l02Areas (a : Option Addr) (n c : Nat) (xs : List Nat) (w : World) (hn : xs.length = n) (ha : Hid (fls w a xs)) (hx : n < 2147483648) :
    Calls Try.prog 89 #[.slice a n c] w fun e w' => e = .returned (.bool (areasOk xs n)) ∧ ∃ m, w' = w.drewN m := by
  have HN := Lib.hid hn
  clear hn
  go_enter Try.func89, Try.ntmps89
  go_wp2_with fail
  go_loopg [3] n (fun g i wr => ∃ j m : Nat, g + j = n ∧ i = .int .i64 j ∧ Hid (allU okA xs j = true) ∧ wr = w.drewN m)
  case atStart => exact ⟨0, 0, by omega, rfl, rfl, rfl⟩
  case round =>
    obtain ⟨j, m, hj, rfl, hall, rfl⟩ := hrel
    by_cases hlt : j < n
    · obtain ⟨ba, oa, rfl, hca⟩ := ha.out j (by rw [HN.out]; exact hlt)
      by_cases h16 : n ≤ 16
      · generalize hxj : xs.getD j 0 = x at hca
        have HX := Lib.hid hxj
        clear hxj
        cases hok : okA x
        · have HF : Hid (areasOk xs n = false) := by show _ = _; unfold areasOk; rw [allU_false hlt (by rw [HX.out]; exact hok), Bool.and_false]
          have HO := Lib.hid hok
          clear hok
          go_wp2_with (go_at_call 94; refine (spec_l02Above _ _).mono ?_; rw [HO.out]; rintro e w' ⟨rfl, q, rfl⟩)
          go_ret
          exact ⟨by rw [HF.out]; rfl, _, rfl⟩
        · have HO := Lib.hid hok
          clear hok
          go_wp2_with (go_at_call 94; refine (spec_l02Above _ _).mono ?_; rw [HO.out]; rintro e w' ⟨rfl, q, rfl⟩)
          go_roundg (gk - 1)
          case measure => omega
          case rel => exact ⟨j + 1, _, by omega, by go_num, by show _ = _; rw [allU, hall.out, HX.out, HO.out]; rfl, rfl⟩
      · have HF : Hid (areasOk xs n = false) := by show _ = _; unfold areasOk; rw [decide_eq_false h16, Bool.and_false, Bool.false_and]
        go_wp2_with fail
        go_ret
        exact ⟨by rw [HF.out]; first | rfl | (simp; omega), _, rfl⟩
    · have hjn : j = n := by omega
      subst hjn
      have HF : Hid (areasOk xs j = (decide (1 ≤ j) && decide (j ≤ 16))) := by show _ = _; unfold areasOk; rw [hall.out, Bool.and_true]
      by_cases h1 : 1 ≤ j
      · by_cases h16 : j ≤ 16
        · rw [decide_eq_true h1, decide_eq_true h16] at HF
          go_wp2_with fail
          go_ret
          exact ⟨by rw [HF.out]; first | rfl | (simp; omega), _, rfl⟩
        · rw [decide_eq_true h1, decide_eq_false h16] at HF
          go_wp2_with fail
          go_ret
          exact ⟨by rw [HF.out]; first | rfl | (simp; omega), _, rfl⟩
      · by_cases h16 : j ≤ 16
        · rw [decide_eq_false h1, decide_eq_true h16] at HF
          go_wp2_with fail
          go_ret
          exact ⟨by rw [HF.out]; first | rfl | (simp; omega), _, rfl⟩
        · omega

/-- A tube in memory, behind a pointer. -/
def tubeAt (w : World) (b o : Nat) (a : Option Addr) (n c l t p : Nat) : Prop :=
  w.cell? ⟨b, o, none⟩ = some (.slice a n c) ∧ w.cell? ⟨b, o + 1, none⟩ = some (.float .f32 l) ∧ w.cell? ⟨b, o + 2, none⟩ = some (.float .f32 t) ∧ w.cell? ⟨b, o + 3, none⟩ = some (.float .f32 p)

theorem spec_l02Is (b o : Nat) (a : Option Addr) (n c l t p : Nat) (xs : List Nat) (w : World) (hn : xs.length = n) (ha : Hid (fls w a xs)) (hx : n < 2147483648) (hT : tubeAt w b o a n c l t p) :
    Calls Try.prog 67 #[.pointer (some ⟨b, o, none⟩)] w fun e w' => e = .returned (.bool (validT xs n l t p)) ∧ ∃ m, w' = w.drewN m := by
  have HN := Lib.hid hn
  clear hn
  obtain ⟨c0, c1, c2, c3⟩ := hT
  cases h0 : areasOk xs n
  · have HF : Hid (validT xs n l t p = false) := by show _ = _; unfold validT; rw [h0]; rfl
    have H0 := Lib.hid h0
    clear h0
    go_enter Try.func67, Try.ntmps67
    go_wp2_with (go_at_call 89; refine (spec_l02Areas a n c xs _ HN.out ha hx).mono ?_; rw [H0.out]; rintro e w' ⟨rfl, q, rfl⟩)
    go_ret
    exact ⟨by rw [HF.out]; rfl, _, rfl⟩
  · have H0 := Lib.hid h0
    clear h0
    have HF : Hid (validT xs n l t p = (gtS l 0 && leS l 1065353216 && btw t 3212836864 1065353216 && btw p 3212836864 1065353216)) := by show _ = _; unfold validT; rw [H0.out]; rfl
    go_enter Try.func67, Try.ntmps67
    go_wp2_with (first | (go_at_call 89; refine (spec_l02Areas a n c xs _ HN.out ha hx).mono ?_; rw [H0.out]; rintro e w' ⟨rfl, q, rfl⟩) | (go_at_call 90; refine (spec_l02End _ _).mono ?_; rintro e w' ⟨rfl, rfl⟩))
    all_goals
      go_ret
      refine ⟨?_, _, rfl⟩
      rw [HF.out]
      simp_all [gtS, leS]

/-- A tube, taken and only read: below the world's end nothing turns. -/
theorem spec_ValidTube (a : Option Addr) (n c l t p : Nat) (xs : List Nat) (w : World) (hn : xs.length = n) (ha : Hid (fls w a xs)) (hx : n < 2147483648) :
    Calls Try.prog 29 #[.agg #[.slice a n c, .float .f32 l, .float .f32 t, .float .f32 p]] w fun e w' => e = .returned (.bool (validT xs n l t p)) ∧ Below w.heap.size w w' := by
  have HN := Lib.hid hn
  clear hn
  go_enter Try.func29, Try.ntmps29
  go_wp2_with fail
  refine (spec_l02Is _ _ a n c l t p xs _ HN.out (ha.out.stays ((Below.refl _ _).alloc (Nat.le_refl _) _)) hx ?_).mono ?_
  · refine ⟨?_, ?_, ?_, ?_⟩ <;> simp [World.cell?_alloc_new]
  · rintro e w' ⟨rfl, m, rfl⟩
    go_wp2
    go_ret
    exact ⟨rfl, below_drewN ((Below.refl _ _).alloc (Nat.le_refl _) _) _⟩

theorem impl_ValidTube (a : Option Addr) (n c l t p : Nat) (xs : List Nat) (w : World) (hn : xs.length = n) (ha : Hid (fls w a xs)) (hx : n < 2147483648) :
    Calls Try.prog 31 #[.agg #[.slice a n c, .float .f32 l, .float .f32 t, .float .f32 p]] w fun e w' => e = .returned (.bool (validT xs n l t p)) ∧ Below w.heap.size w w' := by
  have HN := Lib.hid hn
  clear hn
  by_cases h : 1 ≤ n ∧ n ≤ 16
  · have hw : (decide ((1 : Int) ≤ n) && decide ((n : Int) ≤ 16)) = true := by simp; omega
    have hV : validT xs n l t p = (allU okA xs n && gtS l 0 && leS l 1065353216 && btw t 3212836864 1065353216 && btw p 3212836864 1065353216) := by
      unfold validT areasOk; rw [decide_eq_true h.1, decide_eq_true h.2, Bool.true_and, Bool.true_and]
    have HV := Lib.hid hV
    have HW := Lib.hid hw
    clear hV hw
    go_enter Try.func31, Try.ntmps31
    go_wp2_with (go_at_call 68; refine (impl_within _ _ _ _).mono ?_; rw [HW.out]; rintro e w' ⟨rfl, rfl⟩)
    go_loopg [13] n (fun g i wr => ∃ j m : Nat, g + j = n ∧ i = .int .i64 j ∧ Hid (allU okA xs j = true) ∧ wr = (w.alloc (.cells #[.slice a n c, .float .f32 l, .float .f32 t, .float .f32 p] 40)).drewN m)
    case atStart => exact ⟨0, 0, by omega, rfl, rfl, rfl⟩
    case round =>
      obtain ⟨j, m, hj, rfl, hall, rfl⟩ := hrel
      by_cases hlt : j < n
      · obtain ⟨ba, oa, rfl, hca⟩ := ha.out j (by rw [HN.out]; exact hlt)
        have hba := lt_of_cell hca
        generalize hxj : xs.getD j 0 = x at hca
        have HX := Lib.hid hxj
        clear hxj
        cases hfin : finB (fv .f32 x)
        · have HF : Hid (validT xs n l t p = false) := by show _ = _; rw [HV.out, allU_false hlt (by rw [HX.out]; unfold okA; rw [hfin]; rfl)]; rfl
          have HO := Lib.hid hfin
          clear hfin
          go_wp2_with (go_at_call 65; refine (impl_IsFinite _ _).mono ?_; rw [HO.out]; rintro e w' ⟨rfl, q, rfl⟩)
          go_ret
          exact ⟨by rw [HF.out]; rfl, below_drewN ((Below.refl _ _).alloc (Nat.le_refl _) _) _⟩
        · have hle := fin_le x hfin
          cases hgt : gtS x 0
          · have HF : Hid (validT xs n l t p = false) := by show _ = _; rw [HV.out, allU_false hlt (by rw [HX.out]; unfold okA; rw [hgt, Bool.and_false])]; rfl
            have hle' : (FloatKind.f32.format.order x 0 == some .lt || FloatKind.f32.format.order x 0 == some .eq) = true := by
              have := hle; unfold leS at this; rw [this, hgt]; rfl
            have HO := Lib.hid hfin
            clear hfin hgt hle
            go_wp2_with (go_at_call 65; refine (impl_IsFinite _ _).mono ?_; rw [HO.out]; rintro e w' ⟨rfl, q, rfl⟩)
            go_ret
            exact ⟨by rw [HF.out]; rfl, below_drewN ((Below.refl _ _).alloc (Nat.le_refl _) _) _⟩
          · have hle' : (FloatKind.f32.format.order x 0 == some .lt || FloatKind.f32.format.order x 0 == some .eq) = false := by
              have := hle; unfold leS at this; rw [this, hgt]; rfl
            have HO := Lib.hid hfin
            have HG := Lib.hid hgt
            clear hfin hgt hle
            go_wp2_with (go_at_call 65; refine (impl_IsFinite _ _).mono ?_; rw [HO.out]; rintro e w' ⟨rfl, q, rfl⟩)
            go_roundg (gk - 1)
            case measure => omega
            case rel => exact ⟨j + 1, _, by omega, by go_num, by show _ = _; rw [allU, hall.out, HX.out, okA, HO.out, HG.out]; rfl, rfl⟩
      · have hjn : j = n := by omega
        subst hjn
        have HF : Hid (validT xs j l t p = (gtS l 0 && leS l 1065353216 && btw t 3212836864 1065353216 && btw p 3212836864 1065353216)) := by show _ = _; rw [HV.out, hall.out]; rfl
        go_wp2_with (go_at_call 69; refine (impl_isBetween _ _ _ _).mono ?_; rintro e w' ⟨rfl, rfl⟩)
        all_goals
          go_ret
          refine ⟨?_, below_drewN ((Below.refl _ _).alloc (Nat.le_refl _) _) _⟩
          rw [HF.out]
          simp_all [gtS, leS]
  · have hw : (decide ((1 : Int) ≤ n) && decide ((n : Int) ≤ 16)) = false := by simp; omega
    have hV : validT xs n l t p = false := by
      have : (decide (1 ≤ n) && decide (n ≤ 16)) = false := by simp; omega
      unfold validT areasOk; rw [this]; rfl
    have HV := Lib.hid hV
    have HW := Lib.hid hw
    clear hV hw
    go_enter Try.func31, Try.ntmps31
    go_wp2_with (go_at_call 68; refine (impl_within _ _ _ _).mono ?_; rw [HW.out]; rintro e w' ⟨rfl, rfl⟩)
    go_ret
    exact ⟨by rw [HV.out]; rfl, (Below.refl _ _).alloc (Nat.le_refl _) _⟩
end Go.Proofs.Ytfodlngbkmhboaa
