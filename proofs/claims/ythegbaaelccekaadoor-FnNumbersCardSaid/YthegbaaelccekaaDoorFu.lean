/-
  Slices of float32, on: what a copy leaves behind, for laws that only read; sums from left to right. Condition: lengths below 2^31.
-/
import Derived.Test.YthegbaaelccekaaDoorFt
import Derived.WalkSmall
namespace Go.Proofs.YthegbaaelccekaaDoor
open Go.RowKit Ieee

theorem fls.stays {w w' : World} {a : Option Addr} {xs : List Nat} (h : fls w a xs) (hb : Below w.heap.size w w') : fls w' a xs := by
  intro i hi
  obtain ⟨b, off, e, hc⟩ := h i hi
  refine ⟨b, off, e, ?_⟩
  rw [hb.cell (p := ⟨b, off + i, none⟩) (lt_of_cell hc)]
  exact hc
theorem flr.fls {w : World} {b : Nat} {xs : List Nat} (h : flr w b xs) : fls w (some ⟨b, 0, none⟩) xs := by
  intro i hi
  refine ⟨b, 0, rfl, ?_⟩
  rw [Nat.zero_add]
  exact World.rowIs.cell h hi

/-- A copy, for laws that only read. -/
theorem laws_copy (a : Option Addr) (c1 n : Nat) (xs : List Nat) (w : World) (hn : xs.length = n) (ha : Hid (fls w a xs)) (hx : n < 2147483648) :
    Calls Tryd.prog 24 #[.slice a n c1] w fun e w' => ∃ b, e = .returned (.slice b n n) ∧ Below w.heap.size w w' ∧ Hid (fls w' b xs) := by
  subst hn
  refine (laws_toFloat32S a c1 xs w ha hx).mono ?_
  rintro e w' ⟨rfl, hb, hr, _⟩
  exact ⟨_, rfl, hb, hr.fls⟩

/-- Two lists of the same numbers. -/
theorem laws_eqs (a b : Option Addr) (c1 c2 n : Nat) (xs ys : List Nat) (w : World) (hn : xs.length = n) (ha : Hid (fls w a xs)) (hb : Hid (fls w b ys)) (hx : n < 2147483648) (h : xs.map (fv .f32) = ys.map (fv .f32)) :
    Calls Tryd.prog 26 #[.slice a n c1, .slice b n c2] w fun e w' => e = .returned (.bool true) ∧ ∃ n, w' = w.drewN n := by
  have hl : ys.length = n := by have := congrArg List.length h; simp at this; omega
  have k := laws_eqFloat32S a b c1 c2 xs ys w ha hb (by omega) h
  rw [hn, hl] at k
  exact k

/-! ### Sums -/
/-- The sum of the first j. -/
def sumS (xs : List Nat) : Nat → Option Nat
  | 0 => some 0
  | j + 1 => fop .add .f32 (sumS xs j) (fv .f32 (xs.getD j 0))

theorem fv_addS (x y : Nat) (w : World) : fv .f32 (fval .add .f32 x y w) = fop .add .f32 (fv .f32 x) (fv .f32 y) := fv_fval ..
theorem fv_mulS (x y : Nat) (w : World) : fv .f32 (fval .mul .f32 x y w) = fop .mul .f32 (fv .f32 x) (fv .f32 y) := fv_fval ..
theorem fv_zeroS : fv .f32 0 = some 0 := by decide +kernel

theorem impl_SumNumbers (a : Option Addr) (c n : Nat) (xs : List Nat) (w : World) (hn : xs.length = n) (ha : Hid (fls w a xs)) (hx : n < 2147483648) :
    Calls Tryd.prog 43 #[.slice a n c] w fun e w' => ∃ r m, e = .returned (.tuple #[.float .f32 r, .bool (decide (n ≤ 256))]) ∧ fv .f32 r = (if n ≤ 256 then sumS xs n else some 0) ∧ w' = w.drewN m := by
  have HN := Lib.hid hn
  clear hn
  by_cases h : n ≤ 256
  · rw [decide_eq_true h, if_pos h]
    go_enter Tryd.func43, Tryd.ntmps43
    go_wp2
    go_loopg [4, 12] n (fun g s i wr => ∃ j sb m : Nat, g + j = n ∧ s = .float .f32 sb ∧ i = .int .i64 j ∧ Hid (fv .f32 sb = sumS xs j) ∧ wr = w.drewN m)
    case atStart => exact ⟨0, _, 0, by omega, rfl, rfl, fv_zeroS, rfl⟩
    case round =>
      obtain ⟨j, sb, m, hj, rfl, rfl, hs, rfl⟩ := hrel
      by_cases hlt : j < n
      · obtain ⟨ba, oa, rfl, hca⟩ := ha.out j (by rw [HN.out]; exact hlt)
        generalize hxj : xs.getD j 0 = x at hca
        have HX := Lib.hid hxj
        clear hxj
        go_wp2
        go_roundg (gk - 1)
        case measure => omega
        case rel => exact ⟨j + 1, _, _, by omega, rfl, by go_num, by show fv .f32 _ = _; rw [fv_addS, hs.out, sumS, HX.out], rfl⟩
      · have hjn : j = n := by omega
        subst hjn
        go_wp2
        go_ret2
        exact ⟨_, _, rfl, hs.out, rfl⟩
  · rw [decide_eq_false h, if_neg h]
    go_enter Tryd.func43, Tryd.ntmps43
    go_wp2
    go_ret2
    exact ⟨_, 0, rfl, fv_zeroS, rfl⟩

theorem spec_l01Few (a : Option Addr) (c n : Nat) (w : World) (hx : n < 2147483648) : Calls Tryd.prog 61 #[.slice a n c] w fun e w' => e = .returned (.bool (decide (n ≤ 256))) ∧ w = w' := by
  go_enter Tryd.func61, Tryd.ntmps61
  go_wp2
  go_ret
  refine ⟨?_, rfl⟩
  show Ending.returned (.bool (decide ((n : Int) ≤ 256))) = _
  by_cases h : n ≤ 256
  · rw [decide_eq_true h, decide_eq_true (by omega)]
  · rw [decide_eq_false h, decide_eq_false (by omega)]

/-- The sum of the first j products. -/
def dotS (xs ys : List Nat) : Nat → Option Nat
  | 0 => some 0
  | j + 1 => fop .add .f32 (dotS xs ys j) (fop .mul .f32 (fv .f32 (xs.getD j 0)) (fv .f32 (ys.getD j 0)))

end Go.Proofs.YthegbaaelccekaaDoor
