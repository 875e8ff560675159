/-
  Lists of complex numbers, two float32 each; the laws' comparisons of them and marks in them. Condition: lengths below 512.
-/
import Derived.Test.YtmiajfdhdpmeoaaGreatDoorMf
import Derived.Test.YtmiajfdhdpmeoaaGreatDoorMu
namespace Go.Proofs.YtmiajfdhdpmeoaaGreatDoor
open Go.RowKit Go.Lib Go.Joins Ieee

theorem info_c64 : (Tryz.prog.info? 24).map (fun i => (i.zero, i.size, i.bytes)) = some (some (.complex .f32 0 0), 1, 8) := by kernel_rfl
/-- Numbers, two by two. -/
def cvals (xs : List Nat) : List Value := (List.range (xs.length / 2)).map fun i => .complex .f32 (xs.getD (2 * i) 0) (xs.getD (2 * i + 1) 0)
theorem cvals_len (xs : List Nat) : (cvals xs).length = xs.length / 2 := by simp [cvals]
theorem cvals_get (xs : List Nat) (i : Nat) (h : i < xs.length / 2) : (cvals xs).getD i undef = .complex .f32 (xs.getD (2 * i) 0) (xs.getD (2 * i + 1) 0) := by
  unfold cvals
  rw [List.getD_eq_getElem?_getD, List.getElem?_map, List.getElem?_eq_getElem (by simpa using h)]
  simp
theorem getD_left {xs ys : List Nat} {i : Nat} (h : i < xs.length) : (xs ++ ys).getD i 0 = xs.getD i 0 := by
  rw [List.getD_eq_getElem?_getD, List.getD_eq_getElem?_getD, List.getElem?_append_left h]
theorem cvals_snoc {xs : List Nat} {j : Nat} (a b : Nat) (h : xs.length = 2 * j) : cvals (xs ++ [a, b]) = cvals xs ++ [.complex .f32 a b] := by
  unfold cvals
  rw [List.length_append, h, show (2 * j + [a, b].length) / 2 = j + 1 by simp only [List.length_cons, List.length_nil]; omega, show 2 * j / 2 = j by omega, List.range_succ, List.map_append]
  congr 1
  · apply List.map_congr_left
    intro i hi
    have hi' : i < j := by simpa using hi
    rw [getD_left (by omega), getD_left (by omega)]
  · have h1 : (xs ++ [a, b]).getD (2 * j) 0 = a := by
      rw [List.getD_eq_getElem?_getD, List.getElem?_append_right (by omega), h, Nat.sub_self]; rfl
    have h2 : (xs ++ [a, b]).getD (2 * j + 1) 0 = b := by
      rw [List.getD_eq_getElem?_getD, List.getElem?_append_right (by omega), h, show 2 * j + 1 - 2 * j = 1 by omega]; rfl
    show [Value.complex .f32 ((xs ++ [a, b]).getD (2 * j) 0) ((xs ++ [a, b]).getD (2 * j + 1) 0)] = _
    rw [h1, h2]

/-! ### Conversions -/
theorem wide_cc {P : Program} (w : World) (src dst : TypeId) (a b : Nat) (hs : (P.underlying src).isSome = true) (hd : P.underlying dst = some (.complex .f64)) :
    (convert src dst (.complex .f32 a b)).run P w = .ok (.complex .f64 (wval a w) (wval b (w.drewN (wdr a)))) (w.drewN (wdr a + wdr b)) := by
  obtain ⟨u, hs'⟩ := Option.isSome_iff_exists.1 hs
  cases u <;> simp [convert, run_underlying hs', run_underlying hd, Conv.complexToComplex, run_wide_any]
theorem narrow_cc {P : Program} (w : World) (src dst : TypeId) (a b : Nat) (hs : (P.underlying src).isSome = true) (hd : P.underlying dst = some (.complex .f32)) :
    (convert src dst (.complex .f64 a b)).run P w = .ok (.complex .f32 (nval a w) (nval b (w.drewN (ndr a)))) (w.drewN (ndr a + ndr b)) := by
  obtain ⟨u, hs'⟩ := Option.isSome_iff_exists.1 hs
  cases u <;> simp [convert, run_underlying hs', run_underlying hd, Conv.complexToComplex, run_narrow_any]
/-- The mark k. -/
def mkC (k : Nat) : Nat := single.write (double.read (floatOfInt .f64 k))
def mkOk (k : Nat) : Bool := !(double.read (floatOfInt .f64 k)).isNaN && !bigB (floatOfInt .f64 k) && !(single.read (mkC k)).isNaN
theorem mkOk_all : ∀ k, k < 520 → mkOk k = true := by decide +kernel
theorem mkC_one : nval 4607182418800017408 = fun _ => 1065353216 := by
  funext w
  unfold nval
  rw [if_neg (by decide +kernel), if_neg (by decide +kernel)]
  decide +kernel
theorem mkC_run (w : World) (k : Nat) (hk : k < 520) : (convert 45 24 (.complex .f64 (floatOfInt .f64 k) 4607182418800017408)).run Tryz.prog w = .ok (.complex .f32 (mkC k) 1065353216) w := by
  have h := mkOk_all k hk
  unfold mkOk at h
  simp only [Bool.and_eq_true, Bool.not_eq_true'] at h
  rw [narrow_cc w 45 24 _ _ (by kernel_rfl) (by kernel_rfl), mkC_one]
  have h1 : ndr (floatOfInt .f64 k) = 0 := by unfold ndr; rw [h.1.1, h.1.2]; rfl
  have h2 : ndr 4607182418800017408 = 0 := by decide +kernel
  have h3 : nval (floatOfInt .f64 k) w = mkC k := by unfold nval; rw [h.1.1, h.1.2]; rfl
  rw [h1, h2, h3]; rfl
theorem mkC_self (k : Nat) (hk : k < 520) : FloatKind.f32.format.order (mkC k) (mkC k) = some .eq := by
  have h := mkOk_all k hk
  unfold mkOk at h
  simp only [Bool.and_eq_true, Bool.not_eq_true'] at h
  exact order_self _ _ h.2
def markC (k : Nat) : Value := .complex .f32 (mkC k) 1065353216

/-! ### Comparisons -/
end Go.Proofs.YtmiajfdhdpmeoaaGreatDoor
