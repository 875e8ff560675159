/-
  Slices of float32: what is read off one that came in or was made; the laws' own copies and comparisons of them. Condition: lengths below 2^31.
-/
import Derived.Test.YthegbaaelccekaaDoorCc
import Derived.Deep.LoopGhost
import Derived.Deep.OwnRows
import Derived.Deep.RegionWith
import Derived.Below
namespace Go.Proofs.YthegbaaelccekaaDoor
open Go.RowKit Ieee

/-- The cells from an address on hold these float32s. -/
def fls (w : World) (a : Option Addr) (xs : List Nat) : Prop := ∀ i, i < xs.length → ∃ b off, a = some ⟨b, off, none⟩ ∧ w.cell? ⟨b, off + i, none⟩ = some (.float .f32 (xs.getD i 0))

theorem fls.drewN {w : World} {a : Option Addr} {xs : List Nat} (h : fls w a xs) (n : Nat) : fls (w.drewN n) a xs := h
theorem fls.below {B : Nat} {w w' : World} {a : Option Addr} {xs : List Nat} (h : fls w a xs) (hb : Below B w w') (ha : ∀ x, a = some x → x.block < B) : fls w' a xs := by
  intro i hi
  obtain ⟨b, off, e, hc⟩ := h i hi
  refine ⟨b, off, e, ?_⟩
  rw [hb.cell (p := ⟨b, off + i, none⟩) (ha ⟨b, off, none⟩ e)]
  exact hc

set_option maxHeartbeats 2000000 in
theorem laws_eqFloat32S (a b : Option Addr) (c1 c2 : Nat) (xs ys : List Nat) (w : World) (ha : fls w a xs) (hb : fls w b ys) (hx : xs.length < 2147483648) (h : xs.map (fv .f32) = ys.map (fv .f32)) :
    Calls Tryd.prog 26 #[.slice a xs.length c1, .slice b ys.length c2] w fun e w' => e = .returned (.bool true) ∧ ∃ n, w' = w.drewN n := by
  have hl : ys.length = xs.length := by have := congrArg List.length h; simpa using this.symm
  have hv : ∀ i, i < xs.length → fv .f32 (xs.getD i 0) = fv .f32 (ys.getD i 0) := by
    intro i hi
    have := congrArg (fun l => l[i]?) h
    simp only [List.getElem?_map] at this
    rw [List.getElem?_eq_getElem hi, List.getElem?_eq_getElem (by omega)] at this
    simp only [Option.map_some, Option.some.injEq] at this
    rw [List.getD_eq_getElem?_getD, List.getD_eq_getElem?_getD, List.getElem?_eq_getElem hi, List.getElem?_eq_getElem (by omega)]
    exact this
  rw [hl]
  have hb' : ∀ i, i < xs.length → ∃ b' off, b = some ⟨b', off, none⟩ ∧ w.cell? ⟨b', off + i, none⟩ = some (.float .f32 (ys.getD i 0)) := fun i hi => hb i (by omega)
  clear h hl hb
  have ha' : ∀ i, i < xs.length → ∃ b' off, a = some ⟨b', off, none⟩ ∧ w.cell? ⟨b', off + i, none⟩ = some (.float .f32 (xs.getD i 0)) := fun i hi => ha i hi
  have V := Lib.hid hv
  have HA := Lib.hid ha'
  have HB := Lib.hid hb'
  clear hv ha ha' hb'
  have HX : ∃ n, xs.length = n ∧ n < 2147483648 := ⟨_, rfl, hx⟩
  obtain ⟨n, hn, hx'⟩ := HX
  rw [hn] at V HA HB ⊢
  clear hn hx
  go_enter Tryd.func26, Tryd.ntmps26
  go_wp2
  go_loopg [5] n (fun g i wr => ∃ (j : Nat) (m : Nat), g + j = n ∧ i = .int .i64 j ∧ wr = w.drewN m)
  case atStart => exact ⟨0, 0, by omega, rfl, rfl⟩
  case round =>
    obtain ⟨j, m, hj, rfl, rfl⟩ := hrel
    by_cases hlt : j < n
    · obtain ⟨ba, oa, rfl, hca⟩ := HA.out j hlt
      obtain ⟨bb, ob, rfl, hcb⟩ := HB.out j hlt
      have hv := V.out j hlt
      generalize xs.getD j 0 = x at hca hv
      generalize ys.getD j 0 = y at hcb hv
      have hv' : ∀ w1 w2, fv .f64 (wval x w1) = fv .f64 (wval y w2) := fun w1 w2 => by rw [fv_wval, fv_wval, hv]
      have HV := Lib.hid hv'
      clear hv hv'
      go_wp2
      go_region_with (go_at_call 64; refine (laws_sameFloat _ _ _ (HV.out _ _)).mono ?_; rintro e w' ⟨rfl, q, rfl⟩)
      all_goals
        go_wp2
        go_roundg (gk - 1)
        case measure => omega
        case rel => exact ⟨j + 1, _, by omega, by go_num, rfl⟩
    · go_wp2
      go_ret
      exact ⟨rfl, _, rfl⟩
end Go.Proofs.YthegbaaelccekaaDoor
