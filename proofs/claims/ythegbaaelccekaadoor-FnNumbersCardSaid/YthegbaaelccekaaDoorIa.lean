/-
  Lists of int64: arguments opened; the laws' own copies and comparisons of them. Condition: lengths below 2^31.
-/
import Derived.Test.YthegbaaelccekaaDoorDc
import Derived.Deep.OwnRows
import Derived.Deep.Slices
import Derived.Laws.Cover2
import Derived.Below
namespace Go.Proofs.YthegbaaelccekaaDoor
open Go.RowKit Go.ChangeShapes Go.WideShapes Go.Deep Go.Joins

/-- The cells from a on hold these integers. -/
def ils (w : World) (a : Option Addr) (zs : List Int) : Prop := ∀ i, i < zs.length → ∃ b off, a = some ⟨b, off, none⟩ ∧ w.cell? ⟨b, off + i, none⟩ = some (.int .i64 (zs.getD i 0))
theorem ils.on {B : Nat} {w w' : World} {a : Option Addr} {zs : List Int} (h : ils w a zs) (hb : Below B w w') (hB : w.heap.size ≤ B) : ils w' a zs := by
  intro i hi
  obtain ⟨b, off, e, hc⟩ := h i hi
  refine ⟨b, off, e, ?_⟩
  have := lt_cell hc
  rw [hb.cell (p := ⟨b, off + i, none⟩) (show b < B from Nat.lt_of_lt_of_le this hB)]
  exact hc

section
variable {H : Type} {enc : TypeId × Value → H} {w : World} {base b0 : Nat} {spare : Nat → Bool} {held : Bool}
set_option maxRecDepth 10000 in
theorem open_ints64 {v : Value} {d : DataW H} {ps : List MemPlace} (hv : Value.okWide Tryd.prog w .any b0 27 v) (h : DataW.Trod enc Tryd.prog w base spare held 27 v d ps) :
    ∃ (a : Option Addr) (n c : Nat) (zs : List Int), v = .slice a n c ∧ zs.length = n ∧ ils w a zs ∧ (∀ i, i < n → -9223372036854775808 ≤ zs.getD i 0 ∧ zs.getD i 0 ≤ 9223372036854775807) ∧ n < 9223372036854775808 := by
  obtain ⟨a, len, cap, rfl⟩ := okWide_slice Tryd.underlying27 hv
  obtain ⟨fuel, hf⟩ := h
  rcases open_slice1 Tryd.underlying27 (by kernel_rfl) hf with ⟨hc, _⟩ | ⟨a, len, cap, m, n, V, D, Pl, hc, _, hl, hmx, hm, _, hall⟩
  · simp only [Value.cells, List.cons.injEq, and_true] at hc
    cases hc
    exact ⟨none, 0, 0, [], rfl, rfl, fun i hi => absurd hi (Nat.not_lt_zero _), fun i hi => absurd hi (Nat.not_lt_zero _), by omega⟩
  · simp only [Value.cells, List.cons.injEq, and_true] at hc
    cases hc
    have hlm : len ≤ m := by rw [hm]; split <;> omega
    have hB : ∀ i, i < len → ∃ b : Int, V i = .int .i64 b ∧ (-9223372036854775808 ≤ b ∧ b ≤ 9223372036854775807) := fun i hi => by
      obtain ⟨b, hb, _, hw⟩ := DataW.trod_int Tryd.underlying2 (hall i (by omega)).2
      simp only [List.cons.injEq, and_true] at hb
      have h3 : IntKind.i64.min ≤ b ∧ b ≤ IntKind.i64.max := by simpa [Lit.wf] using hw
      rw [show IntKind.i64.min = -9223372036854775808 from by kernel_rfl, show IntKind.i64.max = 9223372036854775807 from by kernel_rfl] at h3
      exact ⟨b, hb, h3⟩
    obtain ⟨X, hX⟩ := choose_lt hB
    obtain ⟨b, off, spot⟩ := a
    refine ⟨some ⟨b, off, spot⟩, len, cap, (List.range len).map X, rfl, by simp, fun i hi => ?_, fun i hi => ?_, Nat.lt_of_le_of_lt (Nat.le_trans hl hmx) (by decide +kernel)⟩
    · have hi' : i < len := by simpa using hi
      have hc := (hall i (by omega)).1
      have hspot : spot = none := by simpa [Addr.add] using World.cell?_spot (hall 0 (by omega)).1
      subst hspot
      refine ⟨b, off, rfl, ?_⟩
      rw [(hX i hi').1] at hc
      have e : ((List.range len).map X).getD i 0 = X i := by simp [List.getD, hi']
      rw [e]
      simpa [Addr.add_lit] using hc
    · have e : ((List.range len).map X).getD i 0 = X i := by simp [List.getD, hi]
      rw [e]
      exact (hX i hi).2
end

theorem info_i64 : (Tryd.prog.info? 2).map (fun i => (i.zero, i.size, i.bytes)) = some (some (.int .i64 0), 1, 8) := by kernel_rfl
/-- Row b holds these integers. -/
def ilr (w : World) (b : Nat) (zs : List Int) : Prop := w.rowIs b 2 zs.length (fun i => .int .i64 (zs.getD i 0))
theorem ilr.ils {w : World} {b : Nat} {zs : List Int} (h : ilr w b zs) : ils w (some ⟨b, 0, none⟩) zs := fun i hi => ⟨b, 0, rfl, by rw [Nat.zero_add]; exact h.cell hi⟩

theorem laws_toInt64S (a : Option Addr) (n c : Nat) (zs : List Int) (w : World) (hn : zs.length = n) (ha : Hid (ils w a zs)) (hx : n < 2147483648) :
    Calls Tryd.prog 16 #[.slice a n c] w fun e w' => e = .returned (.slice (some ⟨w.heap.size, 0, none⟩) n n) ∧ Below w.heap.size w w' ∧ ilr w' w.heap.size zs ∧ w'.heap.size = w.heap.size + 1 := by
  have ha' : ∀ i, i < n → ∃ b' off, a = some ⟨b', off, none⟩ ∧ w.cell? ⟨b', off + i, none⟩ = some (.int .i64 (zs.getD i 0)) := fun i hi => ha.out i (by omega)
  unfold ilr
  rw [hn]
  have HA := Lib.hid ha'
  clear ha' hn ha
  have hmk := run_make_row' (P := Tryd.prog) 27 2 (.int .i64 0) 8 Tryd.underlying27 info_i64 rfl .i64 .i64 n (by omega) (by omega)
  go_enter Tryd.func16, Tryd.ntmps16
  go_wp2
  go_loopg [4] n (fun g i wr => ∃ j : Nat, g + j = n ∧ i = .int .i64 j ∧ Below w.heap.size w wr ∧ wr.heap.size = w.heap.size + 1 ∧ wr.rowIs w.heap.size 2 n (fun i => if i < j then .int .i64 (zs.getD i 0) else .int .i64 0))
  case atStart => exact ⟨0, by omega, rfl, (Below.refl _ _).alloc (Nat.le_refl _) _, by simp, (World.rowIs_made w (.int .i64 0) n 2).congr (fun i _ => rfl)⟩
  case round =>
    obtain ⟨j, hj, rfl, hbel, hsz, hrow⟩ := hrel
    by_cases hlt : j < n
    · obtain ⟨ba, oa, rfl, hca⟩ := HA.out j hlt
      have hba := lt_cell hca
      have hsrc : wr.cell? ⟨ba, oa + j, none⟩ = some (.int .i64 (zs.getD j 0)) := by rw [hbel.cell (p := ⟨ba, oa + j, none⟩) hba]; exact hca
      have hdst : wr.cell? ⟨w.heap.size, j, none⟩ = some (.int .i64 0) := (hrow.cell hlt).trans (by rw [if_neg (by omega)])
      have hfr := hrow.frozen j
      have HR := Lib.hid hrow
      have HS := Lib.hid hsz
      generalize hxj : zs.getD j 0 = x at hsrc
      have HXJ := Lib.hid hxj
      clear hrow hsz hca hxj
      go_wp2
      go_roundg (gk - 1)
      case measure => omega
      case rel =>
        refine ⟨j + 1, by omega, by go_num, hbel.setCell (Nat.le_refl _) _, by simpa [World.setCell] using HS.out, (HR.out.set j (.int .i64 x)).congr fun i hi => ?_⟩
        by_cases h1 : i = j
        · subst h1
          rw [if_pos (show i < i + 1 by omega), if_pos rfl, HXJ.out]
        · rw [if_neg h1]
          by_cases h2 : i < j
          · rw [if_pos h2, if_pos (by omega)]
          · rw [if_neg h2, if_neg (by omega)]
    · have hjn : j = n := by omega
      subst hjn
      go_wp2
      go_ret
      exact ⟨rfl, hbel, hrow.congr (fun i hi => by rw [if_pos hi]), hsz⟩

theorem laws_eqInt64S (a b : Option Addr) (n c1 c2 : Nat) (zs : List Int) (w : World) (hn : zs.length = n) (ha : Hid (ils w a zs)) (hb : Hid (ils w b zs)) (hx : n < 2147483648) :
    Calls Tryd.prog 18 #[.slice a n c1, .slice b n c2] w fun e w' => e = .returned (.bool true) ∧ ∃ m, w' = w.drewN m := by
  have ha' : ∀ i, i < n → ∃ b' off, a = some ⟨b', off, none⟩ ∧ w.cell? ⟨b', off + i, none⟩ = some (.int .i64 (zs.getD i 0)) := fun i hi => ha.out i (by omega)
  have hb' : ∀ i, i < n → ∃ b' off, b = some ⟨b', off, none⟩ ∧ w.cell? ⟨b', off + i, none⟩ = some (.int .i64 (zs.getD i 0)) := fun i hi => hb.out i (by omega)
  have HA := Lib.hid ha'
  have HB := Lib.hid hb'
  clear ha' hb' hn ha hb
  go_enter Tryd.func18, Tryd.ntmps18
  go_wp2
  go_loopg [5] n (fun g i wr => ∃ j m : Nat, g + j = n ∧ i = .int .i64 j ∧ wr = w.drewN m)
  case atStart => exact ⟨0, 0, by omega, rfl, rfl⟩
  case round =>
    obtain ⟨j, m, hj, rfl, rfl⟩ := hrel
    by_cases hlt : j < n
    · obtain ⟨ba, oa, rfl, hca⟩ := HA.out j hlt
      obtain ⟨bb, ob, rfl, hcb⟩ := HB.out j hlt
      generalize zs.getD j 0 = x at hca hcb
      go_wp2
      go_region
      all_goals
        go_wp2
        go_roundg (gk - 1)
        case measure => omega
        case rel => exact ⟨j + 1, _, by omega, by go_num, rfl⟩
    · have hjn : j = n := by omega
      subst hjn
      go_wp2
      go_ret
      exact ⟨rfl, _, rfl⟩
end Go.Proofs.YthegbaaelccekaaDoor
