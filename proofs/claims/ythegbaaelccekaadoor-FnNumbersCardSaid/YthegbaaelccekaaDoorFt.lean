/-
  Slices of float32: what is read off one that came in or was made; the laws' own copies and comparisons of them. Condition: lengths below 2^31.
-/
import Derived.Test.YthegbaaelccekaaDoorFs
import Derived.Deep.LoopGhost
import Derived.Deep.OwnRows
import Derived.Deep.RegionWith
import Derived.Below
namespace Go.Proofs.YthegbaaelccekaaDoor
open Go.RowKit Ieee


section
open Go.Oper
variable (P : Program) (w : World) (a : Addr) (m : Mode)
@[go_sem] theorem run_store_float (k : FloatKind) (b : Nat) : (store a (.float k b) m).run P w = stored P w a (.float k b) m := run_store P w a _ m rfl
@[go_sem] theorem run_store_complex (k : FloatKind) (b c : Nat) : (store a (.complex k b c) m).run P w = stored P w a (.complex k b c) m := run_store P w a _ m rfl
end

theorem info_f32 : (Tryd.prog.info? 51).map (fun i => (i.zero, i.size, i.bytes)) = some (some (.float .f32 0), 1, 4) := by kernel_rfl

theorem lt_of_cell {w : World} {b o : Nat} {v : Value} (h : w.cell? ⟨b, o, none⟩ = some v) : b < w.heap.size := by
  apply Nat.lt_of_not_le
  intro hle
  simp [World.cell?, Array.getElem?_eq_none hle] at h

/-- Row b of the world holds these float32s. -/
def flr (w : World) (b : Nat) (xs : List Nat) : Prop := w.rowIs b 51 xs.length (fun i => .float .f32 (xs.getD i 0))

theorem laws_toFloat32S (a : Option Addr) (c1 : Nat) (xs : List Nat) (w : World) (ha : fls w a xs) (hx : xs.length < 2147483648) :
    Calls Tryd.prog 24 #[.slice a xs.length c1] w fun e w' => e = .returned (.slice (some ⟨w.heap.size, 0, none⟩) xs.length xs.length) ∧ Below w.heap.size w w' ∧ flr w' w.heap.size xs ∧ w'.heap.size = w.heap.size + 1 := by
  have ha' : ∀ i, i < xs.length → ∃ b' off, a = some ⟨b', off, none⟩ ∧ w.cell? ⟨b', off + i, none⟩ = some (.float .f32 (xs.getD i 0)) := fun i hi => ha i hi
  have HX : ∃ n, xs.length = n ∧ n < 2147483648 := ⟨_, rfl, hx⟩
  obtain ⟨n, hn, hx'⟩ := HX
  unfold flr
  rw [hn] at ha' ⊢
  have HA := Lib.hid ha'
  clear ha ha' hx hn
  have hmk := run_make_row' (P := Tryd.prog) 36 51 (.float .f32 0) 4 Tryd.underlying36 info_f32 rfl .i64 .i64 n (by omega) (by omega)
  go_enter Tryd.func24, Tryd.ntmps24
  go_wp2
  go_loopg [4] n (fun g i wr => ∃ j : Nat, g + j = n ∧ i = .int .i64 j ∧ Below w.heap.size w wr ∧ wr.heap.size = w.heap.size + 1 ∧ wr.rowIs w.heap.size 51 n (fun i => if i < j then .float .f32 (xs.getD i 0) else .float .f32 0))
  case atStart => exact ⟨0, by omega, rfl, (Below.refl _ _).alloc (Nat.le_refl _) _, by simp, (World.rowIs_made w (.float .f32 0) n 51).congr (fun i _ => rfl)⟩
  case round =>
    obtain ⟨j, hj, rfl, hbel, hsz, hrow⟩ := hrel
    by_cases hlt : j < n
    · obtain ⟨ba, oa, rfl, hca⟩ := HA.out j hlt
      have hba := lt_of_cell hca
      have hsrc : wr.cell? ⟨ba, oa + j, none⟩ = some (.float .f32 (xs.getD j 0)) := by rw [hbel.cell (p := ⟨ba, oa + j, none⟩) hba]; exact hca
      have hdst : wr.cell? ⟨w.heap.size, j, none⟩ = some (.float .f32 0) := (hrow.cell hlt).trans (by rw [if_neg (by omega)])
      have hfr := hrow.frozen j
      have HR := Lib.hid hrow
      have HS := Lib.hid hsz
      generalize hxj : xs.getD j 0 = x at hsrc
      have HXJ := Lib.hid hxj
      clear hrow hsz hca hxj
      go_wp2
      go_roundg (gk - 1)
      case measure => omega
      case rel =>
        refine ⟨j + 1, by omega, by go_num, hbel.setCell (Nat.le_refl _) _, by simpa [World.setCell] using HS.out, (HR.out.set j (.float .f32 x)).congr fun i hi => ?_⟩
        by_cases h1 : i = j
        · subst h1
          rw [if_pos (show i < i + 1 by omega), if_pos rfl, HXJ.out]
        · rw [if_neg h1]
          by_cases h2 : i < j
          · rw [if_pos h2, if_pos (by omega)]
          · rw [if_neg h2, if_neg (by omega)]
    · have hjn : j = n := by omega
      subst hjn
      go_wp2
      go_ret
      exact ⟨rfl, hbel, hrow.congr (fun i hi => by rw [if_pos hi]), hsz⟩
end Go.Proofs.YthegbaaelccekaaDoor
