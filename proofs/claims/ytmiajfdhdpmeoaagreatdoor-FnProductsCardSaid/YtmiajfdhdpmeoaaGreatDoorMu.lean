/-
  Slices of float32: what is read off one that came in or was made; the laws' own copies and comparisons of them. Condition: lengths below 2^31.
  Slices of float32: what is read off one that came in or was made; the laws' own copies and comparisons of them. Condition: lengths below 2^31.
  Slices of float32, on: what a copy leaves behind, for laws that only read; sums from left to right. Condition: lengths below 2^31.
-/
import Derived.Test.YtmiajfdhdpmeoaaGreatDoorCc
import Derived.Deep.LoopGhost
import Derived.Deep.OwnRows
import Derived.Deep.RegionWith
import Derived.Below
import Derived.WalkSmall
namespace Go.Proofs.YtmiajfdhdpmeoaaGreatDoor
open Go.RowKit Ieee

/-- The cells from an address on hold these float32s. -/
def fls (w : World) (a : Option Addr) (xs : List Nat) : Prop := ∀ i, i < xs.length → ∃ b off, a = some ⟨b, off, none⟩ ∧ w.cell? ⟨b, off + i, none⟩ = some (.float .f32 (xs.getD i 0))

theorem fls.drewN {w : World} {a : Option Addr} {xs : List Nat} (h : fls w a xs) (n : Nat) : fls (w.drewN n) a xs := h
theorem fls.below {B : Nat} {w w' : World} {a : Option Addr} {xs : List Nat} (h : fls w a xs) (hb : Below B w w') (ha : ∀ x, a = some x → x.block < B) : fls w' a xs := by
  intro i hi
  obtain ⟨b, off, e, hc⟩ := h i hi
  refine ⟨b, off, e, ?_⟩
  rw [hb.cell (p := ⟨b, off + i, none⟩) (ha ⟨b, off, none⟩ e)]
  exact hc

end Go.Proofs.YtmiajfdhdpmeoaaGreatDoor

namespace Go.Proofs.YtmiajfdhdpmeoaaGreatDoor
open Go.RowKit Ieee


section
open Go.Oper
variable (P : Program) (w : World) (a : Addr) (m : Mode)
@[go_sem] theorem run_store_float (k : FloatKind) (b : Nat) : (store a (.float k b) m).run P w = stored P w a (.float k b) m := run_store P w a _ m rfl
@[go_sem] theorem run_store_complex (k : FloatKind) (b c : Nat) : (store a (.complex k b c) m).run P w = stored P w a (.complex k b c) m := run_store P w a _ m rfl
end

theorem info_f32 : (Tryz.prog.info? 28).map (fun i => (i.zero, i.size, i.bytes)) = some (some (.float .f32 0), 1, 4) := by kernel_rfl

theorem lt_of_cell {w : World} {b o : Nat} {v : Value} (h : w.cell? ⟨b, o, none⟩ = some v) : b < w.heap.size := by
  apply Nat.lt_of_not_le
  intro hle
  simp [World.cell?, Array.getElem?_eq_none hle] at h

/-- Row b of the world holds these float32s. -/
def flr (w : World) (b : Nat) (xs : List Nat) : Prop := w.rowIs b 28 xs.length (fun i => .float .f32 (xs.getD i 0))

end Go.Proofs.YtmiajfdhdpmeoaaGreatDoor

namespace Go.Proofs.YtmiajfdhdpmeoaaGreatDoor
open Go.RowKit Ieee

theorem fls.stays {w w' : World} {a : Option Addr} {xs : List Nat} (h : fls w a xs) (hb : Below w.heap.size w w') : fls w' a xs := by
  intro i hi
  obtain ⟨b, off, e, hc⟩ := h i hi
  refine ⟨b, off, e, ?_⟩
  rw [hb.cell (p := ⟨b, off + i, none⟩) (lt_of_cell hc)]
  exact hc
theorem flr.fls {w : World} {b : Nat} {xs : List Nat} (h : flr w b xs) : fls w (some ⟨b, 0, none⟩) xs := by
  intro i hi
  refine ⟨b, 0, rfl, ?_⟩
  rw [Nat.zero_add]
  exact World.rowIs.cell h hi

/-! ### Sums -/
/-- The sum of the first j. -/
def sumS (xs : List Nat) : Nat → Option Nat
  | 0 => some 0
  | j + 1 => fop .add .f32 (sumS xs j) (fv .f32 (xs.getD j 0))

theorem fv_addS (x y : Nat) (w : World) : fv .f32 (fval .add .f32 x y w) = fop .add .f32 (fv .f32 x) (fv .f32 y) := fv_fval ..
theorem fv_mulS (x y : Nat) (w : World) : fv .f32 (fval .mul .f32 x y w) = fop .mul .f32 (fv .f32 x) (fv .f32 y) := fv_fval ..
theorem fv_zeroS : fv .f32 0 = some 0 := by decide +kernel

/-- The sum of the first j products. -/
def dotS (xs ys : List Nat) : Nat → Option Nat
  | 0 => some 0
  | j + 1 => fop .add .f32 (dotS xs ys j) (fop .mul .f32 (fv .f32 (xs.getD j 0)) (fv .f32 (ys.getD j 0)))

end Go.Proofs.YtmiajfdhdpmeoaaGreatDoor
