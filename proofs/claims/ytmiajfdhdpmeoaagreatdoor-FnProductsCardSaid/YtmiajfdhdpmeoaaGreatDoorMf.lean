/-
  What the law writes into a list of float32 and looks for again: marks, whole numbers from k on. Condition: lengths below 2^31, marks below 2^33.
-/
import Derived.Test.YtmiajfdhdpmeoaaGreatDoorMk
import Derived.Test.YtmiajfdhdpmeoaaGreatDoorMu
namespace Go.Proofs.YtmiajfdhdpmeoaaGreatDoor
open Go.RowKit Go.Lib Go.Joins Ieee

/-- The mark k. -/
def mk32 (k : Nat) : Nat := floatOfInt .f32 k
theorem mk32_self (k : Nat) : FloatKind.f32.format.order (mk32 k) (mk32 k) = some .eq := order_self _ _ (read_write_notNaN single (.number (decide ((k : Int) < 0)) (k : Int).natAbs 0) rfl)
def markF (k : Nat) : Value := .float .f32 (mk32 k)

theorem rowV.fls {w : World} {B : Nat} {a : Option Addr} {xs : List Nat} (h : rowV w 28 B a (xs.map (Value.float .f32))) : fls w a xs := by
  intro i hi
  obtain ⟨g, rfl, _, hc⟩ := h.cell (i := i) (by simpa using hi)
  refine ⟨g, 0, rfl, ?_⟩
  rw [Nat.zero_add, hc, List.getD_eq_getElem?_getD, List.getElem?_map, List.getElem?_eq_getElem hi, List.getD_eq_getElem?_getD, List.getElem?_eq_getElem hi]
  rfl
end Go.Proofs.YtmiajfdhdpmeoaaGreatDoor
