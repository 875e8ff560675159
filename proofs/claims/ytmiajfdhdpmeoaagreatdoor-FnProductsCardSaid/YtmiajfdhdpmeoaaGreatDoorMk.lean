/-
  What the law writes into a list of int64 and looks for again: marks, whole numbers from k on. Condition: lengths below 2^31, marks below 2^33.
-/
import Derived.Test.YtmiajfdhdpmeoaaGreatDoorMa
namespace Go.Proofs.YtmiajfdhdpmeoaaGreatDoor
open Go.RowKit Go.Lib Go.Joins

theorem lt_of_rowIs {w : World} {g : Nat} {e : TypeId} {n : Nat} {f : Nat → Value} (h : w.rowIs g e n f) : g < w.heap.size := World.rowIs.lt h
/-- Of what stood, only the list at a has turned. -/
def TurnedV (a : Option Addr) (w w' : World) : Prop := ∀ j, j < w.heap.size → (∀ x, a = some x → x.block ≠ j) → w'.heap[j]? = w.heap[j]?
theorem rowV.lt {w : World} {e : TypeId} {B : Nat} {a : Option Addr} {us : List Value} (h : rowV w e B a us) (x : Addr) (hx : a = some x) : B ≤ x.block ∧ x.block < w.heap.size := by
  rcases h with ⟨rfl, _⟩ | ⟨g, rfl, hB, n, f, hn, hr, hf⟩
  · cases hx
  · cases hx; exact ⟨hB, lt_of_rowIs hr⟩
theorem rowV.stays {w w' : World} {e : TypeId} {B : Nat} {a : Option Addr} {us : List Value} (h : rowV w e B a us) (hb : Below w.heap.size w w') : rowV w' e B a us := by
  rcases h with h | ⟨g, rfl, hB, n, f, hn, hr, hf⟩
  · exact Or.inl h
  · exact Or.inr ⟨g, rfl, hB, n, f, hn, World.rowIs.of_block hr (hb.block _ (lt_of_rowIs hr)), hf⟩
theorem rowV.turned {w w' : World} {e : TypeId} {B : Nat} {a a' : Option Addr} {us : List Value} (h : rowV w e B a us) (ht : TurnedV a' w w') (hd : ∀ x y, a = some x → a' = some y → y.block ≠ x.block) : rowV w' e B a us := by
  rcases h with h | ⟨g, rfl, hB, n, f, hn, hr, hf⟩
  · exact Or.inl h
  · exact Or.inr ⟨g, rfl, hB, n, f, hn, World.rowIs.of_block hr (ht _ (lt_of_rowIs hr) fun y hy => hd _ y rfl hy), hf⟩
/-- n marks from k on. -/
def mvals (m : Nat → Value) (k n : Nat) : List Value := (List.range n).map fun i => m (k + i)
theorem mvals_len (m : Nat → Value) (k n : Nat) : (mvals m k n).length = n := by simp [mvals]
theorem mvals_get (m : Nat → Value) (k n i : Nat) (h : i < n) : (mvals m k n).getD i undef = m (k + i) := by
  unfold mvals
  rw [List.getD_eq_getElem?_getD, List.getElem?_map, List.getElem?_eq_getElem (by simpa using h)]
  simp
def markI (k : Nat) : Value := .int .i64 k

/-- A list of the call's own, for the laws that only read it. -/
theorem rowV.ils {w : World} {B : Nat} {a : Option Addr} {zs : List Int} (h : rowV w 2 B a (zs.map (Value.int .i64))) : ils w a zs := by
  intro i hi
  obtain ⟨g, rfl, _, hc⟩ := h.cell (i := i) (by simpa using hi)
  refine ⟨g, 0, rfl, ?_⟩
  rw [Nat.zero_add, hc, List.getD_eq_getElem?_getD, List.getElem?_map, List.getElem?_eq_getElem hi, List.getD_eq_getElem?_getD, List.getElem?_eq_getElem hi]
  rfl
end Go.Proofs.YtmiajfdhdpmeoaaGreatDoor
