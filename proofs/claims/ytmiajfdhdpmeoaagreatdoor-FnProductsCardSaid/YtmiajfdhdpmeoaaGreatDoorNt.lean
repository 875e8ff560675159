/-
  NumbersText in the reference and in the program; its law's walk. Condition: the table math/bits.deBruijn64tab reads as listed; a list longer than 2^20 is not asked.
-/
import Derived.Test.YtmiajfdhdpmeoaaGreatDoorHv
import Derived.Test.YtmiajfdhdpmeoaaGreatDoorJn
import Derived.Test.YtmiajfdhdpmeoaaGreatDoorMu
namespace Go.Proofs.YtmiajfdhdpmeoaaGreatDoor
open Go.RowKit Go.Lib Go.Joins

def hexX (x : Nat) : List UInt8 := hexL 8 (bitsN x)
def hexs (xs : List Nat) : List (List UInt8) := xs.map hexX
theorem hexs_len (xs : List Nat) : (hexs xs).length = xs.length := by simp [hexs]
theorem hexs_short (xs : List Nat) : ∀ l ∈ hexs xs, l.length ≤ 21 := by
  intro l hl
  obtain ⟨x, _, rfl⟩ := List.mem_map.1 hl
  unfold hexX; rw [hexL_len]; decide
theorem hexs_get {xs : List Nat} {i : Nat} (h : i < xs.length) : (hexs xs).getD i [] = hexX (xs.getD i 0) := getD_map hexX xs i 0 [] h
/-- The text of a list. -/
def textF (xs : List Nat) : ByteArray := ⟨(textA (hexs xs)).toArray⟩
def outF (xs : List Nat) (n : Nat) : ByteArray := if n ≤ 256 then textF xs else ⟨#[]⟩
def lt32 (xs : List Nat) : Prop := ∀ i, i < xs.length → xs.getD i 0 < 4294967296

theorem fls.under {B : Nat} {w w' : World} {a : Option Addr} {xs : List Nat} (h : fls w a xs) (hb : Below B w w') (hB : w.heap.size ≤ B) : fls w' a xs := h.stays (hb.mono hB)

end Go.Proofs.YtmiajfdhdpmeoaaGreatDoor
