/-
  Decimal in the reference: digits laid one before another; in the program: strconv.FormatInt's contract. Condition: the table internal/strconv.uint64pow10 reads as listed (for the program's).
-/
import Derived.Test.YtmiajfdhdpmeoaaGreatDoorShelf
import Derived.Test.YtmiajfdhdpmeoaaGreatDoorChecked
import Derived.Lib.ItoaNum
import Derived.Lib.ItoaMem
import Derived.Lib.ItoaLen
import Derived.Lib.UnsafeStr
import Derived.Lib.BufferWrite
import Derived.Lib.Hide
import Derived.WalkKit
import Derived.WalkLawsBesides
import Derived.Deep.LoopGhost
import Derived.OwnWalk
import Derived.Deep.AppendLies
import Derived.Laws.IdiomStrings
namespace Go.Proofs.YtmiajfdhdpmeoaaGreatDoor
open Go.RowKit Go.Lib

/-- Behind some rounds: l stands behind r's digits. -/
def Dig (u r : Nat) (l : List UInt8) : Prop := if r = 0 ∧ l ≠ [] then decDigits u = l else decDigits u = decDigits r ++ l
theorem Dig.start (u : Nat) : Dig u u [] := by unfold Dig; simp
theorem Dig.step {u r : Nat} {l : List UInt8} (h : Dig u r l) (hr : ¬ (r = 0 ∧ l ≠ [])) : Dig u (r / 10) (UInt8.ofNat (48 + r % 10) :: l) := by
  unfold Dig at h
  rw [if_neg hr] at h
  unfold Dig
  rw [decDigits.eq_1 r] at h
  by_cases h10 : r < 10
  · rw [dif_pos h10] at h
    have : r / 10 = 0 := by omega
    have e : r % 10 = r := by omega
    rw [if_pos ⟨this, by simp⟩, h, e]; rfl
  · rw [dif_neg h10] at h
    rw [if_neg (by omega), h]
    simp
theorem Dig.done {u r : Nat} {l : List UInt8} (h : Dig u r l) (hr : r = 0 ∧ l ≠ []) : decDigits u = l := by
  unfold Dig at h; rwa [if_pos hr] at h

/-! ### A list of bytes of the call's own -/
def ownB (w : World) (B : Nat) (v : Value) (l : List UInt8) : Prop := w.ownsRow B 5 1 v l.length (byteCells l)
theorem byteCells_len (l : List UInt8) : (byteCells l).length = l.length := by simp [byteCells]
theorem byteCells_get (l : List UInt8) (j : Nat) (h : j < l.length) : (byteCells l)[j]? = some (.int .u8 (l[j].toNat : Nat)) := by
  unfold byteCells
  rw [List.getElem?_map, List.getElem?_eq_getElem h]; rfl
theorem ownB.form {w : World} {B : Nat} {v : Value} {l : List UInt8} (h : ownB w B v l) (hn : 0 < l.length) : ∃ g cap, v = .slice (some ⟨g, 0, none⟩) l.length cap ∧ B ≤ g ∧ g < w.heap.size ∧ (∀ j u, (byteCells l)[j]? = some u → w.cell? ((⟨g, 0, none⟩ : Addr).add j) = some u) := by
  obtain ⟨g, cap, rfl, h1, h2⟩ := World.ownsRow.form h hn
  refine ⟨g, cap, rfl, h1, h2, fun j u hj => ?_⟩
  have hlt : j < l.length := by
    apply Nat.lt_of_not_le; intro hle
    rw [List.getElem?_eq_none (by rw [byteCells_len]; exact hle)] at hj; cases hj
  have e : (⟨g, 0, none⟩ : Addr).add j = ⟨g, j, none⟩ := by unfold Addr.add; split <;> simp_all
  rw [e, World.ownsRow.cellAt h j (by omega)]
  exact hj
theorem info_u8 : (Tryz.prog.info? 5).map (fun i => (i.zero, i.size, i.bytes)) = some (some (.int .u8 0), 1, 1) := by kernel_rfl

theorem lt_cell {w : World} {a : Addr} {v : Value} (h : w.cell? a = some v) : a.block < w.heap.size := by
  apply Nat.lt_of_not_le
  intro hge
  unfold World.cell? at h
  rw [Array.getElem?_eq_none hge] at h
  cases h

theorem ownB.cells {w : World} {B g n cap : Nat} {l : List UInt8} (h : ownB w B (.slice (some ⟨g, 0, none⟩) n cap) l) (hn : 0 < l.length) : ∀ j u, (byteCells l)[j]? = some u → w.cell? ((⟨g, 0, none⟩ : Addr).add j) = some u := by
  obtain ⟨g1, cap1, e, _, _, hc⟩ := h.form hn
  cases e
  exact hc
theorem conv_cells {w : World} {g n cap : Nat} {l : List UInt8} (hn : l.length = n) (hc : ∀ j u, (byteCells l)[j]? = some u → w.cell? ((⟨g, 0, none⟩ : Addr).add j) = some u) :
    (convert 22 9 (.slice (some ⟨g, 0, none⟩) n cap)).run Tryz.prog w = .ok (.string ⟨l.toArray⟩) w := by
  subst hn
  exact run_convert_bytes_back w 22 9 5 _ cap l Tryz.underlying22 Tryz.underlying5 Tryz.underlying9 (fun j hj => hc j _ (byteCells_get l j hj))

/-- A byte put before a list. -/
theorem wpList_append_before {ops : Array Oper} {rest : List Oper} {o : Oper} {a : Act} {Q : Exit → Act → World → Prop} (hgd : o.guard = none) (s x : Operand)
    (ho : o.op = .call { callee := .builtin .append, args := #[s, x], argTypes := #[22, 22] }) (B : Nat) (W : World) (z : Int) (b : UInt8) (hzb : z = (b.toNat : Nat)) (g g0 n c : Nat) (l : List UInt8)
    (hs : a.eval s = .slice (some ⟨g, 0, none⟩) 1 1) (hx : a.eval x = .slice (some ⟨g0, 0, none⟩) n c) (hg : W.heap.size = g) (hn : l.length = n)
    (hc : ∀ j u, (byteCells l)[j]? = some u → W.cell? ((⟨g0, 0, none⟩ : Addr).add j) = some u) (hB : B ≤ W.heap.size) (hl : n ≤ 1000000)
    (h : ∀ g' cap w', ownB w' B (.slice (some ⟨g', 0, none⟩) (n + 1) cap) (b :: l) → Below B W w' → wpList Tryz.prog ops Q rest (a.put o.dst (.slice (some ⟨g', 0, none⟩) (n + 1) cap)) w') :
    wpList Tryz.prog ops Q (o :: rest) a (W.alloc (.cells #[.int .u8 z] 5)) := by
  subst hg hn hzb
  obtain ⟨i0, hi, hz0, hz1, hz2⟩ := info_parts info_u8
  have hown : ownB (W.alloc (.cells #[.int .u8 (b.toNat : Nat)] 5)) B (.slice (some ⟨W.heap.size, 0, none⟩) 1 1) [b] :=
    World.ownsRow_lit W #[.int .u8 (b.toNat : Nat)] 1 hB (by decide) rfl
  refine wpList_append_own _ hgd s x 22 ho B 5 i0 (.int .u8 0) 1 1 Tryz.underlying22 hi hz0 hz1 hz2 rfl (by decide) _ 1 (byteCells [b]) hs hown ⟨g0, 0, none⟩ l.length c (byteCells l) hx (by rw [byteCells_len, Nat.mul_one]) ?_ (byteCells_one l) (by unfold maxLen; omega) (by omega) (by rw [World.size_alloc]; omega) ?_
  · intro j u hj
    have h5 := hc j u hj
    have h6 := lt_cell h5
    rw [((Below.refl W.heap.size W).alloc (Nat.le_refl _) (.cells #[.int .u8 (b.toNat : Nat)] 5)).cell h6]
    exact h5
  · intro v' w' h1 h2 _
    have h3 : ownB w' B v' (b :: l) := by
      unfold ownB
      rw [List.length_cons, Nat.add_comm]
      exact h1
    obtain ⟨g', cap, rfl, _⟩ := ownB.form h3 (by simp)
    exact h g' cap w' (by simpa using h3) (((Below.refl B W).alloc hB _).grown h2 (by rw [World.size_alloc]; omega) (fun k hk => (World.ownsRow.lt hown k hk).1))

theorem Dig.len {u r : Nat} {l : List UInt8} (h : Dig u r l) (hu : u ≤ 9223372036854775808) : l.length ≤ 21 := by
  have h1 : l.length ≤ (decDigits u).length := by
    unfold Dig at h; split at h <;> rw [h] <;> simp
  by_cases h0 : 1 ≤ u
  · have := itoa_length_le (-(u : Int)) (by omega) (by omega)
    rw [itoa_neg u h0, List.length_cons] at this
    omega
  · have : u = 0 := by omega
    subst this
    rw [decDigits.eq_1] at h1
    simp at h1
    omega

end Go.Proofs.YtmiajfdhdpmeoaaGreatDoor
