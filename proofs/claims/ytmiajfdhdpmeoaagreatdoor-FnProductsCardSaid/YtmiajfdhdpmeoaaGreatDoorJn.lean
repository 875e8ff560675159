/-
  Texts joined by ",": step by step, and by strings.Join. Condition: texts of at most 21 bytes, at most 256 of them (for strings.Join).
-/
import Derived.Test.YtmiajfdhdpmeoaaGreatDoorMa
namespace Go.Proofs.YtmiajfdhdpmeoaaGreatDoor
open Go.RowKit Go.Lib Go.Joins

/-- The text of the first j. -/
def textK (L : List (List UInt8)) (j : Nat) : List UInt8 := join (L.take j) [44]
def textA (L : List (List UInt8)) : List UInt8 := if L = [] then noneL else join L [44]
theorem textK_step {L : List (List UInt8)} {j : Nat} (h0 : 1 ≤ j) (h : j < L.length) : textK L (j + 1) = textK L j ++ (44 :: L.getD j []) := by
  unfold textK
  rcases L with _ | ⟨z, r⟩
  · simp at h
  · obtain ⟨k, rfl⟩ : ∃ k, j = k + 1 := ⟨j - 1, by omega⟩
    have hk : k < r.length := by simpa using h
    rw [List.take_succ_cons, List.take_succ_cons, join_cons, join_cons,
      joinTail_take_succ [44] r k (r.getD k []) (by rw [List.getD_eq_getElem?_getD, List.getElem?_eq_getElem hk]; rfl)]
    simp
theorem textK_one {L : List (List UInt8)} (h : 1 ≤ L.length) : textK L 1 = L.getD 0 [] := by
  rcases L with _ | ⟨z, r⟩
  · simp at h
  · unfold textK; rw [List.take_succ_cons, List.take_zero, join_one]; rfl
theorem textK_all {L : List (List UInt8)} (h : 1 ≤ L.length) : textK L L.length = textA L := by
  unfold textK textA
  rw [List.take_length, if_neg (by intro e; rw [e] at h; simp at h)]
theorem getD_map {α β : Type} (f : α → β) (l : List α) (i : Nat) (d : α) (e : β) (h : i < l.length) : (l.map f).getD i e = f (l.getD i d) := by
  rw [List.getD_eq_getElem?_getD, List.getElem?_map, List.getElem?_eq_getElem h, List.getD_eq_getElem?_getD, List.getElem?_eq_getElem h]; rfl
/-- strings.Join of texts that lie in a row. -/
theorem join_texts (g n : Nat) (L : List (List UInt8)) (W : World) (hn : L.length = n) (h0 : 0 < n) (hx : n ≤ 256) (hv : ∀ l ∈ L, l.length ≤ 21) (hr : Hid (W.rowIs g 9 n (fun i => .string ⟨(L.getD i []).toArray⟩))) :
    Calls Tryz.prog 36 #[.slice (some ⟨g, 0, none⟩) n n, .string ⟨#[44]⟩] W fun e w' => e = .returned (.string ⟨(textA L).toArray⟩) ∧ Below W.heap.size W w' := by
  have e1 : (L.map (fun l => (⟨l.toArray⟩ : ByteArray))).length = n := by simp [hn]
  have e2 : ((L.map (fun l => (⟨l.toArray⟩ : ByteArray))).map (·.data.toList)) = L := by
    rw [List.map_map]
    conv => rhs; rw [← List.map_id L]
    exact List.map_congr_left (fun z _ => by simp)
  have hz : L ≠ [] := by rintro rfl; simp at hn; omega
  have hlen : (join L [44]).length ≤ 22 * n := by rw [← hn]; exact join_le hv
  have := Tryz.strings_Join g 0 n (L.map (fun l => (⟨l.toArray⟩ : ByteArray))) ⟨#[44]⟩ W (fun j x hj => by
      have hj2 : j < n := by
        apply Nat.lt_of_not_le; intro hle
        rw [List.getElem?_eq_none (by rw [e1]; exact hle)] at hj; cases hj
      rw [Nat.zero_add, hr.out.cell hj2]
      rw [List.getElem?_map, List.getElem?_eq_getElem (by omega)] at hj
      rw [List.getD_eq_getElem?_getD, List.getElem?_eq_getElem (by omega)]
      simp only [Option.map_some, Option.some.injEq, Option.getD_some] at hj ⊢
      rw [hj]) hr.out.lt (by rw [e1]; omega) (by rw [e1]; exact Nat.le_refl _) (by rw [e2]; show (join L [44]).length ≤ _; omega)
  rw [e1, e2] at this
  have ht : textA L = join L [44] := if_neg hz
  rw [ht]
  exact this
end Go.Proofs.YtmiajfdhdpmeoaaGreatDoor
