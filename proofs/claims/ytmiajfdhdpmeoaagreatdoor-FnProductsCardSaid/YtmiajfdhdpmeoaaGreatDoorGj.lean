/-
  A text of complex numbers is read back. Plain Lean but for the words it uses. No condition.
-/
import Derived.Test.YtmiajfdhdpmeoaaGreatDoorMg
import Derived.Test.YtmiajfdhdpmeoaaGreatDoorNn
import Derived.Test.YtmiajfdhdpmeoaaGreatDoorMc
namespace Go.Proofs.YtmiajfdhdpmeoaaGreatDoor
open Go.RowKit Go.Lib Go.Joins

/-- The text of one complex number. -/
def hexC2 (x y : Nat) : ByteArray := ⟨(hexX x ++ hexX y).toArray⟩
theorem hexX_len (x : Nat) : (hexX x).length = 8 := hexL_len 8 _
theorem hexC2_size (x y : Nat) : (hexC2 x y).size = 16 := by
  show (hexX x ++ hexX y).toArray.size = 16
  rw [List.size_toArray, List.length_append, hexX_len, hexX_len]
theorem hexC2_ok {x y : Nat} (hx : x < 4294967296) (hy : y < 4294967296) : okC 2 (hexC2 x y) = true ∧ numC 2 (hexC2 x y) = [bitsN x, bitsN y] := by
  obtain ⟨h1, h2⟩ := okC_two (hexC2_size x y)
  have e : (hexC2 x y).data.toList = hexX x ++ hexX y := by simp [hexC2]
  have e0 : ck (hexX x ++ hexX y) 0 = hexX x := by
    unfold ck
    rw [Nat.mul_zero, List.drop_zero, List.take_append_of_le_length (by rw [hexX_len]; omega), List.take_of_length_le (by rw [hexX_len]; omega)]
  have e1 : ck (hexX x ++ hexX y) 1 = hexX y := by
    unfold ck
    rw [show 8 * 1 = (hexX x).length by rw [hexX_len], List.drop_left, List.take_of_length_le (by rw [hexX_len]; omega)]
  rw [e, e0, e1] at h1 h2
  rw [h1, h2, (hexX_ok hx).1, (hexX_ok hx).2, (hexX_ok hy).1, (hexX_ok hy).2]
  exact ⟨rfl, rfl⟩
/-- The pieces of a text. -/
def pcC (xs : List Nat) (n : Nat) : List ByteArray := (List.range n).map fun i => hexC2 (xs.getD (2 * i) 0) (xs.getD (2 * i + 1) 0)
theorem pcC_get (xs : List Nat) {n i : Nat} (h : i < n) : (pcC xs n).getD i ⟨#[]⟩ = hexC2 (xs.getD (2 * i) 0) (xs.getD (2 * i + 1) 0) := by
  unfold pcC
  rw [List.getD_eq_getElem?_getD, List.getElem?_map, List.getElem?_eq_getElem (by simpa using h)]
  simp
theorem hexZ_step (xs : List Nat) (n : Nat) : ∃ r, hexZ xs (n + 1) = (hexX (xs.getD 0 0) ++ hexX (xs.getD 1 0)) :: r ∧ (∀ l ∈ r, ∀ c ∈ l, c ≠ 44) ∧ ∀ c ∈ hexX (xs.getD 0 0) ++ hexX (xs.getD 1 0), c ≠ 44 := by
  have hm : ∀ x y : Nat, ∀ c ∈ hexX x ++ hexX y, c ≠ 44 := fun x y c hc => by
    rcases List.mem_append.1 hc with h | h
    · exact hexL_mark 8 _ c h
    · exact hexL_mark 8 _ c h
  refine ⟨(List.range n).map fun i => hexX (xs.getD (2 * (i + 1)) 0) ++ hexX (xs.getD (2 * (i + 1) + 1) 0), ?_, fun l hl => ?_, hm _ _⟩
  · unfold hexZ
    rw [List.range_succ_eq_map, List.map_cons, List.map_map]
    rfl
  · obtain ⟨i, _, rfl⟩ := List.mem_map.1 hl
    exact hm _ _
theorem read_textC {xs : List Nat} {n : Nat} (hl : lt32 xs) (hxn : xs.length = 2 * n) (hn : n ≤ 256) : okS 2 (textC xs n) = true ∧ numS 2 (textC xs n) = xs.map bitsN := by
  cases n with
  | zero =>
    obtain rfl : xs = [] := List.eq_nil_of_length_eq_zero hxn
    have h : isNone (textC [] 0) := rfl
    exact ⟨if_pos h, if_pos h⟩
  | succ n =>
    obtain ⟨r, hr, hr1, hr2⟩ := hexZ_step xs n
    have hne : hexZ xs (n + 1) ≠ [] := by rw [hr]; simp
    have hd : (textC xs (n + 1)).data.toList = join (hexZ xs (n + 1)) [44] := by
      unfold textC textA
      rw [if_neg hne]
    have hcut : cutL (textC xs (n + 1)).data.toList = hexZ xs (n + 1) := by
      rw [hd, hr, join_cons]
      exact cut_tail r _ hr2 hr1
    have hnone : ¬ isNone (textC xs (n + 1)) := by
      intro h
      rw [h] at hcut
      have e : cutL noneL = [noneL] := by decide
      rw [e, hr] at hcut
      have h1 : noneL = hexX (xs.getD 0 0) ++ hexX (xs.getD 1 0) := (List.cons.inj hcut).1
      have h2 := congrArg List.length h1
      rw [List.length_append, hexX_len, hexX_len] at h2
      exact absurd h2 (by decide)
    have hp : pcC xs (n + 1) = pcs (textC xs (n + 1)) := pcs_of (by
      rw [hcut]
      unfold pcC hexZ
      rw [List.map_map]
      exact List.map_congr_left (fun i _ => by simp [hexC2]))
    have hpl : (pcC xs (n + 1)).length = n + 1 := by simp [pcC]
    have hlen : (pcs (textC xs (n + 1))).length = n + 1 := by rw [← hp, hpl]
    have hone : ∀ i, i < n + 1 → okC 2 ((pcs (textC xs (n + 1))).getD i ⟨#[]⟩) = true := by
      intro i hi
      rw [← hp, pcC_get xs hi]
      exact (hexC2_ok (hl _ (by omega)) (hl _ (by omega))).1
    have hG : okG 2 (pcs (textC xs (n + 1))) (pcs (textC xs (n + 1))).length = true := okG_all _ (fun i hi => hone i (by omega))
    obtain ⟨h1, h2⟩ := okF_all (tg := 2) (Ps := pcs (textC xs (n + 1))) (by omega) hG
    refine ⟨(if_neg hnone).trans h1, (if_neg hnone).trans (h2.trans ?_)⟩
    have key : ∀ k, k ≤ n + 1 → numG 2 (pcs (textC xs (n + 1))) k = (xs.take (2 * k)).map bitsN := by
      intro k
      induction k with
      | zero => intro _; rfl
      | succ k ih =>
        intro hk
        rw [numG_step (by omega), ih (by omega), ← hp, pcC_get xs (by omega), (hexC2_ok (hl _ (by omega)) (hl _ (by omega))).2, take_two (m := n + 1) hxn (by omega), List.map_append]
        rfl
    rw [hlen, key _ (Nat.le_refl _), List.take_of_length_le (by omega)]
theorem textC_size {xs : List Nat} {n : Nat} (hn : n ≤ 256) : (textC xs n).size ≤ 1048576 := by
  have h := join_le (hexZ_short xs n)
  unfold textC textA
  by_cases he : hexZ xs n = []
  · rw [if_pos he]; decide
  · rw [if_neg he]
    show (join (hexZ xs n) [44]).toArray.size ≤ _
    rw [List.size_toArray]
    rw [hexZ_len] at h
    omega
end Go.Proofs.YtmiajfdhdpmeoaaGreatDoor
