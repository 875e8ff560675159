/-
  A text of numbers is read back; flushed numbers; equal values have equal bits; a number widened and narrowed is itself. Plain Lean but for the words it uses. No condition.
-/
import Derived.Test.YtmiajfdhdpmeoaaGreatDoorMr
import Derived.Test.YtmiajfdhdpmeoaaGreatDoorNt
import Derived.Test.YtmiajfdhdpmeoaaGreatDoorLa
namespace Go.Proofs.YtmiajfdhdpmeoaaGreatDoor
open Go.RowKit Go.Lib Go.Joins Ieee

theorem bitsI_of_fv {a b : Nat} (h : fv .f32 a = fv .f32 b) : bitsI a = bitsI b := by
  rcases fv_cases .f32 a with ⟨h1, _⟩ | ⟨h1, _⟩
  · rw [bitsI_nan h1, bitsI_nan (h1.symm.trans h).symm]
  · rcases fv_cases .f32 b with ⟨h2, _⟩ | ⟨h2, _⟩
    · rw [h1, h2] at h; cases h
    · rw [h1, h2] at h
      rw [Option.some.inj h]
theorem flush_law {x : Nat} (_ : x < 4294967296) : subB (flushB x) = false ∧ (subB x == (bitsI x == bitsI (flushB x))) = false := by
  unfold flushB
  by_cases h : x % 2147483648 < 8388608
  · rw [if_pos h]
    have hz : x / 2147483648 * 2147483648 % 2147483648 = 0 := by omega
    refine ⟨by unfold subB; rw [hz]; decide, ?_⟩
    by_cases h0 : x % 2147483648 = 0
    · have e : x / 2147483648 * 2147483648 = x := by omega
      have hs : subB x = false := by unfold subB; rw [h0]; decide
      rw [e, hs]; simp
    · have hs : subB x = true := by unfold subB; rw [decide_eq_true ⟨by omega, h⟩]
      have n1 : ¬ fv .f32 x = none := fun hn => by have := nan_rung hn; omega
      have n2 : ¬ fv .f32 (x / 2147483648 * 2147483648) = none := fun hn => by have := nan_rung hn; omega
      have b1 : bitsI x = x := by rcases fv_cases .f32 x with ⟨h1, _⟩ | ⟨h1, _⟩; exact absurd h1 n1; exact bitsI_num h1
      have b2 : bitsI (x / 2147483648 * 2147483648) = (x / 2147483648 * 2147483648 : Nat) := by rcases fv_cases .f32 (x / 2147483648 * 2147483648) with ⟨h1, _⟩ | ⟨h1, _⟩; exact absurd h1 n2; exact bitsI_num h1
      rw [hs, b1, b2]
      have : ((x : Int) == ((x / 2147483648 * 2147483648 : Nat) : Int)) = false := by rw [beq_eq_false_iff_ne]; omega
      rw [this]; rfl
  · rw [if_neg h]
    have hs : subB x = false := by unfold subB; rw [decide_eq_false (fun q => h q.2)]
    exact ⟨hs, by rw [hs]; simp⟩

theorem hexD_mark {d : Nat} (h : d < 16) : hexD d ≠ 44 := by
  intro e
  have := hexD_toNat h
  rw [e] at this
  have h44 : (44 : UInt8).toNat = 44 := rfl
  rw [h44] at this
  split at this <;> omega
theorem hexL_mark (k : Nat) : ∀ n, ∀ c ∈ hexL k n, c ≠ 44 := by
  induction k with
  | zero => intro n c hc; cases hc
  | succ k ih =>
    intro n c hc
    rw [hexL] at hc
    rcases List.mem_append.1 hc with h | h
    · exact ih _ c h
    · obtain rfl := List.mem_singleton.1 h
      exact hexD_mark (Nat.mod_lt _ (by decide))
theorem cut_tail (r : List (List UInt8)) : ∀ x : List UInt8, (∀ c ∈ x, c ≠ 44) → (∀ l ∈ r, ∀ c ∈ l, c ≠ 44) → cutL (x ++ joinTail [44] r) = x :: r := by
  induction r with
  | nil => intro x hx _; rw [show joinTail [44] [] = [] from rfl, List.append_nil, cutL_none hx]
  | cons y r ih =>
    intro x hx hr
    have e : x ++ joinTail [44] (y :: r) = x ++ 44 :: (y ++ joinTail [44] r) := by simp [joinTail]
    rw [e, cutL_mark _ hx, ih y (hr y (by simp)) (fun l hl => hr l (by simp [hl]))]
theorem hexX_ok {x : Nat} (hx : x < 4294967296) : okW bitsN (hexX x) = true ∧ numW (hexX x) = bitsN x := okW_of_text (canon := bitsN) (bitsN_lt hx) (bitsN_idem x) rfl
theorem okG_all {tg : Nat} {Ps : List ByteArray} (n : Nat) (h : ∀ i, i < n → okC tg (Ps.getD i ⟨#[]⟩) = true) : okG tg Ps n = true := by
  induction n with
  | zero => rfl
  | succ n ih => unfold okG; rw [ih (fun i hi => h i (by omega)), h n (by omega)]; rfl
def hexB (x : Nat) : ByteArray := ⟨(hexX x).toArray⟩
theorem hexB_size (x : Nat) : (hexB x).size = 8 := by show (hexX x).toArray.size = 8; rw [List.size_toArray]; exact hexL_len 8 _
theorem read_text {xs : List Nat} (hl : lt32 xs) (hn : xs.length ≤ 256) : okS 1 (textF xs) = true ∧ numS 1 (textF xs) = xs.map bitsN := by
  rcases hxs : xs with _ | ⟨x, r⟩
  · have h : isNone (textF []) := rfl
    exact ⟨if_pos h, if_pos h⟩
  · rw [← hxs]
    have hne : hexs xs ≠ [] := by rw [hxs]; simp [hexs]
    have hd : (textF xs).data.toList = join (hexs xs) [44] := by
      unfold textF textA
      rw [if_neg hne]
    have hcut : cutL (textF xs).data.toList = hexs xs := by
      rw [hd, hxs]
      show cutL (join (hexX x :: hexs r) [44]) = hexX x :: hexs r
      rw [join_cons]
      exact cut_tail (hexs r) (hexX x) (hexL_mark 8 _) (fun l hl => by
        obtain ⟨y, _, rfl⟩ := List.mem_map.1 hl
        exact hexL_mark 8 _)
    have hnone : ¬ isNone (textF xs) := by
      intro h
      rw [h] at hcut
      have e : cutL noneL = [noneL] := by decide
      rw [e, hxs] at hcut
      have h1 : noneL = hexX x := (List.cons.inj hcut).1
      have h2 := hexL_len 8 (bitsN x)
      have h3 : (hexX x).length = 4 := by rw [← h1]; rfl
      unfold hexX at h3
      omega
    have hp : xs.map hexB = pcs (textF xs) := pcs_of (by
      rw [hcut, List.map_map]
      unfold hexs
      exact List.map_congr_left (fun y _ => by simp [hexB]))
    have hlen : (pcs (textF xs)).length = xs.length := by rw [← hp, List.length_map]
    have hone : ∀ i, i < xs.length → okC 1 ((pcs (textF xs)).getD i ⟨#[]⟩) = true := by
      intro i hi
      rw [← hp, getD_map hexB xs i 0 ⟨#[]⟩ hi, (okC_one (hexB_size _)).1]
      have := (hexX_ok (hl i hi)).1
      simpa [hexB] using this
    have hG : okG 1 (pcs (textF xs)) (pcs (textF xs)).length = true := okG_all _ (fun i hi => hone i (by omega))
    obtain ⟨h1, h2⟩ := okF_all (tg := 1) (Ps := pcs (textF xs)) (by omega) hG
    refine ⟨(if_neg hnone).trans h1, (if_neg hnone).trans (h2.trans ?_)⟩
    unfold numG
    rw [List.take_length, ← hp]
    have key : ∀ ys : List Nat, (∀ y ∈ ys, y < 4294967296) → (ys.map hexB).flatMap (numC 1) = ys.map bitsN := by
      intro ys
      induction ys with
      | nil => intro _; rfl
      | cons y ys ih =>
        intro h
        have e : numC 1 (hexB y) = [bitsN y] := by
          rw [(okC_one (hexB_size y)).2]
          have := (hexX_ok (h y (by simp))).2
          simpa [hexB] using this
        rw [List.map_cons, List.flatMap_cons, e, ih (fun z hz => h z (by simp [hz])), List.map_cons]; rfl
    refine key xs (fun y hy => ?_)
    obtain ⟨i, hi, rfl⟩ := List.getElem_of_mem hy
    have := hl i hi
    rwa [List.getD_eq_getElem?_getD, List.getElem?_eq_getElem hi] at this
theorem textF_size {xs : List Nat} (hn : xs.length ≤ 256) : (textF xs).size ≤ 1048576 := by
  have h := join_le (hexs_short xs)
  unfold textF textA
  by_cases he : hexs xs = []
  · rw [if_pos he]; decide
  · rw [if_neg he]
    show (join (hexs xs) [44]).toArray.size ≤ _
    rw [List.size_toArray]
    rw [hexs_len] at h
    omega
end Go.Proofs.YtmiajfdhdpmeoaaGreatDoor
