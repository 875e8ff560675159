/-
  A text cut at a byte, in plain Lean: the reference's pieces are those of strings.Split. No program, no condition.
-/
import Derived.Lib.Split
import Derived.Lib.SplitLaws
import Derived.Lib.IndexMore
namespace Go.Proofs.YthegbaaelccekaaDoor
open Go.Lib

/-- Put a byte before the first piece. -/
def onto (c : UInt8) : List (List UInt8) → List (List UInt8)
  | [] => [[c]]
  | x :: xs => (c :: x) :: xs
def cutL : List UInt8 → List (List UInt8)
  | [] => [[]]
  | c :: r => if c = 44 then [] :: cutL r else onto c (cutL r)
theorem cutL_none {x : List UInt8} (h : ∀ c ∈ x, c ≠ 44) : cutL x = [x] := by
  induction x with
  | nil => rfl
  | cons c r ih =>
    unfold cutL
    rw [if_neg (h c (by simp)), ih (fun d hd => h d (by simp [hd]))]; rfl
theorem cutL_mark {x : List UInt8} (y : List UInt8) (h : ∀ c ∈ x, c ≠ 44) : cutL (x ++ 44 :: y) = x :: cutL y := by
  induction x with
  | nil => show cutL (44 :: y) = _; rw [cutL.eq_2, if_pos rfl]
  | cons c r ih =>
    show cutL (c :: (r ++ 44 :: y)) = _
    rw [cutL.eq_2, if_neg (h c (by simp)), ih (fun d hd => h d (by simp [hd]))]; rfl

theorem split_cut : ∀ l : List UInt8, splitK [44] 0 (count l [44]) l = cutL l
  | [] => by rw [count_miss (by simp [index])]; rfl
  | c :: r => by
    have ih := split_cut r
    by_cases h : c = 44
    · subst h
      have hix : index (44 :: r) [44] = 0 := by rw [index]; simp [List.isPrefixOf]
      rw [count_cons_eq, Nat.add_comm]
      unfold splitK cutL
      rw [if_neg (by rw [hix]; decide), if_pos rfl, hix, ← ih]
      rfl
    · have hix : index (c :: r) [44] = if index r [44] == -1 then -1 else index r [44] + 1 := by
        have hp : ([44] : List UInt8).isPrefixOf (c :: r) = false := by simp [List.isPrefixOf, Ne.symm h]
        rw [index, hp]; simp
      rw [count_cons_ne c 44 r h]
      unfold cutL
      rw [if_neg h, ← ih]
      rcases hk : count r [44] with _ | m
      · rfl
      · obtain ⟨i, hi⟩ : ∃ i : Nat, index r [44] = i := by
          rcases index_spec r [44] with ⟨h1, _⟩ | ⟨i, hi, _⟩
          · rw [count_miss h1] at hk; omega
          · exact ⟨i, hi⟩
        have hi1 : index (c :: r) [44] = ((i + 1 : Nat) : Int) := by rw [hix, hi, if_neg (by simp)]; omega
        unfold splitK
        rw [if_neg (by rw [hi1]; simp; omega), if_neg (by rw [hi]; simp), hi, hi1]
        simp [onto, Int.toNat_natCast]

/-- strings.Split's pieces at ",". -/
theorem splitB_cut (s : ByteArray) : (splitB ⟨#[44]⟩ 0 (countB s ⟨#[44]⟩) s).map (·.data.toList) = cutL s.data.toList := by
  rw [splitB_data]
  exact split_cut _

/-- The reference's pieces, one by one: P are done, the next begins at f. -/
def Cut (l : List UInt8) (P : List (List UInt8)) (f : Nat) : Prop := cutL l = P ++ cutL (l.drop f)
theorem Cut.start (l : List UInt8) : Cut l [] 0 := rfl
theorem free_at {l : List UInt8} {f i : Nat} (h : ∀ j, f ≤ j → j < i → l.getD j 0 ≠ 44) : ∀ c ∈ (l.drop f).take (i - f), c ≠ 44 := by
  intro c hc
  obtain ⟨k, hk, rfl⟩ := List.getElem_of_mem hc
  have hk4 : k < min (i - f) (l.length - f) := by simpa using hk
  have hk2 : k < i - f := by omega
  have hk3 : k < l.length - f := by omega
  rw [List.getElem_take, List.getElem_drop]
  have := h (f + k) (by omega) (by omega)
  rwa [List.getD_eq_getElem?_getD, List.getElem?_eq_getElem (by omega)] at this
theorem Cut.step {l : List UInt8} {P : List (List UInt8)} {f i : Nat} (h : Cut l P f) (hf : f ≤ i) (hi : i < l.length) (hfree : ∀ j, f ≤ j → j < i → l.getD j 0 ≠ 44) (hm : l.getD i 0 = 44) :
    Cut l (P ++ [(l.drop f).take (i - f)]) (i + 1) := by
  unfold Cut at h ⊢
  have e : l.drop f = (l.drop f).take (i - f) ++ 44 :: l.drop (i + 1) := by
    have h1 : (l.drop f).drop (i - f) = l.drop i := by rw [List.drop_drop]; congr 1; omega
    have h2 : l.drop i = l[i] :: l.drop (i + 1) := List.drop_eq_getElem_cons hi
    have h3 : l[i] = 44 := by rwa [List.getD_eq_getElem?_getD, List.getElem?_eq_getElem hi] at hm
    rw [← h3, ← h2, ← h1, List.take_append_drop]
  rw [h, List.append_assoc]
  congr 1
  rw [e, cutL_mark _ (free_at hfree), ← e]
  rfl
theorem Cut.done {l : List UInt8} {P : List (List UInt8)} {f : Nat} (h : Cut l P f) (_ : f ≤ l.length) (hfree : ∀ j, f ≤ j → j < l.length → l.getD j 0 ≠ 44) :
    cutL l = P ++ [(l.drop f).take (l.length - f)] := by
  unfold Cut at h
  rw [h, ← cutL_none (free_at hfree)]
  congr 2
  rw [List.take_of_length_le (by simp)]
end Go.Proofs.YthegbaaelccekaaDoor
