/-
  A text cut at a byte, in plain Lean: the reference's pieces are those of strings.Split. No program, no condition.
  Lists of the call's own, of any one-cell elements; the reference's pieces of a text. Condition: a text of at most 2^20 bytes.
-/
import Derived.Lib.Split
import Derived.Lib.SplitLaws
import Derived.Lib.IndexMore
import Derived.Test.YtmiajfdhdpmeoaaGreatDoorMi
namespace Go.Proofs.YtmiajfdhdpmeoaaGreatDoor
open Go.Lib

/-- Put a byte before the first piece. -/
def onto (c : UInt8) : List (List UInt8) → List (List UInt8)
  | [] => [[c]]
  | x :: xs => (c :: x) :: xs
def cutL : List UInt8 → List (List UInt8)
  | [] => [[]]
  | c :: r => if c = 44 then [] :: cutL r else onto c (cutL r)
theorem cutL_none {x : List UInt8} (h : ∀ c ∈ x, c ≠ 44) : cutL x = [x] := by
  induction x with
  | nil => rfl
  | cons c r ih =>
    unfold cutL
    rw [if_neg (h c (by simp)), ih (fun d hd => h d (by simp [hd]))]; rfl
theorem cutL_mark {x : List UInt8} (y : List UInt8) (h : ∀ c ∈ x, c ≠ 44) : cutL (x ++ 44 :: y) = x :: cutL y := by
  induction x with
  | nil => show cutL (44 :: y) = _; rw [cutL.eq_2, if_pos rfl]
  | cons c r ih =>
    show cutL (c :: (r ++ 44 :: y)) = _
    rw [cutL.eq_2, if_neg (h c (by simp)), ih (fun d hd => h d (by simp [hd]))]; rfl

theorem split_cut : ∀ l : List UInt8, splitK [44] 0 (count l [44]) l = cutL l
  | [] => by rw [count_miss (by simp [index])]; rfl
  | c :: r => by
    have ih := split_cut r
    by_cases h : c = 44
    · subst h
      have hix : index (44 :: r) [44] = 0 := by rw [index]; simp [List.isPrefixOf]
      rw [count_cons_eq, Nat.add_comm]
      unfold splitK cutL
      rw [if_neg (by rw [hix]; decide), if_pos rfl, hix, ← ih]
      rfl
    · have hix : index (c :: r) [44] = if index r [44] == -1 then -1 else index r [44] + 1 := by
        have hp : ([44] : List UInt8).isPrefixOf (c :: r) = false := by simp [List.isPrefixOf, Ne.symm h]
        rw [index, hp]; simp
      rw [count_cons_ne c 44 r h]
      unfold cutL
      rw [if_neg h, ← ih]
      rcases hk : count r [44] with _ | m
      · rfl
      · obtain ⟨i, hi⟩ : ∃ i : Nat, index r [44] = i := by
          rcases index_spec r [44] with ⟨h1, _⟩ | ⟨i, hi, _⟩
          · rw [count_miss h1] at hk; omega
          · exact ⟨i, hi⟩
        have hi1 : index (c :: r) [44] = ((i + 1 : Nat) : Int) := by rw [hix, hi, if_neg (by simp)]; omega
        unfold splitK
        rw [if_neg (by rw [hi1]; simp; omega), if_neg (by rw [hi]; simp), hi, hi1]
        simp [onto, Int.toNat_natCast]

/-- strings.Split's pieces at ",". -/
theorem splitB_cut (s : ByteArray) : (splitB ⟨#[44]⟩ 0 (countB s ⟨#[44]⟩) s).map (·.data.toList) = cutL s.data.toList := by
  rw [splitB_data]
  exact split_cut _

/-- The reference's pieces, one by one: P are done, the next begins at f. -/
def Cut (l : List UInt8) (P : List (List UInt8)) (f : Nat) : Prop := cutL l = P ++ cutL (l.drop f)
theorem Cut.start (l : List UInt8) : Cut l [] 0 := rfl
theorem free_at {l : List UInt8} {f i : Nat} (h : ∀ j, f ≤ j → j < i → l.getD j 0 ≠ 44) : ∀ c ∈ (l.drop f).take (i - f), c ≠ 44 := by
  intro c hc
  obtain ⟨k, hk, rfl⟩ := List.getElem_of_mem hc
  have hk4 : k < min (i - f) (l.length - f) := by simpa using hk
  have hk2 : k < i - f := by omega
  have hk3 : k < l.length - f := by omega
  rw [List.getElem_take, List.getElem_drop]
  have := h (f + k) (by omega) (by omega)
  rwa [List.getD_eq_getElem?_getD, List.getElem?_eq_getElem (by omega)] at this
theorem Cut.step {l : List UInt8} {P : List (List UInt8)} {f i : Nat} (h : Cut l P f) (hf : f ≤ i) (hi : i < l.length) (hfree : ∀ j, f ≤ j → j < i → l.getD j 0 ≠ 44) (hm : l.getD i 0 = 44) :
    Cut l (P ++ [(l.drop f).take (i - f)]) (i + 1) := by
  unfold Cut at h ⊢
  have e : l.drop f = (l.drop f).take (i - f) ++ 44 :: l.drop (i + 1) := by
    have h1 : (l.drop f).drop (i - f) = l.drop i := by rw [List.drop_drop]; congr 1; omega
    have h2 : l.drop i = l[i] :: l.drop (i + 1) := List.drop_eq_getElem_cons hi
    have h3 : l[i] = 44 := by rwa [List.getD_eq_getElem?_getD, List.getElem?_eq_getElem hi] at hm
    rw [← h3, ← h2, ← h1, List.take_append_drop]
  rw [h, List.append_assoc]
  congr 1
  rw [e, cutL_mark _ (free_at hfree), ← e]
  rfl
theorem Cut.done {l : List UInt8} {P : List (List UInt8)} {f : Nat} (h : Cut l P f) (_ : f ≤ l.length) (hfree : ∀ j, f ≤ j → j < l.length → l.getD j 0 ≠ 44) :
    cutL l = P ++ [(l.drop f).take (l.length - f)] := by
  unfold Cut at h
  rw [h, ← cutL_none (free_at hfree)]
  congr 2
  rw [List.take_of_length_le (by simp)]
end Go.Proofs.YtmiajfdhdpmeoaaGreatDoor

namespace Go.Proofs.YtmiajfdhdpmeoaaGreatDoor
open Go.RowKit Go.Lib Go.Joins

/-- The value v is a list of the call's own (from block B on) that holds us. -/
def ownV (w : World) (e : TypeId) (B : Nat) (v : Value) (us : List Value) : Prop := w.ownsRow B e 1 v us.length us
/-- The list at address a is the call's own and holds us. -/
def rowV (w : World) (e : TypeId) (B : Nat) (a : Option Addr) (us : List Value) : Prop :=
  (a = none ∧ us = []) ∨ ∃ g, a = some ⟨g, 0, none⟩ ∧ B ≤ g ∧ ∃ n f, us.length ≤ n ∧ w.rowIs g e n f ∧ ∀ i, i < us.length → f i = us.getD i undef
theorem ownV.row {w : World} {e : TypeId} {B : Nat} {v : Value} {us : List Value} (h : ownV w e B v us) : ∃ a cap, v = .slice a us.length cap ∧ rowV w e B a us := by
  unfold ownV at h
  rcases h.2 with ⟨rfl, h0⟩ | ⟨g, cap, cur, rfl, hb, hg, hn, _, hs, ht⟩
  · have : us = [] := List.eq_nil_of_length_eq_zero h0
    subst this
    exact ⟨none, 0, rfl, Or.inl ⟨rfl, rfl⟩⟩
  · refine ⟨some ⟨g, 0, none⟩, cap, rfl, Or.inr ⟨g, rfl, hb, cur.size, fun i => cur.getD i undef, by omega, ⟨cur, hg, rfl, fun i hi => ?_⟩, fun i hi => ?_⟩⟩
    · show cur[i]? = some (cur.getD i undef)
      rw [Array.getD_eq_getD_getElem?, Array.getElem?_eq_getElem hi]; rfl
    · have h1 : us[i]? = some us[i] := List.getElem?_eq_getElem hi
      have h2 : (List.take (us.length * 1) cur.toList)[i]? = us[i]? := by rw [ht]
      rw [List.getElem?_take, if_pos (by omega), Array.getElem?_toList] at h2
      show cur.getD i undef = _
      rw [Array.getD_eq_getD_getElem?, h2, List.getD_eq_getElem?_getD]
theorem ownV.nil (w : World) (e : TypeId) (B : Nat) : ownV w e B (.slice none 0 0) [] := World.ownsRow_nil _ _ _ _
theorem ownV.empty (w : World) (e : TypeId) (B : Nat) (hB : B ≤ w.heap.size) : ownV (w.alloc (.cells #[] e)) e B (.slice (some ⟨w.heap.size, 0, none⟩) 0 0) [] :=
  World.ownsRow_lit w #[] 0 hB (by decide) rfl
theorem ownsRow_on {B C : Nat} {e : TypeId} {k : Nat} {v : Value} {n : Nat} {xs : List Value} {w w' : World} (h : w.ownsRow B e k v n xs) (hb : Below C w w') (hC : w.heap.size ≤ C) : w'.ownsRow B e k v n xs := by
  obtain ⟨hl, hh⟩ := h
  refine ⟨hl, ?_⟩
  rcases hh with h1 | ⟨b, cap, cur, h1, h2, h3, h4⟩
  · exact Or.inl h1
  · have hlt : b < w.heap.size := by
      apply Nat.lt_of_not_le; intro hle
      rw [Array.getElem?_eq_none hle] at h3; cases h3
    exact Or.inr ⟨b, cap, cur, h1, h2, by rw [hb.block b (by omega)]; exact h3, h4⟩
theorem ownV.drewN {w : World} {e : TypeId} {B : Nat} {v : Value} {us : List Value} (h : ownV w e B v us) (k : Nat) : ownV (w.drewN k) e B v us := h
theorem ownV.on {w w' : World} {e : TypeId} {B C : Nat} {v : Value} {us : List Value} (h : ownV w e B v us) (hb : Below C w w') (hC : w.heap.size ≤ C) : ownV w' e B v us :=
  ownsRow_on h hb hC
theorem rowV.cell {w : World} {e : TypeId} {B : Nat} {a : Option Addr} {us : List Value} (h : rowV w e B a us) {i : Nat} (hi : i < us.length) : ∃ g, a = some ⟨g, 0, none⟩ ∧ B ≤ g ∧ w.cell? ⟨g, i, none⟩ = some (us.getD i undef) := by
  rcases h with ⟨_, rfl⟩ | ⟨g, rfl, hB, n, f, hn, hr, hf⟩
  · simp at hi
  · exact ⟨g, rfl, hB, by rw [hr.cell (by omega), hf i hi]⟩

/-- One value added to a list of the call's own. -/
theorem wpList_append_val {ops : Array Oper} {rest : List Oper} {o : Oper} {a : Act} {Q : Exit → Act → World → Prop} (t e : TypeId) (z : Value) (by_ : Nat) (ht : Tryz.prog.underlying t = some (.slice e))
    (hinfo : (Tryz.prog.info? e).map (fun i => (i.zero, i.size, i.bytes)) = some (some z, 1, by_)) (hzs : z.cells.size = 1) (hby : by_ ≤ 16) (u : Value) (hu : u.oneCell' = true)
    (hgd : o.guard = none) (s x : Operand) (ho : o.op = .call { callee := .builtin .append, args := #[s, x], argTypes := #[t, t] }) (B : Nat) (v : Value) (us : List Value) (W : World) (g : Nat)
    (hs : a.eval s = v) (hx : a.eval x = .slice (some ⟨g, 0, none⟩) 1 1) (hg : W.heap.size = g) (hown : ownV W e B v us) (hB : B ≤ W.heap.size) (hl : us.length ≤ 2000000)
    (h : ∀ ad cap w', ownV w' e B (.slice ad (us.length + 1) cap) (us ++ [u]) → Below B W w' → wpList Tryz.prog ops Q rest (a.put o.dst (.slice ad (us.length + 1) cap)) w') :
    wpList Tryz.prog ops Q (o :: rest) a (W.alloc (.cells #[u] e)) := by
  subst hg
  obtain ⟨i0, hi, hz0, hz1, hz2⟩ := info_parts hinfo
  refine wpList_append_own _ hgd s x t ho B e i0 z 1 by_ ht hi hz0 hz1 hz2 hzs (by decide) v us.length us hs (World.ownsRow.alloc hown _) ⟨W.heap.size, 0, none⟩ 1 1 [u] hx rfl ?_ ?_ (by unfold maxLen; omega) ?_ (by rw [World.size_alloc]; omega) ?_
  · intro j u' hj
    match j, hj with
    | 0, hj => simp at hj; subst hj; simp [Addr.add]
  · intro u' hu'; simp at hu'; subst hu'; exact hu
  · have := Nat.mul_le_mul_left (us.length + 1) hby
    omega
  · intro v' w' h1 h2 _
    have h3 : ownV w' e B v' (us ++ [u]) := by
      unfold ownV
      rw [List.length_append]
      exact h1
    obtain ⟨ad, cap, hv, _⟩ := h3.row
    have hv' : v' = .slice ad (us.length + 1) cap := by rw [hv, List.length_append]; rfl
    rw [hv'] at h3 ⊢
    exact h ad cap w' h3 (((Below.refl B W).alloc hB _).grown h2 (by rw [World.size_alloc]; omega) (fun k hk => (World.ownsRow.lt hown k hk).1))

/-! ### The pieces -/
theorem byte_list (s : ByteArray) (i : Nat) : byteAt s i = (s.data.toList.getD i 0).toNat := rfl

end Go.Proofs.YtmiajfdhdpmeoaaGreatDoor
