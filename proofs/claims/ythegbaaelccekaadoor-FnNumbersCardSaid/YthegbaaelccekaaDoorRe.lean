/-
  Texts of numbers, piece by piece, in plain Lean: what is read, and that a text that is read is short. No condition.
-/
import Derived.Test.YthegbaaelccekaaDoorPu
import Derived.Test.YthegbaaelccekaaDoorRc
import Derived.Test.YthegbaaelccekaaDoorFt
namespace Go.Proofs.YthegbaaelccekaaDoor
open Go.RowKit Go.Lib Go.Joins

theorem bitsN_idem (n : Nat) : bitsN (bitsN n) = bitsN n := by
  have h : ∀ x, bitsN x = if (fv .f32 x).isNone then 2143289344 else x := by
    intro x; unfold bitsN bitsI; split <;> rfl
  rw [h n]
  by_cases h1 : (fv .f32 n).isNone
  · rw [if_pos h1, h]; split <;> rfl
  · rw [if_neg h1, h, if_neg h1]
def chunks : Nat → List UInt8 → List (List UInt8)
  | 0, _ => []
  | k + 1, l => l.take 8 :: chunks k (l.drop 8)
theorem chunks_len (k : Nat) : ∀ l, (chunks k l).length = k := by
  induction k with
  | zero => intro l; rfl
  | succ k ih => intro l; rw [chunks, List.length_cons, ih]
theorem chunks_one {l : List UInt8} (h : l.length = 8) : chunks 1 l = [l] := by
  rw [chunks, chunks, List.take_of_length_le (by omega)]
/-- A piece that holds tg numbers. -/
def okC (tg : Nat) (p : ByteArray) : Bool := decide (p.size = 8 * tg) && (chunks tg p.data.toList).all (okW bitsN)
def numC (tg : Nat) (p : ByteArray) : List Nat := (chunks tg p.data.toList).map numW
theorem numC_len (tg : Nat) (p : ByteArray) : (numC tg p).length = tg := by unfold numC; rw [List.length_map, chunks_len]
theorem okC_size {tg : Nat} {p : ByteArray} (h : okC tg p = true) : p.size = 8 * tg := by
  unfold okC at h; simp only [Bool.and_eq_true, decide_eq_true_eq] at h; exact h.1
theorem okC_not {tg : Nat} {p : ByteArray} (h : ¬ p.size = 8 * tg) : okC tg p = false := by unfold okC; rw [decide_eq_false h, Bool.false_and]
theorem okC_one {p : ByteArray} (h : p.size = 8) : okC 1 p = okW bitsN p.data.toList ∧ numC 1 p = [numW p.data.toList] := by
  have hl : p.data.toList.length = 8 := by simpa using h
  unfold okC numC
  rw [chunks_one hl, decide_eq_true (by omega)]
  simp
/-- The first j pieces are good; their numbers. -/
def okG (tg : Nat) (Ps : List ByteArray) : Nat → Bool
  | 0 => true
  | j + 1 => okG tg Ps j && okC tg (Ps.getD j ⟨#[]⟩)
theorem okG_false {tg : Nat} {Ps : List ByteArray} {j n : Nat} (hj : j < n) (h : okC tg (Ps.getD j ⟨#[]⟩) = false) : okG tg Ps n = false := by
  induction n with
  | zero => omega
  | succ k ih =>
    by_cases hk : j = k
    · subst hk; unfold okG; rw [h, Bool.and_false]
    · unfold okG; rw [ih (by omega), Bool.false_and]
def numG (tg : Nat) (Ps : List ByteArray) (j : Nat) : List Nat := (Ps.take j).flatMap (numC tg)
theorem numG_step {tg : Nat} {Ps : List ByteArray} {j : Nat} (h : j < Ps.length) : numG tg Ps (j + 1) = numG tg Ps j ++ numC tg (Ps.getD j ⟨#[]⟩) := by
  unfold numG
  rw [List.take_add_one, List.getElem?_eq_getElem h, List.flatMap_append, List.getD_eq_getElem?_getD, List.getElem?_eq_getElem h]
  simp
theorem numG_len {tg : Nat} {Ps : List ByteArray} (j : Nat) (h : j ≤ Ps.length) : (numG tg Ps j).length = tg * j := by
  induction j with
  | zero => rfl
  | succ j ih => rw [numG_step (by omega), List.length_append, ih (by omega), numC_len, Nat.mul_succ]
def okF (tg : Nat) (Ps : List ByteArray) : Bool := decide (Ps.length ≤ 256) && okG tg Ps Ps.length
def numF (tg : Nat) (Ps : List ByteArray) : List Nat := if okF tg Ps = true then numG tg Ps Ps.length else []
theorem okF_short {tg : Nat} {Ps : List ByteArray} (h : 256 < Ps.length) : okF tg Ps = false := by unfold okF; rw [decide_eq_false (by omega), Bool.false_and]
theorem numF_not {tg : Nat} {Ps : List ByteArray} (h : okF tg Ps = false) : numF tg Ps = [] := by unfold numF; rw [h]; rfl
theorem okF_all {tg : Nat} {Ps : List ByteArray} (h : Ps.length ≤ 256) (ha : okG tg Ps Ps.length = true) : okF tg Ps = true ∧ numF tg Ps = numG tg Ps Ps.length := by
  have h1 : okF tg Ps = true := by unfold okF; rw [decide_eq_true h, ha]; rfl
  exact ⟨h1, by unfold numF; rw [h1]; rfl⟩
theorem okF_bad {tg : Nat} {Ps : List ByteArray} {j : Nat} (hj : j < Ps.length) (h : okC tg (Ps.getD j ⟨#[]⟩) = false) : okF tg Ps = false := by unfold okF; rw [okG_false hj h, Bool.and_false]

/-! ### A text that is read is short -/
theorem cutL_ne (l : List UInt8) : cutL l ≠ [] := by
  cases l with
  | nil => rw [cutL.eq_1]; simp
  | cons c r =>
    rw [cutL.eq_2]
    split
    · simp
    · cases cutL r <;> simp [onto]
theorem cutL_sum (l : List UInt8) : ((cutL l).map List.length).sum + (cutL l).length = l.length + 1 := by
  induction l with
  | nil => rfl
  | cons c r ih =>
    rw [cutL.eq_2]
    split
    · simp only [List.map_cons, List.sum_cons, List.length_cons, List.length_nil]; omega
    · have hne := cutL_ne r
      cases hc : cutL r with
      | nil => exact absurd hc hne
      | cons x xs =>
        rw [hc] at ih
        simp only [onto, List.map_cons, List.sum_cons, List.length_cons] at ih ⊢
        omega
theorem sum_same {m : Nat} {Ps : List ByteArray} (h : ∀ p ∈ Ps, p.size = m) : ((Ps.map (·.data.toList)).map List.length).sum = m * Ps.length := by
  induction Ps with
  | nil => simp
  | cons p r ih =>
    have h1 := h p (by simp)
    have h2 := ih (fun q hq => h q (by simp [hq]))
    simp only [List.map_cons, List.sum_cons, List.length_cons, h2, Nat.mul_succ]
    have : p.data.toList.length = m := by simpa using h1
    omega
theorem okG_at {tg : Nat} {Ps : List ByteArray} {n : Nat} (h : okG tg Ps n = true) {j : Nat} (hj : j < n) : okC tg (Ps.getD j ⟨#[]⟩) = true := by
  cases hb : okC tg (Ps.getD j ⟨#[]⟩)
  · rw [okG_false hj hb] at h; cases h
  · rfl
theorem okF_size {tg : Nat} {s : ByteArray} (h : okF tg (pcs s) = true) : s.size + 1 ≤ (8 * tg + 1) * 256 := by
  unfold okF at h
  simp only [Bool.and_eq_true, decide_eq_true_eq] at h
  have h1 : ∀ p ∈ pcs s, p.size = 8 * tg := by
    intro p hp
    obtain ⟨i, hi, rfl⟩ := List.getElem_of_mem hp
    have := okC_size (okG_at h.2 hi)
    rwa [List.getD_eq_getElem?_getD, List.getElem?_eq_getElem hi] at this
  have h2 := sum_same h1
  have h3 := cutL_sum s.data.toList
  have h4 : (pcs s).map (·.data.toList) = cutL s.data.toList := splitB_cut s
  rw [← h4, h2, List.length_map] at h3
  have h5 : s.data.toList.length = s.size := by simp
  rw [h5] at h3
  have h6 := Nat.mul_le_mul_left (8 * tg + 1) h.1
  rw [Nat.succ_mul] at h6
  omega

noncomputable def okS (tg : Nat) (s : ByteArray) : Bool := by classical exact if isNone s then true else okF tg (pcs s)
noncomputable def numS (tg : Nat) (s : ByteArray) : List Nat := by classical exact if isNone s then [] else numF tg (pcs s)
theorem numF_len (tg : Nat) (Ps : List ByteArray) : (numF tg Ps).length ≤ tg * 256 := by
  unfold numF
  split
  · rename_i h
    unfold okF at h
    simp only [Bool.and_eq_true, decide_eq_true_eq] at h
    rw [numG_len _ (Nat.le_refl _)]
    exact Nat.mul_le_mul_left _ h.1
  · simp
theorem numS_len (tg : Nat) (s : ByteArray) : (numS tg s).length ≤ tg * 256 := by
  unfold numS
  split
  · simp
  · exact numF_len _ _
def fvals (xs : List Nat) : List Value := xs.map (Value.float .f32)
theorem fvals_len (xs : List Nat) : (fvals xs).length = xs.length := by simp [fvals]
/-- What a reader of numbers hands back. -/
def readsF (tg : Nat) (s : ByteArray) (w w' : World) (e : Ending) : Prop := ∃ (a : Option Addr) (cap : Nat), e = .returned (.tuple #[.slice a (numS tg s).length cap, .bool (okS tg s)]) ∧ Below w.heap.size w w' ∧ rowV w' 51 w.heap.size a (fvals (numS tg s))
theorem readsF.mk {tg : Nat} {s : ByteArray} {w w' : World} {v : Value} {xs : List Nat} {b : Bool} (hb : Below w.heap.size w w') (ho : okS tg s = b) (hz : numS tg s = xs) (hown : ownV w' 51 w.heap.size v (fvals xs)) : readsF tg s w w' (.returned (.tuple #[v, .bool b])) := by
  subst ho hz
  obtain ⟨a, cap, rfl, hr⟩ := hown.row
  exact ⟨a, cap, by rw [fvals_len], hb, hr⟩
end Go.Proofs.YthegbaaelccekaaDoor
