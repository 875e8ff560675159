/-
  Hexadecimal numerals, in plain Lean: eight digits are read back. No program, no condition.
-/
import Derived.Lib.Hide
namespace Go.Proofs.YtmiajfdhdpmeoaaGreatDoor

def hexD (d : Nat) : UInt8 := UInt8.ofNat (if d < 10 then 48 + d else 87 + d)
theorem hexD_toNat {d : Nat} (h : d < 16) : (hexD d).toNat = if d < 10 then 48 + d else 87 + d := by
  unfold hexD
  rw [UInt8.toNat_ofNat']
  split <;> omega
/-- The last k digits of n. -/
def hexL : Nat → Nat → List UInt8
  | 0, _ => []
  | k + 1, n => hexL k (n / 16) ++ [hexD (n % 16)]
theorem hexL_len (k n : Nat) : (hexL k n).length = k := by
  induction k generalizing n with
  | zero => rfl
  | succ k ih => rw [hexL, List.length_append, ih]; rfl
theorem hexL_cons (k n : Nat) : hexL (k + 1) n = hexD (n / 16 ^ k % 16) :: hexL k n := by
  induction k generalizing n with
  | zero => simp [hexL]
  | succ k ih =>
    have e : n / 16 / 16 ^ k = n / 16 ^ (k + 1) := by rw [Nat.div_div_eq_div_mul, Nat.pow_succ, Nat.mul_comm]
    rw [hexL, ih, e, List.cons_append, ← hexL.eq_2]
/-- What a digit counts. -/
def hexC (c : UInt8) : Option Nat := if 48 ≤ c.toNat ∧ c.toNat ≤ 57 then some (c.toNat - 48) else if 97 ≤ c.toNat ∧ c.toNat ≤ 102 then some (c.toNat - 87) else none
theorem hexC_hexD {d : Nat} (h : d < 16) : hexC (hexD d) = some d := by
  unfold hexC
  rw [hexD_toNat h]
  by_cases h1 : d < 10
  · rw [if_pos h1, if_pos (by omega)]; congr 1; omega
  · rw [if_neg h1, if_neg (by omega), if_pos (by omega)]; congr 1; omega
theorem hexD_hexC {c : UInt8} {d : Nat} (h : hexC c = some d) : hexD d = c ∧ d < 16 := by
  unfold hexC at h
  split at h
  · cases h
    rename_i h1
    refine ⟨UInt8.toNat_inj.1 ?_, by omega⟩
    rw [hexD_toNat (by omega), if_pos (by omega)]; omega
  · split at h
    · cases h
      rename_i h1
      refine ⟨UInt8.toNat_inj.1 ?_, by omega⟩
      rw [hexD_toNat (by omega), if_neg (by omega)]; omega
    · cases h
/-- What digits count, by some reading of each. -/
def readF (f : UInt8 → Option Nat) : Nat → List UInt8 → Option Nat
  | acc, [] => some acc
  | acc, c :: r => match f c with
    | some d => readF f (16 * acc + d) r
    | none => none
theorem readF_append (f : UInt8 → Option Nat) (a b : List UInt8) : ∀ acc, readF f acc (a ++ b) = (readF f acc a).bind fun x => readF f x b := by
  induction a with
  | nil => intro acc; rfl
  | cons c a ih =>
    intro acc
    rw [List.cons_append, readF, readF]
    cases f c with
    | none => rfl
    | some d => exact ih _
theorem readF_hexL (k n : Nat) : readF hexC 0 (hexL k n) = some (n % 16 ^ k) := by
  induction k generalizing n with
  | zero => simp [hexL, readF, Nat.mod_one]
  | succ k ih =>
    rw [hexL, readF_append, ih]
    show readF hexC (n / 16 % 16 ^ k) [hexD (n % 16)] = _
    rw [readF, hexC_hexD (Nat.mod_lt _ (by decide))]
    show some _ = _
    congr 1
    have := Nat.mod_mul (a := 16) (b := 16 ^ k) (x := n)
    rw [Nat.pow_succ, Nat.mul_comm (16 ^ k) 16, this]
    omega
theorem hexL_readF (l : List UInt8) : ∀ acc n, readF hexC acc l = some n → hexL l.length n = l ∧ n / 16 ^ l.length = acc := by
  induction l with
  | nil => intro acc n h; cases h; exact ⟨rfl, by simp⟩
  | cons c r ih =>
    intro acc n h
    rw [readF] at h
    cases hc : hexC c with
    | none => rw [hc] at h; cases h
    | some d =>
      rw [hc] at h
      obtain ⟨h1, h2⟩ := ih _ _ h
      obtain ⟨h3, h4⟩ := hexD_hexC hc
      refine ⟨?_, ?_⟩
      · rw [List.length_cons, hexL_cons, h1, h2, show (16 * acc + d) % 16 = d by omega, h3]
      · rw [List.length_cons, Nat.pow_succ, ← Nat.div_div_eq_div_mul, h2]; omega
theorem readF_lt {f : UInt8 → Option Nat} (hf : ∀ c d, f c = some d → d < 16) (l : List UInt8) : ∀ acc n, readF f acc l = some n → n < (acc + 1) * 16 ^ l.length := by
  induction l with
  | nil => intro acc n h; cases h; simp
  | cons c r ih =>
    intro acc n h
    rw [readF] at h
    cases hc : f c with
    | none => rw [hc] at h; cases h
    | some d =>
      rw [hc] at h
      have h1 := ih _ _ h
      have h2 := hf _ _ hc
      rw [List.length_cons, Nat.pow_succ, Nat.mul_comm (16 ^ r.length) 16, ← Nat.mul_assoc]
      refine Nat.lt_of_lt_of_le h1 (Nat.mul_le_mul_right _ ?_)
      omega
theorem readF_le {f g : UInt8 → Option Nat} (hfg : ∀ c d, f c = some d → g c = some d) (l : List UInt8) : ∀ acc n, readF f acc l = some n → readF g acc l = some n := by
  induction l with
  | nil => intro acc n h; exact h
  | cons c r ih =>
    intro acc n h
    rw [readF] at h ⊢
    cases hc : f c with
    | none => rw [hc] at h; cases h
    | some d => rw [hc] at h; rw [hfg _ _ hc]; exact ih _ _ h

/-- The words that are the eight digits of a number's bits; 'canon': the bits that are kept. -/
def okW (canon : Nat → Nat) (l : List UInt8) : Bool := decide (l.length = 8) && match readF hexC 0 l with
  | some n => decide (canon n = n)
  | none => false
def numW (l : List UInt8) : Nat := (readF hexC 0 l).getD 0
theorem okW_len {canon : Nat → Nat} {l : List UInt8} (h : okW canon l = true) : l.length = 8 := by
  unfold okW at h; simp only [Bool.and_eq_true, decide_eq_true_eq] at h; exact h.1
theorem okW_read {canon : Nat → Nat} {l : List UInt8} (h : okW canon l = true) : readF hexC 0 l = some (numW l) ∧ canon (numW l) = numW l := by
  unfold okW at h
  simp only [Bool.and_eq_true, decide_eq_true_eq] at h
  unfold numW
  cases hr : readF hexC 0 l with
  | none => rw [hr] at h; exact absurd h.2 (by simp)
  | some n => rw [hr] at h; exact ⟨rfl, by simpa using h.2⟩
theorem numW_lt {l : List UInt8} (h : l.length = 8) : numW l < 4294967296 := by
  unfold numW
  cases hr : readF hexC 0 l with
  | none => decide
  | some n =>
    have := readF_lt (fun c d hc => (hexD_hexC hc).2) l 0 n hr
    rw [h, show (0 + 1) * 16 ^ 8 = 4294967296 by decide] at this
    exact this
/-- A word is good just where it is the text of its number's bits: by another reading, too. -/
theorem okW_of_text {canon : Nat → Nat} {l : List UInt8} {n : Nat} (hn : canon n < 4294967296) (hc : canon (canon n) = canon n) (h : hexL 8 (canon n) = l) : okW canon l = true ∧ numW l = canon n := by
  have h1 : readF hexC 0 l = some (canon n) := by
    rw [← h, readF_hexL, Nat.mod_eq_of_lt (by rw [show (16 : Nat) ^ 8 = 4294967296 by decide]; exact hn)]
  refine ⟨?_, by unfold numW; rw [h1]; rfl⟩
  unfold okW
  rw [h1, ← h, hexL_len]
  simp [hc]
theorem text_of_okW {canon : Nat → Nat} {l : List UInt8} (h : okW canon l = true) : hexL 8 (numW l) = l := by
  have h1 := hexL_readF l 0 _ (okW_read h).1
  rw [okW_len h] at h1
  exact h1.1
end Go.Proofs.YtmiajfdhdpmeoaaGreatDoor
