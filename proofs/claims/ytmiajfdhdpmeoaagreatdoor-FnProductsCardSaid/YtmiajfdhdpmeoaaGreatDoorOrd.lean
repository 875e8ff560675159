/-
  Numbers are compared as their words are: by the sign and the rung. No condition.
-/
import Derived.Test.YtmiajfdhdpmeoaaGreatDoorNum
namespace Go.Proofs.YtmiajfdhdpmeoaaGreatDoor
open Ieee

/-- The word's rung, negated under the sign bit. -/
def sr (f : Format) (w : Nat) : Int := if w / f.signWeight % 2 = 1 then -((w % f.signWeight : Nat) : Int) else ((w % f.signWeight : Nat) : Int)

theorem read_canon {f : Format} (hf : f.binade ≤ f.infRung) {w : Nat} {s : Bool} {m : Nat} {p : Int} (h : f.read w = .number s m p) :
    s = (w / f.signWeight % 2 == 1) ∧ w % f.signWeight < f.infRung ∧ w % f.signWeight = (p - f.leastPlace).toNat * f.binade + m ∧ f.leastPlace ≤ p ∧ m < 2 * f.binade ∧ (f.leastPlace < p → f.binade ≤ m) := by
  have hB := binade_pos f
  unfold Format.read at h
  simp only at h
  generalize w % f.signWeight = r at h ⊢
  split at h
  · injection h with h1 h2 h3
    subst h1 h2 h3
    exact ⟨rfl, by omega, by simp, Int.le_refl _, by omega, fun h => by omega⟩
  · split at h
    · injection h with h1 h2 h3
      have h4 : r % f.binade < f.binade := Nat.mod_lt _ hB
      have h5 := Nat.div_add_mod r f.binade
      have h6 : 0 < r / f.binade := Nat.div_pos (by omega) hB
      subst h1 h2 h3
      refine ⟨rfl, by omega, ?_, by omega, by omega, fun _ => by omega⟩
      rw [show (f.leastPlace + ((r / f.binade - 1 : Nat) : Int) - f.leastPlace).toNat = r / f.binade - 1 by omega]
      obtain ⟨d, hd⟩ : ∃ d, r / f.binade = d + 1 := ⟨r / f.binade - 1, by omega⟩
      rw [hd] at h5 ⊢
      rw [Nat.mul_comm, Nat.succ_mul] at h5
      simp only [Nat.add_sub_cancel]
      omega
    · split at h <;> cases h

/-- Two numbers in their canonical forms: by size as by rung. -/
theorem canon_lt (B : Nat) (l p q : Int) (m n : Nat) (hp : l ≤ p) (hq : l ≤ q) (hm : m < 2 * B) (hn : n < 2 * B) (hpm : l < p → B ≤ m) (hqn : l < q → B ≤ n) :
    ((p - l).toNat * B + m < (q - l).toNat * B + n → m <<< (p - min p q).toNat < n <<< (q - min p q).toNat) ∧
    ((p - l).toNat * B + m = (q - l).toNat * B + n → m <<< (p - min p q).toNat = n <<< (q - min p q).toNat) := by
  rw [Nat.shiftLeft_eq, Nat.shiftLeft_eq]
  have cases3 : p = q ∨ p < q ∨ q < p := by omega
  rcases cases3 with rfl | h | h
  · rw [show min p p = p by omega, show (p - p).toNat = 0 by omega]
    exact ⟨fun h => by omega, fun h => by omega⟩
  · rw [show min p q = p by omega, show (p - p).toNat = 0 by omega, Nat.pow_zero, Nat.mul_one]
    have hn' := hqn (by omega)
    obtain ⟨k, hk⟩ : ∃ k, (q - p).toNat = k + 1 := ⟨(q - p).toNat - 1, by omega⟩
    have e : (q - l).toNat = (p - l).toNat + 1 + k := by omega
    have h2 : n * 2 ≤ n * 2 ^ (k + 1) := Nat.mul_le_mul_left n (by rw [Nat.pow_succ]; have := Nat.two_pow_pos k; omega)
    rw [hk]
    constructor
    · intro _; omega
    · intro he
      exfalso
      rw [e, Nat.add_mul, Nat.add_mul] at he
      omega
  · rw [show min p q = q by omega, show (q - q).toNat = 0 by omega, Nat.pow_zero, Nat.mul_one]
    have hm' := hpm (by omega)
    obtain ⟨k, hk⟩ : ∃ k, (p - q).toNat = k + 1 := ⟨(p - q).toNat - 1, by omega⟩
    have e : (p - l).toNat = (q - l).toNat + 1 + k := by omega
    constructor
    · intro he
      exfalso
      rw [e, Nat.add_mul, Nat.add_mul] at he
      omega
    · intro he
      exfalso
      rw [e, Nat.add_mul, Nat.add_mul] at he
      omega

theorem compare_int (a b : Int) : compare a b = if a < b then .lt else if a = b then .eq else .gt := rfl

theorem compare_of {a b c d : Int} (h1 : a < b → c < d) (h2 : a = b → c = d) (h3 : b < a → d < c) : compare a b = compare c d := by
  rw [compare_int, compare_int]
  by_cases x : a < b
  · rw [if_pos x, if_pos (h1 x)]
  · by_cases y : a = b
    · have := h2 y
      rw [if_neg x, if_pos y, if_neg (by omega), if_pos this]
    · have := h3 (by omega)
      rw [if_neg x, if_neg y, if_neg (by omega), if_neg (by omega)]

theorem order_sr (f : Format) (hf : f.binade ≤ f.infRung) (x y : Nat) (hx : (f.read x).isNaN = false) (hy : (f.read y).isNaN = false) : f.order x y = some (compare (sr f x) (sr f y)) := by
  have key : ∀ w, (f.read w).isNaN = false → (∃ m p, f.read w = .number (w / f.signWeight % 2 == 1) m p ∧ w % f.signWeight < f.infRung ∧ w % f.signWeight = (p - f.leastPlace).toNat * f.binade + m ∧ f.leastPlace ≤ p ∧ m < 2 * f.binade ∧ (f.leastPlace < p → f.binade ≤ m)) ∨
      (f.read w = .infinity (w / f.signWeight % 2 == 1) ∧ w % f.signWeight = f.infRung) := by
    intro w hw
    cases h : f.read w with
    | number s m p =>
      obtain ⟨h1, h2⟩ := read_canon hf h
      exact .inl ⟨m, p, by rw [← h1], h2⟩
    | infinity s =>
      right
      unfold Format.read at h
      simp only at h
      split at h
      · cases h
      · split at h
        · cases h
        · split at h
          · injection h with h; subst h; exact ⟨rfl, by assumption⟩
          · cases h
    | nan s t => rw [h] at hw; cases hw
  have hB := binade_pos f
  have hinf : 0 < f.infRung := by omega
  unfold Format.order sr
  rcases key x hx with ⟨m, p, ex, x1, x2, x3, x4, x5⟩ | ⟨ex, x1⟩ <;> rcases key y hy with ⟨n, q, ey, y1, y2, y3, y4, y5⟩ | ⟨ey, y1⟩ <;> rw [ex, ey] <;> simp only [Datum.order] <;> congr 1
  · have c1 := canon_lt f.binade f.leastPlace p q m n x3 y3 x4 y4 x5 y5
    have c2 := canon_lt f.binade f.leastPlace q p n m y3 x3 y4 x4 y5 x5
    rw [show min q p = min p q by omega] at c2
    rw [← x2, ← y2] at c1 c2
    have z1 : m <<< (p - min p q).toNat = 0 ↔ x % f.signWeight = 0 := by
      rw [Nat.shiftLeft_eq, x2]
      have h2 := Nat.two_pow_pos (p - min p q).toNat
      constructor
      · intro h
        have hm : m = 0 := by
          rcases Nat.mul_eq_zero.1 h with h | h
          · exact h
          · omega
        have : ¬ f.leastPlace < p := fun hl => by have := x5 hl; omega
        rw [show (p - f.leastPlace).toNat = 0 by omega, hm]; simp
      · intro h; rw [show m = 0 by omega]; simp
    have z2 : n <<< (q - min p q).toNat = 0 ↔ y % f.signWeight = 0 := by
      rw [Nat.shiftLeft_eq, y2]
      have h2 := Nat.two_pow_pos (q - min p q).toNat
      constructor
      · intro h
        have hm : n = 0 := by
          rcases Nat.mul_eq_zero.1 h with h | h
          · exact h
          · omega
        have : ¬ f.leastPlace < q := fun hl => by have := y5 hl; omega
        rw [show (q - f.leastPlace).toNat = 0 by omega, hm]; simp
      · intro h; rw [show n = 0 by omega]; simp
    unfold signed
    generalize m <<< (p - min p q).toNat = a at c1 c2 z1 ⊢
    generalize n <<< (q - min p q).toNat = b at c1 c2 z2 ⊢
    generalize x % f.signWeight = r at c1 c2 z1 ⊢
    generalize y % f.signWeight = t at c1 c2 z2 ⊢
    generalize x / f.signWeight % 2 = s1
    generalize y / f.signWeight % 2 = s2
    obtain ⟨c1a, c1b⟩ := c1
    obtain ⟨c2a, c2b⟩ := c2
    have tri : r < t ∨ r = t ∨ t < r := by omega
    have ab : (a < b ↔ r < t) ∧ (a = b ↔ r = t) := by
      rcases tri with h | h | h
      · have := c1a h; omega
      · have := c1b h; omega
      · have := c2a h; omega
    simp only [beq_iff_eq]
    by_cases h1 : s1 = 1 <;> by_cases h2 : s2 = 1 <;> simp only [h1, h2, if_true, if_false]
    all_goals exact compare_of (by omega) (by omega) (by omega)
  · generalize x % f.signWeight = r at x1 ⊢
    rw [y1]
    generalize x / f.signWeight % 2 = s1
    generalize y / f.signWeight % 2 = s2
    by_cases h1 : s1 = 1 <;> by_cases h2 : s2 = 1 <;> simp only [h1, h2, beq_iff_eq, if_true, if_false, compare_int] <;> first | (rw [if_pos (by omega)]) | (rw [if_neg (by omega), if_neg (by omega)])
  · generalize y % f.signWeight = r at y1 ⊢
    rw [x1]
    generalize x / f.signWeight % 2 = s1
    generalize y / f.signWeight % 2 = s2
    by_cases h1 : s1 = 1 <;> by_cases h2 : s2 = 1 <;> simp only [h1, h2, beq_iff_eq, if_true, if_false, compare_int] <;> first | (rw [if_pos (by omega)]) | (rw [if_neg (by omega), if_neg (by omega)])
  · rw [x1, y1]
    simp only [← beq_iff_eq (b := 1)]
    generalize (x / f.signWeight % 2 == 1) = b1
    generalize (y / f.signWeight % 2 == 1) = b2
    cases b1 <;> cases b2 <;> simp only [Bool.false_eq_true, if_true, if_false, Bool.toNat_true, Bool.toNat_false, compare_int]
    · rw [if_neg (by omega)]; first | rfl | (rw [if_pos rfl]; rfl)
    · rw [if_neg (by omega), if_neg (by omega)]; rfl
    · rw [if_pos (by omega)]; rfl
    · rw [if_neg (by omega)]; first | rfl | (rw [if_pos rfl]; rfl)
end Go.Proofs.YtmiajfdhdpmeoaaGreatDoor
