/-
  Logarithms, the plain part: halving and doubling end, counters are whole numbers, and the result is bounded. No condition.
-/
import Derived.Test.YthegbaaelccekaaSin
import Derived.Test.YthegbaaelccekaaBe
namespace Go.Proofs.Ythegbaaelccekaa
open Ieee
attribute [local irreducible] mg

/-- A positive finite number from 2^lo to 2^hi. -/
def Px (lo hi : Int) (o : Option Nat) : Prop := ∃ b m p, o = some b ∧ double.read b = .number false m p ∧ mg 1 lo ≤ mg m p ∧ mg m p ≤ mg 1 hi

theorem mg_half (m : Nat) (i : Int) (hi : -5999 ≤ i) : mg m i = mg m (i - 1) + mg m (i - 1) := by
  rw [mg_add, ← Nat.mul_two]
  have := mg_shift m (i - 1) 1 (by omega)
  rw [show i - 1 + ((1 : Nat) : Int) = i by omega] at this
  exact this

theorem rnd_exact {s : Bool} {m : Nat} {p lo hi : Int} (hp : -6000 ≤ p) (h1 : mg 1 lo ≤ mg m p) (h2 : mg m p ≤ mg 1 hi) (hlo : -1074 ≤ lo) (hhi : -1074 ≤ hi) (hhi2 : hi < 1024) : ∃ m' p', double.read (double.nearest s m p) = .number s m' p' ∧ mg 1 lo ≤ mg m' p' ∧ mg m' p' ≤ mg 1 hi := by
  obtain ⟨m', p', g1, g2, g3, _, _⟩ := rnd s m p hi hp hhi hhi2 h2
  exact ⟨m', p', g1, g3 lo hlo h1, g2⟩

theorem two_read : double.read 4611686018427387904 = .number false (2 ^ 52) (-51) := by decide +kernel
theorem c15_read : double.read 4609434218613702656 = .number false (3 * 2 ^ 51) (-52) := by decide +kernel
theorem c75_read : double.read 4604930618986332160 = .number false (3 * 2 ^ 51) (-53) := by decide +kernel
theorem one_read : double.read 4607182418800017408 = .number false (2 ^ 52) (-52) := by decide +kernel
theorem fc_two : fc 4611686018427387904 = some 4611686018427387904 := by decide +kernel
theorem fc_15 : fc 4609434218613702656 = some 4609434218613702656 := by decide +kernel
theorem fc_75 : fc 4604930618986332160 = some 4604930618986332160 := by decide +kernel
theorem fc_one : fc 4607182418800017408 = some 4607182418800017408 := by decide +kernel

theorem mg_15 : mg (3 * 2 ^ 51) (-52) = mg 3 (-1) := by rw [← mg_shift 3 (-52) 51 (by decide)]; rfl
theorem mg_75 : mg (3 * 2 ^ 51) (-53) = mg 3 (-2) := by rw [← mg_shift 3 (-53) 51 (by decide)]; rfl
theorem mg_1 : mg (2 ^ 52) (-52) = mg 1 0 := by rw [mg_two_pow 52 (-52) (by decide)]; rfl

/-- A test against a constant, by values. -/
theorem fge_mg {b c m n : Nat} {p q : Int} (hb : double.read b = .number false m p) (hc : double.read c = .number false n q) (hq : -6000 ≤ q) : fge (some b) (some c) = decide (mg n q ≤ mg m p) := by
  have bx := read_double hb
  have o : ford .f64 (some b) (some c) = some (compare (sv false m p) (sv false n q)) := order_mg double hb hc (by omega) hq
  unfold fge
  rw [o, compare_int]
  unfold sv
  simp only [Bool.false_eq_true, if_false]
  generalize mg m p = A
  generalize mg n q = B
  by_cases h : B ≤ A
  · rw [decide_eq_true h]
    by_cases h2 : A = B
    · rw [if_neg (by omega), if_pos (by omega)]; rfl
    · rw [if_neg (by omega), if_neg (by omega)]; rfl
  · rw [decide_eq_false h, if_pos (by omega)]; rfl
theorem flt_mg {b c m n : Nat} {p q : Int} (hb : double.read b = .number false m p) (hc : double.read c = .number false n q) (hq : -6000 ≤ q) : flt (some b) (some c) = decide (mg m p < mg n q) := by
  have bx := read_double hb
  have o : ford .f64 (some b) (some c) = some (compare (sv false m p) (sv false n q)) := order_mg double hb hc (by omega) hq
  unfold flt
  rw [o, compare_int]
  unfold sv
  simp only [Bool.false_eq_true, if_false]
  generalize mg m p = A
  generalize mg n q = B
  by_cases h : A < B
  · rw [decide_eq_true h, if_pos (by omega)]; rfl
  · rw [decide_eq_false h, if_neg (by omega)]
    by_cases h2 : A = B
    · rw [if_pos (by omega)]; rfl
    · rw [if_neg (by omega)]; rfl

theorem Px.half {lo hi : Int} {x : Option Nat} (h : Px lo hi x) (hg : fge x (fc 4609434218613702656) = true) (hlo : lo ≤ -1) (hlo2 : -1074 ≤ lo) (hhi : hi < 1000) : 0 < hi ∧ Px lo (hi - 1) (fquo x (fc 4611686018427387904)) := by
  obtain ⟨b, m, i, rfl, hr, h1, h2⟩ := h
  have bx := read_double hr
  rw [fc_15, fge_mg hr c15_read (by decide), mg_15, decide_eq_true_eq] at hg
  have e3 : mg 3 (-1) = mg 1 0 + mg 1 (-1) := by
    rw [mg_half 1 0 (by decide), show (0 : Int) - 1 = -1 by decide, mg_add, mg_add]
  have hpos := mg_pos (m := 1) (p := -1) (by decide)
  have hhi0 : 0 < hi := by
    apply Int.lt_of_not_ge
    intro hle
    have := mg_one_le (p := hi) (q := 0) hle
    omega
  refine ⟨hhi0, ?_⟩
  have hm0 : m ≠ 0 := by
    intro h0
    rw [h0, mg_zero] at hg
    omega
  have hlog : m.log2 < 53 := (Nat.log2_lt hm0).2 bx.1
  have hq : fquo (some b) (fc 4611686018427387904) = some (double.nearest (false ^^ false) (m * 2 ^ (54 + 52 - m.log2 - 51)) (i - -51 - (54 + 52 - m.log2 : Nat) - 1)) := by
    rw [fc_two]
    show fop .quo .f64 _ _ = _
    rw [fop_quo, hr, two_read]
    have hl : (2 ^ 52 : Nat).log2 = 52 := by decide +kernel
    simp only [Datum.quotient, if_neg (show ¬ (2 ^ 52 : Nat) = 0 by decide), hl, Option.map_some]
    obtain ⟨k, hk⟩ : ∃ k, 54 + 52 - m.log2 = k + 52 := ⟨54 + 52 - m.log2 - 52, by omega⟩
    rw [hk, Nat.shiftLeft_eq, Nat.pow_add, ← Nat.mul_assoc, Nat.mul_div_cancel _ (Nat.two_pow_pos 52), Nat.mul_mod_left]
    rw [show k + 52 - 51 = k + 1 by omega, Nat.pow_succ]
    show some (double.nearest _ (2 * (m * 2 ^ k) + 0) _) = _
    rw [Nat.add_zero, Nat.mul_comm 2, Nat.mul_assoc]
  obtain ⟨k, hk⟩ : ∃ k, 54 + 52 - m.log2 = k := ⟨_, rfl⟩
  rw [hq, hk]
  have hv : mg (m * 2 ^ (k - 51)) (i - -51 - (k : Int) - 1) = mg m (i - 1) := by
    rw [← mg_shift _ _ _ (by omega)]
    congr 1
    omega
  have hh := mg_half m i (by omega)
  have h2' : mg m (i - 1) ≤ mg 1 (hi - 1) := by
    have := mg_half 1 hi (by omega)
    omega
  have h1' : mg 1 lo ≤ mg m (i - 1) := by
    have e1 := mg_half 1 (-1) (by decide)
    have e2 := mg_half 1 0 (by decide)
    rw [show (0 : Int) - 1 = -1 by decide] at e2
    have := mg_one_le (p := lo) (q := -1) hlo
    omega
  obtain ⟨m', p', g1, g2, g3⟩ := rnd_exact (s := false ^^ false) (m := m * 2 ^ (k - 51)) (p := i - -51 - (k : Int) - 1) (lo := lo) (hi := hi - 1) (by omega) (by rw [hv]; exact h1') (by rw [hv]; exact h2') hlo2 (by omega) (by omega)
  exact ⟨_, m', p', rfl, g1, g2, g3⟩

theorem Px.twice {lo hi : Int} {x : Option Nat} (h : Px lo hi x) (hg : flt x (fc 4604930618986332160) = true) (hlo2 : -1074 ≤ lo) (hhi : 1 ≤ hi) (hhi2 : hi < 1000) : lo < 0 ∧ Px (lo + 1) hi (fmul x (fc 4611686018427387904)) := by
  obtain ⟨b, m, i, rfl, hr, h1, h2⟩ := h
  have bx := read_double hr
  rw [fc_75, flt_mg hr c75_read (by decide), mg_75, decide_eq_true_eq] at hg
  have e3 : mg 3 (-2) = mg 1 (-1) + mg 1 (-2) := by
    rw [mg_half 1 (-1) (by decide), show (-1 : Int) - 1 = -2 by decide, mg_add, mg_add]
  have e1 := mg_half 1 (-1) (by decide)
  rw [show (-1 : Int) - 1 = -2 by decide] at e1
  have e2 := mg_half 1 0 (by decide)
  rw [show (0 : Int) - 1 = -1 by decide] at e2
  have hlo0 : lo < 0 := by
    apply Int.lt_of_not_ge
    intro hle
    have := mg_one_le (p := 0) (q := lo) hle
    omega
  refine ⟨hlo0, ?_⟩
  have hq : fmul (some b) (fc 4611686018427387904) = some (double.nearest (false ^^ false) (m * 2 ^ 52) (i + -51)) := by
    rw [fc_two]
    show fop .mul .f64 _ _ = _
    rw [fop_mul, hr, two_read]
    rfl
  rw [hq]
  have hv : mg (m * 2 ^ 52) (i + -51) = mg m (i + 1) := by
    rw [← mg_shift _ _ _ (by omega)]
    congr 1
    omega
  have hh := mg_half m (i + 1) (by omega)
  rw [show i + 1 - 1 = i by omega] at hh
  have h2' : mg m (i + 1) ≤ mg 1 hi := by
    have e4 := mg_half 1 1 (by decide)
    rw [show (1 : Int) - 1 = 0 by decide] at e4
    have := mg_one_le (p := 1) (q := hi) hhi
    omega
  have h1' : mg 1 (lo + 1) ≤ mg m (i + 1) := by
    have := mg_half 1 (lo + 1) (by omega)
    rw [show lo + 1 - 1 = lo by omega] at this
    omega
  obtain ⟨m', p', g1, g2, g3⟩ := rnd_exact (s := false ^^ false) (m := m * 2 ^ 52) (p := i + -51) (lo := lo + 1) (hi := hi) (by omega) (by rw [hv]; exact h1') (by rw [hv]; exact h2') (by omega) (by omega) (by omega)
  exact ⟨_, m', p', rfl, g1, g2, g3⟩

/-! ### The two loops -/
def itH (x : Option Nat) : Nat → Option Nat
  | 0 => x
  | j + 1 => fquo (itH x j) (fc 4611686018427387904)
def itD (x : Option Nat) : Nat → Option Nat
  | 0 => x
  | j + 1 => fmul (itD x j) (fc 4611686018427387904)

/-- The number of halvings, of doublings. -/
def numH (x : Option Nat) : Nat → Nat
  | 0 => 0
  | g + 1 => if fge x (fc 4609434218613702656) = true then numH (fquo x (fc 4611686018427387904)) g + 1 else 0
def numD (x : Option Nat) : Nat → Nat
  | 0 => 0
  | g + 1 => if flt x (fc 4604930618986332160) = true then numD (fmul x (fc 4611686018427387904)) g + 1 else 0

/-- Counters. -/
theorem count_up : ∀ n : Fin 600, fadd (some (floatOfInt .f64 ((n : Nat) - 300 : Int))) (fc 4607182418800017408) = some (floatOfInt .f64 ((n : Nat) - 300 + 1 : Int)) := by decide +kernel
theorem count_down : ∀ n : Fin 600, fsub (some (floatOfInt .f64 ((n : Nat) - 300 : Int))) (fc 4607182418800017408) = some (floatOfInt .f64 ((n : Nat) - 300 - 1 : Int)) := by decide +kernel
theorem count_up' (n : Int) (h1 : -300 ≤ n) (h2 : n < 300) : fadd (some (floatOfInt .f64 n)) (fc 4607182418800017408) = some (floatOfInt .f64 (n + 1)) := by
  have := count_up ⟨(n + 300).toNat, by omega⟩
  rw [show (((⟨(n + 300).toNat, by omega⟩ : Fin 600) : Nat) : Int) - 300 = n by simp; omega] at this
  exact this
theorem count_down' (n : Int) (h1 : -300 ≤ n) (h2 : n < 300) : fsub (some (floatOfInt .f64 n)) (fc 4607182418800017408) = some (floatOfInt .f64 (n - 1)) := by
  have := count_down ⟨(n + 300).toNat, by omega⟩
  rw [show (((⟨(n + 300).toNat, by omega⟩ : Fin 600) : Nat) : Int) - 300 = n by simp; omega] at this
  exact this
end Go.Proofs.Ythegbaaelccekaa
