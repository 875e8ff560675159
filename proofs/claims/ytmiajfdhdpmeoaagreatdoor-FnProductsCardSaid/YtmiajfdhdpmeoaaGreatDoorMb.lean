/-
  Bounds on what 64-bit operations give: crude powers of two, enough to show that a result is finite and not too large for float32. No condition.
  More bounds: constants, square roots, whole numbers, what is left of a number without its whole part. No condition.
  Whole numbers in floats: sums, differences, products and exact quotients of them are exact. No program, no condition.
-/
import Derived.Test.YtmiajfdhdpmeoaaGreatDoorVal
namespace Go.Proofs.YtmiajfdhdpmeoaaGreatDoor
open Ieee

/-- A finite number, at most 2^E in magnitude. -/
def Bd (E : Int) (o : Option Nat) : Prop := ∀ b, o = some b → ∃ s m p, double.read b = .number s m p ∧ mg m p ≤ mg 1 E
/-- The same, and not less than zero. -/
def Nn (E : Int) (o : Option Nat) : Prop := ∀ b, o = some b → ∃ s m p, double.read b = .number s m p ∧ (s = true → m = 0) ∧ mg m p ≤ mg 1 E
/-- A finite number, at least 2^F in magnitude. -/
def Lb (F : Int) (o : Option Nat) : Prop := ∀ b, o = some b → ∃ s m p, double.read b = .number s m p ∧ mg 1 F ≤ mg m p

theorem Nn.bd {E : Int} {o : Option Nat} (h : Nn E o) : Bd E o := fun b hb => let ⟨s, m, p, h1, _, h3⟩ := h b hb; ⟨s, m, p, h1, h3⟩
theorem Bd.mono {E E' : Int} {o : Option Nat} (h : Bd E o) (hE : E ≤ E') : Bd E' o := fun b hb => let ⟨s, m, p, h1, h2⟩ := h b hb; ⟨s, m, p, h1, Nat.le_trans h2 (mg_one_le hE)⟩
theorem Nn.mono {E E' : Int} {o : Option Nat} (h : Nn E o) (hE : E ≤ E') : Nn E' o := fun b hb => let ⟨s, m, p, h1, h2, h3⟩ := h b hb; ⟨s, m, p, h1, h2, Nat.le_trans h3 (mg_one_le hE)⟩
theorem Bd.none (E : Int) : Bd E none := fun _ h => by cases h
theorem Nn.none (E : Int) : Nn E none := fun _ h => by cases h

/-- ROUNDING in 64 bits. -/
theorem rnd (s : Bool) (m : Nat) (p E : Int) (hp : -6000 ≤ p) (hE : -1074 ≤ E) (hE2 : E < 1024) (h : mg m p ≤ mg 1 E) :
    ∃ m' p', double.read (double.nearest s m p) = .number s m' p' ∧ mg m' p' ≤ mg 1 E ∧ (∀ F, -1074 ≤ F → mg 1 F ≤ mg m p → mg 1 F ≤ mg m' p') ∧ (∀ n F, n ≤ 2 ^ 53 → -1074 ≤ F → mg m p ≤ mg n F → mg m' p' ≤ mg n F) ∧ (∀ n F, n ≤ 2 ^ 53 → -1074 ≤ F → mg n F ≤ mg m p → mg n F ≤ mg m' p') := by
  obtain ⟨m', p', h1, _, _, _, h5, h6, h7⟩ := read_nearest double s m p hp (by decide) (by decide) 1 E (by decide) hE h (mg_one_lt (by omega) hE2)
  exact ⟨m', p', h1, h5, fun F a b => h6 1 F (by decide) a b, fun n F a b c => h7 n F a b c, fun n F a b c => h6 n F a b c⟩

theorem mg_two (E : Int) (hE : -6000 ≤ E) : mg 1 E + mg 1 E = mg 1 (E + 1) := by
  have := mg_two_pow 1 E hE
  rw [mg_add]
  exact this

/-- The exact sum. -/
theorem sum_mg (s t : Bool) (m n : Nat) (i j : Int) (hi : -6000 ≤ i) (hj : -6000 ≤ j) :
    mg (signed s m (i - min i j).toNat + signed t n (j - min i j).toNat).natAbs (min i j) ≤ mg m i + mg n j := by
  have e1 : mg m i = mg (m <<< (i - min i j).toNat) (min i j) := by rw [Nat.shiftLeft_eq, ← mg_shift _ _ _ (by omega)]; congr 1; omega
  have e2 : mg n j = mg (n <<< (j - min i j).toNat) (min i j) := by rw [Nat.shiftLeft_eq, ← mg_shift _ _ _ (by omega)]; congr 1; omega
  rw [e1, e2, mg_add, mg_le_iff]
  unfold signed
  generalize m <<< (i - min i j).toNat = A
  generalize n <<< (j - min i j).toNat = B
  cases s <;> cases t <;> simp only [Bool.false_eq_true, if_true, if_false] <;> omega

theorem fop_add (x y : Nat) : fop .add .f64 (some x) (some y) = ((double.read x).sum (double.read y)).map double.write := rfl
theorem fop_sub (x y : Nat) : fop .sub .f64 (some x) (some y) = ((double.read x).sum (double.read y).opposite).map double.write := rfl
theorem fop_mul (x y : Nat) : fop .mul .f64 (some x) (some y) = ((double.read x).product (double.read y)).map double.write := rfl
theorem fop_quo (x y : Nat) : fop .quo .f64 (some x) (some y) = ((double.read x).quotient 54 (double.read y)).map double.write := rfl
theorem fop_none_left (op : BinOp) (k : FloatKind) (b : Option Nat) : fop op k none b = none := rfl
theorem fop_none_right (op : BinOp) (k : FloatKind) (a : Option Nat) : fop op k a none = none := by cases a <;> rfl

theorem Bd.add {E1 E2 E : Int} {a b : Option Nat} (ha : Bd E1 a) (hb : Bd E2 b) (h1 : E1 < E) (h2 : E2 < E) (hE : -1073 ≤ E) (hE2 : E < 1024) : Bd E (fop .add .f64 a b) := by
  cases a with
  | none => exact Bd.none _
  | some x =>
  cases b with
  | none => exact Bd.none _
  | some y =>
    obtain ⟨s, m, i, hx, hm⟩ := ha x rfl
    obtain ⟨t, n, j, hy, hn⟩ := hb y rfl
    have bx := read_double hx
    have by' := read_double hy
    rw [fop_add, hx, hy]
    intro r hr
    simp only [Datum.sum, Option.map_some, Option.some.injEq] at hr
    subst hr
    have hs := sum_mg s t m n i j (by omega) (by omega)
    have hle : mg m i + mg n j ≤ mg 1 E := by
      have e : E = E - 1 + 1 := by omega
      rw [e, ← mg_two _ (by omega)]
      exact Nat.add_le_add (Nat.le_trans hm (mg_one_le (by omega))) (Nat.le_trans hn (mg_one_le (by omega)))
    obtain ⟨m', p', g1, g2, _⟩ := rnd (if signed s m (i - min i j).toNat + signed t n (j - min i j).toNat = 0 then s && t else decide (signed s m (i - min i j).toNat + signed t n (j - min i j).toNat < 0)) _ (min i j) E (by omega) (by omega) hE2 (Nat.le_trans hs hle)
    exact ⟨_, m', p', g1, g2⟩

theorem Bd.sub {E1 E2 E : Int} {a b : Option Nat} (ha : Bd E1 a) (hb : Bd E2 b) (h1 : E1 < E) (h2 : E2 < E) (hE : -1073 ≤ E) (hE2 : E < 1024) : Bd E (fop .sub .f64 a b) := by
  cases a with
  | none => exact Bd.none _
  | some x =>
  cases b with
  | none => exact Bd.none _
  | some y =>
    obtain ⟨s, m, i, hx, hm⟩ := ha x rfl
    obtain ⟨t, n, j, hy, hn⟩ := hb y rfl
    have bx := read_double hx
    have by' := read_double hy
    rw [fop_sub, hx, hy]
    intro r hr
    simp only [Datum.opposite, Datum.sum, Option.map_some, Option.some.injEq] at hr
    subst hr
    have hs := sum_mg s (!t) m n i j (by omega) (by omega)
    have hle : mg m i + mg n j ≤ mg 1 E := by
      have e : E = E - 1 + 1 := by omega
      rw [e, ← mg_two _ (by omega)]
      exact Nat.add_le_add (Nat.le_trans hm (mg_one_le (by omega))) (Nat.le_trans hn (mg_one_le (by omega)))
    obtain ⟨m', p', g1, g2, _⟩ := rnd (if signed s m (i - min i j).toNat + signed (!t) n (j - min i j).toNat = 0 then s && !t else decide (signed s m (i - min i j).toNat + signed (!t) n (j - min i j).toNat < 0)) _ (min i j) E (by omega) (by omega) hE2 (Nat.le_trans hs hle)
    exact ⟨_, m', p', g1, g2⟩

theorem Nn.add {E1 E2 E : Int} {a b : Option Nat} (ha : Nn E1 a) (hb : Nn E2 b) (h1 : E1 < E) (h2 : E2 < E) (hE : -1073 ≤ E) (hE2 : E < 1024) :
    Nn E (fop .add .f64 a b) ∧ (∀ F, -1074 ≤ F → Lb F a → Lb F (fop .add .f64 a b)) := by
  cases a with
  | none => exact ⟨Nn.none _, fun F _ _ b h => by cases h⟩
  | some x =>
  cases b with
  | none => exact ⟨Nn.none _, fun F _ _ b h => by cases h⟩
  | some y =>
    obtain ⟨s, m, i, hx, hsm, hm⟩ := ha x rfl
    obtain ⟨t, n, j, hy, htn, hn⟩ := hb y rfl
    have bx := read_double hx
    have by' := read_double hy
    have hs := sum_mg s t m n i j (by omega) (by omega)
    have hle : mg m i + mg n j ≤ mg 1 E := by
      have e : E = E - 1 + 1 := by omega
      rw [e, ← mg_two _ (by omega)]
      exact Nat.add_le_add (Nat.le_trans hm (mg_one_le (by omega))) (Nat.le_trans hn (mg_one_le (by omega)))
    have hpos : signed s m (i - min i j).toNat + signed t n (j - min i j).toNat = ((m <<< (i - min i j).toNat + n <<< (j - min i j).toNat : Nat) : Int) := by
      unfold signed
      have hs' : s = true → (m <<< (i - min i j).toNat) = 0 := fun h => by rw [hsm h, Nat.zero_shiftLeft]
      have ht' : t = true → (n <<< (j - min i j).toNat) = 0 := fun h => by rw [htn h, Nat.zero_shiftLeft]
      cases s <;> cases t <;> simp_all
    have e1 : mg m i = mg (m <<< (i - min i j).toNat) (min i j) := by rw [Nat.shiftLeft_eq, ← mg_shift _ _ _ (by omega)]; congr 1; omega
    obtain ⟨m', p', g1, g2, g3, g4, _⟩ := rnd (if signed s m (i - min i j).toNat + signed t n (j - min i j).toNat = 0 then s && t else decide (signed s m (i - min i j).toNat + signed t n (j - min i j).toNat < 0)) _ (min i j) E (by omega) (by omega) hE2 (Nat.le_trans hs hle)
    have hr : ∀ r, fop .add .f64 (some x) (some y) = some r → r = double.nearest (if signed s m (i - min i j).toNat + signed t n (j - min i j).toNat = 0 then s && t else decide (signed s m (i - min i j).toNat + signed t n (j - min i j).toNat < 0)) (signed s m (i - min i j).toNat + signed t n (j - min i j).toNat).natAbs (min i j) := by
      intro r hr
      rw [fop_add, hx, hy] at hr
      simp only [Datum.sum, Option.map_some, Option.some.injEq] at hr
      exact hr.symm
    refine ⟨fun r h => ?_, fun F hF hl r h => ?_⟩
    · rw [hr r h]
      refine ⟨_, m', p', g1, ?_, g2⟩
      rw [hpos] at g4 ⊢
      intro hsg
      by_cases h0 : ((m <<< (i - min i j).toNat + n <<< (j - min i j).toNat : Nat) : Int) = 0
      · rw [h0] at g4
        have := g4 0 0 (by decide) (by decide) (by rw [show (Int.natAbs 0) = 0 from rfl, mg_zero]; exact Nat.zero_le _)
        rw [mg_zero] at this
        rcases Nat.eq_zero_or_pos m' with h | h
        · exact h
        · have := mg_pos (p := p') h; omega
      · rw [if_neg h0, decide_eq_true_eq] at hsg
        exact absurd hsg (Int.not_lt.2 (Int.natCast_nonneg _))
    · rw [hr r h]
      refine ⟨_, m', p', g1, g3 F hF ?_⟩
      obtain ⟨s2, m2, p2, h2, hl2⟩ := hl x rfl
      rw [hx] at h2
      injection h2 with _ h3 h4
      subst h3 h4
      refine Nat.le_trans hl2 ?_
      rw [e1, mg_le_iff, hpos]
      generalize m <<< (i - min i j).toNat = A
      generalize n <<< (j - min i j).toNat = B
      omega

/-- The unit's own weight. -/
def unit (k : Nat) : Nat := 2 ^ k
theorem unit_pos (k : Nat) : 0 < unit k := Nat.two_pow_pos _
theorem mg_mul (m n : Nat) (p q : Int) (hp : -2999 ≤ p) (hq : -2999 ≤ q) : mg m p * mg n q = mg (m * n) (p + q) * unit 6000 := by
  have key : ∀ k : Nat, k = 6000 → mg m p * mg n q = mg (m * n) (p + q) * unit k := by
    intro k hk
    unfold mg unit
    rw [Nat.mul_mul_mul_comm, ← Nat.pow_add, Nat.mul_assoc (m * n), ← Nat.pow_add]
    congr 2
    omega
  exact key 6000 rfl

theorem Bd.mul {E1 E2 E : Int} {a b : Option Nat} (ha : Bd E1 a) (hb : Bd E2 b) (h : E1 + E2 ≤ E) (h1 : -2999 ≤ E1) (h2 : -2999 ≤ E2) (hE : -1074 ≤ E) (hE2 : E < 1024) : Bd E (fop .mul .f64 a b) := by
  cases a with
  | none => exact Bd.none _
  | some x =>
  cases b with
  | none => exact Bd.none _
  | some y =>
    obtain ⟨s, m, i, hx, hm⟩ := ha x rfl
    obtain ⟨t, n, j, hy, hn⟩ := hb y rfl
    have bx := read_double hx
    have by' := read_double hy
    rw [fop_mul, hx, hy]
    intro r hr
    simp only [Datum.product, Option.map_some, Option.some.injEq] at hr
    subst hr
    have hle : mg (m * n) (i + j) ≤ mg 1 E := by
      have h3 := Nat.mul_le_mul hm hn
      rw [mg_mul _ _ _ _ (by omega) (by omega), mg_mul _ _ _ _ h1 h2] at h3
      exact Nat.le_trans (Nat.le_of_mul_le_mul_right h3 (unit_pos _)) (by rw [Nat.one_mul]; exact mg_one_le h)
    obtain ⟨m', p', g1, g2, _⟩ := rnd (s ^^ t) _ (i + j) E (by omega) hE hE2 hle
    exact ⟨_, m', p', g1, g2⟩

/-- A square is not less than zero. -/
theorem Nn.sq {E1 E : Int} {a : Option Nat} (ha : Bd E1 a) (h : E1 + E1 ≤ E) (h1 : -2999 ≤ E1) (hE : -1074 ≤ E) (hE2 : E < 1024) : Nn E (fop .mul .f64 a a) := by
  cases a with
  | none => exact Nn.none _
  | some x =>
    obtain ⟨s, m, i, hx, hm⟩ := ha x rfl
    have bx := read_double hx
    rw [fop_mul, hx]
    intro r hr
    simp only [Datum.product, Option.map_some, Option.some.injEq] at hr
    subst hr
    have hle : mg (m * m) (i + i) ≤ mg 1 E := by
      have h3 := Nat.mul_le_mul hm hm
      rw [mg_mul _ _ _ _ (by omega) (by omega), mg_mul _ _ _ _ h1 h1] at h3
      exact Nat.le_trans (Nat.le_of_mul_le_mul_right h3 (unit_pos _)) (by rw [Nat.one_mul]; exact mg_one_le h)
    obtain ⟨m', p', g1, g2, _⟩ := rnd (s ^^ s) _ (i + i) E (by omega) hE hE2 hle
    exact ⟨_, m', p', g1, by simp, g2⟩

theorem Bd.div {E1 F E : Int} {a b : Option Nat} (ha : Bd E1 a) (hb : Lb F b) (h : E1 + 1 ≤ E + F) (h1 : -2999 ≤ E1) (h2 : -2999 ≤ F) (hE : -1074 ≤ E) (hE2 : E < 1024) : Bd E (fop .quo .f64 a b) := by
  cases a with
  | none => exact Bd.none _
  | some x =>
  cases b with
  | none => exact Bd.none _
  | some y =>
    obtain ⟨s, m, i, hx, hm⟩ := ha x rfl
    obtain ⟨t, n, j, hy, hn⟩ := hb y rfl
    have bx := read_double hx
    have by' := read_double hy
    have hn0 : n ≠ 0 := by
      intro h0
      rw [h0, mg_zero] at hn
      have := mg_pos (m := 1) (p := F) (by decide)
      omega
    rw [fop_quo, hx, hy]
    intro r hr
    simp only [Datum.quotient, if_neg hn0, Option.map_some, Option.some.injEq] at hr
    subst hr
    generalize hmore : 54 + n.log2 - m.log2 = more
    have hmore2 : more ≤ 106 := by
      have : n.log2 < 53 := (Nat.log2_lt hn0).2 by'.1
      omega
    have hle : mg (2 * (m <<< more / n) + (m <<< more % n != 0).toNat) (i - j - more - 1) ≤ mg 1 E := by
      rcases Nat.eq_zero_or_pos m with rfl | hmp
      · rw [Nat.zero_shiftLeft, Nat.zero_div, Nat.zero_mod]
        rw [show 2 * 0 + ((0 : Nat) != 0).toNat = 0 from rfl, mg_zero]; exact Nat.zero_le _
      · rw [Nat.shiftLeft_eq]
        have hD : n ≤ m * 2 ^ more := by
          have l1 : 2 ^ m.log2 ≤ m := Nat.log2_self_le (by omega)
          have l2 : n < 2 ^ (n.log2 + 1) := Nat.lt_log2_self
          have l3 : 2 ^ (n.log2 + 1) ≤ 2 ^ (m.log2 + more) := Nat.pow_le_pow_right (by decide) (by omega)
          have l4 := Nat.mul_le_mul_right (2 ^ more) l1
          rw [← Nat.pow_add] at l4
          omega
        generalize hDd : m * 2 ^ more = D at hD
        have hq : 1 ≤ D / n := Nat.div_pos hD (by omega)
        have hdm := Nat.div_add_mod D n
        have hq3 : (2 * (D / n) + (D % n != 0).toNat) * n ≤ 4 * D := by
          have : (D % n != 0).toNat ≤ 1 := by cases (D % n != 0) <;> simp
          have h5 : 2 * (D / n) + (D % n != 0).toNat ≤ 4 * (D / n) := by omega
          have h6 := Nat.mul_le_mul_right n h5
          have h7 : D / n * n ≤ D := Nat.div_mul_le_self D n
          rw [Nat.mul_assoc] at h6
          omega
        generalize 2 * (D / n) + (D % n != 0).toNat = q at hq3
        -- q * 2^place * (n * 2^j) ≤ 2 m 2^i
        have k1 : mg q (i - j - more - 1) * mg n j ≤ mg 1 (E1 + 1) * unit 6000 := by
          rw [mg_mul _ _ _ _ (by omega) (by omega)]
          refine Nat.mul_le_mul_right _ ?_
          refine Nat.le_trans ((mg_le_iff (p := i - j - more - 1 + j)).2 hq3) ?_
          rw [← hDd, show 4 * (m * 2 ^ more) = m * 2 ^ (more + 2) by rw [Nat.pow_add, Nat.mul_comm 4, Nat.mul_assoc], ← mg_shift _ _ _ (by omega)]
          rw [show i - j - more - 1 + j + ((more + 2 : Nat) : Int) = i + ((1 : Nat) : Int) by omega, mg_shift _ _ _ (by omega), Nat.mul_two, ← mg_add, show E1 + 1 = E1 + ((1 : Nat) : Int) by omega, mg_shift _ _ _ (by omega), Nat.mul_two, ← mg_add]
          exact Nat.add_le_add hm hm
        have k2 : mg q (i - j - more - 1) * mg 1 F ≤ mg 1 E * mg 1 F := by
          refine Nat.le_trans (Nat.mul_le_mul_left _ hn) (Nat.le_trans k1 ?_)
          rw [mg_mul _ _ _ _ (by omega) h2, Nat.one_mul]
          exact Nat.mul_le_mul_right _ (mg_one_le (by omega))
        exact Nat.le_of_mul_le_mul_right k2 (mg_pos (by decide))
    obtain ⟨m', p', g1, g2, _⟩ := rnd (s ^^ t) _ (i - j - more - 1) E (by omega) hE hE2 hle
    exact ⟨_, m', p', g1, g2⟩

/-! ### Narrowing -/
theorem big_of_Bd {E : Int} {o : Option Nat} (h : Bd E o) (h1 : -149 ≤ E) (hE : E < 128) : big o = false := by
  cases o with
  | none => rfl
  | some b =>
    obtain ⟨s, m, p, hr, hm⟩ := h b rfl
    have bx := read_double hr
    obtain ⟨m', p', g, _⟩ := read_nearest single s m p (by omega) (by decide) (by decide) 1 E (by decide) h1 hm (mg_one_lt (by omega) hE)
    show bigB b = false
    unfold bigB
    rw [hr, show single.write (.number s m p) = single.nearest s m p from rfl, g]
    rfl
end Go.Proofs.YtmiajfdhdpmeoaaGreatDoor

namespace Go.Proofs.YtmiajfdhdpmeoaaGreatDoor
open Ieee

/-! ### Constants -/
def chkBd (E : Int) (b : Nat) : Bool := match double.read b with | .number _ m p => decide ((m.log2 : Int) + 1 + p ≤ E) && decide (-6000 ≤ p) | _ => false
def chkLb (F : Int) (b : Nat) : Bool := match double.read b with | .number _ m p => decide (m ≠ 0) && decide (F ≤ (m.log2 : Int) + p) && decide (-6000 ≤ p) | _ => false
theorem Bd.const {E : Int} {b : Nat} (h : chkBd E b = true) : Bd E (some b) := by
  intro c hc
  cases hc
  unfold chkBd at h
  split at h
  · rename_i s m p hr
    simp only [Bool.and_eq_true, decide_eq_true_eq] at h
    exact ⟨s, m, p, hr, Nat.le_of_lt (mg_lt_top (n := m.log2 + 1) Nat.lt_log2_self h.2 (by omega))⟩
  · cases h
theorem Nn.const {E : Int} {b : Nat} (h : chkBd E b = true) (hs : (double.read b).neg = false) : Nn E (some b) := by
  intro c hc
  obtain ⟨s, m, p, h1, h2⟩ := Bd.const h c hc
  cases hc
  rw [h1] at hs
  have hs' : s = false := hs
  exact ⟨s, m, p, h1, (fun h => by rw [hs'] at h; cases h), h2⟩
theorem Lb.const {F : Int} {b : Nat} (h : chkLb F b = true) : Lb F (some b) := by
  intro c hc
  cases hc
  unfold chkLb at h
  split at h
  · rename_i s m p hr
    simp only [Bool.and_eq_true, decide_eq_true_eq] at h
    refine ⟨s, m, p, hr, Nat.le_trans (mg_one_le (q := p + m.log2) (by omega)) ?_⟩
    rw [← mg_two_pow _ _ h.2, mg_le_iff]
    exact Nat.log2_self_le h.1.1
  · cases h

/-! ### Square roots -/
theorem rootFrom_sq (n : Nat) : ∀ todo root, root * root ≤ n → Datum.rootFrom n todo root * Datum.rootFrom n todo root ≤ n := by
  intro todo
  induction todo with
  | zero => intro root h; exact h
  | succ t ih =>
    intro root h
    unfold Datum.rootFrom
    apply ih
    split
    · assumption
    · exact h

theorem Nn.sqrt {k : Int} {a : Option Nat} (ha : Nn (k + k) a) (hk : 0 ≤ k) (hk2 : k < 1000) : Nn (k + 1) (fsqrt a) := by
  cases a with
  | none => exact Nn.none _
  | some x =>
    obtain ⟨s, m, i, hx, hsm, hm⟩ := ha x rfl
    have bx := read_double hx
    intro r hr
    have hr' : ((double.read x).root 54).map double.write = some r := hr
    rw [hx] at hr'
    simp only [Datum.root] at hr'
    by_cases hm0 : m = 0
    · rw [if_pos hm0] at hr'
      simp only [Option.map_some, Option.some.injEq] at hr'
      subst hr'
      obtain ⟨m', p', g1, g2, _, g4, _⟩ := rnd s m i (k + 1) (by omega) (by omega) (by omega) (by rw [hm0, mg_zero]; exact Nat.zero_le _)
      refine ⟨s, m', p', g1, fun _ => ?_, g2⟩
      have := g4 0 0 (by decide) (by decide) (by rw [hm0, mg_zero]; exact Nat.zero_le _)
      rw [mg_zero] at this
      rcases Nat.eq_zero_or_pos m' with h | h
      · exact h
      · have := mg_pos (p := p') h; omega
    · rw [if_neg hm0] at hr'
      have hs : s = false := by
        cases s
        · rfl
        · exact absurd (hsm rfl) hm0
      subst hs
      simp only [Bool.false_eq_true, if_false, Option.map_some, Option.some.injEq] at hr'
      subst hr'
      generalize hmore : 2 * 54 - m.log2 + ((i - ((2 * 54 - m.log2 : Nat) : Int)) % 2).toNat = more
      have hmb : more ≤ 110 := by omega
      have heven : (i - more) % 2 = 0 := by omega
      rw [Nat.shiftLeft_eq]
      generalize hn : m * 2 ^ more = n
      have hn1 : 1 ≤ n := by rw [← hn]; exact Nat.mul_pos (by omega) (Nat.two_pow_pos _)
      have hw := rootFrom_sq n (n.log2 / 2 + 1) 0 (Nat.zero_le _)
      generalize Datum.rootFrom n (n.log2 / 2 + 1) 0 = w at hw
      have hR : (2 * w + (w * w != n).toNat) * (2 * w + (w * w != n).toNat) ≤ 16 * n := by
        have h1 : (w * w != n).toNat ≤ 1 := by cases (w * w != n) <;> simp
        generalize (w * w != n).toNat = t at h1
        have h2 : 2 * w + t ≤ 2 * w + 1 := by omega
        have h3 := Nat.mul_le_mul h2 h2
        have h4 : (2 * w + 1) * (2 * w + 1) = 4 * (w * w) + 4 * w + 1 := by
          rw [Nat.add_mul, Nat.mul_add, Nat.one_mul, Nat.mul_one, Nat.mul_mul_mul_comm]; omega
        have h5 : w ≤ w * w := by
          rcases Nat.eq_zero_or_pos w with h | h
          · subst h; exact Nat.zero_le _
          · exact Nat.le_mul_of_pos_left w h
        omega
      generalize 2 * w + (w * w != n).toNat = R at hR
      obtain ⟨q, hq⟩ : ∃ q : Int, i - more = q + q := ⟨(i - more) / 2, by omega⟩
      rw [show (i - (more : Int)) / 2 - 1 = q - 1 by omega]
      have hle : mg R (q - 1) ≤ mg 1 (k + 1) := by
        have h1 : mg R (q - 1) * mg R (q - 1) ≤ mg 1 (k + 1) * mg 1 (k + 1) := by
          rw [mg_mul _ _ _ _ (by omega) (by omega), mg_mul _ _ _ _ (by omega) (by omega)]
          refine Nat.mul_le_mul_right _ ?_
          refine Nat.le_trans ((mg_le_iff (p := q - 1 + (q - 1))).2 hR) ?_
          rw [← hn, show 16 * (m * 2 ^ more) = m * 2 ^ (more + 4) by rw [Nat.pow_add, Nat.mul_comm 16, Nat.mul_assoc], ← mg_shift _ _ _ (by omega),
            show q - 1 + (q - 1) + ((more + 4 : Nat) : Int) = i + ((2 : Nat) : Int) by omega, mg_shift _ _ _ (by omega), Nat.one_mul,
            show k + 1 + (k + 1) = k + k + ((2 : Nat) : Int) by omega, mg_shift _ _ _ (by omega), Nat.one_mul]
          have e : ∀ a p, mg (a * 2 ^ 2) p = mg a p * 4 := fun a p => by unfold mg; rw [Nat.mul_right_comm]
          have e2 : mg (2 ^ 2) (k + k) = mg 1 (k + k) * 4 := by rw [← e, Nat.one_mul]
          rw [e, e2]
          exact Nat.mul_le_mul_right _ hm
        exact Nat.mul_self_le_mul_self_iff.1 h1
      obtain ⟨m', p', g1, g2, _⟩ := rnd false R (q - 1) (k + 1) (by omega) (by omega) (by omega) hle
      exact ⟨false, m', p', g1, (fun h => by cases h), g2⟩

/-! ### Whole numbers -/
theorem ofInt_eq (n : Int) : floatOfInt .f64 n = double.nearest (decide (n < 0)) n.natAbs 0 := rfl
theorem fv_ofInt (n : Int) : fv .f64 (floatOfInt .f64 n) = some (floatOfInt .f64 n) := fv_some (read_write_notNaN double (.number (decide (n < 0)) n.natAbs 0) rfl)

/-- A whole number of few digits is a float as it is. -/
theorem ofInt_read (n : Int) (h : n.natAbs ≤ 2 ^ 53) : ∃ m p, double.read (floatOfInt .f64 n) = .number (decide (n < 0)) m p ∧ mg m p = mg n.natAbs 0 := by
  rw [ofInt_eq]
  have hle : mg n.natAbs 0 ≤ mg 1 53 := by
    have := (mg_le_iff (p := 0)).2 h
    rwa [mg_two_pow _ _ (by decide)] at this
  obtain ⟨m', p', g1, _, _, g4, g5⟩ := rnd (decide (n < 0)) n.natAbs 0 53 (by decide) (by decide) (by decide) hle
  exact ⟨m', p', g1, Nat.le_antisymm (g4 _ _ h (by decide) (Nat.le_refl _)) (g5 _ _ h (by decide) (Nat.le_refl _))⟩

theorem Bd.ofInt {n : Int} {k : Nat} (h : n.natAbs ≤ 2 ^ k) (hk : k ≤ 53) : Bd k (some (floatOfInt .f64 n)) := by
  intro b hb
  cases hb
  obtain ⟨m, p, h1, h2⟩ := ofInt_read n (Nat.le_trans h (Nat.pow_le_pow_right (by decide) hk))
  refine ⟨_, m, p, h1, ?_⟩
  rw [h2]
  have := (mg_le_iff (p := 0)).2 h
  rwa [mg_two_pow _ _ (by decide), Int.zero_add] at this

/-! ### The whole part -/
/-- A number below 2^52 and its whole part. -/
theorem toi_some {b : Nat} (h : Bd 52 (some b)) : ∃ (n : Int) (s : Bool) (m : Nat) (p : Int), toi (some b) = some n ∧ double.read b = .number s m p ∧ n = signed s n.natAbs 0 ∧ n.natAbs ≤ 2 ^ 52 ∧ mg n.natAbs 0 ≤ mg m p ∧ mg m p < mg (n.natAbs + 1) 0 := by
  obtain ⟨s, m, p, hr, hm⟩ := h b rfl
  have bx := read_double hr
  -- the whole part
  generalize hq : Toward.zero.cut s (m <<< p.toNat) (-p).toNat = q
  have hqle : mg q 0 ≤ mg m p ∧ mg m p < mg (q + 1) 0 := by
    rw [← hq]
    unfold Toward.cut
    simp only [Bool.toNat_false, Nat.add_zero]
    by_cases hp : 0 ≤ p
    · rw [show (-p).toNat = 0 by omega, show min 0 ((m <<< p.toNat).log2 + 2) = 0 by omega, Nat.shiftLeft_zero, Nat.div_one, Nat.shiftLeft_eq]
      have e : mg m p = mg (m * 2 ^ p.toNat) 0 := by rw [← mg_shift _ _ _ (by decide)]; congr 1; omega
      rw [e]
      exact ⟨Nat.le_refl _, by rw [mg_lt_iff]; omega⟩
    · rw [show p.toNat = 0 by omega, Nat.shiftLeft_zero]
      generalize hd : (-p).toNat = d
      have e : ∀ a : Nat, mg a 0 = mg (a * 2 ^ d) p := fun a => by rw [← mg_shift _ _ _ (by omega)]; congr 1; omega
      rw [e, e, mg_le_iff, mg_lt_iff, Nat.one_shiftLeft]
      have hlog : m < 2 ^ (m.log2 + 1) := Nat.lt_log2_self
      by_cases hdl : d ≤ m.log2 + 2
      · rw [Nat.min_eq_left hdl]
        have h1 := Nat.div_add_mod m (2 ^ d)
        have h2 := Nat.mod_lt m (Nat.two_pow_pos d)
        have h3 : m / 2 ^ d * 2 ^ d ≤ m := Nat.div_mul_le_self _ _
        refine ⟨h3, ?_⟩
        rw [Nat.add_mul, Nat.one_mul, Nat.mul_comm]
        omega
      · rw [Nat.min_eq_right (by omega)]
        have h4 : 2 ^ (m.log2 + 2) = 2 * 2 ^ (m.log2 + 1) := by rw [Nat.pow_succ]; omega
        rw [Nat.div_eq_of_lt (by omega)]
        have h5 : 2 ^ (m.log2 + 1) ≤ 2 ^ d := Nat.pow_le_pow_right (by decide) (by omega)
        refine ⟨by rw [Nat.zero_mul]; exact Nat.zero_le _, ?_⟩
        rw [Nat.zero_add, Nat.one_mul]
        omega
  have hqb : q ≤ 2 ^ 52 := by
    have := Nat.le_trans hqle.1 hm
    rw [show (52 : Int) = 0 + ((52 : Nat) : Int) by decide, ← mg_two_pow 52 0 (by decide)] at this
    exact mg_le_iff.1 this
  have hto : (FloatKind.f64.decode b).toInt .zero = some (signed s q 0) := by
    show (double.read b).toInt .zero = _
    rw [hr]
    unfold Datum.toInt Datum.integral
    dsimp only
    rw [hq]
  have hna : (signed s q 0).natAbs = q := by cases s <;> simp [signed]
  have h252 : (2 : Nat) ^ 52 = 4503599627370496 := by decide
  refine ⟨signed s q 0, s, m, p, ?_, hr, ?_, by rw [hna]; exact hqb, by rw [hna]; exact hqle.1, by rw [hna]; exact hqle.2⟩
  · show floatToIntVal .f64 b .i64 = _
    unfold floatToIntVal
    rw [hto]
    dsimp only
    rw [if_pos]
    have hb1 : IntKind.i64.min = -9223372036854775808 := by decide
    have hb2 : IntKind.i64.max = 9223372036854775807 := by decide
    rw [hb1, hb2]
    have : -(q : Int) ≤ signed s q 0 ∧ signed s q 0 ≤ q := by cases s <;> simp [signed] <;> omega
    rw [h252] at hqb
    omega
  · rw [hna]

theorem abs_diff (A B : Nat) (s t : Bool) (h : B ≤ A) (ht : t = s ∨ B = 0) : ((if s = true then -((A : Nat) : Int) else ((A : Nat) : Int)) + (if (!t) = true then -((B : Nat) : Int) else ((B : Nat) : Int))).natAbs = A - B := by
  cases s <;> cases t <;> simp only [Bool.not_true, Bool.not_false, Bool.false_eq_true, if_true, if_false] <;> rcases ht with ht | ht <;> first | (cases ht; done) | omega

/-- What is left of a number below 2^52 without its whole part: at most 1. -/
theorem frac_bd {b : Nat} {n : Int} (h : Bd 52 (some b)) (hn : toi (some b) = some n) : Bd 0 (fop .sub .f64 (some b) (some (floatOfInt .f64 n))) := by
  obtain ⟨n', s, m, p, h1, h2, h3, h4, h5, h6⟩ := toi_some h
  rw [hn] at h1
  injection h1 with h1
  subst h1
  have h253 : n.natAbs ≤ 2 ^ 53 := Nat.le_trans h4 (Nat.pow_le_pow_right (by decide) (by decide))
  obtain ⟨m2, p2, g1, g2⟩ := ofInt_read n h253
  have bx := read_double h2
  have by' := read_double g1
  rw [fop_sub, h2, g1]
  intro r hr
  simp only [Datum.opposite, Datum.sum, Option.map_some, Option.some.injEq] at hr
  subst hr
  have e1 : mg m p = mg (m <<< (p - min p p2).toNat) (min p p2) := by rw [Nat.shiftLeft_eq, ← mg_shift _ _ _ (by omega)]; congr 1; omega
  have e2 : mg m2 p2 = mg (m2 <<< (p2 - min p p2).toNat) (min p p2) := by rw [Nat.shiftLeft_eq, ← mg_shift _ _ _ (by omega)]; congr 1; omega
  have hle : mg (signed s m (p - min p p2).toNat + signed (!decide (n < 0)) m2 (p2 - min p p2).toNat).natAbs (min p p2) ≤ mg 1 0 := by
    rw [← g2] at h5
    have hone : mg (n.natAbs + 1) 0 = mg m2 p2 + mg 1 0 := by rw [g2, mg_add]
    rw [hone] at h6
    -- the signs are alike, or the whole part is nought
    have hsg : (decide (n < 0)) = s ∨ m2 <<< (p2 - min p p2).toNat = 0 := by
      by_cases h0 : n.natAbs = 0
      · right
        rw [h0, mg_zero] at g2
        rw [g2] at e2
        rcases Nat.eq_zero_or_pos (m2 <<< (p2 - min p p2).toNat) with h | h
        · exact h
        · have := mg_pos (p := min p p2) h; omega
      · left
        cases s
        · simp only [signed, Bool.false_eq_true, if_false, Nat.shiftLeft_zero] at h3
          exact decide_eq_false (by omega)
        · simp only [signed, if_true, Nat.shiftLeft_zero] at h3
          exact decide_eq_true (by omega)
    rw [e1, e2] at h5
    rw [e1, e2] at h6
    rw [mg_le_iff] at h5
    unfold signed
    generalize m <<< (p - min p p2).toNat = A at *
    generalize m2 <<< (p2 - min p p2).toNat = B at *
    have hd : mg (A - B) (min p p2) ≤ mg 1 0 := by
      have e : mg A (min p p2) = mg (A - B) (min p p2) + mg B (min p p2) := by rw [mg_add, Nat.sub_add_cancel h5]
      rw [e, Nat.add_comm (mg (A - B) (min p p2))] at h6
      exact Nat.le_of_lt (Nat.lt_of_add_lt_add_left h6)
    have hAB := fun t ht => abs_diff A B s t h5 ht
    rw [hAB _ hsg]
    exact hd
  obtain ⟨m', p', k1, k2, _⟩ := rnd (if signed s m (p - min p p2).toNat + signed (!decide (n < 0)) m2 (p2 - min p p2).toNat = 0 then s && !decide (n < 0) else decide (signed s m (p - min p p2).toNat + signed (!decide (n < 0)) m2 (p2 - min p p2).toNat < 0)) _ (min p p2) 0 (by omega) (by decide) (by decide) hle
  exact ⟨_, m', p', k1, k2⟩
end Go.Proofs.YtmiajfdhdpmeoaaGreatDoor

namespace Go.Proofs.YtmiajfdhdpmeoaaGreatDoor
open Go.RowKit Ieee

/-- One, in the units of the values. -/
def uI : Int := ((mg 1 0 : Nat) : Int)
theorem uI_pos : 0 < uI := Int.natCast_pos.2 (mg_pos (by decide))
def cap : FloatKind → Nat
  | .f32 => 2 ^ 24
  | .f64 => 2 ^ 53
/-- The float holds the whole number n. -/
def Z (k : FloatKind) (o : Option Nat) (n : Int) : Prop := ∃ b s m p, o = some b ∧ k.format.read b = .number s m p ∧ -1074 ≤ p ∧ sv s m p = n * uI

theorem mg_val (a : Nat) : mg a 0 = a * mg 1 0 := by unfold mg; rw [Nat.one_mul]
theorem sv_abs (s : Bool) (m : Nat) (p : Int) : (sv s m p).natAbs = mg m p := by
  unfold sv
  cases s
  · rw [if_neg (by decide)]; exact Int.natAbs_natCast _
  · rw [if_pos rfl, Int.natAbs_neg]; exact Int.natAbs_natCast _
theorem abs_of {s : Bool} {m : Nat} {p n : Int} (h : sv s m p = n * uI) : mg m p = mg n.natAbs 0 := by
  rw [← sv_abs s m p, h, Int.natAbs_mul, mg_val]
  rfl
theorem sv_congr {s : Bool} {m m' : Nat} {p p' : Int} (h : mg m' p' = mg m p) : sv s m' p' = sv s m p := by unfold sv; rw [h]
theorem read_any {k : FloatKind} {b : Nat} {s : Bool} {m : Nat} {p : Int} (h : k.format.read b = .number s m p) : -1074 ≤ p ∧ p ≤ 971 ∧ m < 2 ^ 53 := by
  cases k
  · obtain ⟨h1, h2, h3⟩ := read_single h
    exact ⟨by omega, by omega, Nat.lt_of_lt_of_le h1 (by decide)⟩
  · obtain ⟨h1, h2, h3⟩ := read_double h
    exact ⟨h2, h3, h1⟩
/-- What is whole and not too great is not rounded. -/
theorem exact_nearest (k : FloatKind) {s : Bool} {m : Nat} {p n : Int} (hp : -6000 ≤ p) (h : sv s m p = n * uI) (hn : n.natAbs ≤ cap k) :
    ∃ m' p', k.format.read (k.format.nearest s m p) = .number s m' p' ∧ -1074 ≤ p' ∧ sv s m' p' = n * uI := by
  have hm := abs_of h
  cases k
  · obtain ⟨m', p', g1, g2, _, _, g5, g6, g7⟩ := read_nearest single s m p hp (by decide) (by decide) n.natAbs 0 hn (by decide) (Nat.le_of_eq hm) (mg_lt_top (n := 25) (Nat.lt_of_le_of_lt hn (by decide)) (by decide) (by decide))
    have e : mg m' p' = mg m p := by
      rw [hm]
      exact Nat.le_antisymm g5 (g6 _ 0 hn (by decide) (Nat.le_of_eq hm.symm))
    exact ⟨m', p', g1, by have : (-149 : Int) ≤ p' := g2; omega, by rw [sv_congr e]; exact h⟩
  · obtain ⟨m', p', g1, g2, _, _, g5, g6, g7⟩ := read_nearest double s m p hp (by decide) (by decide) n.natAbs 0 hn (by decide) (Nat.le_of_eq hm) (mg_lt_top (n := 54) (Nat.lt_of_le_of_lt hn (by decide)) (by decide) (by decide))
    have e : mg m' p' = mg m p := by
      rw [hm]
      exact Nat.le_antisymm g5 (g6 _ 0 hn (by decide) (Nat.le_of_eq hm.symm))
    exact ⟨m', p', g1, g2, by rw [sv_congr e]; exact h⟩
theorem Z.of {k : FloatKind} {s : Bool} {m : Nat} {p n : Int} (hp : -6000 ≤ p) (h : sv s m p = n * uI) (hn : n.natAbs ≤ cap k) : Z k (some (k.format.nearest s m p)) n := by
  obtain ⟨m', p', h1, h2, h3⟩ := exact_nearest k hp h hn
  exact ⟨_, s, m', p', rfl, h1, h2, h3⟩

/-- The exact sum. -/
theorem sum_sv (s t : Bool) (m n : Nat) (i j : Int) (hi : -6000 ≤ i) (hj : -6000 ≤ j) :
    sv (if signed s m (i - min i j).toNat + signed t n (j - min i j).toNat = 0 then s && t else decide (signed s m (i - min i j).toNat + signed t n (j - min i j).toNat < 0))
      (signed s m (i - min i j).toNat + signed t n (j - min i j).toNat).natAbs (min i j) = sv s m i + sv t n j := by
  have e1 : mg m i = mg (m <<< (i - min i j).toNat) (min i j) := by rw [Nat.shiftLeft_eq, ← mg_shift _ _ _ (by omega)]; congr 1; omega
  have e2 : mg n j = mg (n <<< (j - min i j).toNat) (min i j) := by rw [Nat.shiftLeft_eq, ← mg_shift _ _ _ (by omega)]; congr 1; omega
  have hv : ∀ a : Nat, mg a (min i j) = a * mg 1 (min i j) := fun a => by unfold mg; rw [Nat.one_mul]
  have a1 : sv s m i = signed s m (i - min i j).toNat * ((mg 1 (min i j) : Nat) : Int) := by
    unfold sv signed
    rw [e1, hv]
    cases s
    · rw [if_neg (by decide), if_neg (by decide), Int.natCast_mul]
    · rw [if_pos rfl, if_pos rfl, Int.natCast_mul, Int.neg_mul]
  have a2 : sv t n j = signed t n (j - min i j).toNat * ((mg 1 (min i j) : Nat) : Int) := by
    unfold sv signed
    rw [e2, hv]
    cases t
    · rw [if_neg (by decide), if_neg (by decide), Int.natCast_mul]
    · rw [if_pos rfl, if_pos rfl, Int.natCast_mul, Int.neg_mul]
  rw [a1, a2, ← Int.add_mul]
  generalize signed s m (i - min i j).toNat + signed t n (j - min i j).toNat = T
  unfold sv
  rw [hv, Int.natCast_mul]
  by_cases h0 : T = 0
  · subst h0
    simp
  · rw [if_neg h0]
    by_cases h1 : T < 0
    · rw [decide_eq_true h1, if_pos rfl, ← Int.neg_mul]
      congr 1
      omega
    · rw [decide_eq_false h1, if_neg (by decide)]
      congr 1
      omega
theorem Z.add {k : FloatKind} {a b : Option Nat} {x y : Int} (ha : Z k a x) (hb : Z k b y) (h : (x + y).natAbs ≤ cap k) : Z k (fop .add k a b) (x + y) := by
  obtain ⟨c, s, m, i, rfl, hr, hi, hv⟩ := ha
  obtain ⟨d, t, n, j, rfl, hr2, hj, hv2⟩ := hb
  have e : fop .add k (some c) (some d) = ((k.format.read c).sum (k.format.read d)).map k.format.write := by cases k <;> rfl
  rw [e, hr, hr2]
  have hs := sum_sv s t m n i j (by omega) (by omega)
  rw [hv, hv2, ← Int.add_mul] at hs
  exact Z.of (by omega) hs h
theorem sv_not (s : Bool) (m : Nat) (p : Int) : sv (!s) m p = -sv s m p := by
  unfold sv
  cases s
  · simp
  · simp
theorem Z.sub {k : FloatKind} {a b : Option Nat} {x y : Int} (ha : Z k a x) (hb : Z k b y) (h : (x - y).natAbs ≤ cap k) : Z k (fop .sub k a b) (x - y) := by
  obtain ⟨c, s, m, i, rfl, hr, hi, hv⟩ := ha
  obtain ⟨d, t, n, j, rfl, hr2, hj, hv2⟩ := hb
  have e : fop .sub k (some c) (some d) = ((k.format.read c).sum (k.format.read d).opposite).map k.format.write := by cases k <;> rfl
  rw [e, hr, hr2]
  have hs := sum_sv s (!t) m n i j (by omega) (by omega)
  rw [sv_not, hv, hv2, show x * uI + -(y * uI) = (x - y) * uI by rw [Int.sub_mul, Int.sub_eq_add_neg]] at hs
  exact Z.of (by omega) hs h
theorem unit_eq (k : Nat) : unit k = mg 1 ((k : Int) - 6000) := by
  unfold unit mg
  rw [Nat.one_mul, show ((k : Int) - 6000 + 6000).toNat = k by omega]
theorem uI_unit : ((unit 6000 : Nat) : Int) = uI := by
  have h := unit_eq 6000
  rw [show ((6000 : Nat) : Int) - 6000 = 0 from rfl] at h
  unfold uI
  rw [h]
theorem int_swap (x y u : Int) : x * u * (y * u) = x * y * u * u := by ac_rfl
theorem Z.mul {k : FloatKind} {a b : Option Nat} {x y : Int} (ha : Z k a x) (hb : Z k b y) (h : (x * y).natAbs ≤ cap k) : Z k (fop .mul k a b) (x * y) := by
  obtain ⟨c, s, m, i, rfl, hr, hi, hv⟩ := ha
  obtain ⟨d, t, n, j, rfl, hr2, hj, hv2⟩ := hb
  have e : fop .mul k (some c) (some d) = ((k.format.read c).product (k.format.read d)).map k.format.write := by cases k <;> rfl
  rw [e, hr, hr2]
  have hm := mg_mul m n i j (by omega) (by omega)
  have hu := uI_unit
  generalize unit 6000 = U at hm hu
  have hs : sv (s ^^ t) (m * n) (i + j) * uI = x * y * uI * uI := by
    have h1 : sv s m i * sv t n j = x * y * uI * uI := by
      rw [hv, hv2]
      exact int_swap x y uI
    rw [← h1, ← hu]
    unfold sv
    cases s <;> cases t <;> simp only [Bool.xor_false, Bool.xor_true, Bool.not_false, Bool.not_true, Bool.false_eq_true, if_true, if_false, Int.neg_mul, Int.mul_neg, Int.neg_neg, ← Int.natCast_mul, hm]
  exact Z.of (by omega) (Int.eq_of_mul_eq_mul_right (Int.ne_of_gt uI_pos) hs) h
theorem quo_exact {m n A : Nat} {i j : Int} (hm : m ≠ 0) (_ : n ≠ 0) (hA : A < 2 ^ 30) (hi : -6000 ≤ i) (hj : -6000 ≤ j) (h : mg m i = A * mg n j) :
    ∃ e : Nat, m <<< (54 + n.log2 - m.log2) = A * 2 ^ e * n ∧ i - j - (54 + n.log2 - m.log2 : Nat) = -(e : Int) := by
  have hA0 : A ≠ 0 := fun h0 => by
    rw [h0, Nat.zero_mul] at h
    exact absurd h (Nat.ne_of_gt (mg_pos (Nat.pos_of_ne_zero hm)))
  have h' : m * 2 ^ (i + 6000).toNat = A * n * 2 ^ (j + 6000).toNat := by
    unfold mg at h
    rw [h, Nat.mul_assoc]
  generalize hI : (i + 6000).toNat = I at h'
  generalize hJ : (j + 6000).toNat = J at h'
  generalize hK : 54 + n.log2 - m.log2 = K
  have h1 : 2 ^ m.log2 ≤ m := Nat.log2_self_le hm
  have h2 : n < 2 ^ (n.log2 + 1) := Nat.lt_log2_self
  have h3 : 2 ^ (m.log2 + I) < 2 ^ (30 + (n.log2 + 1) + J) := by
    refine Nat.lt_of_le_of_lt (m := m * 2 ^ I) ?_ ?_
    · rw [Nat.pow_add]
      exact Nat.mul_le_mul_right _ h1
    · rw [h', Nat.pow_add _ _ J, Nat.pow_add 2 30]
      exact Nat.mul_lt_mul_of_pos_right (Nat.mul_lt_mul'' hA h2) (Nat.two_pow_pos J)
  have h4 := (Nat.pow_lt_pow_iff_right (by decide)).1 h3
  refine ⟨K + J - I, ?_, by omega⟩
  rw [Nat.shiftLeft_eq]
  refine Nat.eq_of_mul_eq_mul_right (Nat.two_pow_pos I) ?_
  have e1 : m * 2 ^ K * 2 ^ I = m * 2 ^ I * 2 ^ K := Nat.mul_right_comm ..
  have e2 : A * 2 ^ (K + J - I) * n * 2 ^ I = A * n * (2 ^ (K + J - I) * 2 ^ I) := by ac_rfl
  rw [e1, e2, h', ← Nat.pow_add, show K + J - I + I = J + K by omega, Nat.pow_add, Nat.mul_assoc]
theorem sgn_of {s : Bool} {m : Nat} {p n : Int} (h : sv s m p = n * uI) (hn : n ≠ 0) : s = decide (n < 0) := by
  unfold sv at h
  have hu := uI_pos
  rcases Int.lt_or_gt_of_ne hn with h1 | h1
  · have h2 := Int.mul_neg_of_neg_of_pos h1 hu
    rw [decide_eq_true h1]
    cases s
    · rw [if_neg (by decide)] at h; omega
    · rfl
  · have h2 := Int.mul_pos h1 hu
    rw [decide_eq_false (by omega)]
    cases s
    · rfl
    · rw [if_pos rfl] at h; omega
/-- An exact quotient. -/
theorem Z.quo {a b : Option Nat} {x y : Int} (ha : Z .f64 a (x * y)) (hb : Z .f64 b y) (hy : y ≠ 0) (hx : x.natAbs < 2 ^ 30) : Z .f64 (fop .quo .f64 a b) x := by
  obtain ⟨c, s, m, i, rfl, hr, hi, hv⟩ := ha
  obtain ⟨d, t, n, j, rfl, hr2, hj, hv2⟩ := hb
  have hr' : double.read c = .number s m i := hr
  have hr2' : double.read d = .number t n j := hr2
  have hn : n ≠ 0 := fun h0 => by
    have := abs_of hv2
    rw [h0, mg_zero] at this
    exact absurd this.symm (Nat.ne_of_gt (mg_pos (Int.natAbs_pos.2 hy)))
  have hmm : mg m i = x.natAbs * mg n j := by
    rw [abs_of hv, abs_of hv2, Int.natAbs_mul, mg_val (x.natAbs * y.natAbs), mg_val y.natAbs, Nat.mul_assoc]
  have key : ∃ q P, ((Datum.number s m i).quotient 54 (.number t n j)) = some (.number (s ^^ t) q P) ∧ -6000 ≤ P ∧ mg q P = mg x.natAbs 0 := by
    unfold Datum.quotient
    simp only
    rw [if_neg hn]
    by_cases hm : m = 0
    · subst hm
      have h0 : x.natAbs = 0 := by
        rw [mg_zero] at hmm
        rcases Nat.mul_eq_zero.1 hmm.symm with h | h
        · exact h
        · exact absurd h (Nat.ne_of_gt (mg_pos (Nat.pos_of_ne_zero hn)))
      refine ⟨_, _, rfl, ?_, ?_⟩
      · have l : n.log2 < 53 := (Nat.log2_lt hn).2 (read_any hr2).2.2
        have l0 : Nat.log2 0 = 0 := by decide
        have := (read_any hr2).2.1
        rw [l0]
        omega
      · rw [h0, Nat.zero_shiftLeft, Nat.zero_div, Nat.zero_mod, mg_zero]
        exact mg_zero _
    · obtain ⟨e, h1, h2⟩ := quo_exact hm hn hx (by omega) (by omega) hmm
      refine ⟨_, _, rfl, by have := (read_any hr).2.2; have := (read_any hr2).2.2; have l1 : n.log2 < 53 := (Nat.log2_lt hn).2 (read_any hr2).2.2; have := (read_any hr2).2.1; omega, ?_⟩
      rw [h1, Nat.mul_div_cancel _ (Nat.pos_of_ne_zero hn), Nat.mul_mod_left, h2]
      have he : (e : Int) + 1 ≤ 6000 := by
        have l1 : n.log2 < 53 := (Nat.log2_lt hn).2 (read_any hr2).2.2
        have := (read_any hr2).2.1
        omega
      rw [show 2 * (x.natAbs * 2 ^ e) + (0 != 0 : Bool).toNat = x.natAbs * 2 ^ (e + 1) by rw [Nat.pow_succ]; simp; ac_rfl,
        ← mg_shift _ _ _ (by omega), show -(e : Int) - 1 + ((e + 1 : Nat) : Int) = 0 by omega]
  obtain ⟨q, P, k1, k2, k3⟩ := key
  rw [fop_quo, hr', hr2', k1]
  refine Z.of k2 ?_ (Nat.le_of_lt (Nat.lt_trans hx (by decide)))
  unfold sv
  rw [k3, mg_val, Int.natCast_mul]
  show (if (s ^^ t) = true then -((x.natAbs : Int) * uI) else (x.natAbs : Int) * uI) = x * uI
  by_cases hx0 : x = 0
  · subst hx0
    simp
  · rw [sgn_of hv (Int.mul_ne_zero hx0 hy), sgn_of hv2 hy]
    have hσ : (decide (x * y < 0) ^^ decide (y < 0)) = decide (x < 0) := by
      rcases Int.lt_or_gt_of_ne hx0 with h1 | h1 <;> rcases Int.lt_or_gt_of_ne hy with h2 | h2
      · have := Int.mul_pos_of_neg_of_neg h1 h2
        rw [decide_eq_false (by omega), decide_eq_true h2, decide_eq_true h1]; rfl
      · have := Int.mul_neg_of_neg_of_pos h1 h2
        rw [decide_eq_true this, decide_eq_false (by omega), decide_eq_true h1]; rfl
      · have := Int.mul_neg_of_pos_of_neg h1 h2
        rw [decide_eq_true this, decide_eq_true h2, decide_eq_false (by omega)]; rfl
      · have := Int.mul_pos h1 h2
        rw [decide_eq_false (by omega), decide_eq_false (by omega), decide_eq_false (by omega)]; rfl
    rw [hσ]
    by_cases h1 : x < 0
    · rw [decide_eq_true h1, if_pos rfl, ← Int.neg_mul]
      congr 1
      omega
    · rw [decide_eq_false h1, if_neg (by decide)]
      congr 1
      omega

/-- Widened, narrowed, made of an integer, negated. -/
theorem Z.wid {o : Option Nat} {n : Int} (h : Z .f32 o n) : Z .f64 (wid o) n := by
  obtain ⟨b, s, m, p, rfl, hr, hp, hv⟩ := h
  have hr' : single.read b = .number s m p := hr
  obtain ⟨m', p', h1, h2, h3⟩ := wide_read hr'
  exact ⟨_, s, m', p', by rw [wid_some, hr'], h1, h3, by rw [sv_congr h2]; exact hv⟩
theorem Z.nar {o : Option Nat} {n : Int} (h : Z .f64 o n) (hn : n.natAbs ≤ cap .f32) : Z .f32 (nar o) n ∧ big o = false := by
  obtain ⟨b, s, m, p, rfl, hr, hp, hv⟩ := h
  have hr' : double.read b = .number s m p := hr
  obtain ⟨m', p', h1, h2, h3⟩ := exact_nearest .f32 (by omega) hv hn
  have h1' : single.read (single.nearest s m p) = .number s m' p' := h1
  refine ⟨⟨single.nearest s m p, s, m', p', ?_, h1, h2, h3⟩, ?_⟩
  · show some (single.write (double.read b)) = _
    rw [hr']
    rfl
  · show bigB b = false
    unfold bigB
    rw [hr', show single.write (.number s m p) = single.nearest s m p from rfl, h1']
    rfl
theorem Z.fv {k : FloatKind} {b : Nat} {n : Int} (h : Z k (some b) n) : fv k b = some b := by
  obtain ⟨c, s, m, p, e, hr, _, _⟩ := h
  injection e with e
  subst e
  unfold Go.Proofs.YtmiajfdhdpmeoaaGreatDoor.fv
  rw [hr]
  rfl
theorem Z.order {k : FloatKind} {a b : Nat} {x y : Int} (ha : Z k (some a) x) (hb : Z k (some b) y) : k.format.order a b = some (compare x y) := by
  obtain ⟨c, s, m, i, e, hr, hi, hv⟩ := ha
  obtain ⟨d, t, n, j, e2, hr2, hj, hv2⟩ := hb
  injection e with e
  injection e2 with e2
  subst e
  subst e2
  rw [order_mg k.format hr hr2 (by omega) (by omega), hv, hv2]
  refine congrArg some ?_
  have hu := uI_pos
  exact compare_of (Int.mul_lt_mul_right hu).1 (fun h => Int.eq_of_mul_eq_mul_right (Int.ne_of_gt hu) h) (Int.mul_lt_mul_right hu).1
theorem sv_int (n : Int) : sv (decide (n < 0)) n.natAbs 0 = n * uI := by
  unfold sv
  rw [mg_val, Int.natCast_mul]
  show (if decide (n < 0) = true then -((n.natAbs : Int) * uI) else (n.natAbs : Int) * uI) = n * uI
  by_cases h1 : n < 0
  · rw [decide_eq_true h1, if_pos rfl, ← Int.neg_mul]
    congr 1
    omega
  · rw [decide_eq_false h1, if_neg (by decide)]
    congr 1
    omega
theorem Z.ofInt (k : FloatKind) {n : Int} (hn : n.natAbs ≤ cap k) : Z k (some (floatOfInt k n)) n := by
  have e : floatOfInt k n = k.format.nearest (decide (n < 0)) n.natAbs 0 := by cases k <;> rfl
  rw [e]
  exact Z.of (by decide) (sv_int n) hn
end Go.Proofs.YtmiajfdhdpmeoaaGreatDoor
