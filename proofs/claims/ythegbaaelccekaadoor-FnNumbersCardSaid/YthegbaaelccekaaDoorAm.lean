/-
  Sines, logarithms and angles of floats, in the program and in the reference: bounds, values, walks. No condition.
-/
import Derived.Test.YthegbaaelccekaaDoorVal
import Derived.Test.YthegbaaelccekaaDoorCc
import Derived.Deep.LoopGhost
import Derived.Test.YthegbaaelccekaaDoorLa
namespace Go.Proofs.YthegbaaelccekaaDoor
open Ieee

/-- A finite number, at most 2^E in magnitude. -/
def Bd (E : Int) (o : Option Nat) : Prop := ∀ b, o = some b → ∃ s m p, double.read b = .number s m p ∧ mg m p ≤ mg 1 E
/-- The same, and not less than zero. -/
def Nn (E : Int) (o : Option Nat) : Prop := ∀ b, o = some b → ∃ s m p, double.read b = .number s m p ∧ (s = true → m = 0) ∧ mg m p ≤ mg 1 E
/-- A finite number, at least 2^F in magnitude. -/
def Lb (F : Int) (o : Option Nat) : Prop := ∀ b, o = some b → ∃ s m p, double.read b = .number s m p ∧ mg 1 F ≤ mg m p

theorem Nn.bd {E : Int} {o : Option Nat} (h : Nn E o) : Bd E o := fun b hb => let ⟨s, m, p, h1, _, h3⟩ := h b hb; ⟨s, m, p, h1, h3⟩
theorem Bd.mono {E E' : Int} {o : Option Nat} (h : Bd E o) (hE : E ≤ E') : Bd E' o := fun b hb => let ⟨s, m, p, h1, h2⟩ := h b hb; ⟨s, m, p, h1, Nat.le_trans h2 (mg_one_le hE)⟩
theorem Nn.mono {E E' : Int} {o : Option Nat} (h : Nn E o) (hE : E ≤ E') : Nn E' o := fun b hb => let ⟨s, m, p, h1, h2, h3⟩ := h b hb; ⟨s, m, p, h1, h2, Nat.le_trans h3 (mg_one_le hE)⟩
theorem Bd.none (E : Int) : Bd E none := fun _ h => by cases h
theorem Nn.none (E : Int) : Nn E none := fun _ h => by cases h

/-- ROUNDING in 64 bits. -/
theorem rnd (s : Bool) (m : Nat) (p E : Int) (hp : -6000 ≤ p) (hE : -1074 ≤ E) (hE2 : E < 1024) (h : mg m p ≤ mg 1 E) :
    ∃ m' p', double.read (double.nearest s m p) = .number s m' p' ∧ mg m' p' ≤ mg 1 E ∧ (∀ F, -1074 ≤ F → mg 1 F ≤ mg m p → mg 1 F ≤ mg m' p') ∧ (∀ n F, n ≤ 2 ^ 53 → -1074 ≤ F → mg m p ≤ mg n F → mg m' p' ≤ mg n F) ∧ (∀ n F, n ≤ 2 ^ 53 → -1074 ≤ F → mg n F ≤ mg m p → mg n F ≤ mg m' p') := by
  obtain ⟨m', p', h1, _, _, _, h5, h6, h7⟩ := read_nearest double s m p hp (by decide) (by decide) 1 E (by decide) hE h (mg_one_lt (by omega) hE2)
  exact ⟨m', p', h1, h5, fun F a b => h6 1 F (by decide) a b, fun n F a b c => h7 n F a b c, fun n F a b c => h6 n F a b c⟩

theorem mg_two (E : Int) (hE : -6000 ≤ E) : mg 1 E + mg 1 E = mg 1 (E + 1) := by
  have := mg_two_pow 1 E hE
  rw [mg_add]
  exact this

/-- The exact sum. -/
theorem sum_mg (s t : Bool) (m n : Nat) (i j : Int) (hi : -6000 ≤ i) (hj : -6000 ≤ j) :
    mg (signed s m (i - min i j).toNat + signed t n (j - min i j).toNat).natAbs (min i j) ≤ mg m i + mg n j := by
  have e1 : mg m i = mg (m <<< (i - min i j).toNat) (min i j) := by rw [Nat.shiftLeft_eq, ← mg_shift _ _ _ (by omega)]; congr 1; omega
  have e2 : mg n j = mg (n <<< (j - min i j).toNat) (min i j) := by rw [Nat.shiftLeft_eq, ← mg_shift _ _ _ (by omega)]; congr 1; omega
  rw [e1, e2, mg_add, mg_le_iff]
  unfold signed
  generalize m <<< (i - min i j).toNat = A
  generalize n <<< (j - min i j).toNat = B
  cases s <;> cases t <;> simp only [Bool.false_eq_true, if_true, if_false] <;> omega

theorem fop_add (x y : Nat) : fop .add .f64 (some x) (some y) = ((double.read x).sum (double.read y)).map double.write := rfl
theorem fop_sub (x y : Nat) : fop .sub .f64 (some x) (some y) = ((double.read x).sum (double.read y).opposite).map double.write := rfl
theorem fop_mul (x y : Nat) : fop .mul .f64 (some x) (some y) = ((double.read x).product (double.read y)).map double.write := rfl
theorem fop_quo (x y : Nat) : fop .quo .f64 (some x) (some y) = ((double.read x).quotient 54 (double.read y)).map double.write := rfl
theorem fop_none_left (op : BinOp) (k : FloatKind) (b : Option Nat) : fop op k none b = none := rfl
theorem fop_none_right (op : BinOp) (k : FloatKind) (a : Option Nat) : fop op k a none = none := by cases a <;> rfl

theorem Bd.add {E1 E2 E : Int} {a b : Option Nat} (ha : Bd E1 a) (hb : Bd E2 b) (h1 : E1 < E) (h2 : E2 < E) (hE : -1073 ≤ E) (hE2 : E < 1024) : Bd E (fop .add .f64 a b) := by
  cases a with
  | none => exact Bd.none _
  | some x =>
  cases b with
  | none => exact Bd.none _
  | some y =>
    obtain ⟨s, m, i, hx, hm⟩ := ha x rfl
    obtain ⟨t, n, j, hy, hn⟩ := hb y rfl
    have bx := read_double hx
    have by' := read_double hy
    rw [fop_add, hx, hy]
    intro r hr
    simp only [Datum.sum, Option.map_some, Option.some.injEq] at hr
    subst hr
    have hs := sum_mg s t m n i j (by omega) (by omega)
    have hle : mg m i + mg n j ≤ mg 1 E := by
      have e : E = E - 1 + 1 := by omega
      rw [e, ← mg_two _ (by omega)]
      exact Nat.add_le_add (Nat.le_trans hm (mg_one_le (by omega))) (Nat.le_trans hn (mg_one_le (by omega)))
    obtain ⟨m', p', g1, g2, _⟩ := rnd (if signed s m (i - min i j).toNat + signed t n (j - min i j).toNat = 0 then s && t else decide (signed s m (i - min i j).toNat + signed t n (j - min i j).toNat < 0)) _ (min i j) E (by omega) (by omega) hE2 (Nat.le_trans hs hle)
    exact ⟨_, m', p', g1, g2⟩

theorem Bd.sub {E1 E2 E : Int} {a b : Option Nat} (ha : Bd E1 a) (hb : Bd E2 b) (h1 : E1 < E) (h2 : E2 < E) (hE : -1073 ≤ E) (hE2 : E < 1024) : Bd E (fop .sub .f64 a b) := by
  cases a with
  | none => exact Bd.none _
  | some x =>
  cases b with
  | none => exact Bd.none _
  | some y =>
    obtain ⟨s, m, i, hx, hm⟩ := ha x rfl
    obtain ⟨t, n, j, hy, hn⟩ := hb y rfl
    have bx := read_double hx
    have by' := read_double hy
    rw [fop_sub, hx, hy]
    intro r hr
    simp only [Datum.opposite, Datum.sum, Option.map_some, Option.some.injEq] at hr
    subst hr
    have hs := sum_mg s (!t) m n i j (by omega) (by omega)
    have hle : mg m i + mg n j ≤ mg 1 E := by
      have e : E = E - 1 + 1 := by omega
      rw [e, ← mg_two _ (by omega)]
      exact Nat.add_le_add (Nat.le_trans hm (mg_one_le (by omega))) (Nat.le_trans hn (mg_one_le (by omega)))
    obtain ⟨m', p', g1, g2, _⟩ := rnd (if signed s m (i - min i j).toNat + signed (!t) n (j - min i j).toNat = 0 then s && !t else decide (signed s m (i - min i j).toNat + signed (!t) n (j - min i j).toNat < 0)) _ (min i j) E (by omega) (by omega) hE2 (Nat.le_trans hs hle)
    exact ⟨_, m', p', g1, g2⟩

theorem Nn.add {E1 E2 E : Int} {a b : Option Nat} (ha : Nn E1 a) (hb : Nn E2 b) (h1 : E1 < E) (h2 : E2 < E) (hE : -1073 ≤ E) (hE2 : E < 1024) :
    Nn E (fop .add .f64 a b) ∧ (∀ F, -1074 ≤ F → Lb F a → Lb F (fop .add .f64 a b)) := by
  cases a with
  | none => exact ⟨Nn.none _, fun F _ _ b h => by cases h⟩
  | some x =>
  cases b with
  | none => exact ⟨Nn.none _, fun F _ _ b h => by cases h⟩
  | some y =>
    obtain ⟨s, m, i, hx, hsm, hm⟩ := ha x rfl
    obtain ⟨t, n, j, hy, htn, hn⟩ := hb y rfl
    have bx := read_double hx
    have by' := read_double hy
    have hs := sum_mg s t m n i j (by omega) (by omega)
    have hle : mg m i + mg n j ≤ mg 1 E := by
      have e : E = E - 1 + 1 := by omega
      rw [e, ← mg_two _ (by omega)]
      exact Nat.add_le_add (Nat.le_trans hm (mg_one_le (by omega))) (Nat.le_trans hn (mg_one_le (by omega)))
    have hpos : signed s m (i - min i j).toNat + signed t n (j - min i j).toNat = ((m <<< (i - min i j).toNat + n <<< (j - min i j).toNat : Nat) : Int) := by
      unfold signed
      have hs' : s = true → (m <<< (i - min i j).toNat) = 0 := fun h => by rw [hsm h, Nat.zero_shiftLeft]
      have ht' : t = true → (n <<< (j - min i j).toNat) = 0 := fun h => by rw [htn h, Nat.zero_shiftLeft]
      cases s <;> cases t <;> simp_all
    have e1 : mg m i = mg (m <<< (i - min i j).toNat) (min i j) := by rw [Nat.shiftLeft_eq, ← mg_shift _ _ _ (by omega)]; congr 1; omega
    obtain ⟨m', p', g1, g2, g3, g4, _⟩ := rnd (if signed s m (i - min i j).toNat + signed t n (j - min i j).toNat = 0 then s && t else decide (signed s m (i - min i j).toNat + signed t n (j - min i j).toNat < 0)) _ (min i j) E (by omega) (by omega) hE2 (Nat.le_trans hs hle)
    have hr : ∀ r, fop .add .f64 (some x) (some y) = some r → r = double.nearest (if signed s m (i - min i j).toNat + signed t n (j - min i j).toNat = 0 then s && t else decide (signed s m (i - min i j).toNat + signed t n (j - min i j).toNat < 0)) (signed s m (i - min i j).toNat + signed t n (j - min i j).toNat).natAbs (min i j) := by
      intro r hr
      rw [fop_add, hx, hy] at hr
      simp only [Datum.sum, Option.map_some, Option.some.injEq] at hr
      exact hr.symm
    refine ⟨fun r h => ?_, fun F hF hl r h => ?_⟩
    · rw [hr r h]
      refine ⟨_, m', p', g1, ?_, g2⟩
      rw [hpos] at g4 ⊢
      intro hsg
      by_cases h0 : ((m <<< (i - min i j).toNat + n <<< (j - min i j).toNat : Nat) : Int) = 0
      · rw [h0] at g4
        have := g4 0 0 (by decide) (by decide) (by rw [show (Int.natAbs 0) = 0 from rfl, mg_zero]; exact Nat.zero_le _)
        rw [mg_zero] at this
        rcases Nat.eq_zero_or_pos m' with h | h
        · exact h
        · have := mg_pos (p := p') h; omega
      · rw [if_neg h0, decide_eq_true_eq] at hsg
        exact absurd hsg (Int.not_lt.2 (Int.natCast_nonneg _))
    · rw [hr r h]
      refine ⟨_, m', p', g1, g3 F hF ?_⟩
      obtain ⟨s2, m2, p2, h2, hl2⟩ := hl x rfl
      rw [hx] at h2
      injection h2 with _ h3 h4
      subst h3 h4
      refine Nat.le_trans hl2 ?_
      rw [e1, mg_le_iff, hpos]
      generalize m <<< (i - min i j).toNat = A
      generalize n <<< (j - min i j).toNat = B
      omega

/-- The unit's own weight. -/
def unit (k : Nat) : Nat := 2 ^ k
theorem unit_pos (k : Nat) : 0 < unit k := Nat.two_pow_pos _
theorem mg_mul (m n : Nat) (p q : Int) (hp : -2999 ≤ p) (hq : -2999 ≤ q) : mg m p * mg n q = mg (m * n) (p + q) * unit 6000 := by
  have key : ∀ k : Nat, k = 6000 → mg m p * mg n q = mg (m * n) (p + q) * unit k := by
    intro k hk
    unfold mg unit
    rw [Nat.mul_mul_mul_comm, ← Nat.pow_add, Nat.mul_assoc (m * n), ← Nat.pow_add]
    congr 2
    omega
  exact key 6000 rfl

theorem Bd.mul {E1 E2 E : Int} {a b : Option Nat} (ha : Bd E1 a) (hb : Bd E2 b) (h : E1 + E2 ≤ E) (h1 : -2999 ≤ E1) (h2 : -2999 ≤ E2) (hE : -1074 ≤ E) (hE2 : E < 1024) : Bd E (fop .mul .f64 a b) := by
  cases a with
  | none => exact Bd.none _
  | some x =>
  cases b with
  | none => exact Bd.none _
  | some y =>
    obtain ⟨s, m, i, hx, hm⟩ := ha x rfl
    obtain ⟨t, n, j, hy, hn⟩ := hb y rfl
    have bx := read_double hx
    have by' := read_double hy
    rw [fop_mul, hx, hy]
    intro r hr
    simp only [Datum.product, Option.map_some, Option.some.injEq] at hr
    subst hr
    have hle : mg (m * n) (i + j) ≤ mg 1 E := by
      have h3 := Nat.mul_le_mul hm hn
      rw [mg_mul _ _ _ _ (by omega) (by omega), mg_mul _ _ _ _ h1 h2] at h3
      exact Nat.le_trans (Nat.le_of_mul_le_mul_right h3 (unit_pos _)) (by rw [Nat.one_mul]; exact mg_one_le h)
    obtain ⟨m', p', g1, g2, _⟩ := rnd (s ^^ t) _ (i + j) E (by omega) hE hE2 hle
    exact ⟨_, m', p', g1, g2⟩

/-- A square is not less than zero. -/
theorem Nn.sq {E1 E : Int} {a : Option Nat} (ha : Bd E1 a) (h : E1 + E1 ≤ E) (h1 : -2999 ≤ E1) (hE : -1074 ≤ E) (hE2 : E < 1024) : Nn E (fop .mul .f64 a a) := by
  cases a with
  | none => exact Nn.none _
  | some x =>
    obtain ⟨s, m, i, hx, hm⟩ := ha x rfl
    have bx := read_double hx
    rw [fop_mul, hx]
    intro r hr
    simp only [Datum.product, Option.map_some, Option.some.injEq] at hr
    subst hr
    have hle : mg (m * m) (i + i) ≤ mg 1 E := by
      have h3 := Nat.mul_le_mul hm hm
      rw [mg_mul _ _ _ _ (by omega) (by omega), mg_mul _ _ _ _ h1 h1] at h3
      exact Nat.le_trans (Nat.le_of_mul_le_mul_right h3 (unit_pos _)) (by rw [Nat.one_mul]; exact mg_one_le h)
    obtain ⟨m', p', g1, g2, _⟩ := rnd (s ^^ s) _ (i + i) E (by omega) hE hE2 hle
    exact ⟨_, m', p', g1, by simp, g2⟩

theorem Bd.div {E1 F E : Int} {a b : Option Nat} (ha : Bd E1 a) (hb : Lb F b) (h : E1 + 1 ≤ E + F) (h1 : -2999 ≤ E1) (h2 : -2999 ≤ F) (hE : -1074 ≤ E) (hE2 : E < 1024) : Bd E (fop .quo .f64 a b) := by
  cases a with
  | none => exact Bd.none _
  | some x =>
  cases b with
  | none => exact Bd.none _
  | some y =>
    obtain ⟨s, m, i, hx, hm⟩ := ha x rfl
    obtain ⟨t, n, j, hy, hn⟩ := hb y rfl
    have bx := read_double hx
    have by' := read_double hy
    have hn0 : n ≠ 0 := by
      intro h0
      rw [h0, mg_zero] at hn
      have := mg_pos (m := 1) (p := F) (by decide)
      omega
    rw [fop_quo, hx, hy]
    intro r hr
    simp only [Datum.quotient, if_neg hn0, Option.map_some, Option.some.injEq] at hr
    subst hr
    generalize hmore : 54 + n.log2 - m.log2 = more
    have hmore2 : more ≤ 106 := by
      have : n.log2 < 53 := (Nat.log2_lt hn0).2 by'.1
      omega
    have hle : mg (2 * (m <<< more / n) + (m <<< more % n != 0).toNat) (i - j - more - 1) ≤ mg 1 E := by
      rcases Nat.eq_zero_or_pos m with rfl | hmp
      · rw [Nat.zero_shiftLeft, Nat.zero_div, Nat.zero_mod]
        rw [show 2 * 0 + ((0 : Nat) != 0).toNat = 0 from rfl, mg_zero]; exact Nat.zero_le _
      · rw [Nat.shiftLeft_eq]
        have hD : n ≤ m * 2 ^ more := by
          have l1 : 2 ^ m.log2 ≤ m := Nat.log2_self_le (by omega)
          have l2 : n < 2 ^ (n.log2 + 1) := Nat.lt_log2_self
          have l3 : 2 ^ (n.log2 + 1) ≤ 2 ^ (m.log2 + more) := Nat.pow_le_pow_right (by decide) (by omega)
          have l4 := Nat.mul_le_mul_right (2 ^ more) l1
          rw [← Nat.pow_add] at l4
          omega
        generalize hDd : m * 2 ^ more = D at hD
        have hq : 1 ≤ D / n := Nat.div_pos hD (by omega)
        have hdm := Nat.div_add_mod D n
        have hq3 : (2 * (D / n) + (D % n != 0).toNat) * n ≤ 4 * D := by
          have : (D % n != 0).toNat ≤ 1 := by cases (D % n != 0) <;> simp
          have h5 : 2 * (D / n) + (D % n != 0).toNat ≤ 4 * (D / n) := by omega
          have h6 := Nat.mul_le_mul_right n h5
          have h7 : D / n * n ≤ D := Nat.div_mul_le_self D n
          rw [Nat.mul_assoc] at h6
          omega
        generalize 2 * (D / n) + (D % n != 0).toNat = q at hq3
        -- q * 2^place * (n * 2^j) ≤ 2 m 2^i
        have k1 : mg q (i - j - more - 1) * mg n j ≤ mg 1 (E1 + 1) * unit 6000 := by
          rw [mg_mul _ _ _ _ (by omega) (by omega)]
          refine Nat.mul_le_mul_right _ ?_
          refine Nat.le_trans ((mg_le_iff (p := i - j - more - 1 + j)).2 hq3) ?_
          rw [← hDd, show 4 * (m * 2 ^ more) = m * 2 ^ (more + 2) by rw [Nat.pow_add, Nat.mul_comm 4, Nat.mul_assoc], ← mg_shift _ _ _ (by omega)]
          rw [show i - j - more - 1 + j + ((more + 2 : Nat) : Int) = i + ((1 : Nat) : Int) by omega, mg_shift _ _ _ (by omega), Nat.mul_two, ← mg_add, show E1 + 1 = E1 + ((1 : Nat) : Int) by omega, mg_shift _ _ _ (by omega), Nat.mul_two, ← mg_add]
          exact Nat.add_le_add hm hm
        have k2 : mg q (i - j - more - 1) * mg 1 F ≤ mg 1 E * mg 1 F := by
          refine Nat.le_trans (Nat.mul_le_mul_left _ hn) (Nat.le_trans k1 ?_)
          rw [mg_mul _ _ _ _ (by omega) h2, Nat.one_mul]
          exact Nat.mul_le_mul_right _ (mg_one_le (by omega))
        exact Nat.le_of_mul_le_mul_right k2 (mg_pos (by decide))
    obtain ⟨m', p', g1, g2, _⟩ := rnd (s ^^ t) _ (i - j - more - 1) E (by omega) hE hE2 hle
    exact ⟨_, m', p', g1, g2⟩

/-! ### Narrowing -/
theorem big_of_Bd {E : Int} {o : Option Nat} (h : Bd E o) (h1 : -149 ≤ E) (hE : E < 128) : big o = false := by
  cases o with
  | none => rfl
  | some b =>
    obtain ⟨s, m, p, hr, hm⟩ := h b rfl
    have bx := read_double hr
    obtain ⟨m', p', g, _⟩ := read_nearest single s m p (by omega) (by decide) (by decide) 1 E (by decide) h1 hm (mg_one_lt (by omega) hE)
    show bigB b = false
    unfold bigB
    rw [hr, show single.write (.number s m p) = single.nearest s m p from rfl, g]
    rfl
end Go.Proofs.YthegbaaelccekaaDoor

namespace Go.Proofs.YthegbaaelccekaaDoor
open Ieee

/-! ### Constants -/
def chkBd (E : Int) (b : Nat) : Bool := match double.read b with | .number _ m p => decide ((m.log2 : Int) + 1 + p ≤ E) && decide (-6000 ≤ p) | _ => false
def chkLb (F : Int) (b : Nat) : Bool := match double.read b with | .number _ m p => decide (m ≠ 0) && decide (F ≤ (m.log2 : Int) + p) && decide (-6000 ≤ p) | _ => false
theorem Bd.const {E : Int} {b : Nat} (h : chkBd E b = true) : Bd E (some b) := by
  intro c hc
  cases hc
  unfold chkBd at h
  split at h
  · rename_i s m p hr
    simp only [Bool.and_eq_true, decide_eq_true_eq] at h
    exact ⟨s, m, p, hr, Nat.le_of_lt (mg_lt_top (n := m.log2 + 1) Nat.lt_log2_self h.2 (by omega))⟩
  · cases h
theorem Nn.const {E : Int} {b : Nat} (h : chkBd E b = true) (hs : (double.read b).neg = false) : Nn E (some b) := by
  intro c hc
  obtain ⟨s, m, p, h1, h2⟩ := Bd.const h c hc
  cases hc
  rw [h1] at hs
  have hs' : s = false := hs
  exact ⟨s, m, p, h1, (fun h => by rw [hs'] at h; cases h), h2⟩
theorem Lb.const {F : Int} {b : Nat} (h : chkLb F b = true) : Lb F (some b) := by
  intro c hc
  cases hc
  unfold chkLb at h
  split at h
  · rename_i s m p hr
    simp only [Bool.and_eq_true, decide_eq_true_eq] at h
    refine ⟨s, m, p, hr, Nat.le_trans (mg_one_le (q := p + m.log2) (by omega)) ?_⟩
    rw [← mg_two_pow _ _ h.2, mg_le_iff]
    exact Nat.log2_self_le h.1.1
  · cases h

/-! ### Square roots -/
theorem rootFrom_sq (n : Nat) : ∀ todo root, root * root ≤ n → Datum.rootFrom n todo root * Datum.rootFrom n todo root ≤ n := by
  intro todo
  induction todo with
  | zero => intro root h; exact h
  | succ t ih =>
    intro root h
    unfold Datum.rootFrom
    apply ih
    split
    · assumption
    · exact h

theorem Nn.sqrt {k : Int} {a : Option Nat} (ha : Nn (k + k) a) (hk : 0 ≤ k) (hk2 : k < 1000) : Nn (k + 1) (fsqrt a) := by
  cases a with
  | none => exact Nn.none _
  | some x =>
    obtain ⟨s, m, i, hx, hsm, hm⟩ := ha x rfl
    have bx := read_double hx
    intro r hr
    have hr' : ((double.read x).root 54).map double.write = some r := hr
    rw [hx] at hr'
    simp only [Datum.root] at hr'
    by_cases hm0 : m = 0
    · rw [if_pos hm0] at hr'
      simp only [Option.map_some, Option.some.injEq] at hr'
      subst hr'
      obtain ⟨m', p', g1, g2, _, g4, _⟩ := rnd s m i (k + 1) (by omega) (by omega) (by omega) (by rw [hm0, mg_zero]; exact Nat.zero_le _)
      refine ⟨s, m', p', g1, fun _ => ?_, g2⟩
      have := g4 0 0 (by decide) (by decide) (by rw [hm0, mg_zero]; exact Nat.zero_le _)
      rw [mg_zero] at this
      rcases Nat.eq_zero_or_pos m' with h | h
      · exact h
      · have := mg_pos (p := p') h; omega
    · rw [if_neg hm0] at hr'
      have hs : s = false := by
        cases s
        · rfl
        · exact absurd (hsm rfl) hm0
      subst hs
      simp only [Bool.false_eq_true, if_false, Option.map_some, Option.some.injEq] at hr'
      subst hr'
      generalize hmore : 2 * 54 - m.log2 + ((i - ((2 * 54 - m.log2 : Nat) : Int)) % 2).toNat = more
      have hmb : more ≤ 110 := by omega
      have heven : (i - more) % 2 = 0 := by omega
      rw [Nat.shiftLeft_eq]
      generalize hn : m * 2 ^ more = n
      have hn1 : 1 ≤ n := by rw [← hn]; exact Nat.mul_pos (by omega) (Nat.two_pow_pos _)
      have hw := rootFrom_sq n (n.log2 / 2 + 1) 0 (Nat.zero_le _)
      generalize Datum.rootFrom n (n.log2 / 2 + 1) 0 = w at hw
      have hR : (2 * w + (w * w != n).toNat) * (2 * w + (w * w != n).toNat) ≤ 16 * n := by
        have h1 : (w * w != n).toNat ≤ 1 := by cases (w * w != n) <;> simp
        generalize (w * w != n).toNat = t at h1
        have h2 : 2 * w + t ≤ 2 * w + 1 := by omega
        have h3 := Nat.mul_le_mul h2 h2
        have h4 : (2 * w + 1) * (2 * w + 1) = 4 * (w * w) + 4 * w + 1 := by
          rw [Nat.add_mul, Nat.mul_add, Nat.one_mul, Nat.mul_one, Nat.mul_mul_mul_comm]; omega
        have h5 : w ≤ w * w := by
          rcases Nat.eq_zero_or_pos w with h | h
          · subst h; exact Nat.zero_le _
          · exact Nat.le_mul_of_pos_left w h
        omega
      generalize 2 * w + (w * w != n).toNat = R at hR
      obtain ⟨q, hq⟩ : ∃ q : Int, i - more = q + q := ⟨(i - more) / 2, by omega⟩
      rw [show (i - (more : Int)) / 2 - 1 = q - 1 by omega]
      have hle : mg R (q - 1) ≤ mg 1 (k + 1) := by
        have h1 : mg R (q - 1) * mg R (q - 1) ≤ mg 1 (k + 1) * mg 1 (k + 1) := by
          rw [mg_mul _ _ _ _ (by omega) (by omega), mg_mul _ _ _ _ (by omega) (by omega)]
          refine Nat.mul_le_mul_right _ ?_
          refine Nat.le_trans ((mg_le_iff (p := q - 1 + (q - 1))).2 hR) ?_
          rw [← hn, show 16 * (m * 2 ^ more) = m * 2 ^ (more + 4) by rw [Nat.pow_add, Nat.mul_comm 16, Nat.mul_assoc], ← mg_shift _ _ _ (by omega),
            show q - 1 + (q - 1) + ((more + 4 : Nat) : Int) = i + ((2 : Nat) : Int) by omega, mg_shift _ _ _ (by omega), Nat.one_mul,
            show k + 1 + (k + 1) = k + k + ((2 : Nat) : Int) by omega, mg_shift _ _ _ (by omega), Nat.one_mul]
          have e : ∀ a p, mg (a * 2 ^ 2) p = mg a p * 4 := fun a p => by unfold mg; rw [Nat.mul_right_comm]
          have e2 : mg (2 ^ 2) (k + k) = mg 1 (k + k) * 4 := by rw [← e, Nat.one_mul]
          rw [e, e2]
          exact Nat.mul_le_mul_right _ hm
        exact Nat.mul_self_le_mul_self_iff.1 h1
      obtain ⟨m', p', g1, g2, _⟩ := rnd false R (q - 1) (k + 1) (by omega) (by omega) (by omega) hle
      exact ⟨false, m', p', g1, (fun h => by cases h), g2⟩

/-! ### Whole numbers -/
theorem ofInt_eq (n : Int) : floatOfInt .f64 n = double.nearest (decide (n < 0)) n.natAbs 0 := rfl
theorem fv_ofInt (n : Int) : fv .f64 (floatOfInt .f64 n) = some (floatOfInt .f64 n) := fv_some (read_write_notNaN double (.number (decide (n < 0)) n.natAbs 0) rfl)

/-- A whole number of few digits is a float as it is. -/
theorem ofInt_read (n : Int) (h : n.natAbs ≤ 2 ^ 53) : ∃ m p, double.read (floatOfInt .f64 n) = .number (decide (n < 0)) m p ∧ mg m p = mg n.natAbs 0 := by
  rw [ofInt_eq]
  have hle : mg n.natAbs 0 ≤ mg 1 53 := by
    have := (mg_le_iff (p := 0)).2 h
    rwa [mg_two_pow _ _ (by decide)] at this
  obtain ⟨m', p', g1, _, _, g4, g5⟩ := rnd (decide (n < 0)) n.natAbs 0 53 (by decide) (by decide) (by decide) hle
  exact ⟨m', p', g1, Nat.le_antisymm (g4 _ _ h (by decide) (Nat.le_refl _)) (g5 _ _ h (by decide) (Nat.le_refl _))⟩

theorem Bd.ofInt {n : Int} {k : Nat} (h : n.natAbs ≤ 2 ^ k) (hk : k ≤ 53) : Bd k (some (floatOfInt .f64 n)) := by
  intro b hb
  cases hb
  obtain ⟨m, p, h1, h2⟩ := ofInt_read n (Nat.le_trans h (Nat.pow_le_pow_right (by decide) hk))
  refine ⟨_, m, p, h1, ?_⟩
  rw [h2]
  have := (mg_le_iff (p := 0)).2 h
  rwa [mg_two_pow _ _ (by decide), Int.zero_add] at this

/-! ### The whole part -/
/-- A number below 2^52 and its whole part. -/
theorem toi_some {b : Nat} (h : Bd 52 (some b)) : ∃ (n : Int) (s : Bool) (m : Nat) (p : Int), toi (some b) = some n ∧ double.read b = .number s m p ∧ n = signed s n.natAbs 0 ∧ n.natAbs ≤ 2 ^ 52 ∧ mg n.natAbs 0 ≤ mg m p ∧ mg m p < mg (n.natAbs + 1) 0 := by
  obtain ⟨s, m, p, hr, hm⟩ := h b rfl
  have bx := read_double hr
  -- the whole part
  generalize hq : Toward.zero.cut s (m <<< p.toNat) (-p).toNat = q
  have hqle : mg q 0 ≤ mg m p ∧ mg m p < mg (q + 1) 0 := by
    rw [← hq]
    unfold Toward.cut
    simp only [Bool.toNat_false, Nat.add_zero]
    by_cases hp : 0 ≤ p
    · rw [show (-p).toNat = 0 by omega, show min 0 ((m <<< p.toNat).log2 + 2) = 0 by omega, Nat.shiftLeft_zero, Nat.div_one, Nat.shiftLeft_eq]
      have e : mg m p = mg (m * 2 ^ p.toNat) 0 := by rw [← mg_shift _ _ _ (by decide)]; congr 1; omega
      rw [e]
      exact ⟨Nat.le_refl _, by rw [mg_lt_iff]; omega⟩
    · rw [show p.toNat = 0 by omega, Nat.shiftLeft_zero]
      generalize hd : (-p).toNat = d
      have e : ∀ a : Nat, mg a 0 = mg (a * 2 ^ d) p := fun a => by rw [← mg_shift _ _ _ (by omega)]; congr 1; omega
      rw [e, e, mg_le_iff, mg_lt_iff, Nat.one_shiftLeft]
      have hlog : m < 2 ^ (m.log2 + 1) := Nat.lt_log2_self
      by_cases hdl : d ≤ m.log2 + 2
      · rw [Nat.min_eq_left hdl]
        have h1 := Nat.div_add_mod m (2 ^ d)
        have h2 := Nat.mod_lt m (Nat.two_pow_pos d)
        have h3 : m / 2 ^ d * 2 ^ d ≤ m := Nat.div_mul_le_self _ _
        refine ⟨h3, ?_⟩
        rw [Nat.add_mul, Nat.one_mul, Nat.mul_comm]
        omega
      · rw [Nat.min_eq_right (by omega)]
        have h4 : 2 ^ (m.log2 + 2) = 2 * 2 ^ (m.log2 + 1) := by rw [Nat.pow_succ]; omega
        rw [Nat.div_eq_of_lt (by omega)]
        have h5 : 2 ^ (m.log2 + 1) ≤ 2 ^ d := Nat.pow_le_pow_right (by decide) (by omega)
        refine ⟨by rw [Nat.zero_mul]; exact Nat.zero_le _, ?_⟩
        rw [Nat.zero_add, Nat.one_mul]
        omega
  have hqb : q ≤ 2 ^ 52 := by
    have := Nat.le_trans hqle.1 hm
    rw [show (52 : Int) = 0 + ((52 : Nat) : Int) by decide, ← mg_two_pow 52 0 (by decide)] at this
    exact mg_le_iff.1 this
  have hto : (FloatKind.f64.decode b).toInt .zero = some (signed s q 0) := by
    show (double.read b).toInt .zero = _
    rw [hr]
    unfold Datum.toInt Datum.integral
    dsimp only
    rw [hq]
  have hna : (signed s q 0).natAbs = q := by cases s <;> simp [signed]
  have h252 : (2 : Nat) ^ 52 = 4503599627370496 := by decide
  refine ⟨signed s q 0, s, m, p, ?_, hr, ?_, by rw [hna]; exact hqb, by rw [hna]; exact hqle.1, by rw [hna]; exact hqle.2⟩
  · show floatToIntVal .f64 b .i64 = _
    unfold floatToIntVal
    rw [hto]
    dsimp only
    rw [if_pos]
    have hb1 : IntKind.i64.min = -9223372036854775808 := by decide
    have hb2 : IntKind.i64.max = 9223372036854775807 := by decide
    rw [hb1, hb2]
    have : -(q : Int) ≤ signed s q 0 ∧ signed s q 0 ≤ q := by cases s <;> simp [signed] <;> omega
    rw [h252] at hqb
    omega
  · rw [hna]

theorem abs_diff (A B : Nat) (s t : Bool) (h : B ≤ A) (ht : t = s ∨ B = 0) : ((if s = true then -((A : Nat) : Int) else ((A : Nat) : Int)) + (if (!t) = true then -((B : Nat) : Int) else ((B : Nat) : Int))).natAbs = A - B := by
  cases s <;> cases t <;> simp only [Bool.not_true, Bool.not_false, Bool.false_eq_true, if_true, if_false] <;> rcases ht with ht | ht <;> first | (cases ht; done) | omega

/-- What is left of a number below 2^52 without its whole part: at most 1. -/
theorem frac_bd {b : Nat} {n : Int} (h : Bd 52 (some b)) (hn : toi (some b) = some n) : Bd 0 (fop .sub .f64 (some b) (some (floatOfInt .f64 n))) := by
  obtain ⟨n', s, m, p, h1, h2, h3, h4, h5, h6⟩ := toi_some h
  rw [hn] at h1
  injection h1 with h1
  subst h1
  have h253 : n.natAbs ≤ 2 ^ 53 := Nat.le_trans h4 (Nat.pow_le_pow_right (by decide) (by decide))
  obtain ⟨m2, p2, g1, g2⟩ := ofInt_read n h253
  have bx := read_double h2
  have by' := read_double g1
  rw [fop_sub, h2, g1]
  intro r hr
  simp only [Datum.opposite, Datum.sum, Option.map_some, Option.some.injEq] at hr
  subst hr
  have e1 : mg m p = mg (m <<< (p - min p p2).toNat) (min p p2) := by rw [Nat.shiftLeft_eq, ← mg_shift _ _ _ (by omega)]; congr 1; omega
  have e2 : mg m2 p2 = mg (m2 <<< (p2 - min p p2).toNat) (min p p2) := by rw [Nat.shiftLeft_eq, ← mg_shift _ _ _ (by omega)]; congr 1; omega
  have hle : mg (signed s m (p - min p p2).toNat + signed (!decide (n < 0)) m2 (p2 - min p p2).toNat).natAbs (min p p2) ≤ mg 1 0 := by
    rw [← g2] at h5
    have hone : mg (n.natAbs + 1) 0 = mg m2 p2 + mg 1 0 := by rw [g2, mg_add]
    rw [hone] at h6
    -- the signs are alike, or the whole part is nought
    have hsg : (decide (n < 0)) = s ∨ m2 <<< (p2 - min p p2).toNat = 0 := by
      by_cases h0 : n.natAbs = 0
      · right
        rw [h0, mg_zero] at g2
        rw [g2] at e2
        rcases Nat.eq_zero_or_pos (m2 <<< (p2 - min p p2).toNat) with h | h
        · exact h
        · have := mg_pos (p := min p p2) h; omega
      · left
        cases s
        · simp only [signed, Bool.false_eq_true, if_false, Nat.shiftLeft_zero] at h3
          exact decide_eq_false (by omega)
        · simp only [signed, if_true, Nat.shiftLeft_zero] at h3
          exact decide_eq_true (by omega)
    rw [e1, e2] at h5
    rw [e1, e2] at h6
    rw [mg_le_iff] at h5
    unfold signed
    generalize m <<< (p - min p p2).toNat = A at *
    generalize m2 <<< (p2 - min p p2).toNat = B at *
    have hd : mg (A - B) (min p p2) ≤ mg 1 0 := by
      have e : mg A (min p p2) = mg (A - B) (min p p2) + mg B (min p p2) := by rw [mg_add, Nat.sub_add_cancel h5]
      rw [e, Nat.add_comm (mg (A - B) (min p p2))] at h6
      exact Nat.le_of_lt (Nat.lt_of_add_lt_add_left h6)
    have hAB := fun t ht => abs_diff A B s t h5 ht
    rw [hAB _ hsg]
    exact hd
  obtain ⟨m', p', k1, k2, _⟩ := rnd (if signed s m (p - min p p2).toNat + signed (!decide (n < 0)) m2 (p2 - min p p2).toNat = 0 then s && !decide (n < 0) else decide (signed s m (p - min p p2).toNat + signed (!decide (n < 0)) m2 (p2 - min p p2).toNat < 0)) _ (min p p2) 0 (by omega) (by decide) (by decide) hle
  exact ⟨_, m', p', k1, k2⟩
end Go.Proofs.YthegbaaelccekaaDoor

namespace Go.Proofs.YthegbaaelccekaaDoor
open Ieee

def chkBdO (E : Int) (o : Option Nat) : Bool := match o with | none => true | some b => chkBd E b
def chkLbO (F : Int) (o : Option Nat) : Bool := match o with | none => true | some b => chkLb F b
theorem Bd.closed {E : Int} {o : Option Nat} (h : chkBdO E o = true) : Bd E o := by
  cases o with
  | none => exact Bd.none _
  | some b => exact Bd.const h
theorem Lb.closed {F : Int} {o : Option Nat} (h : chkLbO F o = true) : Lb F o := by
  cases o with
  | none => intro b hb; cases hb
  | some b => exact Lb.const h

end Go.Proofs.YthegbaaelccekaaDoor

namespace Go.Proofs.YthegbaaelccekaaDoor
open Go.RowKit Ieee

/-! ### The plain functions -/
/-- A constant. -/
def fc (b : Nat) : Option Nat := fv .f64 b
def fge (a b : Option Nat) : Bool := ford .f64 a b == some .gt || ford .f64 a b == some .eq
def fle (a b : Option Nat) : Bool := ford .f64 a b == some .lt || ford .f64 a b == some .eq
def fgt (a b : Option Nat) : Bool := ford .f64 a b == some .gt
def flt (a b : Option Nat) : Bool := ford .f64 a b == some .lt
def fadd (a b : Option Nat) : Option Nat := fop .add .f64 a b
def fsub (a b : Option Nat) : Option Nat := fop .sub .f64 a b
def fmul (a b : Option Nat) : Option Nat := fop .mul .f64 a b
def fquo (a b : Option Nat) : Option Nat := fop .quo .f64 a b
def fneg (a : Option Nat) : Option Nat := a.map (Op.negFloat .f64)

theorem fv_add (x y : Nat) (w : World) : fv .f64 (fval .add .f64 x y w) = fadd (fv .f64 x) (fv .f64 y) := fv_fval ..
theorem fv_sub (x y : Nat) (w : World) : fv .f64 (fval .sub .f64 x y w) = fsub (fv .f64 x) (fv .f64 y) := fv_fval ..
theorem fv_mul (x y : Nat) (w : World) : fv .f64 (fval .mul .f64 x y w) = fmul (fv .f64 x) (fv .f64 y) := fv_fval ..
theorem fv_quo (x y : Nat) (w : World) : fv .f64 (fval .quo .f64 x y w) = fquo (fv .f64 x) (fv .f64 y) := fv_fval ..
theorem ge_fge (x y : Nat) : (FloatKind.f64.format.order x y == some .gt || FloatKind.f64.format.order x y == some .eq) = fge (fv .f64 x) (fv .f64 y) := by rw [order_ford]; rfl
theorem le_fle (x y : Nat) : (FloatKind.f64.format.order x y == some .lt || FloatKind.f64.format.order x y == some .eq) = fle (fv .f64 x) (fv .f64 y) := by rw [order_ford]; rfl
theorem gt_fgt (x y : Nat) : (FloatKind.f64.format.order x y == some .gt) = fgt (fv .f64 x) (fv .f64 y) := by rw [order_ford]; rfl
theorem lt_flt (x y : Nat) : (FloatKind.f64.format.order x y == some .lt) = flt (fv .f64 x) (fv .f64 y) := by rw [order_ford]; rfl

theorem read_flip (f : Format) (h : f.signWeight = 2 ^ (f.exponentBits + f.fractionBits)) (b : Nat) : (f.read (b ^^^ 2 ^ (f.exponentBits + f.fractionBits))).isNaN = (f.read b).isNaN := by
  have e : (b ^^^ 2 ^ (f.exponentBits + f.fractionBits)) % f.signWeight = b % f.signWeight := by
    rw [h]
    apply Nat.eq_of_testBit_eq
    intro i
    rw [Nat.testBit_mod_two_pow, Nat.testBit_mod_two_pow, Nat.testBit_xor, Nat.testBit_two_pow]
    by_cases hi : i < f.exponentBits + f.fractionBits
    · have : ¬ f.exponentBits + f.fractionBits = i := by omega
      simp [hi, this]
    · simp [hi]
  unfold Format.read
  simp only [e]
  split
  · rfl
  · split
    · rfl
    · split <;> rfl
theorem fv_negFloat (b : Nat) : fv .f64 (Op.negFloat .f64 b) = fneg (fv .f64 b) := by
  have h := read_flip double rfl b
  unfold fv fneg Op.negFloat
  rw [show FloatKind.f64.format = double from rfl, h]
  cases (double.read b).isNaN <;> rfl

/-- What is left of a number of turns without its whole ones. -/
def fracF (x : Option Nat) (n : Int) : Option Nat :=
  if flt (fsub x (some (floatOfInt .f64 n))) (fc 0) then fadd (fsub x (some (floatOfInt .f64 n))) (fc 4607182418800017408) else fsub x (some (floatOfInt .f64 n))
/-- The counter's value in round j. -/
def kA : Nat → Option Nat
  | 0 => fc 4620693217682128896
  | j + 1 => fsub (kA j) (fc 4607182418800017408)
/-- The polynomial behind j rounds. -/
def pA (u : Option Nat) : Nat → Option Nat
  | 0 => fc 4607182418800017408
  | j + 1 => fsub (fc 4607182418800017408) (fquo (fmul u (pA u j)) (fmul (fmul (fc 4611686018427387904) (kA j)) (fadd (fmul (fc 4611686018427387904) (kA j)) (fc 4607182418800017408))))
/-- The sine of a part of a turn. -/
def sineF (f : Option Nat) : Option Nat :=
  let f1 := if fge f (fc 4602678819172646912) then fsub f (fc 4602678819172646912) else f
  let f2 := if fgt f1 (fc 4598175219545276416) then fsub (fc 4602678819172646912) f1 else f1
  let z := fmul f2 (fc 4618760256179416344)
  let r := fmul z (pA (fmul z z) 8)
  if fge f (fc 4602678819172646912) then fneg r else r

theorem kA_test (j : Nat) (h : j < 8) : fge (kA j) (fc 4607182418800017408) = true := by
  have : j = 0 ∨ j = 1 ∨ j = 2 ∨ j = 3 ∨ j = 4 ∨ j = 5 ∨ j = 6 ∨ j = 7 := by omega
  rcases this with rfl | rfl | rfl | rfl | rfl | rfl | rfl | rfl <;> decide +kernel
theorem kA_end : fge (kA 8) (fc 4607182418800017408) = false := by decide +kernel
theorem kA_int (j : Nat) (h : j < 8) : fmul (fmul (fc 4611686018427387904) (kA j)) (fadd (fmul (fc 4611686018427387904) (kA j)) (fc 4607182418800017408)) = fv .f64 (floatOfInt .f64 (2 * (8 - j) * (2 * (8 - j) + 1))) := by
  have : j = 0 ∨ j = 1 ∨ j = 2 ∨ j = 3 ∨ j = 4 ∨ j = 5 ∨ j = 6 ∨ j = 7 := by omega
  rcases this with rfl | rfl | rfl | rfl | rfl | rfl | rfl | rfl <;> decide +kernel

/-! ### The walks -/
theorem impl_fractionOf (x : Nat) (n : Int) (w : World) (hn : toi (fv .f64 x) = some n) : Calls Tryd.prog 102 #[.float .f64 x] w fun e w' => ∃ r m, e = .returned (.float .f64 r) ∧ fv .f64 r = fracF (fv .f64 x) n ∧ w' = w.drewN m := by
  have ht := fun w => tval_of x w hn
  clear hn
  go_enter Tryd.func102, Tryd.ntmps102
  go_wp2
  all_goals
    have h := ‹(FloatKind.f64.format.order (fval .sub .f64 x (floatOfInt .f64 n) _) 0 == some Ordering.lt) = _›
    rw [lt_flt, fv_sub, fv_ofInt] at h
    go_ret
    refine ⟨_, _, rfl, ?_, rfl⟩
    simp only [fracF, fc, h, fv_add, fv_sub, fv_ofInt, if_true, Bool.false_eq_true, if_false]

/-- The two tests ahead of the polynomial. -/
theorem sine_tests (f : Nat) (F : Option Nat) (hf : fv .f64 f = F) : ∃ t1 t2 : Bool, fge F (fc 4602678819172646912) = t1 ∧ fgt (if t1 = true then fsub F (fc 4602678819172646912) else F) (fc 4598175219545276416) = t2 ∧
    (FloatKind.f64.format.order f 4602678819172646912 == some .gt || FloatKind.f64.format.order f 4602678819172646912 == some .eq) = t1 ∧
    (t1 = true → ∀ w, (FloatKind.f64.format.order (fval .sub .f64 f 4602678819172646912 w) 4598175219545276416 == some .gt) = t2) ∧
    (t1 = false → (FloatKind.f64.format.order f 4598175219545276416 == some .gt) = t2) := by
  subst hf
  refine ⟨_, _, rfl, rfl, ge_fge _ _, fun h w => ?_, fun h => ?_⟩
  · rw [gt_fgt, fv_sub, if_pos h]; rfl
  · rw [gt_fgt, if_neg (by rw [h]; exact Bool.false_ne_true)]; rfl

/-- A round's test. -/
theorem round_test (k j : Nat) (hk : fv .f64 k = kA j) (hj : j < 8) : (FloatKind.f64.format.order k 4607182418800017408 == some .gt || FloatKind.f64.format.order k 4607182418800017408 == some .eq) = true := by
  rw [ge_fge, hk]; exact kA_test j hj
theorem round_end (k : Nat) (hk : fv .f64 k = kA 8) : (FloatKind.f64.format.order k 4607182418800017408 == some .gt || FloatKind.f64.format.order k 4607182418800017408 == some .eq) = false := by
  rw [ge_fge, hk]; exact kA_end

/-- The polynomial's argument, by the two tests. -/
def zF (F : Option Nat) (t1 t2 : Bool) : Option Nat :=
  let f1 := if t1 = true then fsub F (fc 4602678819172646912) else F
  let f2 := if t2 = true then fsub (fc 4602678819172646912) f1 else f1
  fmul f2 (fc 4618760256179416344)
theorem sineF_of (F : Option Nat) (t1 t2 : Bool) (h1 : fge F (fc 4602678819172646912) = t1) (h2 : fgt (if t1 = true then fsub F (fc 4602678819172646912) else F) (fc 4598175219545276416) = t2) :
    sineF F = if t1 = true then fneg (fmul (zF F t1 t2) (pA (fmul (zF F t1 t2) (zF F t1 t2)) 8)) else fmul (zF F t1 t2) (pA (fmul (zF F t1 t2) (zF F t1 t2)) 8) := by
  unfold sineF zF
  rw [h1]
  simp only [h2]

@[go_sem] theorem run_neg_float (P : Program) (k : FloatKind) (b : Nat) (w : World) : (Op.unary .neg (.float k b)).run P w = .ok (.float k (Op.negFloat k b)) w := rfl

theorem impl_sineOf (x : Nat) (n : Int) (w : World) (hn : toi (fv .f64 x) = some n) : Calls Tryd.prog 83 #[.float .f64 x] w fun e w' => ∃ r m, e = .returned (.float .f64 r) ∧ fv .f64 r = sineF (fracF (fv .f64 x) n) ∧ w' = w.drewN m := by
  have H := Lib.hid hn
  clear hn
  generalize hF0 : fracF (fv .f64 x) n = F0
  have HF0 := Lib.hid hF0
  clear hF0
  go_enter Tryd.func83, Tryd.ntmps83
  go_wp2_with fail
  refine (impl_fractionOf _ n _ H.out).mono ?_
  rintro e w' ⟨f, m, rfl, hf, rfl⟩
  rw [HF0.out] at hf
  obtain ⟨t1, t2, e1, e2, g1, g2, g3⟩ := sine_tests f _ hf
  have E1 := Lib.hid e1
  have E2 := Lib.hid e2
  have F := Lib.hid hf
  clear e1 e2 hf H
  have E := Lib.hid (sineF_of F0 t1 t2 E1.out E2.out)
  clear E1 E2 HF0
  cases t1 <;> cases t2
  case' false.false => have g := g3 rfl; have Z : Hid (zF F0 false false = fmul F0 (fc 4618760256179416344)) := rfl
  case' false.true => have g := g3 rfl; have Z : Hid (zF F0 false true = fmul (fsub (fc 4602678819172646912) F0) (fc 4618760256179416344)) := rfl
  case' true.false => have g := g2 rfl; have Z : Hid (zF F0 true false = fmul (fsub F0 (fc 4602678819172646912)) (fc 4618760256179416344)) := rfl
  case' true.true => have g := g2 rfl; have Z : Hid (zF F0 true true = fmul (fsub (fc 4602678819172646912) (fsub F0 (fc 4602678819172646912))) (fc 4618760256179416344)) := rfl
  all_goals
    clear g2 g3
    generalize zF F0 _ _ = Z0 at E Z
    go_wp2
    go_loopg [7, 8] 8 (fun g p k wr => ∃ (j pb kb m' : Nat), g + j = 8 ∧ p = .float .f64 pb ∧ k = .float .f64 kb ∧ Hid (fv .f64 pb = pA (fmul Z0 Z0) j ∧ fv .f64 kb = kA j) ∧ wr = w.drewN m')
    case atStart => exact ⟨0, _, _, _, rfl, rfl, rfl, ⟨rfl, rfl⟩, rfl⟩
    case round =>
      obtain ⟨j, pb, kb, m', hj, rfl, rfl, hpk, rfl⟩ := hrel
      by_cases hlt : j < 8
      · have ht := round_test kb j hpk.out.2 hlt
        go_wp2
        go_roundg (gk - 1)
        case measure => omega
        case rel =>
          obtain ⟨hp, hk⟩ := hpk.out
          refine ⟨j + 1, _, _, _, by omega, rfl, rfl, ⟨?_, ?_⟩, rfl⟩
          · simp only [fv_sub, fv_quo, fv_mul, fv_add, hp, hk, F.out]
            rw [Z.out]; rfl
          · simp only [fv_sub, hk]; rfl
      · have h8 : j = 8 := by omega
        subst h8
        have ht := round_end kb hpk.out.2
        go_wp2
        go_ret
        refine ⟨_, _, rfl, ?_, rfl⟩
        rw [E.out]
        simp only [fv_negFloat, fv_mul, fv_sub, F.out, hpk.out.1, Z.out, if_true, Bool.false_eq_true, if_false]
        rfl
end Go.Proofs.YthegbaaelccekaaDoor

namespace Go.Proofs.YthegbaaelccekaaDoor
open Go.RowKit Ieee

/-! ### Bounds -/
theorem fracF_bd {x : Option Nat} {n : Int} (h : Bd 52 x) (hn : toi x = some n) : Bd 2 (fracF x n) := by
  cases x with
  | none => cases hn
  | some b =>
    have h0 := frac_bd h hn
    unfold fracF
    split
    · exact h0.add (Bd.closed (E := 1) (by decide +kernel)) (by decide) (by decide) (by decide) (by decide)
    · exact h0.mono (by decide)

theorem pA_step {u : Option Nat} {j : Nat} {E F E' : Int} (hu : Bd 14 u) (hp : Bd E (pA u j)) (hc : Lb F (fmul (fmul (fc 4611686018427387904) (kA j)) (fadd (fmul (fc 4611686018427387904) (kA j)) (fc 4607182418800017408))))
    (h1 : 1 < E') (h2 : E + 15 < E' + F) (h3 : 0 ≤ E) (h4 : E' < 500) (h5 : 0 ≤ F) (h6 : F ≤ E) (h7 : E < 500) : Bd E' (pA u (j + 1)) := by
  have a := Bd.mul hu hp (E := 14 + E) (Int.le_refl _) (by decide) (by omega) (by omega) (by omega)
  have b := Bd.div a hc (E := 15 + E - F) (by omega) (by omega) (by omega) (by omega) (by omega)
  have one : Bd 1 (fc 4607182418800017408) := Bd.closed (by decide +kernel)
  exact one.sub b h1 (by omega) (by omega) (by omega)

theorem pA_bd {u : Option Nat} (hu : Bd 14 u) : Bd 120 (pA u 8) := by
  have p0 : Bd 8 (pA u 0) := (Bd.closed (by decide +kernel) : Bd 8 (fc 4607182418800017408))
  have p1 : Bd 16 (pA u 1) := pA_step hu p0 (F := 8) (Lb.closed (by decide +kernel)) (by decide) (by decide) (by decide) (by decide) (by decide) (by decide) (by decide)
  have p2 : Bd 25 (pA u 2) := pA_step hu p1 (F := 7) (Lb.closed (by decide +kernel)) (by decide) (by decide) (by decide) (by decide) (by decide) (by decide) (by decide)
  have p3 : Bd 34 (pA u 3) := pA_step hu p2 (F := 7) (Lb.closed (by decide +kernel)) (by decide) (by decide) (by decide) (by decide) (by decide) (by decide) (by decide)
  have p4 : Bd 44 (pA u 4) := pA_step hu p3 (F := 6) (Lb.closed (by decide +kernel)) (by decide) (by decide) (by decide) (by decide) (by decide) (by decide) (by decide)
  have p5 : Bd 54 (pA u 5) := pA_step hu p4 (F := 6) (Lb.closed (by decide +kernel)) (by decide) (by decide) (by decide) (by decide) (by decide) (by decide) (by decide)
  have p6 : Bd 65 (pA u 6) := pA_step hu p5 (F := 5) (Lb.closed (by decide +kernel)) (by decide) (by decide) (by decide) (by decide) (by decide) (by decide) (by decide)
  have p7 : Bd 77 (pA u 7) := pA_step hu p6 (F := 4) (Lb.closed (by decide +kernel)) (by decide) (by decide) (by decide) (by decide) (by decide) (by decide) (by decide)
  have p8 : Bd 91 (pA u 8) := pA_step hu p7 (F := 2) (Lb.closed (by decide +kernel)) (by decide) (by decide) (by decide) (by decide) (by decide) (by decide) (by decide)
  exact p8.mono (by decide)

theorem neg_read_flip (b : Nat) {s : Bool} {m : Nat} {p : Int} (h : double.read b = .number s m p) : ∃ s', double.read (Op.negFloat .f64 b) = .number s' m p := by
  have e : (b ^^^ 2 ^ 63) % double.signWeight = b % double.signWeight := by
    rw [show double.signWeight = 2 ^ 63 from rfl]
    apply Nat.eq_of_testBit_eq
    intro i
    rw [Nat.testBit_mod_two_pow, Nat.testBit_mod_two_pow, Nat.testBit_xor, Nat.testBit_two_pow]
    by_cases hi : i < 63
    · have : ¬ 63 = i := by omega
      simp [hi, this]
    · simp [hi]
  have e2 : Op.negFloat .f64 b = b ^^^ 2 ^ 63 := rfl
  rw [e2]
  unfold Format.read at h ⊢
  simp only [e] at h ⊢
  split at h
  · rename_i h1
    rw [if_pos h1]
    injection h with _ h2 h3
    exact ⟨_, by rw [h2, h3]⟩
  · rename_i h1
    rw [if_neg h1]
    split at h
    · rename_i h2
      rw [if_pos h2]
      injection h with _ h3 h4
      exact ⟨_, by rw [h3, h4]⟩
    · split at h <;> cases h
theorem Bd.neg {E : Int} {o : Option Nat} (h : Bd E o) : Bd E (fneg o) := by
  cases o with
  | none => exact Bd.none _
  | some b =>
    obtain ⟨s, m, p, h1, h2⟩ := h b rfl
    obtain ⟨s', h3⟩ := neg_read_flip b h1
    intro c hc
    cases hc
    exact ⟨s', m, p, h3, h2⟩

theorem sineF_bd {f : Option Nat} (h : Bd 2 f) : Bd 127 (sineF f) := by
  have hz : ∀ t1 t2, Bd 7 (zF f t1 t2) := by
    intro t1 t2
    have half : Bd 0 (fc 4602678819172646912) := Bd.closed (by decide +kernel)
    have tau : Bd 3 (fc 4618760256179416344) := Bd.closed (by decide +kernel)
    have h1 : Bd 3 (if t1 = true then fsub f (fc 4602678819172646912) else f) := by
      split
      · exact h.sub half (by decide) (by decide) (by decide) (by decide)
      · exact h.mono (by decide)
    have h2 : Bd 4 (if t2 = true then fsub (fc 4602678819172646912) (if t1 = true then fsub f (fc 4602678819172646912) else f) else (if t1 = true then fsub f (fc 4602678819172646912) else f)) := by
      split
      · exact half.sub h1 (by decide) (by decide) (by decide) (by decide)
      · exact h1.mono (by decide)
    exact h2.mul tau (by decide) (by decide) (by decide) (by decide) (by decide)
  rw [sineF_of f _ _ rfl rfl]
  generalize hz' : zF f _ _ = z
  have hz0 : Bd 7 z := by rw [← hz']; exact hz _ _
  have hu : Bd 14 (fmul z z) := hz0.mul hz0 (by decide) (by decide) (by decide) (by decide) (by decide)
  have hr := hz0.mul (pA_bd hu) (E := 127) (by decide) (by decide) (by decide) (by decide) (by decide)
  split
  · exact hr.neg
  · exact hr

/-! ### The reference -/
/-- The sine of some turns. -/
def sineW (x : Option Nat) : Option Nat :=
  if finW x = false then none else
  if (fge x (fc 4841369599423283200) || fle x (fc 14064741636278059008)) = true then fc 0 else sineF (fracF x ((toi x).getD 0))

theorem small_bd {x : Option Nat} (h1 : finW x = true) (h2 : fge x (fc 4841369599423283200) = false) (h3 : fle x (fc 14064741636278059008) = false) (hx : ∀ b, x = some b → (double.read b).isNaN = false) : Bd 52 x := by
  intro b hb
  subst hb
  have hn := hx b rfl
  rw [finW_some b hn] at h1
  unfold isNum at h1
  split at h1
  · rename_i s m p hr
    have bx := read_double hr
    have c1 : fc 4841369599423283200 = some 4841369599423283200 := by decide +kernel
    have c2 : fc 14064741636278059008 = some 14064741636278059008 := by decide +kernel
    have r1 : double.read 4841369599423283200 = .number false (2 ^ 52) 0 := by decide +kernel
    have r2 : double.read 14064741636278059008 = .number true (2 ^ 52) 0 := by decide +kernel
    rw [c1] at h2
    rw [c2] at h3
    have o1 : ford .f64 (some b) (some 4841369599423283200) = some (compare (sv s m p) (sv false (2 ^ 52) 0)) := order_mg double hr r1 (by omega) (by decide)
    have o2 : ford .f64 (some b) (some 14064741636278059008) = some (compare (sv s m p) (sv true (2 ^ 52) 0)) := order_mg double hr r2 (by omega) (by decide)
    unfold fge at h2
    unfold fle at h3
    rw [o1, compare_int] at h2
    rw [o2, compare_int] at h3
    refine ⟨s, m, p, hr, ?_⟩
    rw [show (52 : Int) = 0 + ((52 : Nat) : Int) by decide, ← mg_two_pow 52 0 (by decide)]
    unfold sv at h2 h3
    generalize mg (2 ^ 52) 0 = K at h2 h3 ⊢
    generalize mg m p = M at h2 h3 ⊢
    apply Nat.le_of_not_lt
    intro hlt
    cases s
    · simp only [Bool.false_eq_true, if_false] at h2
      rw [if_neg (by omega)] at h2
      split at h2 <;> exact absurd h2 (by decide)
    · simp only [if_true] at h3
      rw [if_pos (by omega)] at h3
      exact absurd h3 (by decide)
  · cases h1

theorem fv_read (x : Nat) : ∀ b, fv .f64 x = some b → (double.read b).isNaN = false := fv_isNum .f64 x

theorem sine_testsG {ι : Type} (g : ι → Nat) (F : Option Nat) (hg : ∀ i, fv .f64 (g i) = F) : ∃ t1 t2 : Bool, fge F (fc 4602678819172646912) = t1 ∧ fgt (if t1 = true then fsub F (fc 4602678819172646912) else F) (fc 4598175219545276416) = t2 ∧
    (∀ i, (FloatKind.f64.format.order (g i) 4602678819172646912 == some .gt || FloatKind.f64.format.order (g i) 4602678819172646912 == some .eq) = t1) ∧
    (t1 = true → ∀ i w, (FloatKind.f64.format.order (fval .sub .f64 (g i) 4602678819172646912 w) 4598175219545276416 == some .gt) = t2) ∧
    (t1 = false → ∀ i, (FloatKind.f64.format.order (g i) 4598175219545276416 == some .gt) = t2) := by
  refine ⟨_, _, rfl, rfl, fun i => ?_, fun h i w => ?_, fun h i => ?_⟩
  · rw [ge_fge, hg]; rfl
  · rw [gt_fgt, fv_sub, hg, if_pos h]; rfl
  · rw [gt_fgt, hg, if_neg (by rw [h]; exact Bool.false_ne_true)]; rfl

theorem kA_lit (j : Nat) (n : Int) (h : (j = 0 ∧ n = 272) ∨ (j = 1 ∧ n = 210) ∨ (j = 2 ∧ n = 156) ∨ (j = 3 ∧ n = 110) ∨ (j = 4 ∧ n = 72) ∨ (j = 5 ∧ n = 42) ∨ (j = 6 ∧ n = 20) ∨ (j = 7 ∧ n = 6)) :
    fv .f64 (floatOfInt .f64 n) = fmul (fmul (fc 4611686018427387904) (kA j)) (fadd (fmul (fc 4611686018427387904) (kA j)) (fc 4607182418800017408)) := by
  rcases h with ⟨rfl, rfl⟩ | ⟨rfl, rfl⟩ | ⟨rfl, rfl⟩ | ⟨rfl, rfl⟩ | ⟨rfl, rfl⟩ | ⟨rfl, rfl⟩ | ⟨rfl, rfl⟩ | ⟨rfl, rfl⟩ <;> decide +kernel

end Go.Proofs.YthegbaaelccekaaDoor

namespace Go.Proofs.YthegbaaelccekaaDoor
open Go.RowKit Ieee

theorem sineW_big (o : Option Nat) (ho : ∀ b, o = some b → (double.read b).isNaN = false) : big (sineW o) = false := by
  unfold sineW
  split
  · rfl
  · rename_i h1
    have h1' : finW o = true := by simpa using h1
    split
    · decide +kernel
    · rename_i h2
      have h2' : fge o (fc 4841369599423283200) = false ∧ fle o (fc 14064741636278059008) = false := by simpa using h2
      have hb := small_bd h1' h2'.1 h2'.2 ho
      cases o with
      | none => cases h1'
      | some b =>
        obtain ⟨n, _, _, _, hn, _⟩ := toi_some hb
        rw [hn]
        exact big_of_Bd (sineF_bd (fracF_bd hb hn)) (by decide) (by decide)

/-- The sine of a float32 of turns. -/
def sineB (x : Nat) : Option Nat := nar (sineW (wid (fv .f32 x)))

theorem wid_read (o : Option Nat) (ho : ∀ x, o = some x → (single.read x).isNaN = false) : ∀ b, wid o = some b → (double.read b).isNaN = false := by
  intro b hb
  cases o with
  | none => cases hb
  | some x => cases hb; exact read_write_notNaN double _ (ho x rfl)

theorem ge32 (x : Nat) : (FloatKind.f32.format.order x 1501560832 == some .gt || FloatKind.f32.format.order x 1501560832 == some .eq) = fge (wid (fv .f32 x)) (fc 4841369599423283200) := by
  have e : fc 4841369599423283200 = wid (fv .f32 1501560832) := by decide +kernel
  unfold fge
  rw [e, ford_wid _ _ (fv_isNum .f32 x) (fv_isNum .f32 _), ← order_ford]
theorem le32 (x : Nat) : (FloatKind.f32.format.order x 3649044480 == some .lt || FloatKind.f32.format.order x 3649044480 == some .eq) = fle (wid (fv .f32 x)) (fc 14064741636278059008) := by
  have e : fc 14064741636278059008 = wid (fv .f32 3649044480) := by decide +kernel
  unfold fle
  rw [e, ford_wid _ _ (fv_isNum .f32 x) (fv_isNum .f32 _), ← order_ford]

theorem nval_nan (b : Nat) (w : World) (h : fv .f64 b = none) : fv .f32 (nval b w) = none := by
  rw [fv_nval b w (by rw [h]; rfl), h]; rfl

theorem impl_SineTurns (x : Nat) (w : World) : Calls Tryd.prog 49 #[.float .f32 x] w fun e w' => ∃ r m, e = .returned (.float .f32 r) ∧ fv .f32 r = sineB x ∧ w' = w.drewN m := by
  have hw := finW_wid (fv .f32 x) (fv_isNum .f32 x)
  cases h1 : finB (fv .f32 x)
  · have hr : sineB x = none := by unfold sineB sineW; rw [if_pos (by rw [hw, h1])]; rfl
    have H1 := Lib.hid h1
    have R := Lib.hid hr
    clear h1 hr hw
    go_enter Tryd.func49, Tryd.ntmps49
    go_wp2_with (first | (go_at_call 79; refine (impl_IsFinite _ _).mono ?_; rw [H1.out]; rintro e w' ⟨rfl, n, rfl⟩) | (go_at_call 80; refine (math_NaN _).mono ?_; rintro e w' ⟨rfl, rfl⟩))
    go_ret
    exact ⟨_, _, rfl, by rw [R.out]; exact nval_nan _ _ (by decide +kernel), rfl⟩
  · have g1 := ge32 x
    have g2 := le32 x
    have z : fv .f32 0 = nar (fc 0) := by decide +kernel
    have H1 := Lib.hid h1
    cases h2 : fge (wid (fv .f32 x)) (fc 4841369599423283200)
    · cases h3 : fle (wid (fv .f32 x)) (fc 14064741636278059008)
      · have hb := small_bd (hw.trans h1) h2 h3 (wid_read _ (fv_isNum .f32 x))
        obtain ⟨n, hn⟩ : ∃ n, toi (wid (fv .f32 x)) = some n := by
          rcases hc : wid (fv .f32 x) with _ | b
          · rw [hc] at hw; rw [h1] at hw; cases hw
          · rw [hc] at hb
            obtain ⟨n, _, _, _, h, _⟩ := toi_some hb
            exact ⟨n, h⟩
        have hs : sineW (wid (fv .f32 x)) = sineF (fracF (wid (fv .f32 x)) n) := by
          unfold sineW
          rw [if_neg (by rw [hw, h1]; decide), if_neg (by rw [h2, h3]; decide), hn]; rfl
        have hbig := sineW_big (wid (fv .f32 x)) (wid_read _ (fv_isNum .f32 x))
        rw [h2] at g1
        rw [h3] at g2
        have HS := Lib.hid hs
        have HB := Lib.hid hbig
        have HN : Hid (∀ w, toi (fv .f64 (wval x w)) = some n) := fun w => by rw [fv_wval]; exact hn
        clear h1 h2 h3 hw hb hn hs hbig z
        go_enter Tryd.func49, Tryd.ntmps49
        go_wp2_with (first | (go_at_call 79; refine (impl_IsFinite _ _).mono ?_; rw [H1.out]; rintro e w' ⟨rfl, n, rfl⟩) | (go_at_call 83; refine (impl_sineOf _ _ _ (HN.out _)).mono ?_; rintro e w' ⟨r, m, rfl, hr, rfl⟩; have R := Lib.hid hr; clear hr))
        go_ret
        refine ⟨_, _, rfl, ?_, rfl⟩
        have hr := R.out
        rw [fv_wval, ← HS.out] at hr
        rw [fv_nval _ _ (by rw [hr]; exact HB.out), hr]
        rfl
      · have hr : sineB x = nar (fc 0) := by unfold sineB sineW; rw [if_neg (by rw [hw, h1]; decide), if_pos (by rw [h2, h3]; rfl)]
        rw [h2] at g1
        rw [h3] at g2
        have R := Lib.hid (z.trans hr.symm)
        clear h1 h2 h3 hr hw z
        go_enter Tryd.func49, Tryd.ntmps49
        go_wp2_with (go_at_call 79; refine (impl_IsFinite _ _).mono ?_; rw [H1.out]; rintro e w' ⟨rfl, n, rfl⟩)
        go_ret
        exact ⟨_, _, rfl, R.out, rfl⟩
    · have hr : sineB x = nar (fc 0) := by unfold sineB sineW; rw [if_neg (by rw [hw, h1]; decide), if_pos (by rw [h2]; rfl)]
      rw [h2] at g1
      have R := Lib.hid (z.trans hr.symm)
      clear h1 h2 hr hw z g2
      go_enter Tryd.func49, Tryd.ntmps49
      go_wp2_with (go_at_call 79; refine (impl_IsFinite _ _).mono ?_; rw [H1.out]; rintro e w' ⟨rfl, n, rfl⟩)
      go_ret
      exact ⟨_, _, rfl, R.out, rfl⟩

end Go.Proofs.YthegbaaelccekaaDoor

namespace Go.Proofs.YthegbaaelccekaaDoor
open Ieee
attribute [local irreducible] mg

/-- A positive finite number from 2^lo to 2^hi. -/
def Px (lo hi : Int) (o : Option Nat) : Prop := ∃ b m p, o = some b ∧ double.read b = .number false m p ∧ mg 1 lo ≤ mg m p ∧ mg m p ≤ mg 1 hi

theorem mg_half (m : Nat) (i : Int) (hi : -5999 ≤ i) : mg m i = mg m (i - 1) + mg m (i - 1) := by
  rw [mg_add, ← Nat.mul_two]
  have := mg_shift m (i - 1) 1 (by omega)
  rw [show i - 1 + ((1 : Nat) : Int) = i by omega] at this
  exact this

theorem rnd_exact {s : Bool} {m : Nat} {p lo hi : Int} (hp : -6000 ≤ p) (h1 : mg 1 lo ≤ mg m p) (h2 : mg m p ≤ mg 1 hi) (hlo : -1074 ≤ lo) (hhi : -1074 ≤ hi) (hhi2 : hi < 1024) : ∃ m' p', double.read (double.nearest s m p) = .number s m' p' ∧ mg 1 lo ≤ mg m' p' ∧ mg m' p' ≤ mg 1 hi := by
  obtain ⟨m', p', g1, g2, g3, _, _⟩ := rnd s m p hi hp hhi hhi2 h2
  exact ⟨m', p', g1, g3 lo hlo h1, g2⟩

theorem two_read : double.read 4611686018427387904 = .number false (2 ^ 52) (-51) := by decide +kernel
theorem c15_read : double.read 4609434218613702656 = .number false (3 * 2 ^ 51) (-52) := by decide +kernel
theorem c75_read : double.read 4604930618986332160 = .number false (3 * 2 ^ 51) (-53) := by decide +kernel
theorem one_read : double.read 4607182418800017408 = .number false (2 ^ 52) (-52) := by decide +kernel
theorem fc_two : fc 4611686018427387904 = some 4611686018427387904 := by decide +kernel
theorem fc_15 : fc 4609434218613702656 = some 4609434218613702656 := by decide +kernel
theorem fc_75 : fc 4604930618986332160 = some 4604930618986332160 := by decide +kernel
theorem fc_one : fc 4607182418800017408 = some 4607182418800017408 := by decide +kernel

theorem mg_15 : mg (3 * 2 ^ 51) (-52) = mg 3 (-1) := by rw [← mg_shift 3 (-52) 51 (by decide)]; rfl
theorem mg_75 : mg (3 * 2 ^ 51) (-53) = mg 3 (-2) := by rw [← mg_shift 3 (-53) 51 (by decide)]; rfl
theorem mg_1 : mg (2 ^ 52) (-52) = mg 1 0 := by rw [mg_two_pow 52 (-52) (by decide)]; rfl

/-- A test against a constant, by values. -/
theorem fge_mg {b c m n : Nat} {p q : Int} (hb : double.read b = .number false m p) (hc : double.read c = .number false n q) (hq : -6000 ≤ q) : fge (some b) (some c) = decide (mg n q ≤ mg m p) := by
  have bx := read_double hb
  have o : ford .f64 (some b) (some c) = some (compare (sv false m p) (sv false n q)) := order_mg double hb hc (by omega) hq
  unfold fge
  rw [o, compare_int]
  unfold sv
  simp only [Bool.false_eq_true, if_false]
  generalize mg m p = A
  generalize mg n q = B
  by_cases h : B ≤ A
  · rw [decide_eq_true h]
    by_cases h2 : A = B
    · rw [if_neg (by omega), if_pos (by omega)]; rfl
    · rw [if_neg (by omega), if_neg (by omega)]; rfl
  · rw [decide_eq_false h, if_pos (by omega)]; rfl
theorem flt_mg {b c m n : Nat} {p q : Int} (hb : double.read b = .number false m p) (hc : double.read c = .number false n q) (hq : -6000 ≤ q) : flt (some b) (some c) = decide (mg m p < mg n q) := by
  have bx := read_double hb
  have o : ford .f64 (some b) (some c) = some (compare (sv false m p) (sv false n q)) := order_mg double hb hc (by omega) hq
  unfold flt
  rw [o, compare_int]
  unfold sv
  simp only [Bool.false_eq_true, if_false]
  generalize mg m p = A
  generalize mg n q = B
  by_cases h : A < B
  · rw [decide_eq_true h, if_pos (by omega)]; rfl
  · rw [decide_eq_false h, if_neg (by omega)]
    by_cases h2 : A = B
    · rw [if_pos (by omega)]; rfl
    · rw [if_neg (by omega)]; rfl

theorem Px.half {lo hi : Int} {x : Option Nat} (h : Px lo hi x) (hg : fge x (fc 4609434218613702656) = true) (hlo : lo ≤ -1) (hlo2 : -1074 ≤ lo) (hhi : hi < 1000) : 0 < hi ∧ Px lo (hi - 1) (fquo x (fc 4611686018427387904)) := by
  obtain ⟨b, m, i, rfl, hr, h1, h2⟩ := h
  have bx := read_double hr
  rw [fc_15, fge_mg hr c15_read (by decide), mg_15, decide_eq_true_eq] at hg
  have e3 : mg 3 (-1) = mg 1 0 + mg 1 (-1) := by
    rw [mg_half 1 0 (by decide), show (0 : Int) - 1 = -1 by decide, mg_add, mg_add]
  have hpos := mg_pos (m := 1) (p := -1) (by decide)
  have hhi0 : 0 < hi := by
    apply Int.lt_of_not_ge
    intro hle
    have := mg_one_le (p := hi) (q := 0) hle
    omega
  refine ⟨hhi0, ?_⟩
  have hm0 : m ≠ 0 := by
    intro h0
    rw [h0, mg_zero] at hg
    omega
  have hlog : m.log2 < 53 := (Nat.log2_lt hm0).2 bx.1
  have hq : fquo (some b) (fc 4611686018427387904) = some (double.nearest (false ^^ false) (m * 2 ^ (54 + 52 - m.log2 - 51)) (i - -51 - (54 + 52 - m.log2 : Nat) - 1)) := by
    rw [fc_two]
    show fop .quo .f64 _ _ = _
    rw [fop_quo, hr, two_read]
    have hl : (2 ^ 52 : Nat).log2 = 52 := by decide +kernel
    simp only [Datum.quotient, if_neg (show ¬ (2 ^ 52 : Nat) = 0 by decide), hl, Option.map_some]
    obtain ⟨k, hk⟩ : ∃ k, 54 + 52 - m.log2 = k + 52 := ⟨54 + 52 - m.log2 - 52, by omega⟩
    rw [hk, Nat.shiftLeft_eq, Nat.pow_add, ← Nat.mul_assoc, Nat.mul_div_cancel _ (Nat.two_pow_pos 52), Nat.mul_mod_left]
    rw [show k + 52 - 51 = k + 1 by omega, Nat.pow_succ]
    show some (double.nearest _ (2 * (m * 2 ^ k) + 0) _) = _
    rw [Nat.add_zero, Nat.mul_comm 2, Nat.mul_assoc]
  obtain ⟨k, hk⟩ : ∃ k, 54 + 52 - m.log2 = k := ⟨_, rfl⟩
  rw [hq, hk]
  have hv : mg (m * 2 ^ (k - 51)) (i - -51 - (k : Int) - 1) = mg m (i - 1) := by
    rw [← mg_shift _ _ _ (by omega)]
    congr 1
    omega
  have hh := mg_half m i (by omega)
  have h2' : mg m (i - 1) ≤ mg 1 (hi - 1) := by
    have := mg_half 1 hi (by omega)
    omega
  have h1' : mg 1 lo ≤ mg m (i - 1) := by
    have e1 := mg_half 1 (-1) (by decide)
    have e2 := mg_half 1 0 (by decide)
    rw [show (0 : Int) - 1 = -1 by decide] at e2
    have := mg_one_le (p := lo) (q := -1) hlo
    omega
  obtain ⟨m', p', g1, g2, g3⟩ := rnd_exact (s := false ^^ false) (m := m * 2 ^ (k - 51)) (p := i - -51 - (k : Int) - 1) (lo := lo) (hi := hi - 1) (by omega) (by rw [hv]; exact h1') (by rw [hv]; exact h2') hlo2 (by omega) (by omega)
  exact ⟨_, m', p', rfl, g1, g2, g3⟩

theorem Px.twice {lo hi : Int} {x : Option Nat} (h : Px lo hi x) (hg : flt x (fc 4604930618986332160) = true) (hlo2 : -1074 ≤ lo) (hhi : 1 ≤ hi) (hhi2 : hi < 1000) : lo < 0 ∧ Px (lo + 1) hi (fmul x (fc 4611686018427387904)) := by
  obtain ⟨b, m, i, rfl, hr, h1, h2⟩ := h
  have bx := read_double hr
  rw [fc_75, flt_mg hr c75_read (by decide), mg_75, decide_eq_true_eq] at hg
  have e3 : mg 3 (-2) = mg 1 (-1) + mg 1 (-2) := by
    rw [mg_half 1 (-1) (by decide), show (-1 : Int) - 1 = -2 by decide, mg_add, mg_add]
  have e1 := mg_half 1 (-1) (by decide)
  rw [show (-1 : Int) - 1 = -2 by decide] at e1
  have e2 := mg_half 1 0 (by decide)
  rw [show (0 : Int) - 1 = -1 by decide] at e2
  have hlo0 : lo < 0 := by
    apply Int.lt_of_not_ge
    intro hle
    have := mg_one_le (p := 0) (q := lo) hle
    omega
  refine ⟨hlo0, ?_⟩
  have hq : fmul (some b) (fc 4611686018427387904) = some (double.nearest (false ^^ false) (m * 2 ^ 52) (i + -51)) := by
    rw [fc_two]
    show fop .mul .f64 _ _ = _
    rw [fop_mul, hr, two_read]
    rfl
  rw [hq]
  have hv : mg (m * 2 ^ 52) (i + -51) = mg m (i + 1) := by
    rw [← mg_shift _ _ _ (by omega)]
    congr 1
    omega
  have hh := mg_half m (i + 1) (by omega)
  rw [show i + 1 - 1 = i by omega] at hh
  have h2' : mg m (i + 1) ≤ mg 1 hi := by
    have e4 := mg_half 1 1 (by decide)
    rw [show (1 : Int) - 1 = 0 by decide] at e4
    have := mg_one_le (p := 1) (q := hi) hhi
    omega
  have h1' : mg 1 (lo + 1) ≤ mg m (i + 1) := by
    have := mg_half 1 (lo + 1) (by omega)
    rw [show lo + 1 - 1 = lo by omega] at this
    omega
  obtain ⟨m', p', g1, g2, g3⟩ := rnd_exact (s := false ^^ false) (m := m * 2 ^ 52) (p := i + -51) (lo := lo + 1) (hi := hi) (by omega) (by rw [hv]; exact h1') (by rw [hv]; exact h2') (by omega) (by omega) (by omega)
  exact ⟨_, m', p', rfl, g1, g2, g3⟩

/-! ### The two loops -/
def itH (x : Option Nat) : Nat → Option Nat
  | 0 => x
  | j + 1 => fquo (itH x j) (fc 4611686018427387904)
def itD (x : Option Nat) : Nat → Option Nat
  | 0 => x
  | j + 1 => fmul (itD x j) (fc 4611686018427387904)

/-- The number of halvings, of doublings. -/
def numH (x : Option Nat) : Nat → Nat
  | 0 => 0
  | g + 1 => if fge x (fc 4609434218613702656) = true then numH (fquo x (fc 4611686018427387904)) g + 1 else 0
def numD (x : Option Nat) : Nat → Nat
  | 0 => 0
  | g + 1 => if flt x (fc 4604930618986332160) = true then numD (fmul x (fc 4611686018427387904)) g + 1 else 0

/-- Counters. -/
theorem count_up : ∀ n : Fin 600, fadd (some (floatOfInt .f64 ((n : Nat) - 300 : Int))) (fc 4607182418800017408) = some (floatOfInt .f64 ((n : Nat) - 300 + 1 : Int)) := by decide +kernel
theorem count_down : ∀ n : Fin 600, fsub (some (floatOfInt .f64 ((n : Nat) - 300 : Int))) (fc 4607182418800017408) = some (floatOfInt .f64 ((n : Nat) - 300 - 1 : Int)) := by decide +kernel
theorem count_up' (n : Int) (h1 : -300 ≤ n) (h2 : n < 300) : fadd (some (floatOfInt .f64 n)) (fc 4607182418800017408) = some (floatOfInt .f64 (n + 1)) := by
  have := count_up ⟨(n + 300).toNat, by omega⟩
  rw [show (((⟨(n + 300).toNat, by omega⟩ : Fin 600) : Nat) : Int) - 300 = n by simp; omega] at this
  exact this
theorem count_down' (n : Int) (h1 : -300 ≤ n) (h2 : n < 300) : fsub (some (floatOfInt .f64 n)) (fc 4607182418800017408) = some (floatOfInt .f64 (n - 1)) := by
  have := count_down ⟨(n + 300).toNat, by omega⟩
  rw [show (((⟨(n + 300).toNat, by omega⟩ : Fin 600) : Nat) : Int) - 300 = n by simp; omega] at this
  exact this
end Go.Proofs.YthegbaaelccekaaDoor

namespace Go.Proofs.YthegbaaelccekaaDoor
open Go.RowKit Ieee

def kL : Nat → Option Nat
  | 0 => fc 4627730092099895296
  | j + 1 => fsub (kL j) (fc 4611686018427387904)
def qA (u : Option Nat) : Nat → Option Nat
  | 0 => fc 0
  | j + 1 => fadd (fquo (fc 4607182418800017408) (kL j)) (fmul u (qA u j))
def sL (x : Option Nat) : Option Nat := fquo (fsub x (fc 4607182418800017408)) (fadd x (fc 4607182418800017408))
/-- The logarithm out of the reduced number and the exponent. -/
def logG (x : Option Nat) (e : Int) : Option Nat :=
  fadd (fmul (fc 4611686018427387904) (fmul (sL x) (qA (fmul (sL x) (sL x)) 13))) (fmul (some (floatOfInt .f64 e)) (fc 4604418534313441775))
def x1L (x : Option Nat) : Option Nat := itH x (numH x 128)
def x2L (x : Option Nat) : Option Nat := itD (x1L x) (numD (x1L x) 149)
/-- The logarithm. -/
def logF (x : Option Nat) : Option Nat := logG (x2L x) ((numH x 128 : Int) - (numD (x1L x) 149 : Int))

theorem kL_test (j : Nat) (h : j < 13) : fge (kL j) (fc 4607182418800017408) = true := by
  have : ∀ j : Fin 13, fge (kL j) (fc 4607182418800017408) = true := by decide +kernel
  exact this ⟨j, h⟩
theorem kL_end : fge (kL 13) (fc 4607182418800017408) = false := by decide +kernel

/-- What the first loop hands on. -/
def RelH (X : Option Nat) (g j xb eb : Nat) : Prop := fv .f64 xb = itH X j ∧ Px (-149) g (fv .f64 xb) ∧ fv .f64 eb = some (floatOfInt .f64 j) ∧ numH (fv .f64 xb) g + j = numH X 128 ∧ j + g = 128
theorem RelH.step {X : Option Nat} {g j xb eb : Nat} (h : RelH X g j xb eb) (ht : fge (fv .f64 xb) (fc 4609434218613702656) = true) : 0 < g ∧ ∀ xb' eb', fv .f64 xb' = fquo (fv .f64 xb) (fc 4611686018427387904) → fv .f64 eb' = fadd (fv .f64 eb) (fc 4607182418800017408) → RelH X (g - 1) (j + 1) xb' eb' := by
  obtain ⟨h1, h2, h3, h4, h5⟩ := h
  obtain ⟨k1, k2⟩ := h2.half ht (by decide) (by decide) (by omega)
  refine ⟨by omega, fun xb' eb' e1 e2 => ⟨?_, ?_, ?_, ?_, by omega⟩⟩
  · rw [e1, h1]; rfl
  · rw [e1, show ((g - 1 : Nat) : Int) = (g : Int) - 1 by omega]; exact k2
  · rw [e2, h3, count_up' _ (by omega) (by omega)]; rfl
  · obtain ⟨g', rfl⟩ : ∃ g', g = g' + 1 := ⟨g - 1, by omega⟩
    rw [numH, if_pos ht] at h4
    rw [e1, Nat.add_sub_cancel]
    omega
theorem RelH.done {X : Option Nat} {g j xb eb : Nat} (h : RelH X g j xb eb) (ht : fge (fv .f64 xb) (fc 4609434218613702656) = false) : fv .f64 xb = x1L X ∧ fv .f64 eb = some (floatOfInt .f64 (numH X 128 : Nat)) ∧ Px (-149) 1 (x1L X) ∧ numH X 128 ≤ 128 := by
  obtain ⟨h1, h2, h3, h4, h5⟩ := h
  have hz : numH (fv .f64 xb) g = 0 := by
    cases g with
    | zero => rfl
    | succ g => rw [numH, if_neg (by rw [ht]; decide)]
  have hj : j = numH X 128 := by omega
  have hx : fv .f64 xb = x1L X := by rw [h1, hj]; rfl
  refine ⟨hx, by rw [h3, hj], ?_, by omega⟩
  rw [← hx]
  obtain ⟨b, m, p, e, hr, l1, l2⟩ := h2
  rw [e, fc_15, fge_mg hr c15_read (by decide), decide_eq_false_iff_not, mg_15] at ht
  refine ⟨b, m, p, e, hr, l1, ?_⟩
  have e4 := mg_half 1 1 (by decide)
  rw [show (1 : Int) - 1 = 0 by decide] at e4
  have e3 : mg 3 (-1) = mg 1 0 + mg 1 (-1) := by
    rw [mg_half 1 0 (by decide), show (0 : Int) - 1 = -1 by decide, mg_add, mg_add]
  have e2 := mg_half 1 0 (by decide)
  rw [show (0 : Int) - 1 = -1 by decide] at e2
  generalize mg 1 0 = A at *
  generalize mg 1 (-1) = B at *
  generalize mg 3 (-1) = C at *
  omega

/-- What the second loop hands on. -/
def RelD (X : Option Nat) (J : Nat) (g j xb eb : Nat) : Prop := fv .f64 xb = itD X j ∧ Px (-(g : Int)) 1 (fv .f64 xb) ∧ fv .f64 eb = some (floatOfInt .f64 ((J : Int) - j)) ∧ numD (fv .f64 xb) g + j = numD X 149 ∧ j + g = 149 ∧ J ≤ 128
theorem RelD.step {X : Option Nat} {J g j xb eb : Nat} (h : RelD X J g j xb eb) (ht : flt (fv .f64 xb) (fc 4604930618986332160) = true) : 0 < g ∧ ∀ xb' eb', fv .f64 xb' = fmul (fv .f64 xb) (fc 4611686018427387904) → fv .f64 eb' = fsub (fv .f64 eb) (fc 4607182418800017408) → RelD X J (g - 1) (j + 1) xb' eb' := by
  obtain ⟨h1, h2, h3, h4, h5, h6⟩ := h
  obtain ⟨k1, k2⟩ := h2.twice ht (by omega) (by decide) (by decide)
  refine ⟨by omega, fun xb' eb' e1 e2 => ⟨?_, ?_, ?_, ?_, by omega, h6⟩⟩
  · rw [e1, h1]; rfl
  · rw [e1, show -((g - 1 : Nat) : Int) = -(g : Int) + 1 by omega]; exact k2
  · rw [e2, h3, count_down' _ (by omega) (by omega)]
    congr 2
    omega
  · obtain ⟨g', rfl⟩ : ∃ g', g = g' + 1 := ⟨g - 1, by omega⟩
    rw [numD, if_pos ht] at h4
    rw [e1, Nat.add_sub_cancel]
    omega
theorem RelD.done {X : Option Nat} {J g j xb eb : Nat} (h : RelD X J g j xb eb) (ht : flt (fv .f64 xb) (fc 4604930618986332160) = false) : fv .f64 xb = itD X (numD X 149) ∧ fv .f64 eb = some (floatOfInt .f64 ((J : Int) - numD X 149)) ∧ Px (-1) 1 (itD X (numD X 149)) ∧ numD X 149 ≤ 149 := by
  obtain ⟨h1, h2, h3, h4, h5, h6⟩ := h
  have hz : numD (fv .f64 xb) g = 0 := by
    cases g with
    | zero => rfl
    | succ g => rw [numD, if_neg (by rw [ht]; decide)]
  have hj : j = numD X 149 := by omega
  have hx : fv .f64 xb = itD X (numD X 149) := by rw [h1, hj]
  refine ⟨hx, by rw [h3, hj], ?_, by omega⟩
  rw [← hx]
  obtain ⟨b, m, p, e, hr, l1, l2⟩ := h2
  rw [e, fc_75, flt_mg hr c75_read (by decide), decide_eq_false_iff_not, mg_75] at ht
  refine ⟨b, m, p, e, hr, ?_, l2⟩
  have e3 : mg 3 (-2) = mg 1 (-1) + mg 1 (-2) := by
    rw [mg_half 1 (-1) (by decide), show (-1 : Int) - 1 = -2 by decide, mg_add, mg_add]
  generalize mg 1 (-1) = A at *
  generalize mg 1 (-2) = B at *
  generalize mg 3 (-2) = C at *
  omega

end Go.Proofs.YthegbaaelccekaaDoor

namespace Go.Proofs.YthegbaaelccekaaDoor
open Go.RowKit Ieee

def feq (a b : Option Nat) : Bool := ford .f64 a b == some .eq
theorem eq_feq (x y : Nat) : (FloatKind.f64.format.order x y == some .eq) = feq (fv .f64 x) (fv .f64 y) := by rw [order_ford]; rfl

/-- The reference's logarithm in 64 bits. -/
def logW (y : Option Nat) : Option Nat :=
  if y.isNone = true ∨ flt y (fc 0) = true then none else if feq y (fc 0) = true then fc 18442240474082181120 else if fgt y (fc 9218868437227405311) = true then y else logF y

theorem kL_int (j : Nat) (k : Int) (h : j < 13) (hk : k + 2 * j = 25) : fv .f64 (floatOfInt .f64 k) = kL j := by
  have : ∀ j : Fin 13, fv .f64 (floatOfInt .f64 (25 - 2 * ((j : Nat) : Int))) = kL j := by decide +kernel
  have h2 := this ⟨j, h⟩
  rw [show k = 25 - 2 * (j : Int) by omega]
  exact h2

/-- The loops with a whole counter. -/
def RelHi (X : Option Nat) (g j xb : Nat) : Prop := RelH X g j xb (floatOfInt .f64 j)
def RelDi (X : Option Nat) (J : Nat) (g j xb : Nat) : Prop := RelD X J g j xb (floatOfInt .f64 ((J : Int) - j))

theorem RelHi.step {X : Option Nat} {g j xb : Nat} (h : RelHi X g j xb) (ht : fge (fv .f64 xb) (fc 4609434218613702656) = true) : 0 < g ∧ ∀ xb', fv .f64 xb' = fquo (fv .f64 xb) (fc 4611686018427387904) → RelHi X (g - 1) (j + 1) xb' := by
  obtain ⟨h1, h2⟩ := RelH.step h ht
  refine ⟨h1, fun xb' e => h2 _ _ e ?_⟩
  rw [fv_ofInt, fv_ofInt, count_up' _ (by have := h.2.2.2.2; omega) (by have := h.2.2.2.2; omega)]
  rfl
theorem RelDi.step {X : Option Nat} {J g j xb : Nat} (h : RelDi X J g j xb) (ht : flt (fv .f64 xb) (fc 4604930618986332160) = true) : 0 < g ∧ ∀ xb', fv .f64 xb' = fmul (fv .f64 xb) (fc 4611686018427387904) → RelDi X J (g - 1) (j + 1) xb' := by
  obtain ⟨h1, h2⟩ := RelD.step h ht
  have h5 := h.2.2.2.2.1
  have h6 := h.2.2.2.2.2
  refine ⟨h1, fun xb' e => h2 _ _ e ?_⟩
  rw [fv_ofInt, fv_ofInt, count_down' _ (by omega) (by omega)]
  congr 2
  omega

end Go.Proofs.YthegbaaelccekaaDoor

namespace Go.Proofs.YthegbaaelccekaaDoor
open Go.RowKit Ieee
attribute [local irreducible] mg

/-! ### Bounds -/
theorem Px.nn {lo hi : Int} {x : Option Nat} (h : Px lo hi x) : Nn hi x := by
  obtain ⟨b, m, p, rfl, hr, _, h2⟩ := h
  intro c hc
  cases hc
  exact ⟨false, m, p, hr, (fun h => by cases h), h2⟩

theorem fadd_comm (a b : Option Nat) : fadd a b = fadd b a := by
  cases a with
  | none => cases b <;> rfl
  | some x =>
  cases b with
  | none => rfl
  | some y =>
    unfold fadd
    rw [fop_add, fop_add]
    congr 1
    cases double.read x <;> cases double.read y <;> simp only [Datum.sum]
    · rename_i s m i t n j
      rw [Int.min_comm i j, Int.add_comm, Bool.and_comm]
    · rename_i s t
      by_cases h : s = t
      · subst h; rfl
      · rw [if_neg h, if_neg (fun e => h e.symm)]

/-- One less than a number from 0 to 2: at most 1 away from nought. -/
theorem sub_one_bd {lo : Int} {x : Option Nat} (h : Px lo 1 x) : Bd 0 (fsub x (fc 4607182418800017408)) := by
  obtain ⟨b, m, p, rfl, hr, _, h2⟩ := h
  have bx := read_double hr
  rw [fc_one]
  unfold fsub
  rw [fop_sub, hr, one_read]
  intro r hr2
  simp only [Datum.opposite, Datum.sum, Option.map_some, Option.some.injEq, Bool.not_false] at hr2
  subst hr2
  have e1 : mg m p = mg (m <<< (p - min p (-52)).toNat) (min p (-52)) := by rw [Nat.shiftLeft_eq, ← mg_shift _ _ _ (by omega)]; congr 1; omega
  have e2 : mg (2 ^ 52) (-52) = mg ((2 ^ 52) <<< (-52 - min p (-52)).toNat) (min p (-52)) := by rw [Nat.shiftLeft_eq, ← mg_shift _ _ _ (by omega)]; congr 1; omega
  have hle : mg (signed false m (p - min p (-52)).toNat + signed true (2 ^ 52) (-52 - min p (-52)).toNat).natAbs (min p (-52)) ≤ mg 1 0 := by
    have e4 := mg_half 1 1 (by decide)
    rw [show (1 : Int) - 1 = 0 by decide, ← mg_1, e2, mg_add] at e4
    rw [e1, e4, mg_le_iff] at h2
    rw [← mg_1, e2, mg_le_iff]
    unfold signed
    simp only [Bool.false_eq_true, if_true, if_false]
    generalize m <<< (p - min p (-52)).toNat = A at h2 ⊢
    generalize (2 ^ 52) <<< (-52 - min p (-52)).toNat = B at h2 ⊢
    omega
  obtain ⟨m', p', k1, k2, _⟩ := rnd (if signed false m (p - min p (-52)).toNat + signed true (2 ^ 52) (-52 - min p (-52)).toNat = 0 then false && true else decide (signed false m (p - min p (-52)).toNat + signed true (2 ^ 52) (-52 - min p (-52)).toNat < 0)) _ (min p (-52)) 0 (by omega) (by decide) (by decide) hle
  exact ⟨_, m', p', k1, k2⟩

theorem qA_step {u : Option Nat} {j : Nat} {E : Int} (hu : Bd 2 u) (hp : Bd E (qA u j)) (hj : j < 13) (h1 : 1 ≤ E) (h4 : E < 500) : Bd (E + 3) (qA u (j + 1)) := by
  have hk : ∀ j : Fin 13, chkBdO 1 (fquo (fc 4607182418800017408) (kL j)) = true := by decide +kernel
  have one : Bd 1 (fquo (fc 4607182418800017408) (kL j)) := Bd.closed (hk ⟨j, hj⟩)
  have a := Bd.mul hu hp (E := 2 + E) (Int.le_refl _) (by decide) (by omega) (by omega) (by omega)
  exact one.add a (by omega) (by omega) (by omega) (by omega)
theorem qA_bd {u : Option Nat} (hu : Bd 2 u) : Bd 40 (qA u 13) := by
  have p0 : Bd 1 (qA u 0) := (Bd.closed (by decide +kernel) : Bd 1 (fc 0))
  have p1 := qA_step hu p0 (by decide) (by decide) (by decide)
  have p2 := qA_step hu p1 (by decide) (by decide) (by decide)
  have p3 := qA_step hu p2 (by decide) (by decide) (by decide)
  have p4 := qA_step hu p3 (by decide) (by decide) (by decide)
  have p5 := qA_step hu p4 (by decide) (by decide) (by decide)
  have p6 := qA_step hu p5 (by decide) (by decide) (by decide)
  have p7 := qA_step hu p6 (by decide) (by decide) (by decide)
  have p8 := qA_step hu p7 (by decide) (by decide) (by decide)
  have p9 := qA_step hu p8 (by decide) (by decide) (by decide)
  have p10 := qA_step hu p9 (by decide) (by decide) (by decide)
  have p11 := qA_step hu p10 (by decide) (by decide) (by decide)
  have p12 := qA_step hu p11 (by decide) (by decide) (by decide)
  have p13 := qA_step hu p12 (by decide) (by decide) (by decide)
  exact p13.mono (by decide)

theorem logG_bd {z : Option Nat} {e : Int} (hz : Px (-1) 1 z) (he : e.natAbs ≤ 2 ^ 9) : Bd 44 (logG z e) := by
  have h1 := sub_one_bd hz
  have one : Nn 1 (fc 4607182418800017408) := Nn.const (b := 4607182418800017408) (by decide +kernel) (by decide +kernel)
  have lone : Lb 0 (fc 4607182418800017408) := Lb.closed (by decide +kernel)
  have h2 : Lb 0 (fadd z (fc 4607182418800017408)) := by
    rw [fadd_comm]
    exact (one.add hz.nn (E := 2) (by decide) (by decide) (by decide) (by decide)).2 0 (by decide) lone
  have hs : Bd 1 (sL z) := h1.div h2 (by decide) (by decide) (by decide) (by decide) (by decide)
  have hu : Bd 2 (fmul (sL z) (sL z)) := hs.mul hs (by decide) (by decide) (by decide) (by decide) (by decide)
  have hq := hs.mul (qA_bd hu) (E := 41) (by decide) (by decide) (by decide) (by decide) (by decide)
  have two : Bd 2 (fc 4611686018427387904) := Bd.closed (by decide +kernel)
  have h3 := two.mul hq (E := 43) (by decide) (by decide) (by decide) (by decide) (by decide)
  have ln : Bd 0 (fc 4604418534313441775) := Bd.closed (by decide +kernel)
  have h4 : Bd 9 (some (floatOfInt .f64 e)) := Bd.ofInt (k := 9) he (by decide)
  have h5 := h4.mul ln (E := 9) (by decide) (by decide) (by decide) (by decide) (by decide)
  exact h3.add h5 (by decide) (by decide) (by decide) (by decide)

theorem numH_le (x : Option Nat) : ∀ g, numH x g ≤ g := by
  intro g
  induction g generalizing x with
  | zero => exact Nat.le_refl _
  | succ g ih => rw [numH]; split
                 · have := ih (fquo x (fc 4611686018427387904)); omega
                 · omega
theorem numD_le (x : Option Nat) : ∀ g, numD x g ≤ g := by
  intro g
  induction g generalizing x with
  | zero => exact Nat.le_refl _
  | succ g ih => rw [numD]; split
                 · have := ih (fmul x (fc 4611686018427387904)); omega
                 · omega

theorem Px.fv {lo hi : Int} {x : Option Nat} (h : Px lo hi x) : ∃ b, x = some b ∧ fv .f64 b = x := by
  obtain ⟨b, m, p, rfl, hr, _, _⟩ := h
  exact ⟨b, rfl, fv_some (by show (Ieee.double.read b).isNaN = false; rw [hr]; rfl)⟩

theorem RelH.run {X : Option Nat} : ∀ g j xb eb, RelH X g j xb eb → Px (-149) 1 (x1L X) ∧ numH X 128 ≤ 128 := by
  intro g
  induction g with
  | zero =>
    intro j xb eb h
    cases hc : fge (_root_.Go.Proofs.YthegbaaelccekaaDoor.fv .f64 xb) (fc 4609434218613702656)
    · have := h.done hc; exact ⟨this.2.2.1, this.2.2.2⟩
    · exact absurd (h.step hc).1 (by decide)
  | succ g ih =>
    intro j xb eb h
    cases hc : fge (_root_.Go.Proofs.YthegbaaelccekaaDoor.fv .f64 xb) (fc 4609434218613702656)
    · have := h.done hc; exact ⟨this.2.2.1, this.2.2.2⟩
    · obtain ⟨_, hs⟩ := h.step hc
      obtain ⟨_, hp⟩ := h.2.1.half hc (by decide) (by decide) (by have := h.2.2.2.2; omega)
      obtain ⟨b, hb, hfb⟩ := hp.fv
      exact ih (j + 1) b (floatOfInt .f64 ((j : Int) + 1)) (hs b _ hfb (by rw [fv_ofInt, h.2.2.1, count_up' _ (by omega) (by have := h.2.2.2.2; omega)]))
theorem RelD.run {X : Option Nat} {J : Nat} : ∀ g j xb eb, RelD X J g j xb eb → Px (-1) 1 (itD X (numD X 149)) ∧ numD X 149 ≤ 149 := by
  intro g
  induction g with
  | zero =>
    intro j xb eb h
    cases hc : flt (_root_.Go.Proofs.YthegbaaelccekaaDoor.fv .f64 xb) (fc 4604930618986332160)
    · have := h.done hc; exact ⟨this.2.2.1, this.2.2.2⟩
    · exact absurd (h.step hc).1 (by decide)
  | succ g ih =>
    intro j xb eb h
    cases hc : flt (_root_.Go.Proofs.YthegbaaelccekaaDoor.fv .f64 xb) (fc 4604930618986332160)
    · have := h.done hc; exact ⟨this.2.2.1, this.2.2.2⟩
    · obtain ⟨_, hs⟩ := h.step hc
      have h5 := h.2.2.2.2.1
      have h6 := h.2.2.2.2.2
      obtain ⟨_, hp⟩ := h.2.1.twice hc (by omega) (by decide) (by decide)
      obtain ⟨b, hb, hfb⟩ := hp.fv
      exact ih (j + 1) b (floatOfInt .f64 ((J : Int) - j - 1)) (hs b _ hfb (by rw [fv_ofInt, h.2.2.1, count_down' _ (by omega) (by omega)]))

theorem logF_facts {X : Option Nat} (h : Px (-149) 128 X) : Px (-1) 1 (x2L X) ∧ numH X 128 ≤ 128 ∧ numD (x1L X) 149 ≤ 149 := by
  obtain ⟨b, _, hb⟩ := h.fv
  obtain ⟨p1, p2⟩ := RelH.run 128 0 b (floatOfInt .f64 0) ⟨hb, by rw [hb]; exact h, fv_ofInt _, by rw [hb]; rfl, rfl⟩
  obtain ⟨c, _, hc⟩ := p1.fv
  obtain ⟨q1, q2⟩ := RelD.run (J := numH X 128) 149 0 c (floatOfInt .f64 ((numH X 128 : Int) - (0 : Nat))) ⟨hc, by rw [hc]; exact p1, fv_ofInt _, by rw [hc]; rfl, rfl, p2⟩
  exact ⟨q1, p2, q2⟩
theorem logF_bd {X : Option Nat} (h : Px (-149) 128 X) : Bd 44 (logF X) := by
  obtain ⟨h1, h2, h3⟩ := logF_facts h
  exact logG_bd h1 (by
    have : (2 : Nat) ^ 9 = 512 := by decide
    omega)

/-! ### The reference and the program -/
/-- The logarithm of a float32. -/
def logB (x : Nat) : Option Nat := nar (logW (wid (fv .f32 x)))

theorem pos_px (x : Nat) (h0 : (wid (fv .f32 x)).isNone = false) (h1 : flt (wid (fv .f32 x)) (fc 0) = false) (h2 : feq (wid (fv .f32 x)) (fc 0) = false) (h3 : fgt (wid (fv .f32 x)) (fc 9218868437227405311) = false) : Px (-149) 128 (wid (fv .f32 x)) := by
  rcases fv_cases .f32 x with ⟨a1, _, _⟩ | ⟨a1, hn, _⟩
  · rw [a1] at h0; cases h0
  · rw [a1] at h1 h2 h3 ⊢
    have hn' : (single.read x).isNaN = false := hn
    have e : ∀ d, single.read x = d → wid (some x) = some (double.write d) := fun d hd => by show some (double.write (single.read x)) = _; rw [hd]
    cases hd : single.read x with
    | nan s t => rw [hd] at hn'; cases hn'
    | infinity s =>
      rw [e _ hd] at h1 h3
      exfalso
      cases s
      · exact absurd h3 (by decide +kernel)
      · exact absurd h1 (by decide +kernel)
    | number s m p =>
      obtain ⟨m', p', k1, k2, k3⟩ := wide_read hd
      have hb := read_single hd
      have z1 : fc 0 = some 0 := by decide +kernel
      have z2 : double.read 0 = .number false 0 (-1074) := by decide +kernel
      rw [e _ hd, z1] at h1 h2
      have o : ford .f64 (some (double.write (.number s m p))) (some 0) = some (compare (sv s m' p') (sv false 0 (-1074))) := order_mg double k1 z2 (by omega) (by decide)
      unfold flt at h1
      unfold feq at h2
      rw [o, compare_int] at h1 h2
      unfold sv at h1 h2
      rw [mg_zero] at h1 h2
      have hpos : s = false ∧ 0 < mg m' p' := by
        generalize mg m' p' = M at h1 h2 ⊢
        cases s
        · simp only [Bool.false_eq_true, if_false] at h1 h2
          refine ⟨rfl, Nat.pos_of_ne_zero fun h => ?_⟩
          subst h
          exact absurd h2 (by decide)
        · simp only [if_true, Bool.false_eq_true, if_false] at h1 h2
          exfalso
          by_cases hM : M = 0
          · subst hM; exact absurd h2 (by decide)
          · rw [if_pos (by omega)] at h1; exact absurd h1 (by decide)
      obtain ⟨rfl, hpos⟩ := hpos
      rw [e _ hd]
      refine ⟨_, m', p', rfl, k1, ?_, ?_⟩
      · rw [k2] at hpos ⊢
        have hm : 0 < m := by
          rcases Nat.eq_zero_or_pos m with h | h
          · rw [h, mg_zero] at hpos; omega
          · exact h
        refine Nat.le_trans (mg_one_le (q := p) (by omega)) ((mg_le_iff (p := p)).2 hm)
      · rw [k2]
        exact Nat.le_of_lt (mg_lt_top hb.1 (by omega) (by show p + ((24 : Nat) : Int) ≤ 128; omega))

/-- Beyond the greatest number there is but an infinity. -/
theorem gt_max (x : Nat) (h3 : fgt (wid (fv .f32 x)) (fc 9218868437227405311) = true) : fv .f32 x = some x ∧ single.read x = .infinity false := by
  rcases fv_cases .f32 x with ⟨a1, _, _⟩ | ⟨a1, hn, _⟩
  · rw [a1] at h3; cases h3
  · rw [a1] at h3
    refine ⟨a1, ?_⟩
    have hn' : (single.read x).isNaN = false := hn
    have e : ∀ d, single.read x = d → wid (some x) = some (double.write d) := fun d hd => by show some (double.write (single.read x)) = _; rw [hd]
    cases hd : single.read x with
    | nan s t => rw [hd] at hn'; cases hn'
    | infinity s =>
      rw [e _ hd] at h3
      cases s
      · rfl
      · exact absurd h3 (by decide +kernel)
    | number s m p =>
      obtain ⟨m', p', k1, k2, k3⟩ := wide_read hd
      have hb := read_single hd
      exfalso
      have z1 : fc 9218868437227405311 = some 9218868437227405311 := by decide +kernel
      have z2 : double.read 9218868437227405311 = .number false (2 ^ 53 - 1) 971 := by decide +kernel
      rw [e _ hd, z1] at h3
      have o : ford .f64 (some (double.write (.number s m p))) (some 9218868437227405311) = some (compare (sv s m' p') (sv false (2 ^ 53 - 1) 971)) := order_mg double k1 z2 (by omega) (by decide)
      unfold fgt at h3
      rw [o, compare_int] at h3
      have l1 : mg m' p' < mg (2 ^ 53 - 1) 971 := by
        rw [k2]
        refine Nat.lt_of_lt_of_le (mg_lt_top hb.1 (by omega) (by show p + ((24 : Nat) : Int) ≤ 971; omega)) ((mg_le_iff (p := 971)).2 (by decide))
      unfold sv at h3
      generalize mg m' p' = M at h3 l1
      generalize mg (2 ^ 53 - 1) 971 = K at h3 l1
      cases s
      · simp only [Bool.false_eq_true, if_false] at h3
        rw [if_pos (by omega)] at h3
        exact absurd h3 (by decide)
      · simp only [Bool.false_eq_true, if_true, if_false] at h3
        rw [if_pos (by omega)] at h3
        exact absurd h3 (by decide)

theorem logW_big (x : Nat) : big (logW (wid (fv .f32 x))) = false := by
  unfold logW
  split
  · rfl
  · rename_i h0
    have h0' : (wid (fv .f32 x)).isNone = false ∧ flt (wid (fv .f32 x)) (fc 0) = false := ⟨Bool.eq_false_iff.2 (not_or.1 h0).1, Bool.eq_false_iff.2 (not_or.1 h0).2⟩
    split
    · decide +kernel
    · rename_i h2
      have h2' : feq (wid (fv .f32 x)) (fc 0) = false := by simpa using h2
      split
      · rename_i h3
        obtain ⟨a1, hd⟩ := gt_max x h3
        rw [a1, show wid (some x) = some (double.write (.infinity false)) by show some (double.write (single.read x)) = _; rw [hd]]
        decide +kernel
      · rename_i h3
        have h3' : fgt (wid (fv .f32 x)) (fc 9218868437227405311) = false := by simpa using h3
        exact big_of_Bd (logF_bd (pos_px x h0'.1 h0'.2 h2' h3')) (by decide) (by decide)

theorem inf_bits (x : Nat) (hx : x < 4294967296) (h : single.read x = .infinity false) : x = 2139095040 := by
  have e1 : single.binade = 8388608 := by decide
  have e2 : single.signWeight = 2147483648 := by decide
  have e3 : single.infRung = 2139095040 := by decide
  unfold Format.read at h
  simp only [e1, e2, e3] at h
  split at h
  · cases h
  · split at h
    · cases h
    · split at h
      · rename_i h1
        injection h with h2
        have h3 : ¬ x / 2147483648 % 2 = 1 := by simpa using h2
        omega
      · cases h

theorem lt32_zero (x : Nat) : (FloatKind.f32.format.order x 0 == some .lt) = flt (wid (fv .f32 x)) (fc 0) := by
  have e : fc 0 = wid (fv .f32 0) := by decide +kernel
  unfold flt
  rw [e, ford_wid _ _ (fv_isNum .f32 x) (fv_isNum .f32 _), ← order_ford]
theorem eq32_zero (x : Nat) : (FloatKind.f32.format.order x 0 == some .eq) = feq (wid (fv .f32 x)) (fc 0) := by
  have e : fc 0 = wid (fv .f32 0) := by decide +kernel
  unfold feq
  rw [e, ford_wid _ _ (fv_isNum .f32 x) (fv_isNum .f32 _), ← order_ford]
theorem nval_none (b : Nat) (w : World) (h : fv .f64 b = none) : fv .f32 (nval b w) = none := by
  rw [fv_nval b w (by rw [h]; rfl), h]; rfl

end Go.Proofs.YthegbaaelccekaaDoor

namespace Go.Proofs.YthegbaaelccekaaDoor
open Go.RowKit Ieee
attribute [local irreducible] mg

/-! ### The plain functions -/
def fabs (a : Option Nat) : Option Nat := a.map absB
def tA (t : Option Nat) : Nat → Option Nat
  | 0 => t
  | j + 1 => fquo (tA t j) (fadd (fc 4607182418800017408) (fsqrt (fadd (fc 4607182418800017408) (fmul (tA t j) (tA t j)))))
def kR : Nat → Option Nat
  | 0 => fc 4624633867356078080
  | j + 1 => fsub (kR j) (fc 4611686018427387904)
def rA (u : Option Nat) : Nat → Option Nat
  | 0 => fc 0
  | j + 1 => fsub (fquo (fc 4607182418800017408) (kR j)) (fmul u (rA u j))
def angT (t : Option Nat) : Option Nat := fquo (fmul (fc 4620693217682128896) (fmul (tA t 3) (rA (fmul (tA t 3) (tA t 3)) 8))) (fc 4618760256179416344)
/-- The angle out of the tangent, by the tests. -/
def angH (t : Option Nat) (over xn yn : Bool) : Option Nat :=
  let a1 := if over = true then fsub (fc 4598175219545276416) (angT t) else angT t
  let a2 := if xn = true then fsub (fc 4602678819172646912) a1 else a1
  if yn = true then fneg a2 else a2
/-- The angle of a point, by its tests. -/
def angG (y x : Option Nat) (over xn yn : Bool) : Option Nat :=
  angH (if over = true then fquo (fabs x) (fabs y) else fquo (fabs y) (fabs x)) over xn yn
def angF (y x : Option Nat) : Option Nat := angG y x (fgt (fabs y) (fabs x)) (flt x (fc 0)) (flt y (fc 0))

theorem fv_absB (b : Nat) : fv .f64 (absB b) = fabs (fv .f64 b) := by
  have e : ∀ b : Nat, (b % 9223372036854775808) % double.signWeight = b % double.signWeight := fun b => by
    rw [show double.signWeight = 9223372036854775808 by decide]; exact Nat.mod_mod _ _
  have h : (double.read (absB b)).isNaN = (double.read b).isNaN := by
    unfold absB Format.read
    simp only [e]
    split
    · rfl
    · split
      · rfl
      · split <;> rfl
  unfold fv fabs
  rw [show FloatKind.f64.format = double from rfl, h]
  cases (double.read b).isNaN <;> rfl

theorem kR_test (j : Nat) (h : j < 8) : fge (kR j) (fc 4607182418800017408) = true := by
  have : ∀ j : Fin 8, fge (kR j) (fc 4607182418800017408) = true := by decide +kernel
  exact this ⟨j, h⟩
theorem kR_end : fge (kR 8) (fc 4607182418800017408) = false := by decide +kernel
theorem kR_int (j : Nat) (k : Int) (h : j < 8) (hk : k + 2 * j = 15) : fv .f64 (floatOfInt .f64 k) = kR j := by
  have : ∀ j : Fin 8, fv .f64 (floatOfInt .f64 (15 - 2 * ((j : Nat) : Int))) = kR j := by decide +kernel
  have h2 := this ⟨j, h⟩
  rw [show k = 15 - 2 * (j : Int) by omega]
  exact h2

/-! ### Bounds -/
theorem tA_step {t : Option Nat} {j : Nat} {e : Int} (h : Bd e (tA t j)) (h0 : 1 ≤ e) (h1 : e < 100) : Bd (e + 1) (tA t (j + 1)) := by
  have one : Nn 1 (fc 4607182418800017408) := Nn.const (b := 4607182418800017408) (by decide +kernel) (by decide +kernel)
  have lone : Lb 0 (fc 4607182418800017408) := Lb.closed (by decide +kernel)
  have sq : Nn (e + e) (fmul (tA t j) (tA t j)) := Nn.sq h (by omega) (by omega) (by omega) (by omega)
  have s1 := (one.add sq (E := e + e + 1) (by omega) (by omega) (by omega) (by omega)).1
  have s2 : Nn ((e + 1) + (e + 1)) (fadd (fc 4607182418800017408) (fmul (tA t j) (tA t j))) := s1.mono (by omega)
  have s3 := s2.sqrt (by omega) (by omega)
  have s4 := (one.add s3 (E := e + 3) (by omega) (by omega) (by omega) (by omega)).2 0 (by decide) lone
  exact h.div s4 (by omega) (by omega) (by omega) (by omega) (by omega)
theorem rA_step {u : Option Nat} {j : Nat} {E : Int} (hu : Bd 8 u) (hp : Bd E (rA u j)) (hj : j < 8) (h1 : 1 ≤ E) (h4 : E < 500) : Bd (E + 9) (rA u (j + 1)) := by
  have hk : ∀ j : Fin 8, chkBdO 1 (fquo (fc 4607182418800017408) (kR j)) = true := by decide +kernel
  have one : Bd 1 (fquo (fc 4607182418800017408) (kR j)) := Bd.closed (hk ⟨j, hj⟩)
  have a := Bd.mul hu hp (E := 8 + E) (Int.le_refl _) (by decide) (by omega) (by omega) (by omega)
  exact one.sub a (by omega) (by omega) (by omega) (by omega)
theorem angT_bd {t : Option Nat} (h : Bd 1 t) : Bd 81 (angT t) := by
  have t3 : Bd 4 (tA t 3) := tA_step (tA_step (tA_step (j := 0) (e := 1) h (by decide) (by decide)) (by decide) (by decide)) (by decide) (by decide)
  have hu : Bd 8 (fmul (tA t 3) (tA t 3)) := t3.mul t3 (by decide) (by decide) (by decide) (by decide) (by decide)
  have p0 : Bd 1 (rA (fmul (tA t 3) (tA t 3)) 0) := (Bd.closed (by decide +kernel) : Bd 1 (fc 0))
  have p1 := rA_step hu p0 (by decide) (by decide) (by decide)
  have p2 := rA_step hu p1 (by decide) (by decide) (by decide)
  have p3 := rA_step hu p2 (by decide) (by decide) (by decide)
  have p4 := rA_step hu p3 (by decide) (by decide) (by decide)
  have p5 := rA_step hu p4 (by decide) (by decide) (by decide)
  have p6 := rA_step hu p5 (by decide) (by decide) (by decide)
  have p7 := rA_step hu p6 (by decide) (by decide) (by decide)
  have p8 := rA_step hu p7 (by decide) (by decide) (by decide)
  have m1 := t3.mul p8 (E := 77) (by decide) (by decide) (by decide) (by decide) (by decide)
  have e8 : Bd 4 (fc 4620693217682128896) := Bd.closed (by decide +kernel)
  have m2 := e8.mul m1 (E := 81) (by decide) (by decide) (by decide) (by decide) (by decide)
  have tau : Lb 2 (fc 4618760256179416344) := Lb.closed (by decide +kernel)
  exact m2.div tau (by decide) (by decide) (by decide) (by decide) (by decide)

/-- A quotient of a number by one that is not smaller. -/
theorem div_rel {x y m n : Nat} {s t : Bool} {i j : Int} (hx : double.read x = .number s m i) (hy : double.read y = .number t n j) (hn0 : 0 < mg n j) (hle : mg m i ≤ mg n j) : Bd 1 (fquo (some x) (some y)) := by
  have bx := read_double hx
  have by' := read_double hy
  have hn : n ≠ 0 := by
    intro h0
    rw [h0, mg_zero] at hn0
    omega
  unfold fquo
  rw [fop_quo, hx, hy]
  intro r hr
  simp only [Datum.quotient, if_neg hn, Option.map_some, Option.some.injEq] at hr
  subst hr
  generalize hmore : 54 + n.log2 - m.log2 = more
  have hmore2 : more ≤ 106 := by
    have : n.log2 < 53 := (Nat.log2_lt hn).2 by'.1
    omega
  have hle2 : mg (2 * (m <<< more / n) + (m <<< more % n != 0).toNat) (i - j - more - 1) ≤ mg 1 1 := by
    rcases Nat.eq_zero_or_pos m with rfl | hmp
    · rw [Nat.zero_shiftLeft, Nat.zero_div, Nat.zero_mod]
      rw [show 2 * 0 + ((0 : Nat) != 0).toNat = 0 from rfl, mg_zero]; exact Nat.zero_le _
    · rw [Nat.shiftLeft_eq]
      have hD : n ≤ m * 2 ^ more := by
        have l1 : 2 ^ m.log2 ≤ m := Nat.log2_self_le (by omega)
        have l2 : n < 2 ^ (n.log2 + 1) := Nat.lt_log2_self
        have l3 : 2 ^ (n.log2 + 1) ≤ 2 ^ (m.log2 + more) := Nat.pow_le_pow_right (by decide) (by omega)
        have l4 := Nat.mul_le_mul_right (2 ^ more) l1
        rw [← Nat.pow_add] at l4
        omega
      generalize hDd : m * 2 ^ more = D at hD
      have hq : 1 ≤ D / n := Nat.div_pos hD (by omega)
      have hq3 : (2 * (D / n) + (D % n != 0).toNat) * n ≤ 4 * D := by
        have : (D % n != 0).toNat ≤ 1 := by cases (D % n != 0) <;> simp
        have h5 : 2 * (D / n) + (D % n != 0).toNat ≤ 4 * (D / n) := by omega
        have h6 := Nat.mul_le_mul_right n h5
        have h7 : D / n * n ≤ D := Nat.div_mul_le_self D n
        rw [Nat.mul_assoc] at h6
        omega
      generalize 2 * (D / n) + (D % n != 0).toNat = q at hq3
      have k1 : mg q (i - j - more - 1) * mg n j ≤ mg 1 1 * mg n j := by
        rw [mg_mul _ _ _ _ (by omega) (by omega), mg_mul _ _ _ _ (by decide) (by omega), Nat.one_mul]
        refine Nat.mul_le_mul_right _ ?_
        refine Nat.le_trans ((mg_le_iff (p := i - j - more - 1 + j)).2 hq3) ?_
        rw [← hDd, show 4 * (m * 2 ^ more) = m * 2 ^ (more + 2) by rw [Nat.pow_add, Nat.mul_comm 4, Nat.mul_assoc], ← mg_shift _ _ _ (by omega)]
        rw [show i - j - more - 1 + j + ((more + 2 : Nat) : Int) = i + ((1 : Nat) : Int) by omega, mg_shift _ _ _ (by omega), Nat.mul_two, ← mg_add, show 1 + j = j + ((1 : Nat) : Int) by omega, mg_shift _ _ _ (by omega), Nat.mul_two, ← mg_add]
        exact Nat.add_le_add hle hle
      exact Nat.le_of_mul_le_mul_right k1 hn0
  obtain ⟨m', p', g1, g2, _⟩ := rnd (s ^^ t) _ (i - j - more - 1) 1 (by omega) (by decide) (by decide) hle2
  exact ⟨_, m', p', g1, g2⟩

theorem abs_read {b : Nat} {s : Bool} {m : Nat} {p : Int} (h : double.read b = .number s m p) : double.read (absB b) = .number false m p := by
  have e : (b % 9223372036854775808) % double.signWeight = b % double.signWeight := by
    rw [show double.signWeight = 9223372036854775808 by decide]; exact Nat.mod_mod _ _
  have e2 : ((b % 9223372036854775808) / double.signWeight % 2 == 1) = false := by
    rw [show double.signWeight = 9223372036854775808 by decide, Nat.div_eq_of_lt (Nat.mod_lt _ (by decide))]; rfl
  unfold absB Format.read at *
  simp only [e, e2] at h ⊢
  split at h
  · rename_i h1
    rw [if_pos h1]
    injection h with _ h2 h3
    rw [h2, h3]
  · rename_i h1
    rw [if_neg h1]
    split at h
    · rename_i h2
      rw [if_pos h2]
      injection h with _ h3 h4
      rw [h3, h4]
    · split at h <;> cases h

theorem fgt_mg {b c m n : Nat} {p q : Int} (hb : double.read b = .number false m p) (hc : double.read c = .number false n q) (hq : -6000 ≤ q) : fgt (some b) (some c) = decide (mg n q < mg m p) := by
  have bx := read_double hb
  have o : ford .f64 (some b) (some c) = some (compare (sv false m p) (sv false n q)) := order_mg double hb hc (by omega) hq
  unfold fgt
  rw [o, compare_int]
  unfold sv
  simp only [Bool.false_eq_true, if_false]
  generalize mg m p = A
  generalize mg n q = B
  by_cases h : B < A
  · rw [decide_eq_true h, if_neg (by omega), if_neg (by omega)]; rfl
  · rw [decide_eq_false h]
    by_cases h2 : A = B
    · rw [if_neg (by omega), if_pos (by omega)]; rfl
    · rw [if_pos (by omega)]; rfl

/-- The angle of a point that is not the origin is bounded. -/
theorem angF_bd {x y m n : Nat} {s t : Bool} {i j : Int} (hy : double.read y = .number s m i) (hx : double.read x = .number t n j) (h0 : 0 < mg m i ∨ 0 < mg n j) : Bd 84 (angF (some y) (some x)) := by
  have ay := abs_read hy
  have ax := abs_read hx
  have by' := read_double hy
  have bx := read_double hx
  have o : fgt (fabs (some y)) (fabs (some x)) = decide (mg n j < mg m i) := fgt_mg ay ax (by omega)
  have ht : Bd 1 (if fgt (fabs (some y)) (fabs (some x)) = true then fquo (fabs (some x)) (fabs (some y)) else fquo (fabs (some y)) (fabs (some x))) := by
    rw [o]
    by_cases hgt : mg n j < mg m i
    · rw [if_pos (decide_eq_true hgt)]
      exact div_rel ax ay (by omega) (by omega)
    · rw [if_neg (by rw [decide_eq_false hgt]; decide)]
      exact div_rel ay ax (by omega) (by omega)
  unfold angF angG angH
  have q : Bd 0 (fc 4598175219545276416) := Bd.closed (by decide +kernel)
  have hf : Bd 0 (fc 4602678819172646912) := Bd.closed (by decide +kernel)
  have h1 := angT_bd ht
  generalize (if fgt (fabs (some y)) (fabs (some x)) = true then fquo (fabs (some x)) (fabs (some y)) else fquo (fabs (some y)) (fabs (some x))) = T at h1 ⊢
  dsimp only
  have h2 : Bd 82 (if fgt (fabs (some y)) (fabs (some x)) = true then fsub (fc 4598175219545276416) (angT T) else angT T) := by
    split
    · exact q.sub h1 (by decide) (by decide) (by decide) (by decide)
    · exact h1.mono (by decide)
  generalize (if fgt (fabs (some y)) (fabs (some x)) = true then fsub (fc 4598175219545276416) (angT T) else angT T) = A at h2 ⊢
  have h3 : Bd 83 (if flt (some x) (fc 0) = true then fsub (fc 4602678819172646912) A else A) := by
    split
    · exact hf.sub h2 (by decide) (by decide) (by decide) (by decide)
    · exact h2.mono (by decide)
  split
  · exact h3.neg.mono (by decide)
  · exact h3.mono (by decide)
end Go.Proofs.YthegbaaelccekaaDoor

namespace Go.Proofs.YthegbaaelccekaaDoor
open Go.RowKit Ieee
attribute [local irreducible] mg

/-- The reference's angle in 64 bits. -/
def angW (y x : Option Nat) : Option Nat :=
  if finW y = false ∨ finW x = false then none else if feq x (fc 0) = true ∧ feq y (fc 0) = true then fc 0 else angF y x

theorem zero_or (y x : Option Nat) : (feq x (fc 0) = true ∧ feq y (fc 0) = true) ∨ ((feq x (fc 0) = false ∨ (feq x (fc 0) = true ∧ feq y (fc 0) = false)) ∧ ¬ (feq x (fc 0) = true ∧ feq y (fc 0) = true)) := by
  cases feq x (fc 0) <;> cases feq y (fc 0) <;> simp

theorem fin_test (x : Nat) (w : World) : (FloatKind.f64.format.order (fval .sub .f64 x x w) 0 != some .eq) = !finW (fv .f64 x) := by
  rw [order_ford, fv_fval]; rfl

end Go.Proofs.YthegbaaelccekaaDoor

namespace Go.Proofs.YthegbaaelccekaaDoor
open Go.RowKit Ieee
attribute [local irreducible] mg

/-- The angle of a point of two float32s. -/
def angB (y x : Nat) : Option Nat := nar (angW (wid (fv .f32 y)) (wid (fv .f32 x)))

theorem wid_number {x : Nat} (h : finB (fv .f32 x) = true) : ∃ b s m p, wid (fv .f32 x) = some b ∧ fv .f32 x = some x ∧ double.read b = .number s m p ∧ b = double.write (single.read x) := by
  rcases fv_cases .f32 x with ⟨a1, _, _⟩ | ⟨a1, hn, _⟩
  · rw [a1] at h; cases h
  · have hn' : (single.read x).isNaN = false := hn
    rw [a1, finB_some x hn'] at h
    cases hd : single.read x with
    | nan s t => rw [hd] at hn'; cases hn'
    | infinity s => rw [hd] at h; cases h
    | number s m p =>
      obtain ⟨m', p', k1, _, _⟩ := wide_read hd
      exact ⟨double.write (single.read x), s, m', p', by rw [a1]; rfl, a1, by rw [hd]; exact k1, by rw [hd]⟩

theorem feq_zero {b m : Nat} {s : Bool} {p : Int} (h : double.read b = .number s m p) (hm : mg m p = 0) : feq (some b) (fc 0) = true := by
  have bx := read_double h
  have z1 : fc 0 = some 0 := by decide +kernel
  have z2 : double.read 0 = .number false 0 (-1074) := by decide +kernel
  have o : ford .f64 (some b) (some 0) = some (compare (sv s m p) (sv false 0 (-1074))) := order_mg double h z2 (by omega) (by decide)
  unfold feq
  rw [z1, o]
  unfold sv
  rw [hm, mg_zero]
  cases s <;> rfl

theorem angW_big (y x : Nat) : big (angW (wid (fv .f32 y)) (wid (fv .f32 x))) = false := by
  unfold angW
  split
  · rfl
  · rename_i h1
    have hy : finB (fv .f32 y) = true := by
      rw [← finW_wid _ (fv_isNum .f32 y)]
      cases h : finW (wid (fv .f32 y))
      · exact absurd (.inl h) h1
      · rfl
    have hx : finB (fv .f32 x) = true := by
      rw [← finW_wid _ (fv_isNum .f32 x)]
      cases h : finW (wid (fv .f32 x))
      · exact absurd (.inr h) h1
      · rfl
    obtain ⟨b, s, m, p, e1, _, r1, _⟩ := wid_number hy
    obtain ⟨c, t, n, q, e2, _, r2, _⟩ := wid_number hx
    split
    · decide +kernel
    · rename_i h2
      rw [e1, e2] at h2 ⊢
      refine big_of_Bd (angF_bd r1 r2 ?_) (by decide) (by decide)
      by_cases k1 : mg m p = 0
      · by_cases k2 : mg n q = 0
        · exact absurd ⟨feq_zero r2 k2, feq_zero r1 k1⟩ h2
        · exact .inr (Nat.pos_of_ne_zero k2)
      · exact .inl (Nat.pos_of_ne_zero k1)

set_option maxHeartbeats 2000000 in
theorem impl_AngleTurns (y x : Nat) (w : World) : Calls Tryd.prog 46 #[.float .f32 y, .float .f32 x] w fun e w' => ∃ r m, e = .returned (.float .f32 r) ∧ fv .f32 r = angB y x ∧ r < 4294967296 ∧ w' = w.drewN m := by
  cases h1 : finB (fv .f32 x)
  · have hr : angB y x = none := by unfold angB angW; rw [if_pos (.inr (by rw [finW_wid _ (fv_isNum .f32 x), h1]))]; rfl
    have H1 := Lib.hid h1
    have R := Lib.hid hr
    clear h1 hr
    go_enter Tryd.func46, Tryd.ntmps46
    go_wp2_with (first | (go_at_call 79; refine (impl_IsFinite _ _).mono ?_; rw [H1.out]; rintro e w' ⟨rfl, n, rfl⟩) | (go_at_call 80; refine (math_NaN _).mono ?_; rintro e w' ⟨rfl, rfl⟩))
    go_ret
    exact ⟨_, _, rfl, by rw [R.out]; exact nval_none _ _ (by decide +kernel), nval_lt _ _, rfl⟩
  · cases h2 : finB (fv .f32 y)
    · have hr : angB y x = none := by unfold angB angW; rw [if_pos (.inl (by rw [finW_wid _ (fv_isNum .f32 y), h2]))]; rfl
      have H1 := Lib.hid h1
      have H2 := Lib.hid h2
      have R := Lib.hid hr
      clear h1 h2 hr
      go_enter Tryd.func46, Tryd.ntmps46
      go_wp2_with fail
      refine (impl_IsFinite _ _).mono ?_
      rw [H1.out]
      rintro e w' ⟨rfl, n, rfl⟩
      go_wp2_with fail
      refine (impl_IsFinite _ _).mono ?_
      rw [H2.out]
      rintro e w' ⟨rfl, n2, rfl⟩
      go_wp2_with (go_at_call 80; refine (math_NaN _).mono ?_; rintro e w' ⟨rfl, rfl⟩)
      go_ret
      exact ⟨_, _, rfl, by rw [R.out]; exact nval_none _ _ (by decide +kernel), nval_lt _ _, rfl⟩
    · have gx0 := eq32_zero x
      have gy0 := eq32_zero y
      have hfin : ¬ (finW (wid (fv .f32 y)) = false ∨ finW (wid (fv .f32 x)) = false) := by rw [finW_wid _ (fv_isNum .f32 y), finW_wid _ (fv_isNum .f32 x), h1, h2]; decide
      have H1 := Lib.hid h1
      have H2 := Lib.hid h2
      rcases zero_or (wid (fv .f32 y)) (wid (fv .f32 x)) with ⟨z1, z2⟩ | ⟨zz, hne⟩
      · have hr : angB y x = nar (fc 0) := by unfold angB angW; rw [if_neg hfin, if_pos ⟨z1, z2⟩]
        rw [z1] at gx0
        rw [z2] at gy0
        have R := Lib.hid hr
        clear h1 h2 hr z1 z2 hfin
        go_enter Tryd.func46, Tryd.ntmps46
        go_wp2_with fail
        refine (impl_IsFinite _ _).mono ?_
        rw [H1.out]
        rintro e w' ⟨rfl, n, rfl⟩
        go_wp2_with fail
        refine (impl_IsFinite _ _).mono ?_
        rw [H2.out]
        rintro e w' ⟨rfl, n2, rfl⟩
        go_wp2
        go_ret
        exact ⟨_, _, rfl, by rw [R.out]; decide +kernel, by decide, rfl⟩
      · have hbig := angW_big y x
        have hr : angW (wid (fv .f32 y)) (wid (fv .f32 x)) = angF (wid (fv .f32 y)) (wid (fv .f32 x)) := by unfold angW; rw [if_neg hfin, if_neg hne]
        have hB : angB y x = nar (angF (wid (fv .f32 y)) (wid (fv .f32 x))) := by unfold angB; rw [hr]
        rw [hr] at hbig
        rw [hB]
        have gx := lt32_zero x
        have gy := lt32_zero y
        obtain ⟨X, _, _, _, ex, ax, rx, bx⟩ := wid_number h1
        obtain ⟨Y, _, _, _, ey, ay, ry, bY⟩ := wid_number h2
        have wx : ∀ w, wval x w = X := fun w => by
          unfold wval
          rw [show (single.read x).isNaN = false from fv_isNum .f32 x x ax, if_neg Bool.false_ne_true, bx]
        have wy : ∀ w, wval y w = Y := fun w => by
          unfold wval
          rw [show (single.read y).isNaN = false from fv_isNum .f32 y y ay, if_neg Bool.false_ne_true, bY]
        have lx : X < 18446744073709551616 := by rw [bx]; exact double.write_lt _
        have ly : Y < 18446744073709551616 := by rw [bY]; exact double.write_lt _
        have fX : fv .f64 X = some X := fv_some (by show (double.read X).isNaN = false; rw [rx]; rfl)
        have fY : fv .f64 Y = some Y := fv_some (by show (double.read Y).isNaN = false; rw [ry]; rfl)
        rw [ex] at gx gx0 hbig zz ⊢
        rw [ey] at gy gy0 hbig zz ⊢
        have go : (FloatKind.f64.format.order (absB Y) (absB X) == some .gt) = fgt (fabs (some Y)) (fabs (some X)) := by rw [gt_fgt, fv_absB, fv_absB, fX, fY]
        have HbA := Lib.hid hbig
        clear hr hB hbig hfin hne h1 h2 ex ey ax ay rx ry bx bY
        unfold angF at HbA ⊢
        generalize fgt (fabs (some Y)) (fabs (some X)) = over at go HbA ⊢
        generalize flt (some X) (fc 0) = xn at gx HbA ⊢
        generalize flt (some Y) (fc 0) = yn at gy HbA ⊢
        unfold angG at HbA ⊢
        generalize hT : (if over = true then fquo (fabs (some X)) (fabs (some Y)) else fquo (fabs (some Y)) (fabs (some X))) = T at HbA ⊢
        have HT := Lib.hid hT
        clear hT
        generalize hRR : angH T over xn yn = RR at HbA ⊢
        have HRR := Lib.hid hRR
        clear hRR
        have Z : (FloatKind.f32.format.order x 0 == some .eq) = false ∨ ((FloatKind.f32.format.order x 0 == some .eq) = true ∧ (FloatKind.f32.format.order y 0 == some .eq) = false) := by
          rcases zz with z | ⟨z1, z2⟩
          · exact .inl (by rw [gx0, z])
          · exact .inr ⟨by rw [gx0, z1], by rw [gy0, z2]⟩
        clear zz gx0 gy0
        have GX := Lib.hid gx
        have GY := Lib.hid gy
        have FX := Lib.hid fX
        have FY := Lib.hid fY
        clear gx gy fX fY
        rcases Z with k1 | ⟨k1, k2⟩ <;> cases over
        all_goals
          go_enter Tryd.func46, Tryd.ntmps46
          go_wp2_with fail
          refine (impl_IsFinite _ _).mono ?_
          rw [H1.out]
          rintro e w' ⟨rfl, n, rfl⟩
          go_wp2_with fail
          refine (impl_IsFinite _ _).mono ?_
          rw [H2.out]
          rintro e w' ⟨rfl, n2, rfl⟩
          go_wp2_with (go_at_call 81; refine (math_Abs _ _ (by assumption)).mono ?_; rintro e w' ⟨rfl, rfl⟩)
          go_loopg [7, 45] 3 (fun g t k wr => ∃ (j tb m : Nat), g + j = 3 ∧ t = .float .f64 tb ∧ k = .int .i64 (j : Int) ∧ Hid (fv .f64 tb = tA T j) ∧ wr = w.drewN m)
          case atStart => exact ⟨0, _, _, rfl, rfl, rfl, (by show fv .f64 _ = T; rw [fv_quo, fv_absB, fv_absB, FX.out, FY.out, ← HT.out]; rfl), rfl⟩
          case round =>
            obtain ⟨j, tb, m, hj, rfl, rfl, ht, rfl⟩ := hrel
            by_cases hlt : j < 3
            · go_wp2_with (go_at_call 82; refine (math_Sqrt _ _).mono ?_; rintro e w' ⟨rfl, rfl⟩)
              go_roundg (gk - 1)
              case measure => omega
              case rel =>
                refine ⟨j + 1, _, _, by omega, rfl, by go_num, ?_, rfl⟩
                show fv .f64 _ = _
                simp only [fv_quo, fv_add, fv_mul, fv_sval, ht.out]
                rfl
            · have h3 : j = 3 := by omega
              subst h3
              go_wp2_with fail
              go_loopg [9, 10] 8 (fun g p k wr => ∃ (j pb kb m : Nat), g + j = 8 ∧ p = .float .f64 pb ∧ k = .float .f64 kb ∧ Hid (fv .f64 kb = kR j ∧ fv .f64 pb = rA (fmul (tA T 3) (tA T 3)) j) ∧ wr = w.drewN m)
              case atStart => exact ⟨0, _, _, _, rfl, rfl, rfl, ⟨rfl, rfl⟩, rfl⟩
              case round =>
                obtain ⟨j, pb, kb, m, hj, rfl, rfl, hpk, rfl⟩ := hrel
                have hgt := ge_fge kb 4607182418800017408
                rw [hpk.out.1, show fv .f64 4607182418800017408 = fc 4607182418800017408 from rfl] at hgt
                by_cases hlt : j < 8
                · rw [kR_test j hlt] at hgt
                  go_wp2_with fail
                  go_roundg (gk - 1)
                  case measure => omega
                  case rel =>
                    obtain ⟨hp, hk⟩ := hpk.out
                    refine ⟨j + 1, _, _, _, by omega, rfl, rfl, ⟨?_, ?_⟩, rfl⟩
                    · simp only [fv_sub, hp]; rfl
                    · simp only [fv_sub, fv_quo, fv_mul, hk, hp, ht.out]
                      rfl
                · have h8 : j = 8 := by omega
                  subst h8
                  rw [kR_end] at hgt
                  have gx := GX.out
                  have gy := GY.out
                  cases xn <;> cases yn
                  all_goals
                    go_wp2_with fail
                    go_ret
                    refine ⟨_, _, rfl, ?_, nval_lt _ _, rfl⟩
                    have hv : ∀ b w2, fv .f64 b = RR → fv .f32 (nval b w2) = nar RR := fun b w2 hb => by rw [fv_nval _ _ (by rw [hb]; exact HbA.out), hb]
                    apply hv
                    simp only [fv_negFloat, fv_mul, fv_sub, fv_quo, hpk.out.2, ht.out]
                    rw [← HRR.out]
                    rfl

end Go.Proofs.YthegbaaelccekaaDoor
