/-
  Bounds on what 64-bit operations give: crude powers of two, enough to show that a result is finite and not too large for float32. No condition.
-/
import Derived.Test.YthegbaaelccekaaVal
namespace Go.Proofs.Ythegbaaelccekaa
open Ieee

/-- A finite number, at most 2^E in magnitude. -/
def Bd (E : Int) (o : Option Nat) : Prop := ∀ b, o = some b → ∃ s m p, double.read b = .number s m p ∧ mg m p ≤ mg 1 E
/-- The same, and not less than zero. -/
def Nn (E : Int) (o : Option Nat) : Prop := ∀ b, o = some b → ∃ s m p, double.read b = .number s m p ∧ (s = true → m = 0) ∧ mg m p ≤ mg 1 E
/-- A finite number, at least 2^F in magnitude. -/
def Lb (F : Int) (o : Option Nat) : Prop := ∀ b, o = some b → ∃ s m p, double.read b = .number s m p ∧ mg 1 F ≤ mg m p

theorem Nn.bd {E : Int} {o : Option Nat} (h : Nn E o) : Bd E o := fun b hb => let ⟨s, m, p, h1, _, h3⟩ := h b hb; ⟨s, m, p, h1, h3⟩
theorem Bd.mono {E E' : Int} {o : Option Nat} (h : Bd E o) (hE : E ≤ E') : Bd E' o := fun b hb => let ⟨s, m, p, h1, h2⟩ := h b hb; ⟨s, m, p, h1, Nat.le_trans h2 (mg_one_le hE)⟩
theorem Nn.mono {E E' : Int} {o : Option Nat} (h : Nn E o) (hE : E ≤ E') : Nn E' o := fun b hb => let ⟨s, m, p, h1, h2, h3⟩ := h b hb; ⟨s, m, p, h1, h2, Nat.le_trans h3 (mg_one_le hE)⟩
theorem Bd.none (E : Int) : Bd E none := fun _ h => by cases h
theorem Nn.none (E : Int) : Nn E none := fun _ h => by cases h

/-- ROUNDING in 64 bits. -/
theorem rnd (s : Bool) (m : Nat) (p E : Int) (hp : -6000 ≤ p) (hE : -1074 ≤ E) (hE2 : E < 1024) (h : mg m p ≤ mg 1 E) :
    ∃ m' p', double.read (double.nearest s m p) = .number s m' p' ∧ mg m' p' ≤ mg 1 E ∧ (∀ F, -1074 ≤ F → mg 1 F ≤ mg m p → mg 1 F ≤ mg m' p') ∧ (∀ n F, n ≤ 2 ^ 53 → -1074 ≤ F → mg m p ≤ mg n F → mg m' p' ≤ mg n F) ∧ (∀ n F, n ≤ 2 ^ 53 → -1074 ≤ F → mg n F ≤ mg m p → mg n F ≤ mg m' p') := by
  obtain ⟨m', p', h1, _, _, _, h5, h6, h7⟩ := read_nearest double s m p hp (by decide) (by decide) 1 E (by decide) hE h (mg_one_lt (by omega) hE2)
  exact ⟨m', p', h1, h5, fun F a b => h6 1 F (by decide) a b, fun n F a b c => h7 n F a b c, fun n F a b c => h6 n F a b c⟩

theorem mg_two (E : Int) (hE : -6000 ≤ E) : mg 1 E + mg 1 E = mg 1 (E + 1) := by
  have := mg_two_pow 1 E hE
  rw [mg_add]
  exact this

/-- The exact sum. -/
theorem sum_mg (s t : Bool) (m n : Nat) (i j : Int) (hi : -6000 ≤ i) (hj : -6000 ≤ j) :
    mg (signed s m (i - min i j).toNat + signed t n (j - min i j).toNat).natAbs (min i j) ≤ mg m i + mg n j := by
  have e1 : mg m i = mg (m <<< (i - min i j).toNat) (min i j) := by rw [Nat.shiftLeft_eq, ← mg_shift _ _ _ (by omega)]; congr 1; omega
  have e2 : mg n j = mg (n <<< (j - min i j).toNat) (min i j) := by rw [Nat.shiftLeft_eq, ← mg_shift _ _ _ (by omega)]; congr 1; omega
  rw [e1, e2, mg_add, mg_le_iff]
  unfold signed
  generalize m <<< (i - min i j).toNat = A
  generalize n <<< (j - min i j).toNat = B
  cases s <;> cases t <;> simp only [Bool.false_eq_true, if_true, if_false] <;> omega

theorem fop_add (x y : Nat) : fop .add .f64 (some x) (some y) = ((double.read x).sum (double.read y)).map double.write := rfl
theorem fop_sub (x y : Nat) : fop .sub .f64 (some x) (some y) = ((double.read x).sum (double.read y).opposite).map double.write := rfl
theorem fop_mul (x y : Nat) : fop .mul .f64 (some x) (some y) = ((double.read x).product (double.read y)).map double.write := rfl
theorem fop_quo (x y : Nat) : fop .quo .f64 (some x) (some y) = ((double.read x).quotient 54 (double.read y)).map double.write := rfl
theorem fop_none_left (op : BinOp) (k : FloatKind) (b : Option Nat) : fop op k none b = none := rfl
theorem fop_none_right (op : BinOp) (k : FloatKind) (a : Option Nat) : fop op k a none = none := by cases a <;> rfl

theorem Bd.add {E1 E2 E : Int} {a b : Option Nat} (ha : Bd E1 a) (hb : Bd E2 b) (h1 : E1 < E) (h2 : E2 < E) (hE : -1073 ≤ E) (hE2 : E < 1024) : Bd E (fop .add .f64 a b) := by
  cases a with
  | none => exact Bd.none _
  | some x =>
  cases b with
  | none => exact Bd.none _
  | some y =>
    obtain ⟨s, m, i, hx, hm⟩ := ha x rfl
    obtain ⟨t, n, j, hy, hn⟩ := hb y rfl
    have bx := read_double hx
    have by' := read_double hy
    rw [fop_add, hx, hy]
    intro r hr
    simp only [Datum.sum, Option.map_some, Option.some.injEq] at hr
    subst hr
    have hs := sum_mg s t m n i j (by omega) (by omega)
    have hle : mg m i + mg n j ≤ mg 1 E := by
      have e : E = E - 1 + 1 := by omega
      rw [e, ← mg_two _ (by omega)]
      exact Nat.add_le_add (Nat.le_trans hm (mg_one_le (by omega))) (Nat.le_trans hn (mg_one_le (by omega)))
    obtain ⟨m', p', g1, g2, _⟩ := rnd (if signed s m (i - min i j).toNat + signed t n (j - min i j).toNat = 0 then s && t else decide (signed s m (i - min i j).toNat + signed t n (j - min i j).toNat < 0)) _ (min i j) E (by omega) (by omega) hE2 (Nat.le_trans hs hle)
    exact ⟨_, m', p', g1, g2⟩

theorem Bd.sub {E1 E2 E : Int} {a b : Option Nat} (ha : Bd E1 a) (hb : Bd E2 b) (h1 : E1 < E) (h2 : E2 < E) (hE : -1073 ≤ E) (hE2 : E < 1024) : Bd E (fop .sub .f64 a b) := by
  cases a with
  | none => exact Bd.none _
  | some x =>
  cases b with
  | none => exact Bd.none _
  | some y =>
    obtain ⟨s, m, i, hx, hm⟩ := ha x rfl
    obtain ⟨t, n, j, hy, hn⟩ := hb y rfl
    have bx := read_double hx
    have by' := read_double hy
    rw [fop_sub, hx, hy]
    intro r hr
    simp only [Datum.opposite, Datum.sum, Option.map_some, Option.some.injEq] at hr
    subst hr
    have hs := sum_mg s (!t) m n i j (by omega) (by omega)
    have hle : mg m i + mg n j ≤ mg 1 E := by
      have e : E = E - 1 + 1 := by omega
      rw [e, ← mg_two _ (by omega)]
      exact Nat.add_le_add (Nat.le_trans hm (mg_one_le (by omega))) (Nat.le_trans hn (mg_one_le (by omega)))
    obtain ⟨m', p', g1, g2, _⟩ := rnd (if signed s m (i - min i j).toNat + signed (!t) n (j - min i j).toNat = 0 then s && !t else decide (signed s m (i - min i j).toNat + signed (!t) n (j - min i j).toNat < 0)) _ (min i j) E (by omega) (by omega) hE2 (Nat.le_trans hs hle)
    exact ⟨_, m', p', g1, g2⟩

theorem Nn.add {E1 E2 E : Int} {a b : Option Nat} (ha : Nn E1 a) (hb : Nn E2 b) (h1 : E1 < E) (h2 : E2 < E) (hE : -1073 ≤ E) (hE2 : E < 1024) :
    Nn E (fop .add .f64 a b) ∧ (∀ F, -1074 ≤ F → Lb F a → Lb F (fop .add .f64 a b)) := by
  cases a with
  | none => exact ⟨Nn.none _, fun F _ _ b h => by cases h⟩
  | some x =>
  cases b with
  | none => exact ⟨Nn.none _, fun F _ _ b h => by cases h⟩
  | some y =>
    obtain ⟨s, m, i, hx, hsm, hm⟩ := ha x rfl
    obtain ⟨t, n, j, hy, htn, hn⟩ := hb y rfl
    have bx := read_double hx
    have by' := read_double hy
    have hs := sum_mg s t m n i j (by omega) (by omega)
    have hle : mg m i + mg n j ≤ mg 1 E := by
      have e : E = E - 1 + 1 := by omega
      rw [e, ← mg_two _ (by omega)]
      exact Nat.add_le_add (Nat.le_trans hm (mg_one_le (by omega))) (Nat.le_trans hn (mg_one_le (by omega)))
    have hpos : signed s m (i - min i j).toNat + signed t n (j - min i j).toNat = ((m <<< (i - min i j).toNat + n <<< (j - min i j).toNat : Nat) : Int) := by
      unfold signed
      have hs' : s = true → (m <<< (i - min i j).toNat) = 0 := fun h => by rw [hsm h, Nat.zero_shiftLeft]
      have ht' : t = true → (n <<< (j - min i j).toNat) = 0 := fun h => by rw [htn h, Nat.zero_shiftLeft]
      cases s <;> cases t <;> simp_all
    have e1 : mg m i = mg (m <<< (i - min i j).toNat) (min i j) := by rw [Nat.shiftLeft_eq, ← mg_shift _ _ _ (by omega)]; congr 1; omega
    obtain ⟨m', p', g1, g2, g3, g4, _⟩ := rnd (if signed s m (i - min i j).toNat + signed t n (j - min i j).toNat = 0 then s && t else decide (signed s m (i - min i j).toNat + signed t n (j - min i j).toNat < 0)) _ (min i j) E (by omega) (by omega) hE2 (Nat.le_trans hs hle)
    have hr : ∀ r, fop .add .f64 (some x) (some y) = some r → r = double.nearest (if signed s m (i - min i j).toNat + signed t n (j - min i j).toNat = 0 then s && t else decide (signed s m (i - min i j).toNat + signed t n (j - min i j).toNat < 0)) (signed s m (i - min i j).toNat + signed t n (j - min i j).toNat).natAbs (min i j) := by
      intro r hr
      rw [fop_add, hx, hy] at hr
      simp only [Datum.sum, Option.map_some, Option.some.injEq] at hr
      exact hr.symm
    refine ⟨fun r h => ?_, fun F hF hl r h => ?_⟩
    · rw [hr r h]
      refine ⟨_, m', p', g1, ?_, g2⟩
      rw [hpos] at g4 ⊢
      intro hsg
      by_cases h0 : ((m <<< (i - min i j).toNat + n <<< (j - min i j).toNat : Nat) : Int) = 0
      · rw [h0] at g4
        have := g4 0 0 (by decide) (by decide) (by rw [show (Int.natAbs 0) = 0 from rfl, mg_zero]; exact Nat.zero_le _)
        rw [mg_zero] at this
        rcases Nat.eq_zero_or_pos m' with h | h
        · exact h
        · have := mg_pos (p := p') h; omega
      · rw [if_neg h0, decide_eq_true_eq] at hsg
        exact absurd hsg (Int.not_lt.2 (Int.natCast_nonneg _))
    · rw [hr r h]
      refine ⟨_, m', p', g1, g3 F hF ?_⟩
      obtain ⟨s2, m2, p2, h2, hl2⟩ := hl x rfl
      rw [hx] at h2
      injection h2 with _ h3 h4
      subst h3 h4
      refine Nat.le_trans hl2 ?_
      rw [e1, mg_le_iff, hpos]
      generalize m <<< (i - min i j).toNat = A
      generalize n <<< (j - min i j).toNat = B
      omega

/-- The unit's own weight. -/
def unit (k : Nat) : Nat := 2 ^ k
theorem unit_pos (k : Nat) : 0 < unit k := Nat.two_pow_pos _
theorem mg_mul (m n : Nat) (p q : Int) (hp : -2999 ≤ p) (hq : -2999 ≤ q) : mg m p * mg n q = mg (m * n) (p + q) * unit 6000 := by
  have key : ∀ k : Nat, k = 6000 → mg m p * mg n q = mg (m * n) (p + q) * unit k := by
    intro k hk
    unfold mg unit
    rw [Nat.mul_mul_mul_comm, ← Nat.pow_add, Nat.mul_assoc (m * n), ← Nat.pow_add]
    congr 2
    omega
  exact key 6000 rfl

theorem Bd.mul {E1 E2 E : Int} {a b : Option Nat} (ha : Bd E1 a) (hb : Bd E2 b) (h : E1 + E2 ≤ E) (h1 : -2999 ≤ E1) (h2 : -2999 ≤ E2) (hE : -1074 ≤ E) (hE2 : E < 1024) : Bd E (fop .mul .f64 a b) := by
  cases a with
  | none => exact Bd.none _
  | some x =>
  cases b with
  | none => exact Bd.none _
  | some y =>
    obtain ⟨s, m, i, hx, hm⟩ := ha x rfl
    obtain ⟨t, n, j, hy, hn⟩ := hb y rfl
    have bx := read_double hx
    have by' := read_double hy
    rw [fop_mul, hx, hy]
    intro r hr
    simp only [Datum.product, Option.map_some, Option.some.injEq] at hr
    subst hr
    have hle : mg (m * n) (i + j) ≤ mg 1 E := by
      have h3 := Nat.mul_le_mul hm hn
      rw [mg_mul _ _ _ _ (by omega) (by omega), mg_mul _ _ _ _ h1 h2] at h3
      exact Nat.le_trans (Nat.le_of_mul_le_mul_right h3 (unit_pos _)) (by rw [Nat.one_mul]; exact mg_one_le h)
    obtain ⟨m', p', g1, g2, _⟩ := rnd (s ^^ t) _ (i + j) E (by omega) hE hE2 hle
    exact ⟨_, m', p', g1, g2⟩

/-- A square is not less than zero. -/
theorem Nn.sq {E1 E : Int} {a : Option Nat} (ha : Bd E1 a) (h : E1 + E1 ≤ E) (h1 : -2999 ≤ E1) (hE : -1074 ≤ E) (hE2 : E < 1024) : Nn E (fop .mul .f64 a a) := by
  cases a with
  | none => exact Nn.none _
  | some x =>
    obtain ⟨s, m, i, hx, hm⟩ := ha x rfl
    have bx := read_double hx
    rw [fop_mul, hx]
    intro r hr
    simp only [Datum.product, Option.map_some, Option.some.injEq] at hr
    subst hr
    have hle : mg (m * m) (i + i) ≤ mg 1 E := by
      have h3 := Nat.mul_le_mul hm hm
      rw [mg_mul _ _ _ _ (by omega) (by omega), mg_mul _ _ _ _ h1 h1] at h3
      exact Nat.le_trans (Nat.le_of_mul_le_mul_right h3 (unit_pos _)) (by rw [Nat.one_mul]; exact mg_one_le h)
    obtain ⟨m', p', g1, g2, _⟩ := rnd (s ^^ s) _ (i + i) E (by omega) hE hE2 hle
    exact ⟨_, m', p', g1, by simp, g2⟩

theorem Bd.div {E1 F E : Int} {a b : Option Nat} (ha : Bd E1 a) (hb : Lb F b) (h : E1 + 1 ≤ E + F) (h1 : -2999 ≤ E1) (h2 : -2999 ≤ F) (hE : -1074 ≤ E) (hE2 : E < 1024) : Bd E (fop .quo .f64 a b) := by
  cases a with
  | none => exact Bd.none _
  | some x =>
  cases b with
  | none => exact Bd.none _
  | some y =>
    obtain ⟨s, m, i, hx, hm⟩ := ha x rfl
    obtain ⟨t, n, j, hy, hn⟩ := hb y rfl
    have bx := read_double hx
    have by' := read_double hy
    have hn0 : n ≠ 0 := by
      intro h0
      rw [h0, mg_zero] at hn
      have := mg_pos (m := 1) (p := F) (by decide)
      omega
    rw [fop_quo, hx, hy]
    intro r hr
    simp only [Datum.quotient, if_neg hn0, Option.map_some, Option.some.injEq] at hr
    subst hr
    generalize hmore : 54 + n.log2 - m.log2 = more
    have hmore2 : more ≤ 106 := by
      have : n.log2 < 53 := (Nat.log2_lt hn0).2 by'.1
      omega
    have hle : mg (2 * (m <<< more / n) + (m <<< more % n != 0).toNat) (i - j - more - 1) ≤ mg 1 E := by
      rcases Nat.eq_zero_or_pos m with rfl | hmp
      · rw [Nat.zero_shiftLeft, Nat.zero_div, Nat.zero_mod]
        rw [show 2 * 0 + ((0 : Nat) != 0).toNat = 0 from rfl, mg_zero]; exact Nat.zero_le _
      · rw [Nat.shiftLeft_eq]
        have hD : n ≤ m * 2 ^ more := by
          have l1 : 2 ^ m.log2 ≤ m := Nat.log2_self_le (by omega)
          have l2 : n < 2 ^ (n.log2 + 1) := Nat.lt_log2_self
          have l3 : 2 ^ (n.log2 + 1) ≤ 2 ^ (m.log2 + more) := Nat.pow_le_pow_right (by decide) (by omega)
          have l4 := Nat.mul_le_mul_right (2 ^ more) l1
          rw [← Nat.pow_add] at l4
          omega
        generalize hDd : m * 2 ^ more = D at hD
        have hq : 1 ≤ D / n := Nat.div_pos hD (by omega)
        have hdm := Nat.div_add_mod D n
        have hq3 : (2 * (D / n) + (D % n != 0).toNat) * n ≤ 4 * D := by
          have : (D % n != 0).toNat ≤ 1 := by cases (D % n != 0) <;> simp
          have h5 : 2 * (D / n) + (D % n != 0).toNat ≤ 4 * (D / n) := by omega
          have h6 := Nat.mul_le_mul_right n h5
          have h7 : D / n * n ≤ D := Nat.div_mul_le_self D n
          rw [Nat.mul_assoc] at h6
          omega
        generalize 2 * (D / n) + (D % n != 0).toNat = q at hq3
        -- q * 2^place * (n * 2^j) ≤ 2 m 2^i
        have k1 : mg q (i - j - more - 1) * mg n j ≤ mg 1 (E1 + 1) * unit 6000 := by
          rw [mg_mul _ _ _ _ (by omega) (by omega)]
          refine Nat.mul_le_mul_right _ ?_
          refine Nat.le_trans ((mg_le_iff (p := i - j - more - 1 + j)).2 hq3) ?_
          rw [← hDd, show 4 * (m * 2 ^ more) = m * 2 ^ (more + 2) by rw [Nat.pow_add, Nat.mul_comm 4, Nat.mul_assoc], ← mg_shift _ _ _ (by omega)]
          rw [show i - j - more - 1 + j + ((more + 2 : Nat) : Int) = i + ((1 : Nat) : Int) by omega, mg_shift _ _ _ (by omega), Nat.mul_two, ← mg_add, show E1 + 1 = E1 + ((1 : Nat) : Int) by omega, mg_shift _ _ _ (by omega), Nat.mul_two, ← mg_add]
          exact Nat.add_le_add hm hm
        have k2 : mg q (i - j - more - 1) * mg 1 F ≤ mg 1 E * mg 1 F := by
          refine Nat.le_trans (Nat.mul_le_mul_left _ hn) (Nat.le_trans k1 ?_)
          rw [mg_mul _ _ _ _ (by omega) h2, Nat.one_mul]
          exact Nat.mul_le_mul_right _ (mg_one_le (by omega))
        exact Nat.le_of_mul_le_mul_right k2 (mg_pos (by decide))
    obtain ⟨m', p', g1, g2, _⟩ := rnd (s ^^ t) _ (i - j - more - 1) E (by omega) hE hE2 hle
    exact ⟨_, m', p', g1, g2⟩

/-! ### Narrowing -/
theorem big_of_Bd {E : Int} {o : Option Nat} (h : Bd E o) (h1 : -149 ≤ E) (hE : E < 128) : big o = false := by
  cases o with
  | none => rfl
  | some b =>
    obtain ⟨s, m, p, hr, hm⟩ := h b rfl
    have bx := read_double hr
    obtain ⟨m', p', g, _⟩ := read_nearest single s m p (by omega) (by decide) (by decide) 1 E (by decide) h1 hm (mg_one_lt (by omega) hE)
    show bigB b = false
    unfold bigB
    rw [hr, show single.write (.number s m p) = single.nearest s m p from rfl, g]
    rfl
end Go.Proofs.Ythegbaaelccekaa
