/-
  More bounds: constants, square roots, whole numbers, what is left of a number without its whole part. No condition.
-/
import Derived.Test.YthegbaaelccekaaBd
namespace Go.Proofs.Ythegbaaelccekaa
open Ieee

/-! ### Constants -/
def chkBd (E : Int) (b : Nat) : Bool := match double.read b with | .number _ m p => decide ((m.log2 : Int) + 1 + p ≤ E) && decide (-6000 ≤ p) | _ => false
def chkLb (F : Int) (b : Nat) : Bool := match double.read b with | .number _ m p => decide (m ≠ 0) && decide (F ≤ (m.log2 : Int) + p) && decide (-6000 ≤ p) | _ => false
theorem Bd.const {E : Int} {b : Nat} (h : chkBd E b = true) : Bd E (some b) := by
  intro c hc
  cases hc
  unfold chkBd at h
  split at h
  · rename_i s m p hr
    simp only [Bool.and_eq_true, decide_eq_true_eq] at h
    exact ⟨s, m, p, hr, Nat.le_of_lt (mg_lt_top (n := m.log2 + 1) Nat.lt_log2_self h.2 (by omega))⟩
  · cases h
theorem Nn.const {E : Int} {b : Nat} (h : chkBd E b = true) (hs : (double.read b).neg = false) : Nn E (some b) := by
  intro c hc
  obtain ⟨s, m, p, h1, h2⟩ := Bd.const h c hc
  cases hc
  rw [h1] at hs
  have hs' : s = false := hs
  exact ⟨s, m, p, h1, (fun h => by rw [hs'] at h; cases h), h2⟩
theorem Lb.const {F : Int} {b : Nat} (h : chkLb F b = true) : Lb F (some b) := by
  intro c hc
  cases hc
  unfold chkLb at h
  split at h
  · rename_i s m p hr
    simp only [Bool.and_eq_true, decide_eq_true_eq] at h
    refine ⟨s, m, p, hr, Nat.le_trans (mg_one_le (q := p + m.log2) (by omega)) ?_⟩
    rw [← mg_two_pow _ _ h.2, mg_le_iff]
    exact Nat.log2_self_le h.1.1
  · cases h

/-! ### Square roots -/
theorem rootFrom_sq (n : Nat) : ∀ todo root, root * root ≤ n → Datum.rootFrom n todo root * Datum.rootFrom n todo root ≤ n := by
  intro todo
  induction todo with
  | zero => intro root h; exact h
  | succ t ih =>
    intro root h
    unfold Datum.rootFrom
    apply ih
    split
    · assumption
    · exact h

theorem Nn.sqrt {k : Int} {a : Option Nat} (ha : Nn (k + k) a) (hk : 0 ≤ k) (hk2 : k < 1000) : Nn (k + 1) (fsqrt a) := by
  cases a with
  | none => exact Nn.none _
  | some x =>
    obtain ⟨s, m, i, hx, hsm, hm⟩ := ha x rfl
    have bx := read_double hx
    intro r hr
    have hr' : ((double.read x).root 54).map double.write = some r := hr
    rw [hx] at hr'
    simp only [Datum.root] at hr'
    by_cases hm0 : m = 0
    · rw [if_pos hm0] at hr'
      simp only [Option.map_some, Option.some.injEq] at hr'
      subst hr'
      obtain ⟨m', p', g1, g2, _, g4, _⟩ := rnd s m i (k + 1) (by omega) (by omega) (by omega) (by rw [hm0, mg_zero]; exact Nat.zero_le _)
      refine ⟨s, m', p', g1, fun _ => ?_, g2⟩
      have := g4 0 0 (by decide) (by decide) (by rw [hm0, mg_zero]; exact Nat.zero_le _)
      rw [mg_zero] at this
      rcases Nat.eq_zero_or_pos m' with h | h
      · exact h
      · have := mg_pos (p := p') h; omega
    · rw [if_neg hm0] at hr'
      have hs : s = false := by
        cases s
        · rfl
        · exact absurd (hsm rfl) hm0
      subst hs
      simp only [Bool.false_eq_true, if_false, Option.map_some, Option.some.injEq] at hr'
      subst hr'
      generalize hmore : 2 * 54 - m.log2 + ((i - ((2 * 54 - m.log2 : Nat) : Int)) % 2).toNat = more
      have hmb : more ≤ 110 := by omega
      have heven : (i - more) % 2 = 0 := by omega
      rw [Nat.shiftLeft_eq]
      generalize hn : m * 2 ^ more = n
      have hn1 : 1 ≤ n := by rw [← hn]; exact Nat.mul_pos (by omega) (Nat.two_pow_pos _)
      have hw := rootFrom_sq n (n.log2 / 2 + 1) 0 (Nat.zero_le _)
      generalize Datum.rootFrom n (n.log2 / 2 + 1) 0 = w at hw
      have hR : (2 * w + (w * w != n).toNat) * (2 * w + (w * w != n).toNat) ≤ 16 * n := by
        have h1 : (w * w != n).toNat ≤ 1 := by cases (w * w != n) <;> simp
        generalize (w * w != n).toNat = t at h1
        have h2 : 2 * w + t ≤ 2 * w + 1 := by omega
        have h3 := Nat.mul_le_mul h2 h2
        have h4 : (2 * w + 1) * (2 * w + 1) = 4 * (w * w) + 4 * w + 1 := by
          rw [Nat.add_mul, Nat.mul_add, Nat.one_mul, Nat.mul_one, Nat.mul_mul_mul_comm]; omega
        have h5 : w ≤ w * w := by
          rcases Nat.eq_zero_or_pos w with h | h
          · subst h; exact Nat.zero_le _
          · exact Nat.le_mul_of_pos_left w h
        omega
      generalize 2 * w + (w * w != n).toNat = R at hR
      obtain ⟨q, hq⟩ : ∃ q : Int, i - more = q + q := ⟨(i - more) / 2, by omega⟩
      rw [show (i - (more : Int)) / 2 - 1 = q - 1 by omega]
      have hle : mg R (q - 1) ≤ mg 1 (k + 1) := by
        have h1 : mg R (q - 1) * mg R (q - 1) ≤ mg 1 (k + 1) * mg 1 (k + 1) := by
          rw [mg_mul _ _ _ _ (by omega) (by omega), mg_mul _ _ _ _ (by omega) (by omega)]
          refine Nat.mul_le_mul_right _ ?_
          refine Nat.le_trans ((mg_le_iff (p := q - 1 + (q - 1))).2 hR) ?_
          rw [← hn, show 16 * (m * 2 ^ more) = m * 2 ^ (more + 4) by rw [Nat.pow_add, Nat.mul_comm 16, Nat.mul_assoc], ← mg_shift _ _ _ (by omega),
            show q - 1 + (q - 1) + ((more + 4 : Nat) : Int) = i + ((2 : Nat) : Int) by omega, mg_shift _ _ _ (by omega), Nat.one_mul,
            show k + 1 + (k + 1) = k + k + ((2 : Nat) : Int) by omega, mg_shift _ _ _ (by omega), Nat.one_mul]
          have e : ∀ a p, mg (a * 2 ^ 2) p = mg a p * 4 := fun a p => by unfold mg; rw [Nat.mul_right_comm]
          have e2 : mg (2 ^ 2) (k + k) = mg 1 (k + k) * 4 := by rw [← e, Nat.one_mul]
          rw [e, e2]
          exact Nat.mul_le_mul_right _ hm
        exact Nat.mul_self_le_mul_self_iff.1 h1
      obtain ⟨m', p', g1, g2, _⟩ := rnd false R (q - 1) (k + 1) (by omega) (by omega) (by omega) hle
      exact ⟨false, m', p', g1, (fun h => by cases h), g2⟩

/-! ### Whole numbers -/
theorem ofInt_eq (n : Int) : floatOfInt .f64 n = double.nearest (decide (n < 0)) n.natAbs 0 := rfl
theorem fv_ofInt (n : Int) : fv .f64 (floatOfInt .f64 n) = some (floatOfInt .f64 n) := fv_some (read_write_notNaN double (.number (decide (n < 0)) n.natAbs 0) rfl)

/-- A whole number of few digits is a float as it is. -/
theorem ofInt_read (n : Int) (h : n.natAbs ≤ 2 ^ 53) : ∃ m p, double.read (floatOfInt .f64 n) = .number (decide (n < 0)) m p ∧ mg m p = mg n.natAbs 0 := by
  rw [ofInt_eq]
  have hle : mg n.natAbs 0 ≤ mg 1 53 := by
    have := (mg_le_iff (p := 0)).2 h
    rwa [mg_two_pow _ _ (by decide)] at this
  obtain ⟨m', p', g1, _, _, g4, g5⟩ := rnd (decide (n < 0)) n.natAbs 0 53 (by decide) (by decide) (by decide) hle
  exact ⟨m', p', g1, Nat.le_antisymm (g4 _ _ h (by decide) (Nat.le_refl _)) (g5 _ _ h (by decide) (Nat.le_refl _))⟩

theorem Bd.ofInt {n : Int} {k : Nat} (h : n.natAbs ≤ 2 ^ k) (hk : k ≤ 53) : Bd k (some (floatOfInt .f64 n)) := by
  intro b hb
  cases hb
  obtain ⟨m, p, h1, h2⟩ := ofInt_read n (Nat.le_trans h (Nat.pow_le_pow_right (by decide) hk))
  refine ⟨_, m, p, h1, ?_⟩
  rw [h2]
  have := (mg_le_iff (p := 0)).2 h
  rwa [mg_two_pow _ _ (by decide), Int.zero_add] at this

/-! ### The whole part -/
/-- A number below 2^52 and its whole part. -/
theorem toi_some {b : Nat} (h : Bd 52 (some b)) : ∃ (n : Int) (s : Bool) (m : Nat) (p : Int), toi (some b) = some n ∧ double.read b = .number s m p ∧ n = signed s n.natAbs 0 ∧ n.natAbs ≤ 2 ^ 52 ∧ mg n.natAbs 0 ≤ mg m p ∧ mg m p < mg (n.natAbs + 1) 0 := by
  obtain ⟨s, m, p, hr, hm⟩ := h b rfl
  have bx := read_double hr
  -- the whole part
  generalize hq : Toward.zero.cut s (m <<< p.toNat) (-p).toNat = q
  have hqle : mg q 0 ≤ mg m p ∧ mg m p < mg (q + 1) 0 := by
    rw [← hq]
    unfold Toward.cut
    simp only [Bool.toNat_false, Nat.add_zero]
    by_cases hp : 0 ≤ p
    · rw [show (-p).toNat = 0 by omega, show min 0 ((m <<< p.toNat).log2 + 2) = 0 by omega, Nat.shiftLeft_zero, Nat.div_one, Nat.shiftLeft_eq]
      have e : mg m p = mg (m * 2 ^ p.toNat) 0 := by rw [← mg_shift _ _ _ (by decide)]; congr 1; omega
      rw [e]
      exact ⟨Nat.le_refl _, by rw [mg_lt_iff]; omega⟩
    · rw [show p.toNat = 0 by omega, Nat.shiftLeft_zero]
      generalize hd : (-p).toNat = d
      have e : ∀ a : Nat, mg a 0 = mg (a * 2 ^ d) p := fun a => by rw [← mg_shift _ _ _ (by omega)]; congr 1; omega
      rw [e, e, mg_le_iff, mg_lt_iff, Nat.one_shiftLeft]
      have hlog : m < 2 ^ (m.log2 + 1) := Nat.lt_log2_self
      by_cases hdl : d ≤ m.log2 + 2
      · rw [Nat.min_eq_left hdl]
        have h1 := Nat.div_add_mod m (2 ^ d)
        have h2 := Nat.mod_lt m (Nat.two_pow_pos d)
        have h3 : m / 2 ^ d * 2 ^ d ≤ m := Nat.div_mul_le_self _ _
        refine ⟨h3, ?_⟩
        rw [Nat.add_mul, Nat.one_mul, Nat.mul_comm]
        omega
      · rw [Nat.min_eq_right (by omega)]
        have h4 : 2 ^ (m.log2 + 2) = 2 * 2 ^ (m.log2 + 1) := by rw [Nat.pow_succ]; omega
        rw [Nat.div_eq_of_lt (by omega)]
        have h5 : 2 ^ (m.log2 + 1) ≤ 2 ^ d := Nat.pow_le_pow_right (by decide) (by omega)
        refine ⟨by rw [Nat.zero_mul]; exact Nat.zero_le _, ?_⟩
        rw [Nat.zero_add, Nat.one_mul]
        omega
  have hqb : q ≤ 2 ^ 52 := by
    have := Nat.le_trans hqle.1 hm
    rw [show (52 : Int) = 0 + ((52 : Nat) : Int) by decide, ← mg_two_pow 52 0 (by decide)] at this
    exact mg_le_iff.1 this
  have hto : (FloatKind.f64.decode b).toInt .zero = some (signed s q 0) := by
    show (double.read b).toInt .zero = _
    rw [hr]
    unfold Datum.toInt Datum.integral
    dsimp only
    rw [hq]
  have hna : (signed s q 0).natAbs = q := by cases s <;> simp [signed]
  have h252 : (2 : Nat) ^ 52 = 4503599627370496 := by decide
  refine ⟨signed s q 0, s, m, p, ?_, hr, ?_, by rw [hna]; exact hqb, by rw [hna]; exact hqle.1, by rw [hna]; exact hqle.2⟩
  · show floatToIntVal .f64 b .i64 = _
    unfold floatToIntVal
    rw [hto]
    dsimp only
    rw [if_pos]
    have hb1 : IntKind.i64.min = -9223372036854775808 := by decide
    have hb2 : IntKind.i64.max = 9223372036854775807 := by decide
    rw [hb1, hb2]
    have : -(q : Int) ≤ signed s q 0 ∧ signed s q 0 ≤ q := by cases s <;> simp [signed] <;> omega
    rw [h252] at hqb
    omega
  · rw [hna]

theorem abs_diff (A B : Nat) (s t : Bool) (h : B ≤ A) (ht : t = s ∨ B = 0) : ((if s = true then -((A : Nat) : Int) else ((A : Nat) : Int)) + (if (!t) = true then -((B : Nat) : Int) else ((B : Nat) : Int))).natAbs = A - B := by
  cases s <;> cases t <;> simp only [Bool.not_true, Bool.not_false, Bool.false_eq_true, if_true, if_false] <;> rcases ht with ht | ht <;> first | (cases ht; done) | omega

/-- What is left of a number below 2^52 without its whole part: at most 1. -/
theorem frac_bd {b : Nat} {n : Int} (h : Bd 52 (some b)) (hn : toi (some b) = some n) : Bd 0 (fop .sub .f64 (some b) (some (floatOfInt .f64 n))) := by
  obtain ⟨n', s, m, p, h1, h2, h3, h4, h5, h6⟩ := toi_some h
  rw [hn] at h1
  injection h1 with h1
  subst h1
  have h253 : n.natAbs ≤ 2 ^ 53 := Nat.le_trans h4 (Nat.pow_le_pow_right (by decide) (by decide))
  obtain ⟨m2, p2, g1, g2⟩ := ofInt_read n h253
  have bx := read_double h2
  have by' := read_double g1
  rw [fop_sub, h2, g1]
  intro r hr
  simp only [Datum.opposite, Datum.sum, Option.map_some, Option.some.injEq] at hr
  subst hr
  have e1 : mg m p = mg (m <<< (p - min p p2).toNat) (min p p2) := by rw [Nat.shiftLeft_eq, ← mg_shift _ _ _ (by omega)]; congr 1; omega
  have e2 : mg m2 p2 = mg (m2 <<< (p2 - min p p2).toNat) (min p p2) := by rw [Nat.shiftLeft_eq, ← mg_shift _ _ _ (by omega)]; congr 1; omega
  have hle : mg (signed s m (p - min p p2).toNat + signed (!decide (n < 0)) m2 (p2 - min p p2).toNat).natAbs (min p p2) ≤ mg 1 0 := by
    rw [← g2] at h5
    have hone : mg (n.natAbs + 1) 0 = mg m2 p2 + mg 1 0 := by rw [g2, mg_add]
    rw [hone] at h6
    -- the signs are alike, or the whole part is nought
    have hsg : (decide (n < 0)) = s ∨ m2 <<< (p2 - min p p2).toNat = 0 := by
      by_cases h0 : n.natAbs = 0
      · right
        rw [h0, mg_zero] at g2
        rw [g2] at e2
        rcases Nat.eq_zero_or_pos (m2 <<< (p2 - min p p2).toNat) with h | h
        · exact h
        · have := mg_pos (p := min p p2) h; omega
      · left
        cases s
        · simp only [signed, Bool.false_eq_true, if_false, Nat.shiftLeft_zero] at h3
          exact decide_eq_false (by omega)
        · simp only [signed, if_true, Nat.shiftLeft_zero] at h3
          exact decide_eq_true (by omega)
    rw [e1, e2] at h5
    rw [e1, e2] at h6
    rw [mg_le_iff] at h5
    unfold signed
    generalize m <<< (p - min p p2).toNat = A at *
    generalize m2 <<< (p2 - min p p2).toNat = B at *
    have hd : mg (A - B) (min p p2) ≤ mg 1 0 := by
      have e : mg A (min p p2) = mg (A - B) (min p p2) + mg B (min p p2) := by rw [mg_add, Nat.sub_add_cancel h5]
      rw [e, Nat.add_comm (mg (A - B) (min p p2))] at h6
      exact Nat.le_of_lt (Nat.lt_of_add_lt_add_left h6)
    have hAB := fun t ht => abs_diff A B s t h5 ht
    rw [hAB _ hsg]
    exact hd
  obtain ⟨m', p', k1, k2, _⟩ := rnd (if signed s m (p - min p p2).toNat + signed (!decide (n < 0)) m2 (p2 - min p p2).toNat = 0 then s && !decide (n < 0) else decide (signed s m (p - min p p2).toNat + signed (!decide (n < 0)) m2 (p2 - min p p2).toNat < 0)) _ (min p p2) 0 (by omega) (by decide) (by decide) hle
  exact ⟨_, m', p', k1, k2⟩
end Go.Proofs.Ythegbaaelccekaa
