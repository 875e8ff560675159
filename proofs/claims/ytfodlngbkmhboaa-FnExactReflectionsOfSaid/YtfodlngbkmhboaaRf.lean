/-
  The difference of two float32s above 0 over their sum is finite. Condition: both are finite.
-/
import Derived.Test.YtfodlngbkmhboaaVal
namespace Go.Proofs.Ytfodlngbkmhboaa
open Ieee
attribute [local irreducible] mg

def unitS (k : Nat) : Nat := 2 ^ k
theorem unitS_pos (k : Nat) : 0 < unitS k := Nat.two_pow_pos _
theorem mg_mulS (m n : Nat) (p q : Int) (hp : -2999 ≤ p) (hq : -2999 ≤ q) : mg m p * mg n q = mg (m * n) (p + q) * unitS 6000 := by
  have key : ∀ k : Nat, k = 6000 → mg m p * mg n q = mg (m * n) (p + q) * unitS k := by
    intro k hk
    unfold mg unitS
    rw [Nat.mul_mul_mul_comm, ← Nat.pow_add, Nat.mul_assoc (m * n), ← Nat.pow_add]
    congr 2
    omega
  exact key 6000 rfl

theorem rndS (s : Bool) (m : Nat) (p : Int) (M : Nat) (E : Int) (hp : -6000 ≤ p) (hM : M ≤ 2 ^ 24) (hE : -149 ≤ E) (h : mg m p ≤ mg M E) (ht : mg M E < mg 1 128) :
    ∃ m' p', single.read (single.nearest s m p) = .number s m' p' ∧ mg m' p' ≤ mg M E ∧ (∀ n F, n ≤ 2 ^ 24 → -149 ≤ F → mg n F ≤ mg m p → mg n F ≤ mg m' p') := by
  obtain ⟨m', p', h1, _, _, _, h5, h6, _⟩ := read_nearest single s m p hp (by decide) (by decide) M E hM hE h ht
  exact ⟨m', p', h1, h5, fun n F a b c => h6 n F a b c⟩

theorem bigS (s : Bool) (m : Nat) (p : Int) (hp : -6000 ≤ p) (h : mg 1 127 ≤ mg m p) :
    single.read (single.nearest s m p) = .infinity s ∨ ∃ m' p', single.read (single.nearest s m p) = .number s m' p' ∧ mg 1 127 ≤ mg m' p' := by
  have hm : 0 < m := by
    rcases Nat.eq_zero_or_pos m with rfl | h0
    · rw [mg_zero] at h
      have := mg_pos (m := 1) (p := 127) (by decide)
      omega
    · exact h0
  obtain ⟨kept, last, h1, _, h3, h4, h5, h6, _, _⟩ := nearest_spec single s m p hm hp (by decide)
  have e1 : single.leastPlace = -149 := rfl
  have e2 : single.fractionBits = 23 := rfl
  rw [e1] at h1 h5
  rw [e2] at h3 h4 h5
  have hlt : mg m p < mg 1 (p + ((m.log2 + 1 : Nat) : Int)) := by
    rw [← mg_two_pow _ _ hp]
    exact mg_lt_iff.2 Nat.lt_log2_self
  have hpl : 127 < p + ((m.log2 + 1 : Nat) : Int) := by
    apply Int.lt_of_not_ge
    intro hge
    have := mg_one_le hge
    omega
  have hl : 104 ≤ last := by omega
  have hk := h5 (by omega)
  have hge : mg 1 127 ≤ mg kept last := by
    refine Nat.le_trans ?_ ((mg_le_iff (p := last)).2 hk)
    rw [mg_two_pow _ _ (by omega)]
    exact mg_one_le (by omega)
  by_cases hr : (last - single.leastPlace).toNat * single.binade + kept < single.infRung
  · right
    obtain ⟨m', p', g1, g2, _⟩ := read_rung single s kept last (by decide) (by rw [e1]; exact h1) h4 (by rw [e1]; exact h5) hr
    refine ⟨m', p', ?_, by rw [g2]; exact hge⟩
    rw [h6, Nat.min_eq_left (Nat.le_of_lt hr)]
    exact g1
  · left
    rw [h6, Nat.min_eq_right (Nat.le_of_not_lt hr)]
    cases s <;> decide +kernel

theorem fopS_add (x y : Nat) : fop .add .f32 (some x) (some y) = ((single.read x).sum (single.read y)).map single.write := rfl
theorem fopS_sub (x y : Nat) : fop .sub .f32 (some x) (some y) = ((single.read x).sum (single.read y).opposite).map single.write := rfl
theorem fopS_quo (x y : Nat) : fop .quo .f32 (some x) (some y) = ((single.read x).quotient 25 (single.read y)).map single.write := rfl

theorem divS {s t : Bool} {m n a b : Nat} {i j E1 F E : Int} (hx : single.read a = .number s m i) (hy : single.read b = .number t n j) (hm : mg m i ≤ mg 1 E1) (hn : mg 1 F ≤ mg n j) (h : E1 + 1 ≤ E + F) (h1 : -2999 ≤ E1) (h2 : -2999 ≤ F) (hE : -149 ≤ E) (hE2 : E < 128) :
    ∃ r s' m' p', fop .quo .f32 (some a) (some b) = some r ∧ single.read r = .number s' m' p' := by
  have bx := read_single hx
  have by' := read_single hy
  have hn0 : n ≠ 0 := by
    intro h0
    rw [h0, mg_zero] at hn
    have := mg_pos (m := 1) (p := F) (by decide)
    omega
  rw [fopS_quo, hx, hy]
  simp only [Datum.quotient, if_neg hn0, Option.map_some, Option.some.injEq]
  generalize hmore : 25 + n.log2 - m.log2 = more
  have hmore2 : more ≤ 48 := by
    have : n.log2 < 24 := (Nat.log2_lt hn0).2 by'.1
    omega
  have hle : mg (2 * (m <<< more / n) + (m <<< more % n != 0).toNat) (i - j - more - 1) ≤ mg 1 E := by
    rcases Nat.eq_zero_or_pos m with rfl | hmp
    · rw [Nat.zero_shiftLeft, Nat.zero_div, Nat.zero_mod]
      rw [show 2 * 0 + ((0 : Nat) != 0).toNat = 0 from rfl, mg_zero]; exact Nat.zero_le _
    · rw [Nat.shiftLeft_eq]
      have hD : n ≤ m * 2 ^ more := by
        have l1 : 2 ^ m.log2 ≤ m := Nat.log2_self_le (by omega)
        have l2 : n < 2 ^ (n.log2 + 1) := Nat.lt_log2_self
        have l3 : 2 ^ (n.log2 + 1) ≤ 2 ^ (m.log2 + more) := Nat.pow_le_pow_right (by decide) (by omega)
        have l4 := Nat.mul_le_mul_right (2 ^ more) l1
        rw [← Nat.pow_add] at l4
        omega
      generalize hDd : m * 2 ^ more = D at hD
      have hq : 1 ≤ D / n := Nat.div_pos hD (by omega)
      have hq3 : (2 * (D / n) + (D % n != 0).toNat) * n ≤ 4 * D := by
        have : (D % n != 0).toNat ≤ 1 := by cases (D % n != 0) <;> simp
        have h5 : 2 * (D / n) + (D % n != 0).toNat ≤ 4 * (D / n) := by omega
        have h6 := Nat.mul_le_mul_right n h5
        have h7 : D / n * n ≤ D := Nat.div_mul_le_self D n
        rw [Nat.mul_assoc] at h6
        omega
      generalize 2 * (D / n) + (D % n != 0).toNat = q at hq3
      have k1 : mg q (i - j - more - 1) * mg n j ≤ mg 1 (E1 + 1) * unitS 6000 := by
        rw [mg_mulS _ _ _ _ (by omega) (by omega)]
        refine Nat.mul_le_mul_right _ ?_
        refine Nat.le_trans ((mg_le_iff (p := i - j - more - 1 + j)).2 hq3) ?_
        rw [← hDd, show 4 * (m * 2 ^ more) = m * 2 ^ (more + 2) by rw [Nat.pow_add, Nat.mul_comm 4, Nat.mul_assoc], ← mg_shift _ _ _ (by omega)]
        rw [show i - j - more - 1 + j + ((more + 2 : Nat) : Int) = i + ((1 : Nat) : Int) by omega, mg_shift _ _ _ (by omega), Nat.mul_two, ← mg_add, show E1 + 1 = E1 + ((1 : Nat) : Int) by omega, mg_shift _ _ _ (by omega), Nat.mul_two, ← mg_add]
        exact Nat.add_le_add hm hm
      have k2 : mg q (i - j - more - 1) * mg 1 F ≤ mg 1 E * mg 1 F := by
        refine Nat.le_trans (Nat.mul_le_mul_left _ hn) (Nat.le_trans k1 ?_)
        rw [mg_mulS _ _ _ _ (by omega) h2, Nat.one_mul]
        exact Nat.mul_le_mul_right _ (mg_one_le (by omega))
      exact Nat.le_of_mul_le_mul_right k2 (mg_pos (by decide))
  obtain ⟨m', p', g1, _⟩ := rndS (s ^^ t) _ (i - j - more - 1) 1 E (by omega) (by decide) hE hle (mg_one_lt (by omega) hE2)
  exact ⟨_, _, m', p', rfl, g1⟩

/-- A finite number above 0. -/
def PosS (o : Option Nat) : Prop := ∃ b m p, o = some b ∧ single.read b = .number false m p ∧ 0 < m

theorem refl_fin {a b : Option Nat} (ha : PosS a) (hb : PosS b) : finB (fop .quo .f32 (fop .sub .f32 a b) (fop .add .f32 a b)) = true := by
  obtain ⟨x, m, i, rfl, hx, hm⟩ := ha
  obtain ⟨y, n, j, rfl, hy, hn⟩ := hb
  have bx := read_single hx
  have by' := read_single hy
  have tx : mg m i < mg 1 128 := by
    refine Nat.lt_of_lt_of_le (mg_lt_iff.2 bx.1) ?_
    rw [mg_two_pow _ _ (by omega)]
    exact mg_one_le (by omega)
  have ty : mg n j < mg 1 128 := by
    refine Nat.lt_of_lt_of_le (mg_lt_iff.2 by'.1) ?_
    rw [mg_two_pow _ _ (by omega)]
    exact mg_one_le (by omega)
  have e1 : mg m i = mg (m <<< (i - min i j).toNat) (min i j) := by rw [Nat.shiftLeft_eq, ← mg_shift _ _ _ (by omega)]; congr 1; omega
  have e2 : mg n j = mg (n <<< (j - min i j).toNat) (min i j) := by rw [Nat.shiftLeft_eq, ← mg_shift _ _ _ (by omega)]; congr 1; omega
  -- the sum
  have hS : ∃ sg S, fop .add .f32 (some x) (some y) = some (single.nearest sg S (min i j)) ∧ mg S (min i j) = mg m i + mg n j := by
    rw [fopS_add, hx, hy]
    refine ⟨_, _, rfl, ?_⟩
    rw [e1, e2, mg_add]
    congr 1
  have hD : ∃ sg D, fop .sub .f32 (some x) (some y) = some (single.nearest sg D (min i j)) ∧ (mg D (min i j) ≤ mg m i ∨ mg D (min i j) ≤ mg n j) ∧ (mg n j ≤ mg m i → mg D (min i j) ≤ mg m i) ∧ (mg m i ≤ mg n j → mg D (min i j) ≤ mg n j) := by
    rw [fopS_sub, hx, hy]
    refine ⟨_, _, rfl, ?_⟩
    rw [e1, e2, mg_le_iff, mg_le_iff, mg_le_iff, mg_le_iff]
    simp only [signed, Bool.not_false, Bool.false_eq_true, if_false, if_true]
    generalize m <<< (i - min i j).toNat = A
    generalize n <<< (j - min i j).toNat = B
    omega
  obtain ⟨s1, S, eS, hS⟩ := hS
  obtain ⟨s2, D, eD, _, hD1, hD2⟩ := hD
  rw [eS, eD]
  clear e1 e2
  have hq : -6000 ≤ min i j := by omega
  -- the greater one
  obtain ⟨M, E, hM, hE, hME, hMx, hMS, hDM, hpos⟩ : ∃ (M : Nat) (E : Int), M ≤ 2 ^ 24 ∧ -149 ≤ E ∧ mg M E < mg 1 128 ∧ (mg m i ≤ mg M E ∧ mg n j ≤ mg M E) ∧ mg M E ≤ mg S (min i j) ∧ mg D (min i j) ≤ mg M E ∧ 0 < mg M E := by
    rcases Nat.le_total (mg n j) (mg m i) with h | h
    · exact ⟨m, i, by omega, by omega, tx, ⟨Nat.le_refl _, h⟩, by rw [hS]; exact Nat.le_add_right _ _, hD1 h, mg_pos hm⟩
    · exact ⟨n, j, by omega, by omega, ty, ⟨h, Nat.le_refl _⟩, by rw [hS]; exact Nat.le_add_left _ _, hD2 h, mg_pos hn⟩
  obtain ⟨dm, dp, gd, hd, _⟩ := rndS s2 D (min i j) M E hq hM hE hDM hME
  have fin : ∀ r s' m' p', single.read r = .number s' m' p' → finB (some r) = true := by
    intro r s' m' p' hr
    rw [finB_some r (by rw [hr]; rfl), hr]; rfl
  by_cases hbig : mg 1 127 ≤ mg S (min i j)
  · rcases bigS s1 S (min i j) hq hbig with hi | ⟨sm, sp, gs, hs⟩
    · have hz : ∃ r s' m' p', fop .quo .f32 (some (single.nearest s2 D (min i j))) (some (single.nearest s1 S (min i j))) = some r ∧ single.read r = .number s' m' p' := by
        rw [fopS_quo, gd, hi]
        cases s1 <;> cases s2 <;> exact ⟨_, _, _, _, rfl, rfl⟩
      obtain ⟨r, s', m', p', h1, h2⟩ := hz
      rw [h1]
      exact fin _ _ _ _ h2
    · obtain ⟨r, s', m', p', h1, h2⟩ := divS (E1 := 128) (F := 127) (E := 2) gd gs (Nat.le_trans hd (Nat.le_of_lt hME)) hs (by decide) (by decide) (by decide) (by decide) (by decide)
      rw [h1]
      exact fin _ _ _ _ h2
  · obtain ⟨sm, sp, gs, _, hdown⟩ := rndS s1 S (min i j) 1 127 hq (by decide) (by decide) (Nat.le_of_not_le hbig) (mg_one_lt (by decide) (by decide))
    have hle := hdown M E hM hE hMS
    have bs := read_single gs
    have hsm : 0 < sm := by
      rcases Nat.eq_zero_or_pos sm with rfl | h0
      · rw [mg_zero] at hle; omega
      · exact h0
    have l1 : mg 1 (sp + (sm.log2 : Int)) ≤ mg sm sp := by
      rw [← mg_two_pow _ _ (by omega)]
      exact mg_le_iff.2 (Nat.log2_self_le (by omega))
    have l2 : mg sm sp ≤ mg 1 (sp + ((sm.log2 + 1 : Nat) : Int)) := by
      rw [← mg_two_pow _ _ (by omega)]
      exact mg_le_iff.2 (Nat.le_of_lt Nat.lt_log2_self)
    obtain ⟨r, s', m', p', h1, h2⟩ := divS (E1 := sp + ((sm.log2 + 1 : Nat) : Int)) (F := sp + (sm.log2 : Int)) (E := 2) gd gs (Nat.le_trans hd (Nat.le_trans hle l2)) l1 (by omega) (by omega) (by omega) (by decide) (by decide)
    rw [h1]
    exact fin _ _ _ _ h2
end Go.Proofs.Ytfodlngbkmhboaa
