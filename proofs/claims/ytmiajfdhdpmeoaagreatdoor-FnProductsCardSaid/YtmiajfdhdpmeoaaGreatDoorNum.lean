/-
  How far a rounded number lies: a number at most (at least) a number that the format has stays so when it is rounded; sums, products, quotients and roots of bounded numbers are bounded. Magnitudes are counted in units of 2^-6000. No condition.
-/
import Ieee.Arith
import Derived.Laws.FloatBits
namespace Go.Proofs.YtmiajfdhdpmeoaaGreatDoor
open Ieee

/-- 'm * 2 ^ p' in units of 2^-6000. -/
def mg (m : Nat) (p : Int) : Nat := m * 2 ^ (p + 6000).toNat

theorem mg_zero (p : Int) : mg 0 p = 0 := by simp [mg]
theorem mg_pos {m : Nat} {p : Int} (h : 0 < m) : 0 < mg m p := Nat.mul_pos h (Nat.two_pow_pos _)
theorem mg_shift (m : Nat) (p : Int) (k : Nat) (hp : -6000 ≤ p) : mg m (p + k) = mg (m * 2 ^ k) p := by
  unfold mg
  rw [show (p + k + 6000).toNat = k + (p + 6000).toNat by omega, Nat.pow_add, Nat.mul_assoc]
theorem mg_le_iff {m n : Nat} {p : Int} : mg m p ≤ mg n p ↔ m ≤ n := by
  unfold mg
  exact ⟨fun h => Nat.le_of_mul_le_mul_right h (Nat.two_pow_pos _), fun h => Nat.mul_le_mul_right _ h⟩
theorem mg_lt_iff {m n : Nat} {p : Int} : mg m p < mg n p ↔ m < n := by
  unfold mg
  exact ⟨fun h => Nat.lt_of_mul_lt_mul_right h, fun h => Nat.mul_lt_mul_of_pos_right h (Nat.two_pow_pos _)⟩
theorem mg_inj {m n : Nat} {p : Int} (h : mg m p = mg n p) : m = n := Nat.le_antisymm (mg_le_iff.1 (Nat.le_of_eq h)) (mg_le_iff.1 (Nat.le_of_eq h.symm))
theorem mg_add (m n : Nat) (p : Int) : mg m p + mg n p = mg (m + n) p := (Nat.add_mul _ _ _).symm
theorem mg_one_le {p q : Int} (h : p ≤ q) : mg 1 p ≤ mg 1 q := by
  unfold mg
  rw [Nat.one_mul, Nat.one_mul]
  exact Nat.pow_le_pow_right (by decide) (by omega)
theorem mg_one_lt {p q : Int} (hp : -6000 ≤ p) (h : p < q) : mg 1 p < mg 1 q := by
  unfold mg
  rw [Nat.one_mul, Nat.one_mul]
  exact Nat.pow_lt_pow_right (by decide) (by omega)
theorem mg_two_pow (k : Nat) (p : Int) (hp : -6000 ≤ p) : mg (2 ^ k) p = mg 1 (p + k) := by rw [mg_shift 1 p k hp, Nat.one_mul]

/-- What 'cut' keeps of 'm / 2 ^ drop', to the nearest. -/
theorem cut_even (neg : Bool) (m drop : Nat) : ∃ kept, Toward.even.cut neg m drop = kept ∧ (∀ c, m ≤ c * 2 ^ drop → kept ≤ c) ∧ (∀ c, c * 2 ^ drop ≤ m → c ≤ kept) := by
  refine ⟨_, rfl, ?_⟩
  have hlog : m < 2 ^ (m.log2 + 1) := Nat.lt_log2_self
  have key : ∀ g, g = 2 ^ drop → ∀ b : Bool, (b = true → g ≤ 2 * (m % g)) → (∀ c, m ≤ c * 2 ^ drop → m / g + b.toNat ≤ c) ∧ (∀ c, c * 2 ^ drop ≤ m → c ≤ m / g + b.toNat) := by
    intro g hg b hb
    have hpos : 0 < g := hg ▸ Nat.two_pow_pos drop
    constructor
    · intro c hc
      rw [← hg] at hc
      have h1 : m / g ≤ c := Nat.div_le_of_le_mul (by rwa [Nat.mul_comm])
      cases b with
      | false => simpa using h1
      | true =>
        have h2 := hb rfl
        have h3 := Nat.div_add_mod m g
        have : m / g < c := by
          apply Nat.lt_of_not_le
          intro hle
          have h4 := Nat.mul_le_mul_left g hle
          rw [Nat.mul_comm g c] at h4
          omega
        rw [Bool.toNat_true]; exact this
    · intro c hc
      rw [← hg] at hc
      have h1 : c ≤ m / g := (Nat.le_div_iff_mul_le hpos).2 hc
      omega
  unfold Toward.cut
  dsimp only
  by_cases hd : drop ≤ m.log2 + 2
  · have e : min drop (m.log2 + 2) = drop := Nat.min_eq_left hd
    rw [e, Nat.one_shiftLeft]
    refine key (2 ^ drop) rfl _ ?_
    intro h
    simp only [Bool.or_eq_true, decide_eq_true_eq, Bool.and_eq_true, beq_iff_eq] at h
    omega
  · have e : min drop (m.log2 + 2) = m.log2 + 2 := Nat.min_eq_right (by omega)
    rw [e, Nat.one_shiftLeft]
    have h4 : 2 ^ (m.log2 + 2) = 2 * 2 ^ (m.log2 + 1) := by rw [Nat.pow_succ]; omega
    have hlt : m < 2 ^ (m.log2 + 2) := by omega
    have hm : m % 2 ^ (m.log2 + 2) = m := Nat.mod_eq_of_lt hlt
    have hz : m / 2 ^ (m.log2 + 2) = 0 := Nat.div_eq_of_lt hlt
    rw [hm, hz]
    have hf : (decide (2 ^ (m.log2 + 2) < 2 * m) || 2 ^ (m.log2 + 2) == 2 * m && 0 % 2 == 1) = false := by
      simp only [Nat.zero_mod, Bool.or_eq_false_iff, decide_eq_false_iff_not, Bool.and_eq_false_iff]
      exact ⟨by omega, .inr rfl⟩
    rw [hf]
    constructor
    · intro c _; exact Nat.zero_le _
    · intro c hc
      have hle : 2 ^ (m.log2 + 2) ≤ 2 ^ drop := Nat.pow_le_pow_right (by decide) (by omega)
      cases c with
      | zero => exact Nat.le_refl _
      | succ c =>
        have : 1 * 2 ^ drop ≤ (c + 1) * 2 ^ drop := Nat.mul_le_mul_right _ (by omega)
        omega

/-- THE ROUNDED NUMBER: its magnitude is 'kept * 2 ^ last'. -/
theorem nearest_spec (f : Format) (neg : Bool) (m : Nat) (p : Int) (hm : 0 < m) (hp : -6000 ≤ p) (hlp : -6000 ≤ f.leastPlace) :
    ∃ (kept : Nat) (last : Int), f.leastPlace ≤ last ∧ (last = p + m.log2 - f.fractionBits ∨ last = f.leastPlace) ∧ p + m.log2 - f.fractionBits ≤ last ∧ kept ≤ 2 ^ (f.fractionBits + 1) ∧ (f.leastPlace < last → 2 ^ f.fractionBits ≤ kept) ∧
      f.nearest neg m p = f.word neg (min ((last - f.leastPlace).toNat * f.binade + kept) f.infRung) ∧
      (∀ c, mg m p ≤ mg c last → kept ≤ c) ∧ (∀ c, mg c last ≤ mg m p → c ≤ kept) := by
  generalize hlast : max (p + (m.log2 : Int) - f.fractionBits) f.leastPlace = last
  have h1 : f.leastPlace ≤ last := by omega
  have h2 : p + (m.log2 : Int) - f.fractionBits ≤ last := by omega
  have h3 : last = p + m.log2 - f.fractionBits ∨ last = f.leastPlace := by omega
  obtain ⟨kept, hk, hk1, hk2⟩ := cut_even neg (m <<< (p - last).toNat) (last - p).toNat
  have b1 : ∀ c, mg m p ≤ mg c last → kept ≤ c := by
    intro c hc
    apply hk1
    rw [Nat.shiftLeft_eq]
    by_cases h : last ≤ p
    · have e : p = last + ((p - last).toNat : Nat) := by omega
      rw [e, mg_shift _ _ _ (by omega), mg_le_iff] at hc
      rw [show (last - p).toNat = 0 by omega, Nat.pow_zero, Nat.mul_one]
      exact hc
    · have e : last = p + ((last - p).toNat : Nat) := by omega
      rw [e, mg_shift _ _ _ hp, mg_le_iff] at hc
      rw [show (p - last).toNat = 0 by omega, Nat.pow_zero, Nat.mul_one]
      exact hc
  have b2 : ∀ c, mg c last ≤ mg m p → c ≤ kept := by
    intro c hc
    apply hk2
    rw [Nat.shiftLeft_eq]
    by_cases h : last ≤ p
    · have e : p = last + ((p - last).toNat : Nat) := by omega
      rw [e, mg_shift _ _ _ (by omega), mg_le_iff] at hc
      rw [show (last - p).toNat = 0 by omega, Nat.pow_zero, Nat.mul_one]
      exact hc
    · have e : last = p + ((last - p).toNat : Nat) := by omega
      rw [e, mg_shift _ _ _ hp, mg_le_iff] at hc
      rw [show (p - last).toNat = 0 by omega, Nat.pow_zero, Nat.mul_one]
      exact hc
  have hlt : mg m p < mg 1 (p + m.log2 + 1) := by
    have := (mg_lt_iff (p := p)).2 (Nat.lt_log2_self (n := m))
    rwa [mg_two_pow _ _ hp, show p + ((m.log2 + 1 : Nat) : Int) = p + m.log2 + 1 by omega] at this
  have hge : mg 1 (p + m.log2) ≤ mg m p := by
    have := (mg_le_iff (p := p)).2 (Nat.log2_self_le (n := m) (by omega))
    rwa [mg_two_pow _ _ hp] at this
  refine ⟨kept, last, h1, h3, h2, ?_, ?_, ?_, b1, b2⟩
  · apply b1
    rw [mg_two_pow _ _ (by omega)]
    refine Nat.le_trans (Nat.le_of_lt hlt) (mg_one_le ?_)
    omega
  · intro hl
    apply b2
    rw [mg_two_pow _ _ (by omega)]
    refine Nat.le_trans (mg_one_le ?_) hge
    omega
  · unfold Format.nearest
    rw [if_neg (by omega)]
    dsimp only
    rw [hlast, hk]

theorem binade_pos (f : Format) : 0 < f.binade := Nat.two_pow_pos _

/-- READ BACK: the rung of 'kept * 2 ^ last' stands for just that number. -/
theorem read_rung (f : Format) (neg : Bool) (kept : Nat) (last : Int) (hlp : -6000 ≤ f.leastPlace) (h1 : f.leastPlace ≤ last) (h2 : kept ≤ 2 ^ (f.fractionBits + 1)) (h3 : f.leastPlace < last → 2 ^ f.fractionBits ≤ kept)
    (h4 : (last - f.leastPlace).toNat * f.binade + kept < f.infRung) :
    ∃ m p, f.read (f.word neg ((last - f.leastPlace).toNat * f.binade + kept)) = .number neg m p ∧ mg m p = mg kept last ∧ f.leastPlace ≤ p ∧ m < 2 * f.binade ∧ (f.leastPlace < p → f.binade ≤ m) := by
  have hB := binade_pos f
  have hB2 : 2 ^ (f.fractionBits + 1) = 2 * f.binade := by unfold Format.binade; rw [Nat.pow_succ]; omega
  have hinf := f.infRung_lt
  have hsw : (last - f.leastPlace).toNat * f.binade + kept < f.signWeight := by omega
  have hp : 0 < f.signWeight := Nat.two_pow_pos _
  have hw : f.word neg ((last - f.leastPlace).toNat * f.binade + kept) / f.signWeight % 2 = neg.toNat ∧ f.word neg ((last - f.leastPlace).toNat * f.binade + kept) % f.signWeight = (last - f.leastPlace).toNat * f.binade + kept := by
    generalize (last - f.leastPlace).toNat * f.binade + kept = r at hsw
    cases neg
    · simp only [Format.word, Bool.toNat_false, if_neg Bool.false_ne_true]
      exact ⟨by rw [Nat.div_eq_of_lt hsw], Nat.mod_eq_of_lt hsw⟩
    · simp only [Format.word, Bool.toNat_true, if_true]
      constructor
      · rw [Nat.add_comm, Nat.add_div_right _ hp, Nat.div_eq_of_lt hsw]
      · rw [Nat.add_mod_left, Nat.mod_eq_of_lt hsw]
  have hneg : (f.word neg ((last - f.leastPlace).toNat * f.binade + kept) / f.signWeight % 2 == 1) = neg := by rw [hw.1]; cases neg <;> rfl
  unfold Format.read
  simp only [hneg, hw.2]
  generalize hq : (last - f.leastPlace).toNat = q
  rw [hq] at h4 hsw
  have hl : last = f.leastPlace + q := by omega
  by_cases c1 : q * f.binade + kept < f.binade
  · rw [if_pos c1]
    have hq0 : q = 0 := by
      cases q with
      | zero => rfl
      | succ q => rw [Nat.succ_mul] at c1; omega
    subst hq0
    refine ⟨_, _, rfl, ?_, Int.le_refl _, by omega, fun h => by omega⟩
    rw [hl]; simp
  · rw [if_neg c1, if_pos h4]
    -- the significand with its head
    have hk : f.binade ≤ kept := by
      cases q with
      | zero => omega
      | succ q => exact h3 (by omega)
    by_cases c2 : kept < 2 * f.binade
    · have hd : (q * f.binade + kept) / f.binade = q + 1 := by
        rw [show q * f.binade + kept = (kept - f.binade) + (q + 1) * f.binade by rw [Nat.succ_mul]; omega, Nat.add_mul_div_right _ _ hB, Nat.div_eq_of_lt (by omega)]
        omega
      have hmd : (q * f.binade + kept) % f.binade = kept - f.binade := by
        rw [show q * f.binade + kept = (kept - f.binade) + (q + 1) * f.binade by rw [Nat.succ_mul]; omega, Nat.add_mul_mod_self_right, Nat.mod_eq_of_lt (by omega)]
      rw [hd, hmd]
      refine ⟨_, _, rfl, ?_, by omega, by omega, fun _ => by omega⟩
      rw [show f.binade + (kept - f.binade) = kept by omega, show f.leastPlace + ((q + 1 - 1 : Nat) : Int) = last by omega]
    · have hk2 : kept = 2 * f.binade := by omega
      have hd : (q * f.binade + kept) / f.binade = q + 2 := by
        rw [hk2, show q * f.binade + 2 * f.binade = 0 + (q + 2) * f.binade by rw [Nat.add_mul]; omega, Nat.add_mul_div_right _ _ hB, Nat.zero_div]
        omega
      have hmd : (q * f.binade + kept) % f.binade = 0 := by
        rw [hk2, show q * f.binade + 2 * f.binade = 0 + (q + 2) * f.binade by rw [Nat.add_mul]; omega, Nat.add_mul_mod_self_right, Nat.zero_mod]
      rw [hd, hmd]
      refine ⟨_, _, rfl, ?_, by omega, by omega, fun _ => by omega⟩
      rw [show f.leastPlace + ((q + 2 - 1 : Nat) : Int) = last + ((1 : Nat) : Int) by omega, mg_shift _ _ _ (by omega), hk2]
      congr 1

/-- The format's greatest power, one beyond the numbers. -/
def top (f : Format) : Int := f.leastPlace + f.fractionBits + (2 ^ f.exponentBits - 2 : Nat)

/-- ROUNDING: the number that comes, where the number does not reach the top. -/
theorem read_nearest (f : Format) (neg : Bool) (m : Nat) (p : Int) (hp : -6000 ≤ p) (hlp : -6000 ≤ f.leastPlace) (he : 2 ≤ 2 ^ f.exponentBits)
    (n : Nat) (E : Int) (hn : n ≤ 2 ^ (f.fractionBits + 1)) (hE : f.leastPlace ≤ E) (hle : mg m p ≤ mg n E) (htop : mg n E < mg 1 (top f)) :
    ∃ m' p', f.read (f.nearest neg m p) = .number neg m' p' ∧ f.leastPlace ≤ p' ∧ m' < 2 * f.binade ∧ (f.leastPlace < p' → f.binade ≤ m') ∧ mg m' p' ≤ mg n E ∧
      (∀ n₀ E₀, n₀ ≤ 2 ^ (f.fractionBits + 1) → f.leastPlace ≤ E₀ → mg n₀ E₀ ≤ mg m p → mg n₀ E₀ ≤ mg m' p') ∧
      (∀ n₀ E₀, n₀ ≤ 2 ^ (f.fractionBits + 1) → f.leastPlace ≤ E₀ → mg m p ≤ mg n₀ E₀ → mg m' p' ≤ mg n₀ E₀) := by
  have hB := binade_pos f
  have hB2 : 2 ^ (f.fractionBits + 1) = 2 * f.binade := by unfold Format.binade; rw [Nat.pow_succ]; omega
  rcases Nat.eq_zero_or_pos m with rfl | hm
  · refine ⟨0, f.leastPlace, ?_, Int.le_refl _, by omega, fun h => by omega, by rw [mg_zero]; exact Nat.zero_le _, ?_, ?_⟩
    · unfold Format.nearest
      rw [if_pos rfl]
      have h0 := read_rung f neg 0 f.leastPlace hlp (Int.le_refl _) (Nat.zero_le _) (fun h => by omega)
      have hpow : 1 ≤ 2 ^ f.exponentBits - 1 := by omega
      have hinf : 0 < f.infRung := Nat.mul_pos (by omega) hB
      unfold Format.read Format.word
      have hs : 0 < f.signWeight := Nat.two_pow_pos _
      cases neg
      · simp [hB]
      · simp [hB, Nat.mod_self, Nat.div_self hs]
    · intro n₀ E₀ _ _ h
      rw [mg_zero] at h ⊢; exact h
    · intro n₀ E₀ _ _ _; rw [mg_zero]; exact Nat.zero_le _
  · obtain ⟨kept, last, h1, h2, h3, h4, h5, h6, b1, b2⟩ := nearest_spec f neg m p hm hp hlp
    have hge : mg 1 (p + m.log2) ≤ mg m p := by
      have := (mg_le_iff (p := p)).2 (Nat.log2_self_le (n := m) (by omega))
      rwa [mg_two_pow _ _ hp] at this
    -- the two bounds
    have up : ∀ (n₀ : Nat) (E₀ : Int), n₀ ≤ 2 ^ (f.fractionBits + 1) → f.leastPlace ≤ E₀ → mg m p ≤ mg n₀ E₀ → mg kept last ≤ mg n₀ E₀ := by
      intro n₀ E₀ hn₀ hE₀ hle₀
      by_cases hc : last ≤ E₀
      · have e : E₀ = last + ((E₀ - last).toNat : Nat) := by omega
        rw [e, mg_shift _ _ _ (by omega)] at hle₀ ⊢
        rw [mg_le_iff]
        exact b1 _ hle₀
      · have hl : last = p + m.log2 - f.fractionBits := by omega
        have hk : kept ≤ 2 ^ f.fractionBits := by
          apply b1
          rw [mg_two_pow _ _ (by omega)]
          refine Nat.le_trans hle₀ (Nat.le_trans ((mg_le_iff (p := E₀)).2 hn₀) ?_)
          rw [mg_two_pow _ _ (by omega)]
          exact mg_one_le (by omega)
        refine Nat.le_trans ((mg_le_iff (p := last)).2 hk) (Nat.le_trans ?_ hle₀)
        rw [mg_two_pow _ _ (by omega)]
        exact Nat.le_trans (mg_one_le (by omega)) hge
    have down : ∀ (n₀ : Nat) (E₀ : Int), n₀ ≤ 2 ^ (f.fractionBits + 1) → f.leastPlace ≤ E₀ → mg n₀ E₀ ≤ mg m p → mg n₀ E₀ ≤ mg kept last := by
      intro n₀ E₀ hn₀ hE₀ hle₀
      by_cases hc : last ≤ E₀
      · have e : E₀ = last + ((E₀ - last).toNat : Nat) := by omega
        rw [e, mg_shift _ _ _ (by omega)] at hle₀ ⊢
        rw [mg_le_iff]
        exact b2 _ hle₀
      · refine Nat.le_trans ((mg_le_iff (p := E₀)).2 hn₀) ?_
        rw [mg_two_pow _ _ (by omega)]
        refine Nat.le_trans (mg_one_le (q := last + f.fractionBits) (by omega)) ?_
        rw [← mg_two_pow _ _ (by omega)]
        exact (mg_le_iff (p := last)).2 (h5 (by omega))
    have hkle := up n E hn hE hle
    have hr : (last - f.leastPlace).toNat * f.binade + kept < f.infRung := by
      apply Nat.lt_of_not_le
      intro hover
      have hlt := Nat.lt_of_le_of_lt hkle htop
      unfold top at htop hlt
      have hpow : 2 ≤ 2 ^ f.exponentBits := he
      generalize hX : 2 ^ f.exponentBits = X at *
      have hinf : f.infRung = (X - 1) * f.binade := by unfold Format.infRung; rw [hX]
      rw [hinf] at hover
      -- last - leastPlace ≥ X - 3
      generalize hq : (last - f.leastPlace).toNat = q at hover
      have hl : last = f.leastPlace + q := by omega
      by_cases cq : X ≤ q + 2
      · -- at or above the top binade
        have hk : 2 ^ f.fractionBits ≤ kept := by
          by_cases h0 : f.leastPlace < last
          · exact h5 h0
          · have hq0 : q = 0 := by omega
            subst hq0
            have hX2 : X = 2 := by omega
            subst hX2
            simp at hover
            exact hover
        have : mg 1 (f.leastPlace + f.fractionBits + (X - 2 : Nat)) ≤ mg kept last := by
          refine Nat.le_trans ?_ ((mg_le_iff (p := last)).2 hk)
          rw [mg_two_pow _ _ (by omega)]
          exact mg_one_le (by omega)
        omega
      · have hq3 : q + 3 ≤ X := by omega
        have h7 : (X - 1) * f.binade = q * f.binade + (X - 1 - q) * f.binade := by rw [← Nat.add_mul]; congr 1; omega
        have h8 : 2 * f.binade ≤ (X - 1 - q) * f.binade := Nat.mul_le_mul_right _ (by omega)
        have hk : kept = 2 * f.binade := by omega
        have h9 : (X - 1 - q) * f.binade ≤ 2 * f.binade := by omega
        have h10 : X - 1 - q ≤ 2 := Nat.le_of_mul_le_mul_right h9 hB
        have : mg 1 (f.leastPlace + f.fractionBits + (X - 2 : Nat)) ≤ mg kept last := by
          rw [hk, ← hB2, mg_two_pow _ _ (by omega)]
          exact mg_one_le (by omega)
        omega
    obtain ⟨m', p', hrd, hmg, hp', hm1, hm2⟩ := read_rung f neg kept last hlp h1 h4 h5 hr
    refine ⟨m', p', ?_, hp', hm1, hm2, by rw [hmg]; exact hkle, ?_, ?_⟩
    · rw [h6, Nat.min_eq_left (by omega)]; exact hrd
    · intro n₀ E₀ a b c; rw [hmg]; exact down n₀ E₀ a b c
    · intro n₀ E₀ a b c; rw [hmg]; exact up n₀ E₀ a b c
end Go.Proofs.YtmiajfdhdpmeoaaGreatDoor
