/-
  Whole numbers in floats: made integers, negated, compared; what the parts of products are. No program, no condition.
-/
import Derived.Test.YtmiajfdhdpmeoaaGreatDoorMb
import Derived.Test.YtmiajfdhdpmeoaaGreatDoorSin
namespace Go.Proofs.YtmiajfdhdpmeoaaGreatDoor
open Go.RowKit Ieee

theorem cut_whole (s : Bool) (m : Nat) (p : Int) (hp6 : -6000 ≤ p) : mg (Toward.zero.cut s (m <<< p.toNat) (-p).toNat) 0 ≤ mg m p ∧ mg m p < mg (Toward.zero.cut s (m <<< p.toNat) (-p).toNat + 1) 0 := by
  unfold Toward.cut
  simp only [Bool.toNat_false, Nat.add_zero]
  by_cases hp : 0 ≤ p
  · rw [show (-p).toNat = 0 by omega, show min 0 ((m <<< p.toNat).log2 + 2) = 0 by omega, Nat.shiftLeft_zero, Nat.div_one, Nat.shiftLeft_eq]
    have e : mg m p = mg (m * 2 ^ p.toNat) 0 := by rw [← mg_shift _ _ _ (by decide)]; congr 1; omega
    rw [e]
    exact ⟨Nat.le_refl _, by rw [mg_lt_iff]; omega⟩
  · rw [show p.toNat = 0 by omega, Nat.shiftLeft_zero]
    generalize hd : (-p).toNat = d
    have e : ∀ a : Nat, mg a 0 = mg (a * 2 ^ d) p := fun a => by rw [← mg_shift _ _ _ (by omega)]; congr 1; omega
    rw [e, e, mg_le_iff, mg_lt_iff, Nat.one_shiftLeft]
    have hlog : m < 2 ^ (m.log2 + 1) := Nat.lt_log2_self
    by_cases hdl : d ≤ m.log2 + 2
    · rw [Nat.min_eq_left hdl]
      have h1 := Nat.div_add_mod m (2 ^ d)
      have h2 := Nat.mod_lt m (Nat.two_pow_pos d)
      have h3 : m / 2 ^ d * 2 ^ d ≤ m := Nat.div_mul_le_self _ _
      refine ⟨h3, ?_⟩
      rw [Nat.add_mul, Nat.one_mul, Nat.mul_comm]
      omega
    · rw [Nat.min_eq_right (by omega)]
      have h4 : 2 ^ (m.log2 + 2) = 2 * 2 ^ (m.log2 + 1) := by rw [Nat.pow_succ]; omega
      rw [Nat.div_eq_of_lt (by omega)]
      have h5 : 2 ^ (m.log2 + 1) ≤ 2 ^ d := Nat.pow_le_pow_right (by decide) (by omega)
      refine ⟨by rw [Nat.zero_mul]; exact Nat.zero_le _, ?_⟩
      rw [Nat.zero_add, Nat.one_mul]
      omega

theorem Z.toI {k : FloatKind} {b : Nat} {n : Int} (h : Z k (some b) n) (hn : n.natAbs ≤ 2 ^ 52) : floatToIntVal k b .i64 = some n := by
  obtain ⟨c, s, m, p, e, hr, hp, hv⟩ := h
  injection e with e
  subst e
  have hm := abs_of hv
  have hq := cut_whole s m p (by omega)
  generalize hc : Toward.zero.cut s (m <<< p.toNat) (-p).toNat = q at hq
  rw [hm] at hq
  have h1 := mg_le_iff.1 hq.1
  have h2 := mg_lt_iff.1 hq.2
  have hqn : q = n.natAbs := by omega
  have hto : (k.decode b).toInt .zero = some n := by
    show (k.format.read b).toInt .zero = _
    rw [hr]
    unfold Datum.toInt Datum.integral
    dsimp only
    rw [hc, hqn]
    refine congrArg some ?_
    unfold signed
    by_cases h0 : n = 0
    · subst h0
      cases s <;> rfl
    · rw [sgn_of hv h0]
      by_cases h3 : n < 0
      · rw [decide_eq_true h3, if_pos rfl, Nat.shiftLeft_zero]
        omega
      · rw [decide_eq_false h3, if_neg (by decide), Nat.shiftLeft_zero]
        omega
  have hb : (2 : Nat) ^ 52 = 4503599627370496 := by decide
  unfold floatToIntVal
  rw [hto]
  dsimp only
  rw [if_pos]
  have g1 : IntKind.i64.min = -9223372036854775808 := rfl
  have g2 : IntKind.i64.max = 9223372036854775807 := rfl
  rw [g1, g2]
  omega

/-- The sign turned. -/
theorem read_turned (f : Format) (h : f.signWeight = 2 ^ (f.exponentBits + f.fractionBits)) (b : Nat) {s : Bool} {m : Nat} {p : Int} (hr : f.read b = .number s m p) :
    f.read (b ^^^ 2 ^ (f.exponentBits + f.fractionBits)) = .number (!s) m p := by
  have e : (b ^^^ 2 ^ (f.exponentBits + f.fractionBits)) % f.signWeight = b % f.signWeight := by
    rw [h]
    apply Nat.eq_of_testBit_eq
    intro i
    rw [Nat.testBit_mod_two_pow, Nat.testBit_mod_two_pow, Nat.testBit_xor, Nat.testBit_two_pow]
    by_cases hi : i < f.exponentBits + f.fractionBits
    · have : ¬ f.exponentBits + f.fractionBits = i := by omega
      simp [hi, this]
    · simp [hi]
  have e2 : ((b ^^^ 2 ^ (f.exponentBits + f.fractionBits)) / f.signWeight % 2 == 1) = !(b / f.signWeight % 2 == 1) := by
    rw [h]
    have t : ∀ x : Nat, (x / 2 ^ (f.exponentBits + f.fractionBits) % 2 == 1) = x.testBit (f.exponentBits + f.fractionBits) := fun x => by
      rw [Nat.testBit_eq_decide_div_mod_eq]
      by_cases hx : x / 2 ^ (f.exponentBits + f.fractionBits) % 2 = 1
      · rw [decide_eq_true hx, hx]; rfl
      · rw [decide_eq_false hx]; simpa using hx
    rw [t, t, Nat.testBit_xor, Nat.testBit_two_pow, decide_eq_true rfl, Bool.xor_true]
  unfold Format.read at hr ⊢
  simp only [e, e2] at hr ⊢
  split at hr
  · rename_i c
    rw [if_pos c]
    injection hr with h1 h2 h3
    rw [h1, h2, h3]
  · rename_i c
    rw [if_neg c]
    split at hr
    · rename_i c2
      rw [if_pos c2]
      injection hr with h1 h2 h3
      rw [h1, h2, h3]
    · split at hr <;> exact absurd hr (by simp)
theorem Z.neg {k : FloatKind} {b : Nat} {n : Int} (h : Z k (some b) n) : Z k (some (Op.negFloat k b)) (-n) := by
  obtain ⟨c, s, m, p, e, hr, hp, hv⟩ := h
  injection e with e
  subst e
  refine ⟨_, !s, m, p, rfl, ?_, hp, by rw [sv_not, hv, Int.neg_mul]⟩
  unfold Op.negFloat
  exact read_turned k.format (by cases k <;> rfl) b hr
end Go.Proofs.YtmiajfdhdpmeoaaGreatDoor
