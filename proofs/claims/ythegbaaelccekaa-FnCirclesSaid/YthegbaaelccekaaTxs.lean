/-
  Products of eighths in 32 bits are exact. No program, no condition.
-/
import Derived.Test.YthegbaaelccekaaTxa
namespace Go.Proofs.Ythegbaaelccekaa
open Go.RowKit Ieee

theorem nearest_atS (neg : Bool) (mag k : Nat) (h0 : mag ≠ 0) (hk : k ≤ 125 + mag.log2) (hr : (125 + mag.log2 - k) * 8388608 + Toward.even.cut neg (mag <<< (23 - mag.log2)) (mag.log2 - 23) ≤ 2139095040) :
    single.nearest neg mag (Int.negSucc k) = single.word neg ((125 + mag.log2 - k) * 8388608 + Toward.even.cut neg (mag <<< (23 - mag.log2)) (mag.log2 - 23)) := by
  have e1 : single.leastPlace = -149 := rfl
  have e2 : single.fractionBits = 23 := rfl
  have e3 : single.binade = 8388608 := rfl
  have e4 : single.infRung = 2139095040 := rfl
  have el : max (Int.negSucc k + (mag.log2 : Int) - ((23 : Nat) : Int)) (-149) = (mag.log2 : Int) - 24 - k := by omega
  have f1 : (Int.negSucc k - ((mag.log2 : Int) - 24 - k)).toNat = 23 - mag.log2 := by omega
  have f2 : ((mag.log2 : Int) - 24 - k - Int.negSucc k).toNat = mag.log2 - 23 := by omega
  have f3 : ((mag.log2 : Int) - 24 - k - -149).toNat = 125 + mag.log2 - k := by omega
  unfold Format.nearest
  rw [if_neg h0]
  simp only [e1, e2, e3, e4, el, f1, f2, f3]
  rw [Nat.min_eq_left hr]
theorem log_23 {f : Nat} (h : f < 8388608) (k : Nat) : ((8388608 + f) * 2 ^ k).log2 = 23 + k := by
  have h0 : (8388608 + f) * 2 ^ k ≠ 0 := Nat.mul_ne_zero (by omega) (Nat.pos_iff_ne_zero.1 (Nat.two_pow_pos k))
  have hp := Nat.two_pow_pos k
  have a : 2 ^ (23 + k) ≤ (8388608 + f) * 2 ^ k := by rw [Nat.pow_add]; exact Nat.mul_le_mul_right _ (by omega)
  have b : (8388608 + f) * 2 ^ k < 2 ^ (23 + k + 1) := by
    rw [show 23 + k + 1 = 24 + k by omega, Nat.pow_add]
    exact Nat.mul_lt_mul_of_pos_right (by omega) hp
  have c := (Nat.le_log2 h0).2 a
  have d := (Nat.log2_lt h0).2 b
  omega
theorem cut_atS (neg : Bool) {f : Nat} (h : f < 8388608) (k : Nat) : Toward.even.cut neg (((8388608 + f) * 2 ^ k) <<< (23 - ((8388608 + f) * 2 ^ k).log2)) (((8388608 + f) * 2 ^ k).log2 - 23) = 8388608 + f := by
  rw [log_23 h k, show 23 - (23 + k) = 0 by omega, show 23 + k - 23 = k by omega, Nat.shiftLeft_zero, ← cutN_eq neg _ _ (by rw [log_23 h k]; omega)]
  have hp := Nat.two_pow_pos k
  have hdiv : ∀ a b, Nat.div a b = a / b := fun _ _ => rfl
  have hmod : ∀ a b, Nat.mod a b = a % b := fun _ _ => rfl
  unfold cutN
  simp only [fo_eq, hdiv, hmod, Nat.pow_eq, Nat.mul_eq, Nat.add_eq]
  rw [Nat.mul_mod_left, Nat.mul_div_cancel _ hp, Nat.mul_zero]
  have b1 : Nat.blt (2 ^ k) 0 = false := by
    cases h : Nat.blt (2 ^ k) 0 with
    | false => rfl
    | true => rw [Nat.blt_eq] at h; omega
  have b2 : Nat.beq (2 ^ k) 0 = false := by
    cases h : Nat.beq (2 ^ k) 0 with
    | false => rfl
    | true => rw [Nat.beq_eq] at h; omega
  rw [b1, b2]
  rfl
theorem near_atS {f : Nat} (h : f < 8388608) (j k : Nat) (h1 : j ≤ 148 + k) (h2 : 148 + k - j < 250) : single.nearest false ((8388608 + f) * 2 ^ k) (Int.negSucc j) = (148 + k - j) * 8388608 + (8388608 + f) := by
  have h0 : (8388608 + f) * 2 ^ k ≠ 0 := Nat.mul_ne_zero (by omega) (Nat.pos_iff_ne_zero.1 (Nat.two_pow_pos k))
  have e : 125 + (23 + k) - j = 148 + k - j := by omega
  have := nearest_atS false ((8388608 + f) * 2 ^ k) j h0 (by rw [log_23 h k]; omega) (by rw [cut_atS false h k, log_23 h k, e]; omega)
  rw [this, cut_atS false h k, log_23 h k, e]
  rfl

/-- What a number below 2 ^ 23 is in 32 bits, however it is scaled. -/
theorem pT_eq {n : Nat} (h0 : 0 < n) (h : n < 8388608) : pT n = (120 + n.log2) * 8388608 + n * 2 ^ (23 - n.log2) := by
  have hl : n.log2 < 23 := (Nat.log2_lt (by omega)).2 h
  have hc : Toward.even.cut false (n <<< (23 - n.log2)) (n.log2 - 23) = n * 2 ^ (23 - n.log2) := by
    rw [show n.log2 - 23 = 0 by omega, Nat.shiftLeft_eq]
    unfold Toward.cut
    simp [Nat.mod_one]
  have hb : n * 2 ^ (23 - n.log2) < 2 ^ 24 := by
    have h1 : n < 2 ^ (n.log2 + 1) := Nat.lt_log2_self
    have h2 := Nat.mul_lt_mul_of_pos_right h1 (Nat.two_pow_pos (23 - n.log2))
    rwa [← Nat.pow_add, show n.log2 + 1 + (23 - n.log2) = 24 by omega] at h2
  have hb2 : n * 2 ^ (23 - n.log2) < 16777216 := hb
  have e : 125 + n.log2 - 5 = 120 + n.log2 := by omega
  have hn := nearest_atS false n 5 (by omega) (by omega) (by rw [hc, e]; omega)
  rw [hc, e] at hn
  show single.nearest false n (Int.negSucc 5) = _
  rw [hn]
  rfl
theorem scaled_eq {n s : Nat} (h0 : 0 < n) (h : n < 65536) (hs : 23 - n.log2 ≤ s) (hs2 : s < 60) : single.nearest false (n * 2 ^ s) (Int.negSucc (5 + s)) = pT n := by
  have hl : n.log2 < 23 := (Nat.log2_lt (by omega)).2 (by omega)
  have hlo : 2 ^ 23 ≤ n * 2 ^ (23 - n.log2) := by
    have h1 : 2 ^ n.log2 ≤ n := Nat.log2_self_le (by omega)
    have h2 := Nat.mul_le_mul_right (2 ^ (23 - n.log2)) h1
    rwa [← Nat.pow_add, show n.log2 + (23 - n.log2) = 23 by omega] at h2
  have hhi : n * 2 ^ (23 - n.log2) < 2 ^ 24 := by
    have h1 : n < 2 ^ (n.log2 + 1) := Nat.lt_log2_self
    have h2 := Nat.mul_lt_mul_of_pos_right h1 (Nat.two_pow_pos (23 - n.log2))
    rwa [← Nat.pow_add, show n.log2 + 1 + (23 - n.log2) = 24 by omega] at h2
  have hlo' : 8388608 ≤ n * 2 ^ (23 - n.log2) := hlo
  have hhi' : n * 2 ^ (23 - n.log2) < 16777216 := hhi
  have e1 : n * 2 ^ s = (8388608 + (n * 2 ^ (23 - n.log2) - 8388608)) * 2 ^ (s - (23 - n.log2)) := by
    rw [show 8388608 + (n * 2 ^ (23 - n.log2) - 8388608) = n * 2 ^ (23 - n.log2) by omega, Nat.mul_assoc, ← Nat.pow_add, show 23 - n.log2 + (s - (23 - n.log2)) = s by omega]
  rw [e1, near_atS (f := n * 2 ^ (23 - n.log2) - 8388608) (by omega) (5 + s) (s - (23 - n.log2)) (by omega) (by omega), pT_eq h0 (by omega)]
  omega

def okR (x : Nat) : Bool := match single.read (pT (8 * x)) with | .number false m p => Nat.beq m (x * 2 ^ (23 - x.log2)) && decide (p = -3 - ((23 - x.log2 : Nat) : Int)) | _ => false
theorem okR_all : ((List.range 200).all fun i => okR (1 + i)) = true := by decide +kernel
theorem read_at {i : Nat} (h : i < 200) : single.read (pT (8 * (1 + i))) = .number false ((1 + i) * 2 ^ (23 - (1 + i).log2)) (-3 - ((23 - (1 + i).log2 : Nat) : Int)) := by
  have hr := List.all_eq_true.1 okR_all i (List.mem_range.2 h)
  unfold okR at hr
  split at hr
  · rename_i m p hm
    rw [Bool.and_eq_true, Nat.beq_eq, decide_eq_true_eq] at hr
    rw [hm, hr.1, hr.2]
  · exact absurd hr (by decide)
theorem x_tab {i : Nat} (h : i < 200) : floatBits .quo .f32 (floatOfInt .f32 (1 + (i : Int))) 1090519040 = some (pT (8 * (1 + i))) := by
  have := List.all_eq_true.1 (show ((List.range 200).all fun i => floatBits .quo .f32 (floatOfInt .f32 (1 + (i : Int))) 1090519040 == some (pT (8 * (1 + i)))) = true by decide +kernel) i (List.mem_range.2 h)
  simpa using this
theorem xy_tab {i j : Nat} (hi : i < 200) (hj : j < 200) : floatBits .mul .f32 (pT (8 * (1 + i))) (pT (8 * (1 + j))) = some (pT ((1 + i) * (1 + j))) := by
  have hp : ∀ p q : Int, ∀ m n : Nat, (Datum.number false m p).product (Datum.number false n q) = some (Datum.number false (m * n) (p + q)) := fun _ _ _ _ => rfl
  have hw : ∀ p : Int, ∀ m : Nat, (some (Datum.number false m p)).map single.write = some (single.nearest false m p) := fun _ _ => rfl
  show ((single.read (pT (8 * (1 + i)))).product (single.read (pT (8 * (1 + j))))).map single.write = _
  rw [read_at hi, read_at hj, hp, hw]
  refine congrArg some ?_
  have li : (1 + i).log2 < 8 := (Nat.log2_lt (by omega)).2 (by omega)
  have lj : (1 + j).log2 < 8 := (Nat.log2_lt (by omega)).2 (by omega)
  have hn0 : 0 < (1 + i) * (1 + j) := Nat.mul_pos (by omega) (by omega)
  have hn : (1 + i) * (1 + j) ≤ 200 * 200 := Nat.mul_le_mul (by omega) (by omega)
  have hl : (1 + i).log2 + (1 + j).log2 ≤ ((1 + i) * (1 + j)).log2 := by
    rw [Nat.le_log2 (by omega), Nat.pow_add]
    exact Nat.mul_le_mul (Nat.log2_self_le (by omega)) (Nat.log2_self_le (by omega))
  rw [Nat.mul_mul_mul_comm, ← Nat.pow_add, show -3 - ((23 - (1 + i).log2 : Nat) : Int) + (-3 - ((23 - (1 + j).log2 : Nat) : Int)) = Int.negSucc (5 + (23 - (1 + i).log2 + (23 - (1 + j).log2))) by omega]
  exact scaled_eq hn0 (by omega) (by omega) (by omega)
end Go.Proofs.Ythegbaaelccekaa
