/-
  A power in 64 bits is the widened power in 32 bits, bit by bit: so the length is the root of the power. No program, no condition but the parts' size.
-/
import Derived.Test.YtmiajfdhdpmeoaaGreatDoorGa
namespace Go.Proofs.YtmiajfdhdpmeoaaGreatDoor
open Go.RowKit Ieee

theorem read_parts {x : Nat} (hx : x < 18446744073709551616) {m : Nat} {p : Int} (h : double.read x = .number false m p) : (x < 4503599627370496 ∧ m = x ∧ p = -1074) ∨ (4503599627370496 ≤ x ∧ m = 4503599627370496 + x % 4503599627370496 ∧ p = -1075 + (x / 4503599627370496 : Nat)) := by
  have e1 : double.leastPlace = -1074 := rfl
  have e3 : double.binade = 4503599627370496 := rfl
  have e4 : double.infRung = 9218868437227405312 := rfl
  have e5 : double.signWeight = 9223372036854775808 := rfl
  unfold Format.read at h
  simp only [e1, e3, e4, e5] at h
  have hs : ∀ {s : Bool}, s = false → s = (x / 9223372036854775808 % 2 == 1) → x < 9223372036854775808 := fun {s} h1 h2 => by
    rw [h1] at h2
    have := h2.symm
    rw [beq_eq_false_iff_ne] at this
    omega
  split at h
  · injection h with h1 h2 h3
    have := hs rfl h1.symm
    omega
  · split at h
    · injection h with h1 h2 h3
      have := hs rfl h1.symm
      omega
    · split at h <;> exact absurd h (by simp)
theorem read_inj {x y : Nat} (hx : x < 18446744073709551616) (hy : y < 18446744073709551616) {m n : Nat} {p q : Int} (h1 : double.read x = .number false m p) (h2 : double.read y = .number false n q) (h : mg m p = mg n q) : x = y := by
  have b1 := read_double h1
  have b2 := read_double h2
  have a1 := read_parts hx h1
  have a2 := read_parts hy h2
  have hb : (2 : Nat) ^ 53 = 9007199254740992 := by decide
  rcases Int.lt_trichotomy p q with c | c | c
  · have e : q = p + ((q - p).toNat : Nat) := by omega
    rw [e, mg_shift _ _ _ (by omega)] at h
    have := mg_inj h
    have h3 : n * 2 ^ 1 ≤ n * 2 ^ (q - p).toNat := Nat.mul_le_mul_left _ (Nat.pow_le_pow_right (by decide) (by omega))
    omega
  · subst c
    have := mg_inj h
    omega
  · have e : p = q + ((p - q).toNat : Nat) := by omega
    rw [e, mg_shift _ _ _ (by omega)] at h
    have := mg_inj h
    have h3 : m * 2 ^ 1 ≤ m * 2 ^ (p - q).toNat := Nat.mul_le_mul_left _ (Nat.pow_le_pow_right (by decide) (by omega))
    omega
theorem Z.pos {o : Option Nat} {n : Int} (h : Z .f64 o n) (hn : 0 < n) : ∃ b m p, o = some b ∧ double.read b = .number false m p ∧ mg m p = mg n.natAbs 0 := by
  obtain ⟨b, s, m, p, rfl, hr, _, hv⟩ := h
  have hs := sgn_of hv (by omega)
  rw [decide_eq_false (by omega)] at hs
  subst hs
  exact ⟨b, m, p, rfl, hr, abs_of hv⟩
theorem fop_lt64 {op : BinOp} {a b : Option Nat} {r : Nat} (h : fop op .f64 a b = some r) : r < 18446744073709551616 := by
  cases a with
  | none => cases h
  | some x =>
  cases b with
  | none => cases h
  | some y =>
    have h' : floatBits op .f64 x y = some r := h
    have := floatBits_wf h'
    simpa [Lit.wf] using this
theorem wid_lt64 {o : Option Nat} {r : Nat} (h : wid o = some r) : r < 18446744073709551616 := by
  cases o with
  | none => cases h
  | some x =>
    have h' : some (double.write (single.read x)) = some r := h
    injection h' with h'
    subst h'
    exact double.write_lt _
theorem sq_nonneg (x : Int) : 0 ≤ x * x ∧ (x * x = 0 → x = 0) := ⟨by rw [← Int.natAbs_mul_self]; exact Int.natCast_nonneg _, fun h => by rcases Int.mul_eq_zero.1 h with h | h <;> exact h⟩
/-- The power in 64 bits and the widened power in 32 bits. -/
theorem powF_same {x y : Int} (hx : x.natAbs ≤ 200) (hy : y.natAbs ≤ 200) : powF (fv .f32 (floatOfInt .f32 x)) (fv .f32 (floatOfInt .f32 y)) = wid (fv .f32 (floatOfInt .f32 (x * x + y * y))) := by
  have zx := Z.ofInt .f32 (n := x) (Nat.le_trans hx (by decide))
  have zy := Z.ofInt .f32 (n := y) (Nat.le_trans hy (by decide))
  have m1 := abs_mul hx hx
  have m2 := abs_mul hy hy
  have zp := Z.ofInt .f32 (n := x * x + y * y) (Nat.le_trans (m := 80000) (by omega) (by decide))
  obtain ⟨p1, p2⟩ := sq_nonneg x
  obtain ⟨q1, q2⟩ := sq_nonneg y
  by_cases h0 : x * x + y * y = 0
  · have hx0 : x = 0 := p2 (by omega)
    have hy0 : y = 0 := q2 (by omega)
    subst hx0
    subst hy0
    decide +kernel
  · have pw := powF_whole zx zy hx hy
    have pf := zp.wid
    rw [zp.fv]
    obtain ⟨b, m, p, e1, r1, v1⟩ := pw.pos (by omega)
    obtain ⟨c, n, q, e2, r2, v2⟩ := pf.pos (by omega)
    rw [e1, e2]
    refine congrArg some (read_inj ?_ (wid_lt64 e2) r1 r2 (v1.trans v2.symm))
    unfold powF at e1
    exact fop_lt64 e1
end Go.Proofs.YtmiajfdhdpmeoaaGreatDoor
