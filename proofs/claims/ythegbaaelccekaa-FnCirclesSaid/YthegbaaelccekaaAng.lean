/-
  Angles: what the program and the reference compute, as functions of the bits; bounds. Condition: bits fit the kind.
-/
import Derived.Test.YthegbaaelccekaaLol
import Derived.Test.YthegbaaelccekaaSib
namespace Go.Proofs.Ythegbaaelccekaa
open Go.RowKit Ieee
attribute [local irreducible] mg

/-! ### The plain functions -/
def fabs (a : Option Nat) : Option Nat := a.map absB
def tA (t : Option Nat) : Nat → Option Nat
  | 0 => t
  | j + 1 => fquo (tA t j) (fadd (fc 4607182418800017408) (fsqrt (fadd (fc 4607182418800017408) (fmul (tA t j) (tA t j)))))
def kR : Nat → Option Nat
  | 0 => fc 4624633867356078080
  | j + 1 => fsub (kR j) (fc 4611686018427387904)
def rA (u : Option Nat) : Nat → Option Nat
  | 0 => fc 0
  | j + 1 => fsub (fquo (fc 4607182418800017408) (kR j)) (fmul u (rA u j))
def angT (t : Option Nat) : Option Nat := fquo (fmul (fc 4620693217682128896) (fmul (tA t 3) (rA (fmul (tA t 3) (tA t 3)) 8))) (fc 4618760256179416344)
/-- The angle out of the tangent, by the tests. -/
def angH (t : Option Nat) (over xn yn : Bool) : Option Nat :=
  let a1 := if over = true then fsub (fc 4598175219545276416) (angT t) else angT t
  let a2 := if xn = true then fsub (fc 4602678819172646912) a1 else a1
  if yn = true then fneg a2 else a2
/-- The angle of a point, by its tests. -/
def angG (y x : Option Nat) (over xn yn : Bool) : Option Nat :=
  angH (if over = true then fquo (fabs x) (fabs y) else fquo (fabs y) (fabs x)) over xn yn
def angF (y x : Option Nat) : Option Nat := angG y x (fgt (fabs y) (fabs x)) (flt x (fc 0)) (flt y (fc 0))

theorem fv_absB (b : Nat) : fv .f64 (absB b) = fabs (fv .f64 b) := by
  have e : ∀ b : Nat, (b % 9223372036854775808) % double.signWeight = b % double.signWeight := fun b => by
    rw [show double.signWeight = 9223372036854775808 by decide]; exact Nat.mod_mod _ _
  have h : (double.read (absB b)).isNaN = (double.read b).isNaN := by
    unfold absB Format.read
    simp only [e]
    split
    · rfl
    · split
      · rfl
      · split <;> rfl
  unfold fv fabs
  rw [show FloatKind.f64.format = double from rfl, h]
  cases (double.read b).isNaN <;> rfl

theorem kR_test (j : Nat) (h : j < 8) : fge (kR j) (fc 4607182418800017408) = true := by
  have : ∀ j : Fin 8, fge (kR j) (fc 4607182418800017408) = true := by decide +kernel
  exact this ⟨j, h⟩
theorem kR_end : fge (kR 8) (fc 4607182418800017408) = false := by decide +kernel
theorem kR_int (j : Nat) (k : Int) (h : j < 8) (hk : k + 2 * j = 15) : fv .f64 (floatOfInt .f64 k) = kR j := by
  have : ∀ j : Fin 8, fv .f64 (floatOfInt .f64 (15 - 2 * ((j : Nat) : Int))) = kR j := by decide +kernel
  have h2 := this ⟨j, h⟩
  rw [show k = 15 - 2 * (j : Int) by omega]
  exact h2

/-! ### Bounds -/
theorem tA_step {t : Option Nat} {j : Nat} {e : Int} (h : Bd e (tA t j)) (h0 : 1 ≤ e) (h1 : e < 100) : Bd (e + 1) (tA t (j + 1)) := by
  have one : Nn 1 (fc 4607182418800017408) := Nn.const (b := 4607182418800017408) (by decide +kernel) (by decide +kernel)
  have lone : Lb 0 (fc 4607182418800017408) := Lb.closed (by decide +kernel)
  have sq : Nn (e + e) (fmul (tA t j) (tA t j)) := Nn.sq h (by omega) (by omega) (by omega) (by omega)
  have s1 := (one.add sq (E := e + e + 1) (by omega) (by omega) (by omega) (by omega)).1
  have s2 : Nn ((e + 1) + (e + 1)) (fadd (fc 4607182418800017408) (fmul (tA t j) (tA t j))) := s1.mono (by omega)
  have s3 := s2.sqrt (by omega) (by omega)
  have s4 := (one.add s3 (E := e + 3) (by omega) (by omega) (by omega) (by omega)).2 0 (by decide) lone
  exact h.div s4 (by omega) (by omega) (by omega) (by omega) (by omega)
theorem rA_step {u : Option Nat} {j : Nat} {E : Int} (hu : Bd 8 u) (hp : Bd E (rA u j)) (hj : j < 8) (h1 : 1 ≤ E) (h4 : E < 500) : Bd (E + 9) (rA u (j + 1)) := by
  have hk : ∀ j : Fin 8, chkBdO 1 (fquo (fc 4607182418800017408) (kR j)) = true := by decide +kernel
  have one : Bd 1 (fquo (fc 4607182418800017408) (kR j)) := Bd.closed (hk ⟨j, hj⟩)
  have a := Bd.mul hu hp (E := 8 + E) (Int.le_refl _) (by decide) (by omega) (by omega) (by omega)
  exact one.sub a (by omega) (by omega) (by omega) (by omega)
theorem angT_bd {t : Option Nat} (h : Bd 1 t) : Bd 81 (angT t) := by
  have t3 : Bd 4 (tA t 3) := tA_step (tA_step (tA_step (j := 0) (e := 1) h (by decide) (by decide)) (by decide) (by decide)) (by decide) (by decide)
  have hu : Bd 8 (fmul (tA t 3) (tA t 3)) := t3.mul t3 (by decide) (by decide) (by decide) (by decide) (by decide)
  have p0 : Bd 1 (rA (fmul (tA t 3) (tA t 3)) 0) := (Bd.closed (by decide +kernel) : Bd 1 (fc 0))
  have p1 := rA_step hu p0 (by decide) (by decide) (by decide)
  have p2 := rA_step hu p1 (by decide) (by decide) (by decide)
  have p3 := rA_step hu p2 (by decide) (by decide) (by decide)
  have p4 := rA_step hu p3 (by decide) (by decide) (by decide)
  have p5 := rA_step hu p4 (by decide) (by decide) (by decide)
  have p6 := rA_step hu p5 (by decide) (by decide) (by decide)
  have p7 := rA_step hu p6 (by decide) (by decide) (by decide)
  have p8 := rA_step hu p7 (by decide) (by decide) (by decide)
  have m1 := t3.mul p8 (E := 77) (by decide) (by decide) (by decide) (by decide) (by decide)
  have e8 : Bd 4 (fc 4620693217682128896) := Bd.closed (by decide +kernel)
  have m2 := e8.mul m1 (E := 81) (by decide) (by decide) (by decide) (by decide) (by decide)
  have tau : Lb 2 (fc 4618760256179416344) := Lb.closed (by decide +kernel)
  exact m2.div tau (by decide) (by decide) (by decide) (by decide) (by decide)

/-- A quotient of a number by one that is not smaller. -/
theorem div_rel {x y m n : Nat} {s t : Bool} {i j : Int} (hx : double.read x = .number s m i) (hy : double.read y = .number t n j) (hn0 : 0 < mg n j) (hle : mg m i ≤ mg n j) : Bd 1 (fquo (some x) (some y)) := by
  have bx := read_double hx
  have by' := read_double hy
  have hn : n ≠ 0 := by
    intro h0
    rw [h0, mg_zero] at hn0
    omega
  unfold fquo
  rw [fop_quo, hx, hy]
  intro r hr
  simp only [Datum.quotient, if_neg hn, Option.map_some, Option.some.injEq] at hr
  subst hr
  generalize hmore : 54 + n.log2 - m.log2 = more
  have hmore2 : more ≤ 106 := by
    have : n.log2 < 53 := (Nat.log2_lt hn).2 by'.1
    omega
  have hle2 : mg (2 * (m <<< more / n) + (m <<< more % n != 0).toNat) (i - j - more - 1) ≤ mg 1 1 := by
    rcases Nat.eq_zero_or_pos m with rfl | hmp
    · rw [Nat.zero_shiftLeft, Nat.zero_div, Nat.zero_mod]
      rw [show 2 * 0 + ((0 : Nat) != 0).toNat = 0 from rfl, mg_zero]; exact Nat.zero_le _
    · rw [Nat.shiftLeft_eq]
      have hD : n ≤ m * 2 ^ more := by
        have l1 : 2 ^ m.log2 ≤ m := Nat.log2_self_le (by omega)
        have l2 : n < 2 ^ (n.log2 + 1) := Nat.lt_log2_self
        have l3 : 2 ^ (n.log2 + 1) ≤ 2 ^ (m.log2 + more) := Nat.pow_le_pow_right (by decide) (by omega)
        have l4 := Nat.mul_le_mul_right (2 ^ more) l1
        rw [← Nat.pow_add] at l4
        omega
      generalize hDd : m * 2 ^ more = D at hD
      have hq : 1 ≤ D / n := Nat.div_pos hD (by omega)
      have hq3 : (2 * (D / n) + (D % n != 0).toNat) * n ≤ 4 * D := by
        have : (D % n != 0).toNat ≤ 1 := by cases (D % n != 0) <;> simp
        have h5 : 2 * (D / n) + (D % n != 0).toNat ≤ 4 * (D / n) := by omega
        have h6 := Nat.mul_le_mul_right n h5
        have h7 : D / n * n ≤ D := Nat.div_mul_le_self D n
        rw [Nat.mul_assoc] at h6
        omega
      generalize 2 * (D / n) + (D % n != 0).toNat = q at hq3
      have k1 : mg q (i - j - more - 1) * mg n j ≤ mg 1 1 * mg n j := by
        rw [mg_mul _ _ _ _ (by omega) (by omega), mg_mul _ _ _ _ (by decide) (by omega), Nat.one_mul]
        refine Nat.mul_le_mul_right _ ?_
        refine Nat.le_trans ((mg_le_iff (p := i - j - more - 1 + j)).2 hq3) ?_
        rw [← hDd, show 4 * (m * 2 ^ more) = m * 2 ^ (more + 2) by rw [Nat.pow_add, Nat.mul_comm 4, Nat.mul_assoc], ← mg_shift _ _ _ (by omega)]
        rw [show i - j - more - 1 + j + ((more + 2 : Nat) : Int) = i + ((1 : Nat) : Int) by omega, mg_shift _ _ _ (by omega), Nat.mul_two, ← mg_add, show 1 + j = j + ((1 : Nat) : Int) by omega, mg_shift _ _ _ (by omega), Nat.mul_two, ← mg_add]
        exact Nat.add_le_add hle hle
      exact Nat.le_of_mul_le_mul_right k1 hn0
  obtain ⟨m', p', g1, g2, _⟩ := rnd (s ^^ t) _ (i - j - more - 1) 1 (by omega) (by decide) (by decide) hle2
  exact ⟨_, m', p', g1, g2⟩

theorem abs_read {b : Nat} {s : Bool} {m : Nat} {p : Int} (h : double.read b = .number s m p) : double.read (absB b) = .number false m p := by
  have e : (b % 9223372036854775808) % double.signWeight = b % double.signWeight := by
    rw [show double.signWeight = 9223372036854775808 by decide]; exact Nat.mod_mod _ _
  have e2 : ((b % 9223372036854775808) / double.signWeight % 2 == 1) = false := by
    rw [show double.signWeight = 9223372036854775808 by decide, Nat.div_eq_of_lt (Nat.mod_lt _ (by decide))]; rfl
  unfold absB Format.read at *
  simp only [e, e2] at h ⊢
  split at h
  · rename_i h1
    rw [if_pos h1]
    injection h with _ h2 h3
    rw [h2, h3]
  · rename_i h1
    rw [if_neg h1]
    split at h
    · rename_i h2
      rw [if_pos h2]
      injection h with _ h3 h4
      rw [h3, h4]
    · split at h <;> cases h

theorem fgt_mg {b c m n : Nat} {p q : Int} (hb : double.read b = .number false m p) (hc : double.read c = .number false n q) (hq : -6000 ≤ q) : fgt (some b) (some c) = decide (mg n q < mg m p) := by
  have bx := read_double hb
  have o : ford .f64 (some b) (some c) = some (compare (sv false m p) (sv false n q)) := order_mg double hb hc (by omega) hq
  unfold fgt
  rw [o, compare_int]
  unfold sv
  simp only [Bool.false_eq_true, if_false]
  generalize mg m p = A
  generalize mg n q = B
  by_cases h : B < A
  · rw [decide_eq_true h, if_neg (by omega), if_neg (by omega)]; rfl
  · rw [decide_eq_false h]
    by_cases h2 : A = B
    · rw [if_neg (by omega), if_pos (by omega)]; rfl
    · rw [if_pos (by omega)]; rfl

/-- The angle of a point that is not the origin is bounded. -/
theorem angF_bd {x y m n : Nat} {s t : Bool} {i j : Int} (hy : double.read y = .number s m i) (hx : double.read x = .number t n j) (h0 : 0 < mg m i ∨ 0 < mg n j) : Bd 84 (angF (some y) (some x)) := by
  have ay := abs_read hy
  have ax := abs_read hx
  have by' := read_double hy
  have bx := read_double hx
  have o : fgt (fabs (some y)) (fabs (some x)) = decide (mg n j < mg m i) := fgt_mg ay ax (by omega)
  have ht : Bd 1 (if fgt (fabs (some y)) (fabs (some x)) = true then fquo (fabs (some x)) (fabs (some y)) else fquo (fabs (some y)) (fabs (some x))) := by
    rw [o]
    by_cases hgt : mg n j < mg m i
    · rw [if_pos (decide_eq_true hgt)]
      exact div_rel ax ay (by omega) (by omega)
    · rw [if_neg (by rw [decide_eq_false hgt]; decide)]
      exact div_rel ay ax (by omega) (by omega)
  unfold angF angG angH
  have q : Bd 0 (fc 4598175219545276416) := Bd.closed (by decide +kernel)
  have hf : Bd 0 (fc 4602678819172646912) := Bd.closed (by decide +kernel)
  have h1 := angT_bd ht
  generalize (if fgt (fabs (some y)) (fabs (some x)) = true then fquo (fabs (some x)) (fabs (some y)) else fquo (fabs (some y)) (fabs (some x))) = T at h1 ⊢
  dsimp only
  have h2 : Bd 82 (if fgt (fabs (some y)) (fabs (some x)) = true then fsub (fc 4598175219545276416) (angT T) else angT T) := by
    split
    · exact q.sub h1 (by decide) (by decide) (by decide) (by decide)
    · exact h1.mono (by decide)
  generalize (if fgt (fabs (some y)) (fabs (some x)) = true then fsub (fc 4598175219545276416) (angT T) else angT T) = A at h2 ⊢
  have h3 : Bd 83 (if flt (some x) (fc 0) = true then fsub (fc 4602678819172646912) A else A) := by
    split
    · exact hf.sub h2 (by decide) (by decide) (by decide) (by decide)
    · exact h2.mono (by decide)
  split
  · exact h3.neg.mono (by decide)
  · exact h3.mono (by decide)
end Go.Proofs.Ythegbaaelccekaa
