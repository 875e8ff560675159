/-
  Sines: bounds, the reference's walk, and the law FnExactSineTurns. Condition: bits fit the kind.
-/
import Derived.Test.YthegbaaelccekaaSin
import Derived.Test.YthegbaaelccekaaLa
import Derived.Test.YthegbaaelccekaaBf
namespace Go.Proofs.Ythegbaaelccekaa
open Go.RowKit Ieee

/-! ### Bounds -/
theorem fracF_bd {x : Option Nat} {n : Int} (h : Bd 52 x) (hn : toi x = some n) : Bd 2 (fracF x n) := by
  cases x with
  | none => cases hn
  | some b =>
    have h0 := frac_bd h hn
    unfold fracF
    split
    · exact h0.add (Bd.closed (E := 1) (by decide +kernel)) (by decide) (by decide) (by decide) (by decide)
    · exact h0.mono (by decide)

theorem pA_step {u : Option Nat} {j : Nat} {E F E' : Int} (hu : Bd 14 u) (hp : Bd E (pA u j)) (hc : Lb F (fmul (fmul (fc 4611686018427387904) (kA j)) (fadd (fmul (fc 4611686018427387904) (kA j)) (fc 4607182418800017408))))
    (h1 : 1 < E') (h2 : E + 15 < E' + F) (h3 : 0 ≤ E) (h4 : E' < 500) (h5 : 0 ≤ F) (h6 : F ≤ E) (h7 : E < 500) : Bd E' (pA u (j + 1)) := by
  have a := Bd.mul hu hp (E := 14 + E) (Int.le_refl _) (by decide) (by omega) (by omega) (by omega)
  have b := Bd.div a hc (E := 15 + E - F) (by omega) (by omega) (by omega) (by omega) (by omega)
  have one : Bd 1 (fc 4607182418800017408) := Bd.closed (by decide +kernel)
  exact one.sub b h1 (by omega) (by omega) (by omega)

theorem pA_bd {u : Option Nat} (hu : Bd 14 u) : Bd 120 (pA u 8) := by
  have p0 : Bd 8 (pA u 0) := (Bd.closed (by decide +kernel) : Bd 8 (fc 4607182418800017408))
  have p1 : Bd 16 (pA u 1) := pA_step hu p0 (F := 8) (Lb.closed (by decide +kernel)) (by decide) (by decide) (by decide) (by decide) (by decide) (by decide) (by decide)
  have p2 : Bd 25 (pA u 2) := pA_step hu p1 (F := 7) (Lb.closed (by decide +kernel)) (by decide) (by decide) (by decide) (by decide) (by decide) (by decide) (by decide)
  have p3 : Bd 34 (pA u 3) := pA_step hu p2 (F := 7) (Lb.closed (by decide +kernel)) (by decide) (by decide) (by decide) (by decide) (by decide) (by decide) (by decide)
  have p4 : Bd 44 (pA u 4) := pA_step hu p3 (F := 6) (Lb.closed (by decide +kernel)) (by decide) (by decide) (by decide) (by decide) (by decide) (by decide) (by decide)
  have p5 : Bd 54 (pA u 5) := pA_step hu p4 (F := 6) (Lb.closed (by decide +kernel)) (by decide) (by decide) (by decide) (by decide) (by decide) (by decide) (by decide)
  have p6 : Bd 65 (pA u 6) := pA_step hu p5 (F := 5) (Lb.closed (by decide +kernel)) (by decide) (by decide) (by decide) (by decide) (by decide) (by decide) (by decide)
  have p7 : Bd 77 (pA u 7) := pA_step hu p6 (F := 4) (Lb.closed (by decide +kernel)) (by decide) (by decide) (by decide) (by decide) (by decide) (by decide) (by decide)
  have p8 : Bd 91 (pA u 8) := pA_step hu p7 (F := 2) (Lb.closed (by decide +kernel)) (by decide) (by decide) (by decide) (by decide) (by decide) (by decide) (by decide)
  exact p8.mono (by decide)

theorem neg_read_flip (b : Nat) {s : Bool} {m : Nat} {p : Int} (h : double.read b = .number s m p) : ∃ s', double.read (Op.negFloat .f64 b) = .number s' m p := by
  have e : (b ^^^ 2 ^ 63) % double.signWeight = b % double.signWeight := by
    rw [show double.signWeight = 2 ^ 63 from rfl]
    apply Nat.eq_of_testBit_eq
    intro i
    rw [Nat.testBit_mod_two_pow, Nat.testBit_mod_two_pow, Nat.testBit_xor, Nat.testBit_two_pow]
    by_cases hi : i < 63
    · have : ¬ 63 = i := by omega
      simp [hi, this]
    · simp [hi]
  have e2 : Op.negFloat .f64 b = b ^^^ 2 ^ 63 := rfl
  rw [e2]
  unfold Format.read at h ⊢
  simp only [e] at h ⊢
  split at h
  · rename_i h1
    rw [if_pos h1]
    injection h with _ h2 h3
    exact ⟨_, by rw [h2, h3]⟩
  · rename_i h1
    rw [if_neg h1]
    split at h
    · rename_i h2
      rw [if_pos h2]
      injection h with _ h3 h4
      exact ⟨_, by rw [h3, h4]⟩
    · split at h <;> cases h
theorem Bd.neg {E : Int} {o : Option Nat} (h : Bd E o) : Bd E (fneg o) := by
  cases o with
  | none => exact Bd.none _
  | some b =>
    obtain ⟨s, m, p, h1, h2⟩ := h b rfl
    obtain ⟨s', h3⟩ := neg_read_flip b h1
    intro c hc
    cases hc
    exact ⟨s', m, p, h3, h2⟩

theorem sineF_bd {f : Option Nat} (h : Bd 2 f) : Bd 127 (sineF f) := by
  have hz : ∀ t1 t2, Bd 7 (zF f t1 t2) := by
    intro t1 t2
    have half : Bd 0 (fc 4602678819172646912) := Bd.closed (by decide +kernel)
    have tau : Bd 3 (fc 4618760256179416344) := Bd.closed (by decide +kernel)
    have h1 : Bd 3 (if t1 = true then fsub f (fc 4602678819172646912) else f) := by
      split
      · exact h.sub half (by decide) (by decide) (by decide) (by decide)
      · exact h.mono (by decide)
    have h2 : Bd 4 (if t2 = true then fsub (fc 4602678819172646912) (if t1 = true then fsub f (fc 4602678819172646912) else f) else (if t1 = true then fsub f (fc 4602678819172646912) else f)) := by
      split
      · exact half.sub h1 (by decide) (by decide) (by decide) (by decide)
      · exact h1.mono (by decide)
    exact h2.mul tau (by decide) (by decide) (by decide) (by decide) (by decide)
  rw [sineF_of f _ _ rfl rfl]
  generalize hz' : zF f _ _ = z
  have hz0 : Bd 7 z := by rw [← hz']; exact hz _ _
  have hu : Bd 14 (fmul z z) := hz0.mul hz0 (by decide) (by decide) (by decide) (by decide) (by decide)
  have hr := hz0.mul (pA_bd hu) (E := 127) (by decide) (by decide) (by decide) (by decide) (by decide)
  split
  · exact hr.neg
  · exact hr

/-! ### The reference -/
/-- The sine of some turns. -/
def sineW (x : Option Nat) : Option Nat :=
  if finW x = false then none else
  if (fge x (fc 4841369599423283200) || fle x (fc 14064741636278059008)) = true then fc 0 else sineF (fracF x ((toi x).getD 0))

theorem small_bd {x : Option Nat} (h1 : finW x = true) (h2 : fge x (fc 4841369599423283200) = false) (h3 : fle x (fc 14064741636278059008) = false) (hx : ∀ b, x = some b → (double.read b).isNaN = false) : Bd 52 x := by
  intro b hb
  subst hb
  have hn := hx b rfl
  rw [finW_some b hn] at h1
  unfold isNum at h1
  split at h1
  · rename_i s m p hr
    have bx := read_double hr
    have c1 : fc 4841369599423283200 = some 4841369599423283200 := by decide +kernel
    have c2 : fc 14064741636278059008 = some 14064741636278059008 := by decide +kernel
    have r1 : double.read 4841369599423283200 = .number false (2 ^ 52) 0 := by decide +kernel
    have r2 : double.read 14064741636278059008 = .number true (2 ^ 52) 0 := by decide +kernel
    rw [c1] at h2
    rw [c2] at h3
    have o1 : ford .f64 (some b) (some 4841369599423283200) = some (compare (sv s m p) (sv false (2 ^ 52) 0)) := order_mg double hr r1 (by omega) (by decide)
    have o2 : ford .f64 (some b) (some 14064741636278059008) = some (compare (sv s m p) (sv true (2 ^ 52) 0)) := order_mg double hr r2 (by omega) (by decide)
    unfold fge at h2
    unfold fle at h3
    rw [o1, compare_int] at h2
    rw [o2, compare_int] at h3
    refine ⟨s, m, p, hr, ?_⟩
    rw [show (52 : Int) = 0 + ((52 : Nat) : Int) by decide, ← mg_two_pow 52 0 (by decide)]
    unfold sv at h2 h3
    generalize mg (2 ^ 52) 0 = K at h2 h3 ⊢
    generalize mg m p = M at h2 h3 ⊢
    apply Nat.le_of_not_lt
    intro hlt
    cases s
    · simp only [Bool.false_eq_true, if_false] at h2
      rw [if_neg (by omega)] at h2
      split at h2 <;> exact absurd h2 (by decide)
    · simp only [if_true] at h3
      rw [if_pos (by omega)] at h3
      exact absurd h3 (by decide)
  · cases h1

theorem fv_read (x : Nat) : ∀ b, fv .f64 x = some b → (double.read b).isNaN = false := fv_isNum .f64 x

theorem sine_testsG {ι : Type} (g : ι → Nat) (F : Option Nat) (hg : ∀ i, fv .f64 (g i) = F) : ∃ t1 t2 : Bool, fge F (fc 4602678819172646912) = t1 ∧ fgt (if t1 = true then fsub F (fc 4602678819172646912) else F) (fc 4598175219545276416) = t2 ∧
    (∀ i, (FloatKind.f64.format.order (g i) 4602678819172646912 == some .gt || FloatKind.f64.format.order (g i) 4602678819172646912 == some .eq) = t1) ∧
    (t1 = true → ∀ i w, (FloatKind.f64.format.order (fval .sub .f64 (g i) 4602678819172646912 w) 4598175219545276416 == some .gt) = t2) ∧
    (t1 = false → ∀ i, (FloatKind.f64.format.order (g i) 4598175219545276416 == some .gt) = t2) := by
  refine ⟨_, _, rfl, rfl, fun i => ?_, fun h i w => ?_, fun h i => ?_⟩
  · rw [ge_fge, hg]; rfl
  · rw [gt_fgt, fv_sub, hg, if_pos h]; rfl
  · rw [gt_fgt, hg, if_neg (by rw [h]; exact Bool.false_ne_true)]; rfl

theorem kA_lit (j : Nat) (n : Int) (h : (j = 0 ∧ n = 272) ∨ (j = 1 ∧ n = 210) ∨ (j = 2 ∧ n = 156) ∨ (j = 3 ∧ n = 110) ∨ (j = 4 ∧ n = 72) ∨ (j = 5 ∧ n = 42) ∨ (j = 6 ∧ n = 20) ∨ (j = 7 ∧ n = 6)) :
    fv .f64 (floatOfInt .f64 n) = fmul (fmul (fc 4611686018427387904) (kA j)) (fadd (fmul (fc 4611686018427387904) (kA j)) (fc 4607182418800017408)) := by
  rcases h with ⟨rfl, rfl⟩ | ⟨rfl, rfl⟩ | ⟨rfl, rfl⟩ | ⟨rfl, rfl⟩ | ⟨rfl, rfl⟩ | ⟨rfl, rfl⟩ | ⟨rfl, rfl⟩ | ⟨rfl, rfl⟩ <;> decide +kernel

end Go.Proofs.Ythegbaaelccekaa
