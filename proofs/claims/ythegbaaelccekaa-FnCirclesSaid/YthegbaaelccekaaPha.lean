/-
  How often a quarter is taken off a number of turns: at most sixteen times; and what is narrowed then is small. Condition: the number is at most 4.
-/
import Derived.Test.YthegbaaelccekaaSic
namespace Go.Proofs.Ythegbaaelccekaa
open Go.RowKit Ieee
attribute [local irreducible] mg

/-- At most k quarters, if it is a number. -/
def Up (k : Nat) (o : Option Nat) : Prop := ∀ b, o = some b → ∃ s m p, double.read b = .number s m p ∧ (s = false → mg m p ≤ mg k (-2)) ∧ mg m p ≤ mg 1 2

theorem Up.of_bd {o : Option Nat} (h : Bd 2 o) : Up 16 o := by
  intro b hb
  obtain ⟨s, m, p, h1, h2⟩ := h b hb
  refine ⟨s, m, p, h1, fun _ => ?_, h2⟩
  have e : mg 1 2 = mg 16 (-2) := by decide +kernel
  rw [← e]; exact h2

theorem Up.bd {k : Nat} {o : Option Nat} (h : Up k o) : Bd 2 o := fun b hb => let ⟨s, m, p, h1, _, h3⟩ := h b hb; ⟨s, m, p, h1, h3⟩

/-- A quarter. -/
def fq : Option Nat := fc 4598175219545276416
theorem fq_eq : fq = some 4598175219545276416 := by decide +kernel
theorem quarter_read : double.read 4598175219545276416 = .number false (2 ^ 52) (-54) := by decide +kernel
theorem quarter_mg : mg (2 ^ 52) (-54) = mg 1 (-2) := by decide +kernel

theorem Up.step {k : Nat} {o : Option Nat} (h : Up k o) (hk : k ≤ 16) (hg : fge o fq = true) : 1 ≤ k ∧ Up (k - 1) (fsub o fq) := by
  cases o with
  | none => exact absurd hg (by decide)
  | some b =>
    obtain ⟨s, m, i, hx, hm, _⟩ := h b rfl
    have bx := read_double hx
    have by' := read_double quarter_read
    rw [fq_eq] at hg ⊢
    have o1 : ford .f64 (some b) (some 4598175219545276416) = some (compare (sv s m i) (sv false (2 ^ 52) (-54))) := order_mg double hx quarter_read (by omega) (by decide)
    unfold fge at hg
    rw [o1, compare_int] at hg
    have hpos : 0 < mg (2 ^ 52) (-54) := mg_pos (by decide)
    have hs : s = false ∧ mg (2 ^ 52) (-54) ≤ mg m i := by
      unfold sv at hg
      generalize mg (2 ^ 52) (-54) = K at hg hpos
      generalize mg m i = M at hg
      cases s
      · refine ⟨rfl, ?_⟩
        simp only [Bool.false_eq_true, if_false] at hg
        apply Nat.le_of_not_lt
        intro hlt
        rw [if_pos (by omega)] at hg
        exact absurd hg (by decide)
      · simp only [if_true, Bool.false_eq_true, if_false] at hg
        rw [if_pos (by omega)] at hg
        exact absurd hg (by decide)
    obtain ⟨rfl, hge⟩ := hs
    have hle := hm rfl
    have h1k : 1 ≤ k := by
      rw [quarter_mg] at hge
      exact mg_le_iff.1 (Nat.le_trans hge hle)
    refine ⟨h1k, ?_⟩
    unfold fsub
    rw [fop_sub, hx, quarter_read]
    intro r hr
    simp only [Datum.opposite, Datum.sum, Option.map_some, Option.some.injEq] at hr
    subst hr
    have e1 : mg m i = mg (m <<< (i - min i (-54)).toNat) (min i (-54)) := by rw [Nat.shiftLeft_eq, ← mg_shift _ _ _ (by omega)]; congr 1; omega
    have e2 : mg (2 ^ 52) (-54) = mg ((2 ^ 52) <<< (-54 - min i (-54)).toNat) (min i (-54)) := by rw [Nat.shiftLeft_eq, ← mg_shift _ _ _ (by omega)]; congr 1; omega
    have hsum : mg (signed false m (i - min i (-54)).toNat + signed (!false) (2 ^ 52) (-54 - min i (-54)).toNat).natAbs (min i (-54)) ≤ mg (k - 1) (-2) := by
      have e3 : mg k (-2) = mg (k - 1) (-2) + mg 1 (-2) := by rw [mg_add]; congr 1; omega
      rw [e3, ← quarter_mg] at hle
      have hAB : ∀ A B : Nat, B ≤ A → (signed false A 0 + signed (!false) B 0).natAbs = A - B := by
        intro A B hAB
        simp only [signed, Bool.not_false, Bool.false_eq_true, if_false, if_true, Nat.shiftLeft_zero]
        omega
      have hsg : (signed false m (i - min i (-54)).toNat + signed (!false) (2 ^ 52) (-54 - min i (-54)).toNat) = signed false (m <<< (i - min i (-54)).toNat) 0 + signed (!false) ((2 ^ 52) <<< (-54 - min i (-54)).toNat) 0 := by
        simp only [signed, Nat.shiftLeft_zero]
      rw [hsg]
      rw [e1, e2] at hge
      have hBA := mg_le_iff.1 hge
      rw [hAB _ _ hBA]
      rw [e1, e2] at hle
      generalize m <<< (i - min i (-54)).toNat = A at hBA hle
      generalize (2 ^ 52) <<< (-54 - min i (-54)).toNat = B at hBA hle
      have e4 : mg A (min i (-54)) = mg (A - B) (min i (-54)) + mg B (min i (-54)) := by rw [mg_add]; congr 1; omega
      omega
    have hE : mg (signed false m (i - min i (-54)).toNat + signed (!false) (2 ^ 52) (-54 - min i (-54)).toNat).natAbs (min i (-54)) ≤ mg 1 2 := by
      refine Nat.le_trans hsum ?_
      have e : mg 1 2 = mg 16 (-2) := by decide +kernel
      rw [e]; exact mg_le_iff.2 (by omega)
    obtain ⟨m', p', g1, g2, _, g4, _⟩ := rnd (if signed false m (i - min i (-54)).toNat + signed (!false) (2 ^ 52) (-54 - min i (-54)).toNat = 0 then false && !false else decide (signed false m (i - min i (-54)).toNat + signed (!false) (2 ^ 52) (-54 - min i (-54)).toNat < 0)) _ (min i (-54)) 2 (by omega) (by omega) (by decide) hE
    exact ⟨_, m', p', g1, fun _ => g4 (k - 1) (-2) (by omega) (by decide) hsum, g2⟩

/-- Quarters taken off, one by one; how many. -/
def qLoop : Nat → Option Nat → Nat → Option Nat × Nat
  | 0, F, q => (F, q)
  | g + 1, F, q => if fge F fq = true then qLoop g (fsub F fq) (q + 1) else (F, q)
theorem qLoop_stop (g : Nat) (F : Option Nat) (q : Nat) (h : fge F fq = false) : qLoop g F q = (F, q) := by
  cases g with
  | zero => rfl
  | succ g => unfold qLoop; rw [h]; rfl
theorem qLoop_go (g : Nat) (F : Option Nat) (q : Nat) (h : fge F fq = true) : qLoop (g + 1) F q = qLoop g (fsub F fq) (q + 1) := by
  conv => lhs; unfold qLoop
  rw [if_pos h]

/-- Taken from nought a number is as far from it. -/
theorem Bd.from0 {E : Int} {o : Option Nat} (h : Bd E o) (hE : -1074 ≤ E) (hE2 : E < 1024) : Bd E (fsub (fc 0) o) := by
  have e0 : fc 0 = some 0 := by decide +kernel
  have r0 : ∃ i, double.read 0 = .number false 0 i := ⟨-1074, by decide +kernel⟩
  rw [e0]
  cases o with
  | none => exact Bd.none _
  | some y =>
    obtain ⟨i, hx⟩ := r0
    obtain ⟨t, n, j, hy, hn⟩ := h y rfl
    have bx := read_double hx
    have by' := read_double hy
    unfold fsub
    rw [fop_sub, hx, hy]
    intro r hr
    simp only [Datum.opposite, Datum.sum, Option.map_some, Option.some.injEq] at hr
    subst hr
    have hs := sum_mg false (!t) 0 n i j (by omega) (by omega)
    rw [mg_zero, Nat.zero_add] at hs
    obtain ⟨m', p', g1, g2, _⟩ := rnd (if signed false 0 (i - min i j).toNat + signed (!t) n (j - min i j).toNat = 0 then false && !t else decide (signed false 0 (i - min i j).toNat + signed (!t) n (j - min i j).toNat < 0)) _ (min i j) E (by omega) (by omega) hE2 (Nat.le_trans hs hn)
    exact ⟨_, m', p', g1, g2⟩

theorem isSome_sub {E1 E2 : Int} {a b : Option Nat} (ha : Bd E1 a) (hb : Bd E2 b) (sa : a.isSome = true) (sb : b.isSome = true) : (fsub a b).isSome = true := by
  obtain ⟨x, rfl⟩ := Option.isSome_iff_exists.1 sa
  obtain ⟨y, rfl⟩ := Option.isSome_iff_exists.1 sb
  obtain ⟨s, m, i, hx, _⟩ := ha x rfl
  obtain ⟨t, n, j, hy, _⟩ := hb y rfl
  unfold fsub
  rw [fop_sub, hx, hy]; rfl
theorem isSome_add {E1 E2 : Int} {a b : Option Nat} (ha : Bd E1 a) (hb : Bd E2 b) (sa : a.isSome = true) (sb : b.isSome = true) : (fadd a b).isSome = true := by
  obtain ⟨x, rfl⟩ := Option.isSome_iff_exists.1 sa
  obtain ⟨y, rfl⟩ := Option.isSome_iff_exists.1 sb
  obtain ⟨s, m, i, hx, _⟩ := ha x rfl
  obtain ⟨t, n, j, hy, _⟩ := hb y rfl
  unfold fadd
  rw [fop_add, hx, hy]; rfl
theorem fracF_some {b : Nat} {n : Int} (h : Bd 52 (some b)) (hn : toi (some b) = some n) : (fracF (some b) n).isSome = true := by
  obtain ⟨n', s, m, p, h1, h2, h3, h4, h5, h6⟩ := toi_some h
  rw [hn] at h1
  injection h1 with h1
  subst h1
  have hi : Bd 52 (some (floatOfInt .f64 n)) := Bd.ofInt (k := 52) h4 (by decide)
  have hs := isSome_sub h hi rfl rfl
  unfold fracF
  split
  · exact isSome_add (E1 := 53) (E2 := 1) (Bd.sub h hi (by decide) (by decide) (by decide) (by decide)) (Bd.closed (by decide +kernel)) hs (by decide +kernel)
  · exact hs

/-- The sine of a small number, as the program reckons it. -/
theorem sineW_small {o : Option Nat} (h : Bd 3 o) (hs : o.isSome = true) : ∃ m, toi o = some m ∧ sineW o = sineF (fracF o m) := by
  obtain ⟨b, rfl⟩ := Option.isSome_iff_exists.1 hs
  obtain ⟨n, _, _, _, hn, _⟩ := toi_some (h.mono (by decide) : Bd 52 (some b))
  refine ⟨n, hn, ?_⟩
  obtain ⟨s, m, p, hr, hm⟩ := h b rfl
  have bx := read_double hr
  have c1 : fc 4841369599423283200 = some 4841369599423283200 := by decide +kernel
  have c2 : fc 14064741636278059008 = some 14064741636278059008 := by decide +kernel
  have r1 : double.read 4841369599423283200 = .number false (2 ^ 52) 0 := by decide +kernel
  have r2 : double.read 14064741636278059008 = .number true (2 ^ 52) 0 := by decide +kernel
  have o1 : ford .f64 (some b) (some 4841369599423283200) = some (compare (sv s m p) (sv false (2 ^ 52) 0)) := order_mg double hr r1 (by omega) (by decide)
  have o2 : ford .f64 (some b) (some 14064741636278059008) = some (compare (sv s m p) (sv true (2 ^ 52) 0)) := order_mg double hr r2 (by omega) (by decide)
  have hb : mg 1 3 < mg (2 ^ 52) 0 := by decide +kernel
  have hnan : (double.read b).isNaN = false := by rw [hr]; rfl
  have f1 : finW (some b) = true := by rw [finW_some b hnan, hr]; rfl
  have f2 : fge (some b) (fc 4841369599423283200) = false := by
    unfold fge
    rw [c1, o1, compare_int]
    unfold sv
    generalize mg (2 ^ 52) 0 = K at hb ⊢
    generalize mg m p = M at hm ⊢
    generalize mg 1 3 = J at hb hm
    cases s <;> simp only [Bool.false_eq_true, if_true, if_false] <;> rw [if_pos (by omega)] <;> decide
  have f3 : fle (some b) (fc 14064741636278059008) = false := by
    unfold fle
    rw [c2, o2, compare_int]
    unfold sv
    generalize mg (2 ^ 52) 0 = K at hb ⊢
    generalize mg m p = M at hm ⊢
    generalize mg 1 3 = J at hb hm
    cases s <;> simp only [Bool.false_eq_true, if_true, if_false] <;> rw [if_neg (by omega), if_neg (by omega)] <;> decide
  unfold sineW
  rw [if_neg (by rw [f1]; decide), if_neg (by rw [f2, f3]; decide), hn]
  rfl
end Go.Proofs.Ythegbaaelccekaa
