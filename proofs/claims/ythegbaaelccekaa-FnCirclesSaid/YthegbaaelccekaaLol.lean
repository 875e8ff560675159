/-
  The law FnExactLogNumber: the program and the reference, from their contracts. Condition: bits fit the kind.
-/
import Derived.Test.YthegbaaelccekaaLow
import Derived.Test.YthegbaaelccekaaBf
namespace Go.Proofs.Ythegbaaelccekaa
open Go.RowKit Ieee
attribute [local irreducible] mg

/-! ### Bounds -/
theorem Px.nn {lo hi : Int} {x : Option Nat} (h : Px lo hi x) : Nn hi x := by
  obtain ⟨b, m, p, rfl, hr, _, h2⟩ := h
  intro c hc
  cases hc
  exact ⟨false, m, p, hr, (fun h => by cases h), h2⟩

theorem fadd_comm (a b : Option Nat) : fadd a b = fadd b a := by
  cases a with
  | none => cases b <;> rfl
  | some x =>
  cases b with
  | none => rfl
  | some y =>
    unfold fadd
    rw [fop_add, fop_add]
    congr 1
    cases double.read x <;> cases double.read y <;> simp only [Datum.sum]
    · rename_i s m i t n j
      rw [Int.min_comm i j, Int.add_comm, Bool.and_comm]
    · rename_i s t
      by_cases h : s = t
      · subst h; rfl
      · rw [if_neg h, if_neg (fun e => h e.symm)]

/-- One less than a number from 0 to 2: at most 1 away from nought. -/
theorem sub_one_bd {lo : Int} {x : Option Nat} (h : Px lo 1 x) : Bd 0 (fsub x (fc 4607182418800017408)) := by
  obtain ⟨b, m, p, rfl, hr, _, h2⟩ := h
  have bx := read_double hr
  rw [fc_one]
  unfold fsub
  rw [fop_sub, hr, one_read]
  intro r hr2
  simp only [Datum.opposite, Datum.sum, Option.map_some, Option.some.injEq, Bool.not_false] at hr2
  subst hr2
  have e1 : mg m p = mg (m <<< (p - min p (-52)).toNat) (min p (-52)) := by rw [Nat.shiftLeft_eq, ← mg_shift _ _ _ (by omega)]; congr 1; omega
  have e2 : mg (2 ^ 52) (-52) = mg ((2 ^ 52) <<< (-52 - min p (-52)).toNat) (min p (-52)) := by rw [Nat.shiftLeft_eq, ← mg_shift _ _ _ (by omega)]; congr 1; omega
  have hle : mg (signed false m (p - min p (-52)).toNat + signed true (2 ^ 52) (-52 - min p (-52)).toNat).natAbs (min p (-52)) ≤ mg 1 0 := by
    have e4 := mg_half 1 1 (by decide)
    rw [show (1 : Int) - 1 = 0 by decide, ← mg_1, e2, mg_add] at e4
    rw [e1, e4, mg_le_iff] at h2
    rw [← mg_1, e2, mg_le_iff]
    unfold signed
    simp only [Bool.false_eq_true, if_true, if_false]
    generalize m <<< (p - min p (-52)).toNat = A at h2 ⊢
    generalize (2 ^ 52) <<< (-52 - min p (-52)).toNat = B at h2 ⊢
    omega
  obtain ⟨m', p', k1, k2, _⟩ := rnd (if signed false m (p - min p (-52)).toNat + signed true (2 ^ 52) (-52 - min p (-52)).toNat = 0 then false && true else decide (signed false m (p - min p (-52)).toNat + signed true (2 ^ 52) (-52 - min p (-52)).toNat < 0)) _ (min p (-52)) 0 (by omega) (by decide) (by decide) hle
  exact ⟨_, m', p', k1, k2⟩

theorem qA_step {u : Option Nat} {j : Nat} {E : Int} (hu : Bd 2 u) (hp : Bd E (qA u j)) (hj : j < 13) (h1 : 1 ≤ E) (h4 : E < 500) : Bd (E + 3) (qA u (j + 1)) := by
  have hk : ∀ j : Fin 13, chkBdO 1 (fquo (fc 4607182418800017408) (kL j)) = true := by decide +kernel
  have one : Bd 1 (fquo (fc 4607182418800017408) (kL j)) := Bd.closed (hk ⟨j, hj⟩)
  have a := Bd.mul hu hp (E := 2 + E) (Int.le_refl _) (by decide) (by omega) (by omega) (by omega)
  exact one.add a (by omega) (by omega) (by omega) (by omega)
theorem qA_bd {u : Option Nat} (hu : Bd 2 u) : Bd 40 (qA u 13) := by
  have p0 : Bd 1 (qA u 0) := (Bd.closed (by decide +kernel) : Bd 1 (fc 0))
  have p1 := qA_step hu p0 (by decide) (by decide) (by decide)
  have p2 := qA_step hu p1 (by decide) (by decide) (by decide)
  have p3 := qA_step hu p2 (by decide) (by decide) (by decide)
  have p4 := qA_step hu p3 (by decide) (by decide) (by decide)
  have p5 := qA_step hu p4 (by decide) (by decide) (by decide)
  have p6 := qA_step hu p5 (by decide) (by decide) (by decide)
  have p7 := qA_step hu p6 (by decide) (by decide) (by decide)
  have p8 := qA_step hu p7 (by decide) (by decide) (by decide)
  have p9 := qA_step hu p8 (by decide) (by decide) (by decide)
  have p10 := qA_step hu p9 (by decide) (by decide) (by decide)
  have p11 := qA_step hu p10 (by decide) (by decide) (by decide)
  have p12 := qA_step hu p11 (by decide) (by decide) (by decide)
  have p13 := qA_step hu p12 (by decide) (by decide) (by decide)
  exact p13.mono (by decide)

theorem logG_bd {z : Option Nat} {e : Int} (hz : Px (-1) 1 z) (he : e.natAbs ≤ 2 ^ 9) : Bd 44 (logG z e) := by
  have h1 := sub_one_bd hz
  have one : Nn 1 (fc 4607182418800017408) := Nn.const (b := 4607182418800017408) (by decide +kernel) (by decide +kernel)
  have lone : Lb 0 (fc 4607182418800017408) := Lb.closed (by decide +kernel)
  have h2 : Lb 0 (fadd z (fc 4607182418800017408)) := by
    rw [fadd_comm]
    exact (one.add hz.nn (E := 2) (by decide) (by decide) (by decide) (by decide)).2 0 (by decide) lone
  have hs : Bd 1 (sL z) := h1.div h2 (by decide) (by decide) (by decide) (by decide) (by decide)
  have hu : Bd 2 (fmul (sL z) (sL z)) := hs.mul hs (by decide) (by decide) (by decide) (by decide) (by decide)
  have hq := hs.mul (qA_bd hu) (E := 41) (by decide) (by decide) (by decide) (by decide) (by decide)
  have two : Bd 2 (fc 4611686018427387904) := Bd.closed (by decide +kernel)
  have h3 := two.mul hq (E := 43) (by decide) (by decide) (by decide) (by decide) (by decide)
  have ln : Bd 0 (fc 4604418534313441775) := Bd.closed (by decide +kernel)
  have h4 : Bd 9 (some (floatOfInt .f64 e)) := Bd.ofInt (k := 9) he (by decide)
  have h5 := h4.mul ln (E := 9) (by decide) (by decide) (by decide) (by decide) (by decide)
  exact h3.add h5 (by decide) (by decide) (by decide) (by decide)

theorem numH_le (x : Option Nat) : ∀ g, numH x g ≤ g := by
  intro g
  induction g generalizing x with
  | zero => exact Nat.le_refl _
  | succ g ih => rw [numH]; split
                 · have := ih (fquo x (fc 4611686018427387904)); omega
                 · omega
theorem numD_le (x : Option Nat) : ∀ g, numD x g ≤ g := by
  intro g
  induction g generalizing x with
  | zero => exact Nat.le_refl _
  | succ g ih => rw [numD]; split
                 · have := ih (fmul x (fc 4611686018427387904)); omega
                 · omega

theorem Px.fv {lo hi : Int} {x : Option Nat} (h : Px lo hi x) : ∃ b, x = some b ∧ fv .f64 b = x := by
  obtain ⟨b, m, p, rfl, hr, _, _⟩ := h
  exact ⟨b, rfl, fv_some (by show (Ieee.double.read b).isNaN = false; rw [hr]; rfl)⟩

theorem RelH.run {X : Option Nat} : ∀ g j xb eb, RelH X g j xb eb → Px (-149) 1 (x1L X) ∧ numH X 128 ≤ 128 := by
  intro g
  induction g with
  | zero =>
    intro j xb eb h
    cases hc : fge (_root_.Go.Proofs.Ythegbaaelccekaa.fv .f64 xb) (fc 4609434218613702656)
    · have := h.done hc; exact ⟨this.2.2.1, this.2.2.2⟩
    · exact absurd (h.step hc).1 (by decide)
  | succ g ih =>
    intro j xb eb h
    cases hc : fge (_root_.Go.Proofs.Ythegbaaelccekaa.fv .f64 xb) (fc 4609434218613702656)
    · have := h.done hc; exact ⟨this.2.2.1, this.2.2.2⟩
    · obtain ⟨_, hs⟩ := h.step hc
      obtain ⟨_, hp⟩ := h.2.1.half hc (by decide) (by decide) (by have := h.2.2.2.2; omega)
      obtain ⟨b, hb, hfb⟩ := hp.fv
      exact ih (j + 1) b (floatOfInt .f64 ((j : Int) + 1)) (hs b _ hfb (by rw [fv_ofInt, h.2.2.1, count_up' _ (by omega) (by have := h.2.2.2.2; omega)]))
theorem RelD.run {X : Option Nat} {J : Nat} : ∀ g j xb eb, RelD X J g j xb eb → Px (-1) 1 (itD X (numD X 149)) ∧ numD X 149 ≤ 149 := by
  intro g
  induction g with
  | zero =>
    intro j xb eb h
    cases hc : flt (_root_.Go.Proofs.Ythegbaaelccekaa.fv .f64 xb) (fc 4604930618986332160)
    · have := h.done hc; exact ⟨this.2.2.1, this.2.2.2⟩
    · exact absurd (h.step hc).1 (by decide)
  | succ g ih =>
    intro j xb eb h
    cases hc : flt (_root_.Go.Proofs.Ythegbaaelccekaa.fv .f64 xb) (fc 4604930618986332160)
    · have := h.done hc; exact ⟨this.2.2.1, this.2.2.2⟩
    · obtain ⟨_, hs⟩ := h.step hc
      have h5 := h.2.2.2.2.1
      have h6 := h.2.2.2.2.2
      obtain ⟨_, hp⟩ := h.2.1.twice hc (by omega) (by decide) (by decide)
      obtain ⟨b, hb, hfb⟩ := hp.fv
      exact ih (j + 1) b (floatOfInt .f64 ((J : Int) - j - 1)) (hs b _ hfb (by rw [fv_ofInt, h.2.2.1, count_down' _ (by omega) (by omega)]))

theorem logF_facts {X : Option Nat} (h : Px (-149) 128 X) : Px (-1) 1 (x2L X) ∧ numH X 128 ≤ 128 ∧ numD (x1L X) 149 ≤ 149 := by
  obtain ⟨b, _, hb⟩ := h.fv
  obtain ⟨p1, p2⟩ := RelH.run 128 0 b (floatOfInt .f64 0) ⟨hb, by rw [hb]; exact h, fv_ofInt _, by rw [hb]; rfl, rfl⟩
  obtain ⟨c, _, hc⟩ := p1.fv
  obtain ⟨q1, q2⟩ := RelD.run (J := numH X 128) 149 0 c (floatOfInt .f64 ((numH X 128 : Int) - (0 : Nat))) ⟨hc, by rw [hc]; exact p1, fv_ofInt _, by rw [hc]; rfl, rfl, p2⟩
  exact ⟨q1, p2, q2⟩
theorem logF_bd {X : Option Nat} (h : Px (-149) 128 X) : Bd 44 (logF X) := by
  obtain ⟨h1, h2, h3⟩ := logF_facts h
  exact logG_bd h1 (by
    have : (2 : Nat) ^ 9 = 512 := by decide
    omega)

/-! ### The reference and the program -/
/-- The logarithm of a float32. -/
def logB (x : Nat) : Option Nat := nar (logW (wid (fv .f32 x)))

theorem pos_px (x : Nat) (h0 : (wid (fv .f32 x)).isNone = false) (h1 : flt (wid (fv .f32 x)) (fc 0) = false) (h2 : feq (wid (fv .f32 x)) (fc 0) = false) (h3 : fgt (wid (fv .f32 x)) (fc 9218868437227405311) = false) : Px (-149) 128 (wid (fv .f32 x)) := by
  rcases fv_cases .f32 x with ⟨a1, _, _⟩ | ⟨a1, hn, _⟩
  · rw [a1] at h0; cases h0
  · rw [a1] at h1 h2 h3 ⊢
    have hn' : (single.read x).isNaN = false := hn
    have e : ∀ d, single.read x = d → wid (some x) = some (double.write d) := fun d hd => by show some (double.write (single.read x)) = _; rw [hd]
    cases hd : single.read x with
    | nan s t => rw [hd] at hn'; cases hn'
    | infinity s =>
      rw [e _ hd] at h1 h3
      exfalso
      cases s
      · exact absurd h3 (by decide +kernel)
      · exact absurd h1 (by decide +kernel)
    | number s m p =>
      obtain ⟨m', p', k1, k2, k3⟩ := wide_read hd
      have hb := read_single hd
      have z1 : fc 0 = some 0 := by decide +kernel
      have z2 : double.read 0 = .number false 0 (-1074) := by decide +kernel
      rw [e _ hd, z1] at h1 h2
      have o : ford .f64 (some (double.write (.number s m p))) (some 0) = some (compare (sv s m' p') (sv false 0 (-1074))) := order_mg double k1 z2 (by omega) (by decide)
      unfold flt at h1
      unfold feq at h2
      rw [o, compare_int] at h1 h2
      unfold sv at h1 h2
      rw [mg_zero] at h1 h2
      have hpos : s = false ∧ 0 < mg m' p' := by
        generalize mg m' p' = M at h1 h2 ⊢
        cases s
        · simp only [Bool.false_eq_true, if_false] at h1 h2
          refine ⟨rfl, Nat.pos_of_ne_zero fun h => ?_⟩
          subst h
          exact absurd h2 (by decide)
        · simp only [if_true, Bool.false_eq_true, if_false] at h1 h2
          exfalso
          by_cases hM : M = 0
          · subst hM; exact absurd h2 (by decide)
          · rw [if_pos (by omega)] at h1; exact absurd h1 (by decide)
      obtain ⟨rfl, hpos⟩ := hpos
      rw [e _ hd]
      refine ⟨_, m', p', rfl, k1, ?_, ?_⟩
      · rw [k2] at hpos ⊢
        have hm : 0 < m := by
          rcases Nat.eq_zero_or_pos m with h | h
          · rw [h, mg_zero] at hpos; omega
          · exact h
        refine Nat.le_trans (mg_one_le (q := p) (by omega)) ((mg_le_iff (p := p)).2 hm)
      · rw [k2]
        exact Nat.le_of_lt (mg_lt_top hb.1 (by omega) (by show p + ((24 : Nat) : Int) ≤ 128; omega))

/-- Beyond the greatest number there is but an infinity. -/
theorem gt_max (x : Nat) (h3 : fgt (wid (fv .f32 x)) (fc 9218868437227405311) = true) : fv .f32 x = some x ∧ single.read x = .infinity false := by
  rcases fv_cases .f32 x with ⟨a1, _, _⟩ | ⟨a1, hn, _⟩
  · rw [a1] at h3; cases h3
  · rw [a1] at h3
    refine ⟨a1, ?_⟩
    have hn' : (single.read x).isNaN = false := hn
    have e : ∀ d, single.read x = d → wid (some x) = some (double.write d) := fun d hd => by show some (double.write (single.read x)) = _; rw [hd]
    cases hd : single.read x with
    | nan s t => rw [hd] at hn'; cases hn'
    | infinity s =>
      rw [e _ hd] at h3
      cases s
      · rfl
      · exact absurd h3 (by decide +kernel)
    | number s m p =>
      obtain ⟨m', p', k1, k2, k3⟩ := wide_read hd
      have hb := read_single hd
      exfalso
      have z1 : fc 9218868437227405311 = some 9218868437227405311 := by decide +kernel
      have z2 : double.read 9218868437227405311 = .number false (2 ^ 53 - 1) 971 := by decide +kernel
      rw [e _ hd, z1] at h3
      have o : ford .f64 (some (double.write (.number s m p))) (some 9218868437227405311) = some (compare (sv s m' p') (sv false (2 ^ 53 - 1) 971)) := order_mg double k1 z2 (by omega) (by decide)
      unfold fgt at h3
      rw [o, compare_int] at h3
      have l1 : mg m' p' < mg (2 ^ 53 - 1) 971 := by
        rw [k2]
        refine Nat.lt_of_lt_of_le (mg_lt_top hb.1 (by omega) (by show p + ((24 : Nat) : Int) ≤ 971; omega)) ((mg_le_iff (p := 971)).2 (by decide))
      unfold sv at h3
      generalize mg m' p' = M at h3 l1
      generalize mg (2 ^ 53 - 1) 971 = K at h3 l1
      cases s
      · simp only [Bool.false_eq_true, if_false] at h3
        rw [if_pos (by omega)] at h3
        exact absurd h3 (by decide)
      · simp only [Bool.false_eq_true, if_true, if_false] at h3
        rw [if_pos (by omega)] at h3
        exact absurd h3 (by decide)

theorem logW_big (x : Nat) : big (logW (wid (fv .f32 x))) = false := by
  unfold logW
  split
  · rfl
  · rename_i h0
    have h0' : (wid (fv .f32 x)).isNone = false ∧ flt (wid (fv .f32 x)) (fc 0) = false := ⟨Bool.eq_false_iff.2 (not_or.1 h0).1, Bool.eq_false_iff.2 (not_or.1 h0).2⟩
    split
    · decide +kernel
    · rename_i h2
      have h2' : feq (wid (fv .f32 x)) (fc 0) = false := by simpa using h2
      split
      · rename_i h3
        obtain ⟨a1, hd⟩ := gt_max x h3
        rw [a1, show wid (some x) = some (double.write (.infinity false)) by show some (double.write (single.read x)) = _; rw [hd]]
        decide +kernel
      · rename_i h3
        have h3' : fgt (wid (fv .f32 x)) (fc 9218868437227405311) = false := by simpa using h3
        exact big_of_Bd (logF_bd (pos_px x h0'.1 h0'.2 h2' h3')) (by decide) (by decide)

theorem inf_bits (x : Nat) (hx : x < 4294967296) (h : single.read x = .infinity false) : x = 2139095040 := by
  have e1 : single.binade = 8388608 := by decide
  have e2 : single.signWeight = 2147483648 := by decide
  have e3 : single.infRung = 2139095040 := by decide
  unfold Format.read at h
  simp only [e1, e2, e3] at h
  split at h
  · cases h
  · split at h
    · cases h
    · split at h
      · rename_i h1
        injection h with h2
        have h3 : ¬ x / 2147483648 % 2 = 1 := by simpa using h2
        omega
      · cases h

theorem lt32_zero (x : Nat) : (FloatKind.f32.format.order x 0 == some .lt) = flt (wid (fv .f32 x)) (fc 0) := by
  have e : fc 0 = wid (fv .f32 0) := by decide +kernel
  unfold flt
  rw [e, ford_wid _ _ (fv_isNum .f32 x) (fv_isNum .f32 _), ← order_ford]
theorem eq32_zero (x : Nat) : (FloatKind.f32.format.order x 0 == some .eq) = feq (wid (fv .f32 x)) (fc 0) := by
  have e : fc 0 = wid (fv .f32 0) := by decide +kernel
  unfold feq
  rw [e, ford_wid _ _ (fv_isNum .f32 x) (fv_isNum .f32 _), ← order_ford]
theorem nval_none (b : Nat) (w : World) (h : fv .f64 b = none) : fv .f32 (nval b w) = none := by
  rw [fv_nval b w (by rw [h]; rfl), h]; rfl

end Go.Proofs.Ythegbaaelccekaa
