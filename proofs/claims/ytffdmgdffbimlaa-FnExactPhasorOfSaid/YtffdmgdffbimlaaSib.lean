/-
  Sines: bounds, the reference's walk, and the law FnExactSineTurns. Condition: bits fit the kind.
-/
import Derived.Test.YtffdmgdffbimlaaSin
import Derived.Test.YtffdmgdffbimlaaLa
import Derived.Test.YtffdmgdffbimlaaBf
namespace Go.Proofs.Ytffdmgdffbimlaa
open Go.RowKit Ieee

/-! ### Bounds -/
theorem fracF_bd {x : Option Nat} {n : Int} (h : Bd 52 x) (hn : toi x = some n) : Bd 2 (fracF x n) := by
  cases x with
  | none => cases hn
  | some b =>
    have h0 := frac_bd h hn
    unfold fracF
    split
    · exact h0.add (Bd.closed (E := 1) (by decide +kernel)) (by decide) (by decide) (by decide) (by decide)
    · exact h0.mono (by decide)

theorem pA_step {u : Option Nat} {j : Nat} {E F E' : Int} (hu : Bd 14 u) (hp : Bd E (pA u j)) (hc : Lb F (fmul (fmul (fc 4611686018427387904) (kA j)) (fadd (fmul (fc 4611686018427387904) (kA j)) (fc 4607182418800017408))))
    (h1 : 1 < E') (h2 : E + 15 < E' + F) (h3 : 0 ≤ E) (h4 : E' < 500) (h5 : 0 ≤ F) (h6 : F ≤ E) (h7 : E < 500) : Bd E' (pA u (j + 1)) := by
  have a := Bd.mul hu hp (E := 14 + E) (Int.le_refl _) (by decide) (by omega) (by omega) (by omega)
  have b := Bd.div a hc (E := 15 + E - F) (by omega) (by omega) (by omega) (by omega) (by omega)
  have one : Bd 1 (fc 4607182418800017408) := Bd.closed (by decide +kernel)
  exact one.sub b h1 (by omega) (by omega) (by omega)

theorem pA_bd {u : Option Nat} (hu : Bd 14 u) : Bd 120 (pA u 8) := by
  have p0 : Bd 8 (pA u 0) := (Bd.closed (by decide +kernel) : Bd 8 (fc 4607182418800017408))
  have p1 : Bd 16 (pA u 1) := pA_step hu p0 (F := 8) (Lb.closed (by decide +kernel)) (by decide) (by decide) (by decide) (by decide) (by decide) (by decide) (by decide)
  have p2 : Bd 25 (pA u 2) := pA_step hu p1 (F := 7) (Lb.closed (by decide +kernel)) (by decide) (by decide) (by decide) (by decide) (by decide) (by decide) (by decide)
  have p3 : Bd 34 (pA u 3) := pA_step hu p2 (F := 7) (Lb.closed (by decide +kernel)) (by decide) (by decide) (by decide) (by decide) (by decide) (by decide) (by decide)
  have p4 : Bd 44 (pA u 4) := pA_step hu p3 (F := 6) (Lb.closed (by decide +kernel)) (by decide) (by decide) (by decide) (by decide) (by decide) (by decide) (by decide)
  have p5 : Bd 54 (pA u 5) := pA_step hu p4 (F := 6) (Lb.closed (by decide +kernel)) (by decide) (by decide) (by decide) (by decide) (by decide) (by decide) (by decide)
  have p6 : Bd 65 (pA u 6) := pA_step hu p5 (F := 5) (Lb.closed (by decide +kernel)) (by decide) (by decide) (by decide) (by decide) (by decide) (by decide) (by decide)
  have p7 : Bd 77 (pA u 7) := pA_step hu p6 (F := 4) (Lb.closed (by decide +kernel)) (by decide) (by decide) (by decide) (by decide) (by decide) (by decide) (by decide)
  have p8 : Bd 91 (pA u 8) := pA_step hu p7 (F := 2) (Lb.closed (by decide +kernel)) (by decide) (by decide) (by decide) (by decide) (by decide) (by decide) (by decide)
  exact p8.mono (by decide)

theorem neg_read_flip (b : Nat) {s : Bool} {m : Nat} {p : Int} (h : double.read b = .number s m p) : ∃ s', double.read (Op.negFloat .f64 b) = .number s' m p := by
  have e : (b ^^^ 2 ^ 63) % double.signWeight = b % double.signWeight := by
    rw [show double.signWeight = 2 ^ 63 from rfl]
    apply Nat.eq_of_testBit_eq
    intro i
    rw [Nat.testBit_mod_two_pow, Nat.testBit_mod_two_pow, Nat.testBit_xor, Nat.testBit_two_pow]
    by_cases hi : i < 63
    · have : ¬ 63 = i := by omega
      simp [hi, this]
    · simp [hi]
  have e2 : Op.negFloat .f64 b = b ^^^ 2 ^ 63 := rfl
  rw [e2]
  unfold Format.read at h ⊢
  simp only [e] at h ⊢
  split at h
  · rename_i h1
    rw [if_pos h1]
    injection h with _ h2 h3
    exact ⟨_, by rw [h2, h3]⟩
  · rename_i h1
    rw [if_neg h1]
    split at h
    · rename_i h2
      rw [if_pos h2]
      injection h with _ h3 h4
      exact ⟨_, by rw [h3, h4]⟩
    · split at h <;> cases h
theorem Bd.neg {E : Int} {o : Option Nat} (h : Bd E o) : Bd E (fneg o) := by
  cases o with
  | none => exact Bd.none _
  | some b =>
    obtain ⟨s, m, p, h1, h2⟩ := h b rfl
    obtain ⟨s', h3⟩ := neg_read_flip b h1
    intro c hc
    cases hc
    exact ⟨s', m, p, h3, h2⟩

theorem sineF_bd {f : Option Nat} (h : Bd 2 f) : Bd 127 (sineF f) := by
  have hz : ∀ t1 t2, Bd 7 (zF f t1 t2) := by
    intro t1 t2
    have half : Bd 0 (fc 4602678819172646912) := Bd.closed (by decide +kernel)
    have tau : Bd 3 (fc 4618760256179416344) := Bd.closed (by decide +kernel)
    have h1 : Bd 3 (if t1 = true then fsub f (fc 4602678819172646912) else f) := by
      split
      · exact h.sub half (by decide) (by decide) (by decide) (by decide)
      · exact h.mono (by decide)
    have h2 : Bd 4 (if t2 = true then fsub (fc 4602678819172646912) (if t1 = true then fsub f (fc 4602678819172646912) else f) else (if t1 = true then fsub f (fc 4602678819172646912) else f)) := by
      split
      · exact half.sub h1 (by decide) (by decide) (by decide) (by decide)
      · exact h1.mono (by decide)
    exact h2.mul tau (by decide) (by decide) (by decide) (by decide) (by decide)
  rw [sineF_of f _ _ rfl rfl]
  generalize hz' : zF f _ _ = z
  have hz0 : Bd 7 z := by rw [← hz']; exact hz _ _
  have hu : Bd 14 (fmul z z) := hz0.mul hz0 (by decide) (by decide) (by decide) (by decide) (by decide)
  have hr := hz0.mul (pA_bd hu) (E := 127) (by decide) (by decide) (by decide) (by decide) (by decide)
  split
  · exact hr.neg
  · exact hr

/-! ### The reference -/
/-- The sine of some turns. -/
def sineW (x : Option Nat) : Option Nat :=
  if finW x = false then none else
  if (fge x (fc 4841369599423283200) || fle x (fc 14064741636278059008)) = true then fc 0 else sineF (fracF x ((toi x).getD 0))

theorem small_bd {x : Option Nat} (h1 : finW x = true) (h2 : fge x (fc 4841369599423283200) = false) (h3 : fle x (fc 14064741636278059008) = false) (hx : ∀ b, x = some b → (double.read b).isNaN = false) : Bd 52 x := by
  intro b hb
  subst hb
  have hn := hx b rfl
  rw [finW_some b hn] at h1
  unfold isNum at h1
  split at h1
  · rename_i s m p hr
    have bx := read_double hr
    have c1 : fc 4841369599423283200 = some 4841369599423283200 := by decide +kernel
    have c2 : fc 14064741636278059008 = some 14064741636278059008 := by decide +kernel
    have r1 : double.read 4841369599423283200 = .number false (2 ^ 52) 0 := by decide +kernel
    have r2 : double.read 14064741636278059008 = .number true (2 ^ 52) 0 := by decide +kernel
    rw [c1] at h2
    rw [c2] at h3
    have o1 : ford .f64 (some b) (some 4841369599423283200) = some (compare (sv s m p) (sv false (2 ^ 52) 0)) := order_mg double hr r1 (by omega) (by decide)
    have o2 : ford .f64 (some b) (some 14064741636278059008) = some (compare (sv s m p) (sv true (2 ^ 52) 0)) := order_mg double hr r2 (by omega) (by decide)
    unfold fge at h2
    unfold fle at h3
    rw [o1, compare_int] at h2
    rw [o2, compare_int] at h3
    refine ⟨s, m, p, hr, ?_⟩
    rw [show (52 : Int) = 0 + ((52 : Nat) : Int) by decide, ← mg_two_pow 52 0 (by decide)]
    unfold sv at h2 h3
    generalize mg (2 ^ 52) 0 = K at h2 h3 ⊢
    generalize mg m p = M at h2 h3 ⊢
    apply Nat.le_of_not_lt
    intro hlt
    cases s
    · simp only [Bool.false_eq_true, if_false] at h2
      rw [if_neg (by omega)] at h2
      split at h2 <;> exact absurd h2 (by decide)
    · simp only [if_true] at h3
      rw [if_pos (by omega)] at h3
      exact absurd h3 (by decide)
  · cases h1

theorem fv_read (x : Nat) : ∀ b, fv .f64 x = some b → (double.read b).isNaN = false := fv_isNum .f64 x

theorem sine_testsG {ι : Type} (g : ι → Nat) (F : Option Nat) (hg : ∀ i, fv .f64 (g i) = F) : ∃ t1 t2 : Bool, fge F (fc 4602678819172646912) = t1 ∧ fgt (if t1 = true then fsub F (fc 4602678819172646912) else F) (fc 4598175219545276416) = t2 ∧
    (∀ i, (FloatKind.f64.format.order (g i) 4602678819172646912 == some .gt || FloatKind.f64.format.order (g i) 4602678819172646912 == some .eq) = t1) ∧
    (t1 = true → ∀ i w, (FloatKind.f64.format.order (fval .sub .f64 (g i) 4602678819172646912 w) 4598175219545276416 == some .gt) = t2) ∧
    (t1 = false → ∀ i, (FloatKind.f64.format.order (g i) 4598175219545276416 == some .gt) = t2) := by
  refine ⟨_, _, rfl, rfl, fun i => ?_, fun h i w => ?_, fun h i => ?_⟩
  · rw [ge_fge, hg]; rfl
  · rw [gt_fgt, fv_sub, hg, if_pos h]; rfl
  · rw [gt_fgt, hg, if_neg (by rw [h]; exact Bool.false_ne_true)]; rfl

theorem kA_lit (j : Nat) (n : Int) (h : (j = 0 ∧ n = 272) ∨ (j = 1 ∧ n = 210) ∨ (j = 2 ∧ n = 156) ∨ (j = 3 ∧ n = 110) ∨ (j = 4 ∧ n = 72) ∨ (j = 5 ∧ n = 42) ∨ (j = 6 ∧ n = 20) ∨ (j = 7 ∧ n = 6)) :
    fv .f64 (floatOfInt .f64 n) = fmul (fmul (fc 4611686018427387904) (kA j)) (fadd (fmul (fc 4611686018427387904) (kA j)) (fc 4607182418800017408)) := by
  rcases h with ⟨rfl, rfl⟩ | ⟨rfl, rfl⟩ | ⟨rfl, rfl⟩ | ⟨rfl, rfl⟩ | ⟨rfl, rfl⟩ | ⟨rfl, rfl⟩ | ⟨rfl, rfl⟩ | ⟨rfl, rfl⟩ <;> decide +kernel

set_option maxHeartbeats 4000000 in
theorem spec_l01SineWide (x : Nat) (w : World) : Calls Try.prog 31 #[.float .f64 x] w fun e w' => ∃ r m, e = .returned (.float .f64 r) ∧ fv .f64 r = sineW (fv .f64 x) ∧ w' = w.drewN m := by
  have hfin : ∀ w, (FloatKind.f64.format.order (fval .sub .f64 x x w) 0 != some .eq) = !finW (fv .f64 x) := by
    intro w; rw [order_ford, fv_fval]; rfl
  cases h1 : finW (fv .f64 x)
  · rw [h1] at hfin
    have hr : sineW (fv .f64 x) = none := by unfold sineW; rw [if_pos h1]
    have R := Lib.hid hr
    clear h1 hr
    simp only [Bool.not_false] at hfin
    go_enter Try.func31, Try.ntmps31
    go_wp2_with (go_at_call 23; refine (math_NaN _).mono ?_; rintro e w' ⟨rfl, rfl⟩)
    go_ret
    exact ⟨_, _, rfl, by rw [R.out]; decide +kernel, rfl⟩
  · rw [h1] at hfin
    simp only [Bool.not_true] at hfin
    have g1 := ge_fge x 4841369599423283200
    have g2 := le_fle x 14064741636278059008
    cases h2 : fge (fv .f64 x) (fc 4841369599423283200)
    · cases h3 : fle (fv .f64 x) (fc 14064741636278059008)
      · have hb := small_bd h1 h2 h3 (fv_read x)
        rw [show fv .f64 4841369599423283200 = fc 4841369599423283200 from rfl, h2] at g1
        rw [show fv .f64 14064741636278059008 = fc 14064741636278059008 from rfl, h3] at g2
        obtain ⟨n, hn⟩ : ∃ n, toi (fv .f64 x) = some n := by
          rcases hc : fv .f64 x with _ | b
          · rw [hc] at h1; cases h1
          · rw [hc] at hb
            obtain ⟨n, _, _, _, h, _⟩ := toi_some hb
            exact ⟨n, h⟩
        have hr : sineW (fv .f64 x) = sineF (fracF (fv .f64 x) n) := by
          unfold sineW
          rw [if_neg (by rw [h1]; decide), if_neg (by rw [h2, h3]; decide), hn]; rfl
        have R := Lib.hid hr
        have ht := fun w => tval_of x w hn
        clear h1 h2 h3 hr hb hn
        generalize hF0 : fracF (fv .f64 x) n = F0 at R
        have HF0 := Lib.hid hF0
        clear hF0
        have t0 : ∀ w, (FloatKind.f64.format.order (fval .sub .f64 x (floatOfInt .f64 n) w) 0 == some .lt) = flt (fsub (fv .f64 x) (some (floatOfInt .f64 n))) (fc 0) := by
          intro w; rw [lt_flt, fv_sub, fv_ofInt]; rfl
        cases hT0 : flt (fsub (fv .f64 x) (some (floatOfInt .f64 n))) (fc 0) <;> rw [hT0] at t0 <;> (have T0 := Lib.hid hT0) <;> clear hT0
        · obtain ⟨t1, t2, e1, e2, q1, q2, q3⟩ := sine_testsG (fun (i : World) => fval .sub .f64 x (floatOfInt .f64 n) i) F0 (fun i => by rw [← HF0.out]; unfold fracF; rw [T0.out]; rw [fv_sub, fv_ofInt, if_neg Bool.false_ne_true])
          have E := Lib.hid (sineF_of F0 t1 t2 e1 e2)
          have HF : Hid (F0 = fsub (fv .f64 x) (some (floatOfInt .f64 n))) := by rw [← HF0.out]; show _ = _; unfold fracF; rw [T0.out, if_neg Bool.false_ne_true]
          clear e1 e2
          have q1' := fun w1 => q1 w1
          clear q1
          cases t1 <;> cases t2
          case' false.false => have q := fun w1 => q3 rfl w1; have Z : Hid (zF F0 false false = fmul F0 (fc 4618760256179416344)) := rfl
          case' false.true => have q := fun w1 => q3 rfl w1; have Z : Hid (zF F0 false true = fmul (fsub (fc 4602678819172646912) F0) (fc 4618760256179416344)) := rfl
          case' true.false => have q := fun w1 => q2 rfl w1; have Z : Hid (zF F0 true false = fmul (fsub F0 (fc 4602678819172646912)) (fc 4618760256179416344)) := rfl
          case' true.true => have q := fun w1 => q2 rfl w1; have Z : Hid (zF F0 true true = fmul (fsub (fc 4602678819172646912) (fsub F0 (fc 4602678819172646912))) (fc 4618760256179416344)) := rfl
          all_goals
            clear q2 q3
            generalize zF F0 _ _ = Z0 at E Z
            go_enter Try.func31, Try.ntmps31
            go_wp2
            go_loopg [7, 8] 8 (fun g p k wr => ∃ (j pb m' : Nat) (kk : Int), g + j = 8 ∧ p = .float .f64 pb ∧ k = .int .i64 kk ∧ kk + j = 8 ∧ Hid (fv .f64 pb = pA (fmul Z0 Z0) j) ∧ wr = w.drewN m')
            case atStart => exact ⟨0, _, _, 8, rfl, rfl, rfl, rfl, rfl, rfl⟩
            case round =>
              obtain ⟨j, pb, m', kk, hj, rfl, rfl, hkk, hp, rfl⟩ := hrel
              by_cases hlt : j < 8
              · have hk : (kk = 8 ∧ j = 0) ∨ (kk = 7 ∧ j = 1) ∨ (kk = 6 ∧ j = 2) ∨ (kk = 5 ∧ j = 3) ∨ (kk = 4 ∧ j = 4) ∨ (kk = 3 ∧ j = 5) ∨ (kk = 2 ∧ j = 6) ∨ (kk = 1 ∧ j = 7) := by omega
                clear hkk hlt
                obtain ⟨jl, hjl⟩ : ∃ jl, Hid (jl = j + 1) := ⟨_, rfl⟩
                rcases hk with ⟨rfl, rfl⟩ | ⟨rfl, rfl⟩ | ⟨rfl, rfl⟩ | ⟨rfl, rfl⟩ | ⟨rfl, rfl⟩ | ⟨rfl, rfl⟩ | ⟨rfl, rfl⟩ | ⟨rfl, rfl⟩
                all_goals
                  go_wp2
                  go_roundg (gk - 1)
                  case measure => omega
                  case rel =>
                    have hjl' := hjl.out
                    refine ⟨jl, _, _, _, by omega, rfl, rfl, by omega, ?_, rfl⟩
                    subst hjl'
                    show fv .f64 _ = _
                    simp only [fv_sub, fv_quo, fv_mul, hp.out]
                    first | rw [kA_lit 0 272 (by decide)] | rw [kA_lit 1 210 (by decide)] | rw [kA_lit 2 156 (by decide)] | rw [kA_lit 3 110 (by decide)] | rw [kA_lit 4 72 (by decide)] | rw [kA_lit 5 42 (by decide)] | rw [kA_lit 6 20 (by decide)] | rw [kA_lit 7 6 (by decide)]
                    simp only [fv_ofInt, Z.out, HF.out]
                    rfl
              · have hkk0 : kk = 0 ∧ j = 8 := by omega
                obtain ⟨rfl, rfl⟩ := hkk0
                clear hkk hlt
                go_wp2
                go_ret
                refine ⟨_, _, rfl, ?_, rfl⟩
                rw [R.out, E.out]
                simp only [fv_negFloat, fv_mul, fv_sub, fv_ofInt, hp.out, Z.out, HF.out, if_true, Bool.false_eq_true, if_false]
                rfl
        · obtain ⟨t1, t2, e1, e2, q1, q2, q3⟩ := sine_testsG (fun (i : World × World) => fval .add .f64 (fval .sub .f64 x (floatOfInt .f64 n) i.1) 4607182418800017408 i.2) F0 (fun i => by rw [← HF0.out]; unfold fracF; rw [T0.out]; rw [fv_add, fv_sub, fv_ofInt, if_pos rfl]; rfl)
          have E := Lib.hid (sineF_of F0 t1 t2 e1 e2)
          have HF : Hid (F0 = fadd (fsub (fv .f64 x) (some (floatOfInt .f64 n))) (fc 4607182418800017408)) := by rw [← HF0.out]; show _ = _; unfold fracF; rw [T0.out, if_pos rfl]
          clear e1 e2
          have q1' := fun w1 w2 => q1 (w1, w2)
          clear q1
          cases t1 <;> cases t2
          case' false.false => have q := fun w1 w2 => q3 rfl (w1, w2); have Z : Hid (zF F0 false false = fmul F0 (fc 4618760256179416344)) := rfl
          case' false.true => have q := fun w1 w2 => q3 rfl (w1, w2); have Z : Hid (zF F0 false true = fmul (fsub (fc 4602678819172646912) F0) (fc 4618760256179416344)) := rfl
          case' true.false => have q := fun w1 w2 => q2 rfl (w1, w2); have Z : Hid (zF F0 true false = fmul (fsub F0 (fc 4602678819172646912)) (fc 4618760256179416344)) := rfl
          case' true.true => have q := fun w1 w2 => q2 rfl (w1, w2); have Z : Hid (zF F0 true true = fmul (fsub (fc 4602678819172646912) (fsub F0 (fc 4602678819172646912))) (fc 4618760256179416344)) := rfl
          all_goals
            clear q2 q3
            generalize zF F0 _ _ = Z0 at E Z
            go_enter Try.func31, Try.ntmps31
            go_wp2
            go_loopg [7, 8] 8 (fun g p k wr => ∃ (j pb m' : Nat) (kk : Int), g + j = 8 ∧ p = .float .f64 pb ∧ k = .int .i64 kk ∧ kk + j = 8 ∧ Hid (fv .f64 pb = pA (fmul Z0 Z0) j) ∧ wr = w.drewN m')
            case atStart => exact ⟨0, _, _, 8, rfl, rfl, rfl, rfl, rfl, rfl⟩
            case round =>
              obtain ⟨j, pb, m', kk, hj, rfl, rfl, hkk, hp, rfl⟩ := hrel
              by_cases hlt : j < 8
              · have hk : (kk = 8 ∧ j = 0) ∨ (kk = 7 ∧ j = 1) ∨ (kk = 6 ∧ j = 2) ∨ (kk = 5 ∧ j = 3) ∨ (kk = 4 ∧ j = 4) ∨ (kk = 3 ∧ j = 5) ∨ (kk = 2 ∧ j = 6) ∨ (kk = 1 ∧ j = 7) := by omega
                clear hkk hlt
                obtain ⟨jl, hjl⟩ : ∃ jl, Hid (jl = j + 1) := ⟨_, rfl⟩
                rcases hk with ⟨rfl, rfl⟩ | ⟨rfl, rfl⟩ | ⟨rfl, rfl⟩ | ⟨rfl, rfl⟩ | ⟨rfl, rfl⟩ | ⟨rfl, rfl⟩ | ⟨rfl, rfl⟩ | ⟨rfl, rfl⟩
                all_goals
                  go_wp2
                  go_roundg (gk - 1)
                  case measure => omega
                  case rel =>
                    have hjl' := hjl.out
                    refine ⟨jl, _, _, _, by omega, rfl, rfl, by omega, ?_, rfl⟩
                    subst hjl'
                    show fv .f64 _ = _
                    simp only [fv_sub, fv_quo, fv_mul, fv_add, hp.out]
                    first | rw [kA_lit 0 272 (by decide)] | rw [kA_lit 1 210 (by decide)] | rw [kA_lit 2 156 (by decide)] | rw [kA_lit 3 110 (by decide)] | rw [kA_lit 4 72 (by decide)] | rw [kA_lit 5 42 (by decide)] | rw [kA_lit 6 20 (by decide)] | rw [kA_lit 7 6 (by decide)]
                    simp only [fv_ofInt, Z.out, HF.out]
                    rfl
              · have hkk0 : kk = 0 ∧ j = 8 := by omega
                obtain ⟨rfl, rfl⟩ := hkk0
                clear hkk hlt
                go_wp2
                go_ret
                refine ⟨_, _, rfl, ?_, rfl⟩
                rw [R.out, E.out]
                simp only [fv_negFloat, fv_mul, fv_sub, fv_add, fv_ofInt, hp.out, Z.out, HF.out, if_true, Bool.false_eq_true, if_false]
                rfl
      · rw [show fv .f64 4841369599423283200 = fc 4841369599423283200 from rfl, h2] at g1
        rw [show fv .f64 14064741636278059008 = fc 14064741636278059008 from rfl, h3] at g2
        have hr : sineW (fv .f64 x) = fc 0 := by unfold sineW; rw [if_neg (by rw [h1]; decide), if_pos (by rw [h2, h3]; decide)]
        have R := Lib.hid hr
        clear h1 h2 h3 hr
        go_enter Try.func31, Try.ntmps31
        go_wp2
        go_ret
        exact ⟨_, _, rfl, by rw [R.out]; rfl, rfl⟩
    · rw [show fv .f64 4841369599423283200 = fc 4841369599423283200 from rfl, h2] at g1
      have hr : sineW (fv .f64 x) = fc 0 := by unfold sineW; rw [if_neg (by rw [h1]; decide), if_pos (by rw [h2]; rfl)]
      have R := Lib.hid hr
      clear h1 h2 hr g2
      go_enter Try.func31, Try.ntmps31
      go_wp2
      go_ret
      exact ⟨_, _, rfl, by rw [R.out]; rfl, rfl⟩
end Go.Proofs.Ytffdmgdffbimlaa
