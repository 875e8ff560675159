/-
  Tenths of decibels: the program's and the reference's, and the law FnExactTenthsOf. Condition: bits fit the kind.
-/
import Derived.Test.YthegbaaelccekaaLol
namespace Go.Proofs.Ythegbaaelccekaa
open Go.RowKit Ieee
attribute [local irreducible] mg

/-! ### What is a number at all -/
theorem some_add {E1 E2 : Int} {a b : Option Nat} (ha : Bd E1 a) (hb : Bd E2 b) (sa : a.isSome = true) (sb : b.isSome = true) : (fadd a b).isSome = true := by
  obtain ⟨x, rfl⟩ := Option.isSome_iff_exists.1 sa
  obtain ⟨y, rfl⟩ := Option.isSome_iff_exists.1 sb
  obtain ⟨s, m, i, hx, _⟩ := ha x rfl
  obtain ⟨t, n, j, hy, _⟩ := hb y rfl
  unfold fadd
  rw [fop_add, hx, hy]; rfl
theorem some_sub {E1 E2 : Int} {a b : Option Nat} (ha : Bd E1 a) (hb : Bd E2 b) (sa : a.isSome = true) (sb : b.isSome = true) : (fsub a b).isSome = true := by
  obtain ⟨x, rfl⟩ := Option.isSome_iff_exists.1 sa
  obtain ⟨y, rfl⟩ := Option.isSome_iff_exists.1 sb
  obtain ⟨s, m, i, hx, _⟩ := ha x rfl
  obtain ⟨t, n, j, hy, _⟩ := hb y rfl
  unfold fsub
  rw [fop_sub, hx, hy]; rfl
theorem some_mul {E1 E2 : Int} {a b : Option Nat} (ha : Bd E1 a) (hb : Bd E2 b) (sa : a.isSome = true) (sb : b.isSome = true) : (fmul a b).isSome = true := by
  obtain ⟨x, rfl⟩ := Option.isSome_iff_exists.1 sa
  obtain ⟨y, rfl⟩ := Option.isSome_iff_exists.1 sb
  obtain ⟨s, m, i, hx, _⟩ := ha x rfl
  obtain ⟨t, n, j, hy, _⟩ := hb y rfl
  unfold fmul
  rw [fop_mul, hx, hy]; rfl
theorem some_quo {E1 F : Int} {a b : Option Nat} (ha : Bd E1 a) (hb : Lb F b) (sa : a.isSome = true) (sb : b.isSome = true) : (fquo a b).isSome = true := by
  obtain ⟨x, rfl⟩ := Option.isSome_iff_exists.1 sa
  obtain ⟨y, rfl⟩ := Option.isSome_iff_exists.1 sb
  obtain ⟨s, m, i, hx, _⟩ := ha x rfl
  obtain ⟨t, n, j, hy, hn⟩ := hb y rfl
  have hn0 : n ≠ 0 := by
    intro h0
    rw [h0, mg_zero] at hn
    have := mg_pos (m := 1) (p := F) (by decide)
    omega
  unfold fquo
  rw [fop_quo, hx, hy]
  simp only [Datum.quotient, if_neg hn0]
  rfl

theorem qA_some {u : Option Nat} (hu : Bd 2 u) (su : u.isSome = true) : ∀ j, j ≤ 13 → (qA u j).isSome = true ∧ Bd (1 + 3 * (j : Int)) (qA u j) := by
  intro j
  induction j with
  | zero => intro _; exact ⟨(by decide +kernel : (fc 0).isSome = true), (Bd.closed (by decide +kernel) : Bd 1 (fc 0))⟩
  | succ j ih =>
    intro hj
    obtain ⟨h1, h2⟩ := ih (by omega)
    have hk : ∀ j : Fin 13, (fquo (fc 4607182418800017408) (kL j)).isSome = true ∧ chkBdO 1 (fquo (fc 4607182418800017408) (kL j)) = true := by decide +kernel
    have h3 := hk ⟨j, by omega⟩
    have h4 := qA_step hu h2 (by omega) (by omega) (by omega)
    rw [show 1 + 3 * ((j + 1 : Nat) : Int) = 1 + 3 * (j : Int) + 3 by omega]
    refine ⟨?_, h4⟩
    exact some_add (Bd.closed (E := 1) h3.2) (Bd.mul hu h2 (E := 3 + 3 * (j : Int)) (by omega) (by decide) (by omega) (by omega) (by omega)) h3.1 (some_mul hu h2 su h1)

theorem logG_some {z : Option Nat} {e : Int} (hz : Px (-1) 1 z) (he : e.natAbs ≤ 2 ^ 9) : (logG z e).isSome = true := by
  have sz : z.isSome = true := by obtain ⟨b, e, _⟩ := hz.fv; rw [e]; rfl
  have h1 := sub_one_bd hz
  have one : Nn 1 (fc 4607182418800017408) := Nn.const (b := 4607182418800017408) (by decide +kernel) (by decide +kernel)
  have sone : (fc 4607182418800017408).isSome = true := by decide +kernel
  have lone : Lb 0 (fc 4607182418800017408) := Lb.closed (by decide +kernel)
  have h2 : Lb 0 (fadd z (fc 4607182418800017408)) := by
    rw [fadd_comm]
    exact (one.add hz.nn (E := 2) (by decide) (by decide) (by decide) (by decide)).2 0 (by decide) lone
  have hs : Bd 1 (sL z) := h1.div h2 (by decide) (by decide) (by decide) (by decide) (by decide)
  have ss : (sL z).isSome = true := some_quo h1 h2 (some_sub hz.nn.bd one.bd sz sone) (some_add hz.nn.bd one.bd sz sone)
  have hu : Bd 2 (fmul (sL z) (sL z)) := hs.mul hs (by decide) (by decide) (by decide) (by decide) (by decide)
  have su := some_mul hs hs ss ss
  have q := qA_some hu su 13 (by decide)
  have hq := hs.mul (qA_bd hu) (E := 41) (by decide) (by decide) (by decide) (by decide) (by decide)
  have two : Bd 2 (fc 4611686018427387904) := Bd.closed (by decide +kernel)
  have h3 := two.mul hq (E := 43) (by decide) (by decide) (by decide) (by decide) (by decide)
  have ln : Bd 0 (fc 4604418534313441775) := Bd.closed (by decide +kernel)
  have h4 : Bd 9 (some (floatOfInt .f64 e)) := Bd.ofInt (k := 9) he (by decide)
  have h5 := h4.mul ln (E := 9) (by decide) (by decide) (by decide) (by decide) (by decide)
  exact some_add h3 h5 (some_mul two hq (by decide +kernel) (some_mul hs (qA_bd hu) ss q.1)) (some_mul h4 ln rfl (by decide +kernel))

/-! ### Floors -/
def floorB (x : Nat) : Nat := double.write ((double.read x).integral .down)
theorem floor_bd {x : Nat} (h : Bd 51 (some x)) : Bd 52 (some (floorB x)) := by
  obtain ⟨s, m, p, hr, hm⟩ := h x rfl
  have bx := read_double hr
  intro b hb
  cases hb
  unfold floorB
  rw [hr]
  show ∃ s' m' p', double.read (double.nearest s (Toward.down.cut s (m <<< p.toNat) (-p).toNat) 0) = _ ∧ _
  have hq : mg (Toward.down.cut s (m <<< p.toNat) (-p).toNat) 0 ≤ mg 1 52 := by
    have key : ∃ low more : Nat, Toward.down.cut s (m <<< p.toNat) (-p).toNat = low + more ∧ more ≤ 1 ∧ mg low 0 ≤ mg m p := by
      unfold Toward.cut
      dsimp only
      refine ⟨_, _, rfl, by cases (s && _ ) <;> simp, ?_⟩
      by_cases hp : 0 ≤ p
      · rw [show (-p).toNat = 0 by omega, show min 0 ((m <<< p.toNat).log2 + 2) = 0 by omega, Nat.shiftLeft_zero, Nat.div_one, Nat.shiftLeft_eq]
        have e : mg m p = mg (m * 2 ^ p.toNat) 0 := by rw [← mg_shift _ _ _ (by decide)]; congr 1; omega
        rw [e]
        exact Nat.le_refl _
      · rw [show p.toNat = 0 by omega, Nat.shiftLeft_zero]
        generalize hd : (-p).toNat = d
        have e : ∀ a : Nat, mg a 0 = mg (a * 2 ^ d) p := fun a => by rw [← mg_shift _ _ _ (by omega)]; congr 1; omega
        rw [e, mg_le_iff, Nat.one_shiftLeft]
        have hlog : m < 2 ^ (m.log2 + 1) := Nat.lt_log2_self
        by_cases hdl : d ≤ m.log2 + 2
        · rw [Nat.min_eq_left hdl]
          exact Nat.div_mul_le_self _ _
        · rw [Nat.min_eq_right (by omega)]
          have h4 : 2 ^ (m.log2 + 2) = 2 * 2 ^ (m.log2 + 1) := by rw [Nat.pow_succ]; omega
          rw [Nat.div_eq_of_lt (by omega), Nat.zero_mul]
          exact Nat.zero_le _
    obtain ⟨low, more, e, h1, h2⟩ := key
    rw [e, ← mg_add]
    have h3 : mg more 0 ≤ mg 1 0 := mg_le_iff.2 h1
    have h4 := mg_half 1 52 (by decide)
    rw [show (52 : Int) - 1 = 51 by decide] at h4
    have h5 := mg_one_le (p := 0) (q := 51) (by decide)
    rw [h4]
    exact Nat.add_le_add (Nat.le_trans h2 hm) (Nat.le_trans h3 h5)
  obtain ⟨m', p', g1, g2, _⟩ := rnd s _ 0 52 (by decide) (by decide) (by decide) hq
  exact ⟨s, m', p', g1, g2⟩

@[go_sem] theorem call_archFloor (x : Nat) (w : World) (h : (double.read x).isNaN = false) : (callFunc 27 #[.float .f64 x]).run Try.prog w = .ok (.value (.float .f64 (floorB x))) w := by
  rw [run_callFunc_extern Try.func27 (by kernel_rfl) (by kernel_rfl) (by kernel_rfl) (e := Extern.MathFloor.toIntegral "math.archFloor" .down) (by kernel_rfl)]
  have hd : FloatKind.f64.decode x = double.read x := rfl
  unfold floorB
  change ((Sem.run Try.prog (match FloatKind.f64.decode x with
    | .nan s t => if FloatKind.f64.format.quiet t = t then pure (.float .f64 x) else do
        let kept ← choose (.extern "math.Floor,Ceil,Trunc,RoundToEven.signallingNaN kept" 2)
        pure (.float .f64 (if kept == 1 then x else FloatKind.f64.encode (.nan s (FloatKind.f64.format.quiet t))))
    | d => pure (.float .f64 (FloatKind.f64.encode (d.integral .down)))) w).andThen fun v w' => Result.ok (Next.value v) w') = _
  rw [hd]
  cases hr : double.read x with
  | nan s t => rw [hr] at h; cases h
  | infinity s => rfl
  | number s m p => rfl

theorem math_Floor (x : Nat) (w : World) (h : (double.read x).isNaN = false) : Calls Try.prog 21 #[.float .f64 x] w fun e w' => e = .returned (.float .f64 (floorB x)) ∧ w = w' := by
  have hc := fun w => call_archFloor x w h
  clear h
  go_enter Try.func21, Try.ntmps21
  go_wp2
  go_ret
  exact ⟨rfl, rfl⟩

/-! ### Tenths -/
def tenX (l : Option Nat) : Option Nat := fadd (fmul l (fc 4631308968768463603)) (fc 4602678819172646912)
def tenF (X : Option Nat) : Option Int := toi ((tenX (logF X)).map floorB)

theorem tenX_facts {X : Option Nat} (h : Px (-149) 128 X) : ∃ b, tenX (logF X) = some b ∧ (double.read b).isNaN = false ∧ ∃ n, toi (some (floorB b)) = some n ∧ fv .f64 (floorB b) = some (floorB b) := by
  obtain ⟨h1, h2, h3⟩ := logF_facts h
  have he : ((numH X 128 : Int) - (numD (x1L X) 149 : Int)).natAbs ≤ 2 ^ 9 := by
    have : (2 : Nat) ^ 9 = 512 := by decide
    omega
  have hb := logG_bd h1 he
  have hs := logG_some h1 he
  have c : Bd 6 (fc 4631308968768463603) := Bd.closed (by decide +kernel)
  have half : Bd 0 (fc 4602678819172646912) := Bd.closed (by decide +kernel)
  have m1 := hb.mul c (E := 50) (by decide) (by decide) (by decide) (by decide) (by decide)
  have s1 : (tenX (logF X)).isSome = true := some_add m1 half (some_mul hb c hs (by decide +kernel)) (by decide +kernel)
  have b1 : Bd 51 (tenX (logF X)) := m1.add half (by decide) (by decide) (by decide) (by decide)
  obtain ⟨b, hx⟩ := Option.isSome_iff_exists.1 s1
  rw [hx] at b1
  obtain ⟨s, m, p, hr, _⟩ := b1 b rfl
  have hfb := floor_bd b1
  obtain ⟨n, s2, m2, p2, k1, k2, _⟩ := toi_some hfb
  exact ⟨b, hx, by rw [hr]; rfl, n, k1, fv_some (by show (double.read (floorB b)).isNaN = false; rw [k2]; rfl)⟩

theorem tenF_of {X : Option Nat} {b : Nat} {n : Int} (hx : tenX (logF X) = some b) (hn : toi (some (floorB b)) = some n) : tenF X = some n := by
  unfold tenF; rw [hx]; exact hn

theorem fv_bits {b c : Nat} (h : fv .f64 b = some c) : b = c := by
  unfold fv at h
  split at h
  · cases h
  · cases h; rfl

theorem le32_zero (x : Nat) : (FloatKind.f32.format.order x 0 == some .lt || FloatKind.f32.format.order x 0 == some .eq) = (flt (wid (fv .f32 x)) (fc 0) || feq (wid (fv .f32 x)) (fc 0)) := by
  rw [lt32_zero, eq32_zero]

theorem fin_facts (x : Nat) (hf : finB (fv .f32 x) = true) : (wid (fv .f32 x)).isNone = false ∧ fgt (wid (fv .f32 x)) (fc 9218868437227405311) = false := by
  constructor
  · cases h : fv .f32 x with
    | none => rw [h] at hf; cases hf
    | some y => rfl
  · cases h3 : fgt (wid (fv .f32 x)) (fc 9218868437227405311)
    · rfl
    · obtain ⟨a1, hd⟩ := gt_max x h3
      rw [a1, finB_some x (by rw [hd]; rfl), hd] at hf
      cases hf

def tenB (x : Nat) : Int × Bool := if finB (fv .f32 x) = true ∧ flt (wid (fv .f32 x)) (fc 0) = false ∧ feq (wid (fv .f32 x)) (fc 0) = false then ((tenF (wid (fv .f32 x))).getD 0, true) else (0, false)

theorem impl_TenthsOf (x : Nat) (w : World) : Calls Try.prog 12 #[.float .f32 x] w fun e w' => ∃ m, e = .returned (.tuple #[.int .i64 (tenB x).1, .bool (tenB x).2]) ∧ w' = w.drewN m := by
  have g := le32_zero x
  cases hf : finB (fv .f32 x)
  · have ht : tenB x = (0, false) := by unfold tenB; rw [if_neg (by rw [hf]; exact fun h => absurd h.1 (by decide))]
    have HF := Lib.hid hf
    rw [ht]
    clear hf ht g
    go_enter Try.func12, Try.ntmps12
    go_wp2_with (go_at_call 20; refine (impl_IsFinite _ _).mono ?_; rw [HF.out]; rintro e w' ⟨rfl, n, rfl⟩)
    go_ret2
    exact ⟨_, rfl, rfl⟩
  · cases hl : (flt (wid (fv .f32 x)) (fc 0) || feq (wid (fv .f32 x)) (fc 0))
    · rw [hl] at g
      rw [Bool.or_eq_false_iff] at hl
      obtain ⟨f1, f2⟩ := fin_facts x hf
      have hp := pos_px x f1 hl.1 hl.2 f2
      obtain ⟨b, t1, t2, n, t3, t4⟩ := tenX_facts hp
      have t5 := tenF_of t1 t3
      have ht : tenB x = (n, true) := by unfold tenB; rw [if_pos ⟨hf, hl.1, hl.2⟩, t5]; rfl
      have HF := Lib.hid hf
      have HP := Lib.hid hp
      rw [ht]
      have T1 := Lib.hid t1
      have T2 := Lib.hid t2
      have T3 := Lib.hid t3
      have T4 := Lib.hid t4
      clear hf ht hl f1 f2 hp t1 t2 t3 t4 t5
      go_enter Try.func12, Try.ntmps12
      go_wp2_with (first | (go_at_call 20; refine (impl_IsFinite _ _).mono ?_; rw [HF.out]; rintro e w' ⟨rfl, nq, rfl⟩) | fail)
      refine (impl_logOf _ _ HP.out).mono ?_
      rintro e w' ⟨r, m, rfl, hr, rfl⟩
      have HV : Hid (∀ w1 w2, fval .add .f64 (fval .mul .f64 r 4631308968768463603 w1) 4602678819172646912 w2 = b) := fun w1 w2 => by
        apply fv_bits
        rw [fv_add, fv_mul, hr]
        exact T1.out
      clear hr
      go_wp2_with (go_at_call 21; rw [HV.out]; refine (math_Floor _ _ T2.out).mono ?_; rintro e w' ⟨rfl, rfl⟩)
      go_ret2
      refine ⟨_, ?_, rfl⟩
      have hv : ∀ w, tval (floorB b) w = n := fun w => tval_of _ _ (by rw [T4.out]; exact T3.out)
      show Ending.returned (.tuple #[.int .i64 (tval (floorB b) _), .bool true]) = _
      rw [hv]
    · rw [hl] at g
      have ht : tenB x = (0, false) := by
        unfold tenB
        rw [if_neg]
        intro h
        rw [h.2.1, h.2.2] at hl
        cases hl
      have HF := Lib.hid hf
      rw [ht]
      clear hf ht hl
      go_enter Try.func12, Try.ntmps12
      go_wp2_with (go_at_call 20; refine (impl_IsFinite _ _).mono ?_; rw [HF.out]; rintro e w' ⟨rfl, n, rfl⟩)
      go_ret2
      exact ⟨_, rfl, rfl⟩

end Go.Proofs.Ythegbaaelccekaa
