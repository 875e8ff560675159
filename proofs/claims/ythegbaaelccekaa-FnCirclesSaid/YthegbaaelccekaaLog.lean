/-
  Logarithms: the walk of the program's logOf. Condition: the number is finite and greater than 0.
-/
import Derived.Test.YthegbaaelccekaaLgp
import Derived.Test.YthegbaaelccekaaLa
namespace Go.Proofs.Ythegbaaelccekaa
open Go.RowKit Ieee

def kL : Nat → Option Nat
  | 0 => fc 4627730092099895296
  | j + 1 => fsub (kL j) (fc 4611686018427387904)
def qA (u : Option Nat) : Nat → Option Nat
  | 0 => fc 0
  | j + 1 => fadd (fquo (fc 4607182418800017408) (kL j)) (fmul u (qA u j))
def sL (x : Option Nat) : Option Nat := fquo (fsub x (fc 4607182418800017408)) (fadd x (fc 4607182418800017408))
/-- The logarithm out of the reduced number and the exponent. -/
def logG (x : Option Nat) (e : Int) : Option Nat :=
  fadd (fmul (fc 4611686018427387904) (fmul (sL x) (qA (fmul (sL x) (sL x)) 13))) (fmul (some (floatOfInt .f64 e)) (fc 4604418534313441775))
def x1L (x : Option Nat) : Option Nat := itH x (numH x 128)
def x2L (x : Option Nat) : Option Nat := itD (x1L x) (numD (x1L x) 149)
/-- The logarithm. -/
def logF (x : Option Nat) : Option Nat := logG (x2L x) ((numH x 128 : Int) - (numD (x1L x) 149 : Int))

theorem kL_test (j : Nat) (h : j < 13) : fge (kL j) (fc 4607182418800017408) = true := by
  have : ∀ j : Fin 13, fge (kL j) (fc 4607182418800017408) = true := by decide +kernel
  exact this ⟨j, h⟩
theorem kL_end : fge (kL 13) (fc 4607182418800017408) = false := by decide +kernel

/-- What the first loop hands on. -/
def RelH (X : Option Nat) (g j xb eb : Nat) : Prop := fv .f64 xb = itH X j ∧ Px (-149) g (fv .f64 xb) ∧ fv .f64 eb = some (floatOfInt .f64 j) ∧ numH (fv .f64 xb) g + j = numH X 128 ∧ j + g = 128
theorem RelH.step {X : Option Nat} {g j xb eb : Nat} (h : RelH X g j xb eb) (ht : fge (fv .f64 xb) (fc 4609434218613702656) = true) : 0 < g ∧ ∀ xb' eb', fv .f64 xb' = fquo (fv .f64 xb) (fc 4611686018427387904) → fv .f64 eb' = fadd (fv .f64 eb) (fc 4607182418800017408) → RelH X (g - 1) (j + 1) xb' eb' := by
  obtain ⟨h1, h2, h3, h4, h5⟩ := h
  obtain ⟨k1, k2⟩ := h2.half ht (by decide) (by decide) (by omega)
  refine ⟨by omega, fun xb' eb' e1 e2 => ⟨?_, ?_, ?_, ?_, by omega⟩⟩
  · rw [e1, h1]; rfl
  · rw [e1, show ((g - 1 : Nat) : Int) = (g : Int) - 1 by omega]; exact k2
  · rw [e2, h3, count_up' _ (by omega) (by omega)]; rfl
  · obtain ⟨g', rfl⟩ : ∃ g', g = g' + 1 := ⟨g - 1, by omega⟩
    rw [numH, if_pos ht] at h4
    rw [e1, Nat.add_sub_cancel]
    omega
theorem RelH.done {X : Option Nat} {g j xb eb : Nat} (h : RelH X g j xb eb) (ht : fge (fv .f64 xb) (fc 4609434218613702656) = false) : fv .f64 xb = x1L X ∧ fv .f64 eb = some (floatOfInt .f64 (numH X 128 : Nat)) ∧ Px (-149) 1 (x1L X) ∧ numH X 128 ≤ 128 := by
  obtain ⟨h1, h2, h3, h4, h5⟩ := h
  have hz : numH (fv .f64 xb) g = 0 := by
    cases g with
    | zero => rfl
    | succ g => rw [numH, if_neg (by rw [ht]; decide)]
  have hj : j = numH X 128 := by omega
  have hx : fv .f64 xb = x1L X := by rw [h1, hj]; rfl
  refine ⟨hx, by rw [h3, hj], ?_, by omega⟩
  rw [← hx]
  obtain ⟨b, m, p, e, hr, l1, l2⟩ := h2
  rw [e, fc_15, fge_mg hr c15_read (by decide), decide_eq_false_iff_not, mg_15] at ht
  refine ⟨b, m, p, e, hr, l1, ?_⟩
  have e4 := mg_half 1 1 (by decide)
  rw [show (1 : Int) - 1 = 0 by decide] at e4
  have e3 : mg 3 (-1) = mg 1 0 + mg 1 (-1) := by
    rw [mg_half 1 0 (by decide), show (0 : Int) - 1 = -1 by decide, mg_add, mg_add]
  have e2 := mg_half 1 0 (by decide)
  rw [show (0 : Int) - 1 = -1 by decide] at e2
  generalize mg 1 0 = A at *
  generalize mg 1 (-1) = B at *
  generalize mg 3 (-1) = C at *
  omega

/-- What the second loop hands on. -/
def RelD (X : Option Nat) (J : Nat) (g j xb eb : Nat) : Prop := fv .f64 xb = itD X j ∧ Px (-(g : Int)) 1 (fv .f64 xb) ∧ fv .f64 eb = some (floatOfInt .f64 ((J : Int) - j)) ∧ numD (fv .f64 xb) g + j = numD X 149 ∧ j + g = 149 ∧ J ≤ 128
theorem RelD.step {X : Option Nat} {J g j xb eb : Nat} (h : RelD X J g j xb eb) (ht : flt (fv .f64 xb) (fc 4604930618986332160) = true) : 0 < g ∧ ∀ xb' eb', fv .f64 xb' = fmul (fv .f64 xb) (fc 4611686018427387904) → fv .f64 eb' = fsub (fv .f64 eb) (fc 4607182418800017408) → RelD X J (g - 1) (j + 1) xb' eb' := by
  obtain ⟨h1, h2, h3, h4, h5, h6⟩ := h
  obtain ⟨k1, k2⟩ := h2.twice ht (by omega) (by decide) (by decide)
  refine ⟨by omega, fun xb' eb' e1 e2 => ⟨?_, ?_, ?_, ?_, by omega, h6⟩⟩
  · rw [e1, h1]; rfl
  · rw [e1, show -((g - 1 : Nat) : Int) = -(g : Int) + 1 by omega]; exact k2
  · rw [e2, h3, count_down' _ (by omega) (by omega)]
    congr 2
    omega
  · obtain ⟨g', rfl⟩ : ∃ g', g = g' + 1 := ⟨g - 1, by omega⟩
    rw [numD, if_pos ht] at h4
    rw [e1, Nat.add_sub_cancel]
    omega
theorem RelD.done {X : Option Nat} {J g j xb eb : Nat} (h : RelD X J g j xb eb) (ht : flt (fv .f64 xb) (fc 4604930618986332160) = false) : fv .f64 xb = itD X (numD X 149) ∧ fv .f64 eb = some (floatOfInt .f64 ((J : Int) - numD X 149)) ∧ Px (-1) 1 (itD X (numD X 149)) ∧ numD X 149 ≤ 149 := by
  obtain ⟨h1, h2, h3, h4, h5, h6⟩ := h
  have hz : numD (fv .f64 xb) g = 0 := by
    cases g with
    | zero => rfl
    | succ g => rw [numD, if_neg (by rw [ht]; decide)]
  have hj : j = numD X 149 := by omega
  have hx : fv .f64 xb = itD X (numD X 149) := by rw [h1, hj]
  refine ⟨hx, by rw [h3, hj], ?_, by omega⟩
  rw [← hx]
  obtain ⟨b, m, p, e, hr, l1, l2⟩ := h2
  rw [e, fc_75, flt_mg hr c75_read (by decide), decide_eq_false_iff_not, mg_75] at ht
  refine ⟨b, m, p, e, hr, ?_, l2⟩
  have e3 : mg 3 (-2) = mg 1 (-1) + mg 1 (-2) := by
    rw [mg_half 1 (-1) (by decide), show (-1 : Int) - 1 = -2 by decide, mg_add, mg_add]
  generalize mg 1 (-1) = A at *
  generalize mg 1 (-2) = B at *
  generalize mg 3 (-2) = C at *
  omega

theorem impl_logOf (x : Nat) (w : World) (hx : Px (-149) 128 (wid (fv .f32 x))) : Calls Try.prog 22 #[.float .f32 x] w fun e w' => ∃ r m, e = .returned (.float .f64 r) ∧ fv .f64 r = logF (wid (fv .f32 x)) ∧ w' = w.drewN m := by
  generalize hX : wid (fv .f32 x) = X at hx
  have HX : Hid (∀ w, fv .f64 (wval x w) = X) := fun w => by rw [fv_wval, hX]
  have HP := Lib.hid hx
  clear hX hx
  go_enter Try.func22, Try.ntmps22
  go_wp2
  go_loopg [3, 4] 128 (fun g x e wr => ∃ (j xb eb m : Nat), x = .float .f64 xb ∧ e = .float .f64 eb ∧ Hid (RelH X g j xb eb) ∧ wr = w.drewN m)
  case atStart => exact ⟨0, _, 0, _, rfl, rfl, ⟨HX.out _, by rw [HX.out]; exact HP.out, by decide +kernel, by rw [HX.out, Nat.add_zero], rfl⟩, rfl⟩
  case round =>
    obtain ⟨j, xb, eb, m, rfl, rfl, hrel, rfl⟩ := hrel
    have ht := ge_fge xb 4609434218613702656
    cases hc : fge (fv .f64 xb) (fv .f64 4609434218613702656)
    · rw [hc] at ht
      obtain ⟨d1, d2, d3, d4⟩ := hrel.out.done hc
      have D1 := Lib.hid d1
      have D2 := Lib.hid d2
      have D3 := Lib.hid d3
      have D4 := Lib.hid d4
      clear hc d1 d2 d3 d4 hrel
      go_wp2
      go_loopg [3, 4] 149 (fun g x e wr => ∃ (j xb eb m : Nat), x = .float .f64 xb ∧ e = .float .f64 eb ∧ Hid (RelD (x1L X) (numH X 128) g j xb eb) ∧ wr = w.drewN m)
      case atStart => exact ⟨0, _, _, _, rfl, rfl, ⟨D1.out, by rw [D1.out]; exact D3.out, by rw [D2.out]; rfl, by rw [D1.out, Nat.add_zero], rfl, D4.out⟩, rfl⟩
      case round =>
        clear ht
        obtain ⟨j, xb, eb, m, rfl, rfl, hrel, rfl⟩ := hrel
        have ht := lt_flt xb 4604930618986332160
        cases hc : flt (fv .f64 xb) (fv .f64 4604930618986332160)
        · rw [hc] at ht
          obtain ⟨q1, q2, q3, q4⟩ := hrel.out.done hc
          have Q1 := Lib.hid q1
          have Q2 := Lib.hid q2
          clear hc q1 q2 q3 q4 hrel
          go_wp2
          generalize hz : x2L X = Z
          have HZ : Hid (fv .f64 xb = Z) := by rw [← hz]; exact Q1.out
          have HL : Hid (logF X = logG Z ((numH X 128 : Int) - (numD (x1L X) 149 : Int))) := by rw [← hz]; rfl
          clear hz
          go_loopg [7, 8] 13 (fun g q k wr => ∃ (j qb kb m : Nat), g + j = 13 ∧ q = .float .f64 qb ∧ k = .float .f64 kb ∧ Hid (fv .f64 qb = qA (fmul (sL Z) (sL Z)) j ∧ fv .f64 kb = kL j) ∧ wr = w.drewN m)
          case atStart => exact ⟨0, _, _, _, rfl, rfl, rfl, ⟨rfl, rfl⟩, rfl⟩
          case round =>
            clear ht
            obtain ⟨j, qb, kb, m, hj, rfl, rfl, hqk, rfl⟩ := hrel
            have ht := ge_fge kb 4607182418800017408
            rw [hqk.out.2, show fv .f64 4607182418800017408 = fc 4607182418800017408 from rfl] at ht
            by_cases hlt : j < 13
            · rw [kL_test j hlt] at ht
              go_wp2
              go_roundg (gk - 1)
              case measure => omega
              case rel =>
                obtain ⟨hp, hk⟩ := hqk.out
                refine ⟨j + 1, _, _, _, by omega, rfl, rfl, ⟨?_, ?_⟩, rfl⟩
                · simp only [fv_sub, fv_quo, fv_mul, fv_add, hp, hk, HZ.out]
                  rfl
                · simp only [fv_sub, hk]; rfl
            · have h13 : j = 13 := by omega
              subst h13
              rw [kL_end] at ht
              go_wp2
              go_ret
              refine ⟨_, _, rfl, ?_, rfl⟩
              simp only [fv_mul, fv_add, fv_sub, fv_quo, hqk.out.1, HZ.out, Q2.out]
              rw [HL.out]
              rfl
        · rw [hc] at ht
          obtain ⟨s1, s2⟩ := hrel.out.step hc
          have S2 := Lib.hid s2
          clear hc s2 hrel
          go_wp2
          go_roundg (gk - 1)
          case measure => omega
          case rel => exact ⟨j + 1, _, _, _, rfl, rfl, S2.out _ _ (by rw [fv_mul]; rfl) (by rw [fv_sub]; rfl), rfl⟩
    · rw [hc] at ht
      obtain ⟨s1, s2⟩ := hrel.out.step hc
      have S2 := Lib.hid s2
      clear hc s2 hrel
      go_wp2
      go_roundg (gk - 1)
      case measure => omega
      case rel => exact ⟨j + 1, _, _, _, rfl, rfl, S2.out _ _ (by rw [fv_quo]; rfl) (by rw [fv_add]; rfl), rfl⟩
end Go.Proofs.Ythegbaaelccekaa
