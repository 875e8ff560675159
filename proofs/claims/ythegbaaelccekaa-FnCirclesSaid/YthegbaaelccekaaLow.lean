/-
  Logarithms: the reference's walk, and the law FnExactLogNumber. Condition: bits fit the kind.
-/
import Derived.Test.YthegbaaelccekaaLog
namespace Go.Proofs.Ythegbaaelccekaa
open Go.RowKit Ieee

def feq (a b : Option Nat) : Bool := ford .f64 a b == some .eq
theorem eq_feq (x y : Nat) : (FloatKind.f64.format.order x y == some .eq) = feq (fv .f64 x) (fv .f64 y) := by rw [order_ford]; rfl

/-- The reference's logarithm in 64 bits. -/
def logW (y : Option Nat) : Option Nat :=
  if y.isNone = true ∨ flt y (fc 0) = true then none else if feq y (fc 0) = true then fc 18442240474082181120 else if fgt y (fc 9218868437227405311) = true then y else logF y

theorem math_IsInf (x : Nat) (w : World) : Calls Try.prog 33 #[.float .f64 x, .int .i64 1] w fun e w' => e = .returned (.bool (fgt (fv .f64 x) (fc 9218868437227405311))) ∧ w = w' := by
  go_enter Try.func33, Try.ntmps33
  go_wp2
  go_ret
  exact ⟨ret_bool (gt_fgt _ _), rfl⟩

theorem kL_int (j : Nat) (k : Int) (h : j < 13) (hk : k + 2 * j = 25) : fv .f64 (floatOfInt .f64 k) = kL j := by
  have : ∀ j : Fin 13, fv .f64 (floatOfInt .f64 (25 - 2 * ((j : Nat) : Int))) = kL j := by decide +kernel
  have h2 := this ⟨j, h⟩
  rw [show k = 25 - 2 * (j : Int) by omega]
  exact h2

/-- The loops with a whole counter. -/
def RelHi (X : Option Nat) (g j xb : Nat) : Prop := RelH X g j xb (floatOfInt .f64 j)
def RelDi (X : Option Nat) (J : Nat) (g j xb : Nat) : Prop := RelD X J g j xb (floatOfInt .f64 ((J : Int) - j))

theorem RelHi.step {X : Option Nat} {g j xb : Nat} (h : RelHi X g j xb) (ht : fge (fv .f64 xb) (fc 4609434218613702656) = true) : 0 < g ∧ ∀ xb', fv .f64 xb' = fquo (fv .f64 xb) (fc 4611686018427387904) → RelHi X (g - 1) (j + 1) xb' := by
  obtain ⟨h1, h2⟩ := RelH.step h ht
  refine ⟨h1, fun xb' e => h2 _ _ e ?_⟩
  rw [fv_ofInt, fv_ofInt, count_up' _ (by have := h.2.2.2.2; omega) (by have := h.2.2.2.2; omega)]
  rfl
theorem RelDi.step {X : Option Nat} {J g j xb : Nat} (h : RelDi X J g j xb) (ht : flt (fv .f64 xb) (fc 4604930618986332160) = true) : 0 < g ∧ ∀ xb', fv .f64 xb' = fmul (fv .f64 xb) (fc 4611686018427387904) → RelDi X J (g - 1) (j + 1) xb' := by
  obtain ⟨h1, h2⟩ := RelD.step h ht
  have h5 := h.2.2.2.2.1
  have h6 := h.2.2.2.2.2
  refine ⟨h1, fun xb' e => h2 _ _ e ?_⟩
  rw [fv_ofInt, fv_ofInt, count_down' _ (by omega) (by omega)]
  congr 2
  omega

end Go.Proofs.Ythegbaaelccekaa
