/-
  Sines: what the program's sineOf and the reference's l01SineWide compute, as functions of the argument's bits, NaNs all alike. Condition: the argument lies within 2^52.
-/
import Derived.Test.YtmiajfdhdpmeoaaGreatDoorCc
import Derived.Test.YtmiajfdhdpmeoaaGreatDoorMb
import Derived.Deep.LoopGhost
namespace Go.Proofs.YtmiajfdhdpmeoaaGreatDoor
open Go.RowKit Ieee

/-! ### The plain functions -/
/-- A constant. -/
def fc (b : Nat) : Option Nat := fv .f64 b
def fge (a b : Option Nat) : Bool := ford .f64 a b == some .gt || ford .f64 a b == some .eq
def fle (a b : Option Nat) : Bool := ford .f64 a b == some .lt || ford .f64 a b == some .eq
def fgt (a b : Option Nat) : Bool := ford .f64 a b == some .gt
def flt (a b : Option Nat) : Bool := ford .f64 a b == some .lt
def fadd (a b : Option Nat) : Option Nat := fop .add .f64 a b
def fsub (a b : Option Nat) : Option Nat := fop .sub .f64 a b
def fmul (a b : Option Nat) : Option Nat := fop .mul .f64 a b
def fquo (a b : Option Nat) : Option Nat := fop .quo .f64 a b
def fneg (a : Option Nat) : Option Nat := a.map (Op.negFloat .f64)

theorem fv_add (x y : Nat) (w : World) : fv .f64 (fval .add .f64 x y w) = fadd (fv .f64 x) (fv .f64 y) := fv_fval ..
theorem fv_sub (x y : Nat) (w : World) : fv .f64 (fval .sub .f64 x y w) = fsub (fv .f64 x) (fv .f64 y) := fv_fval ..
theorem fv_mul (x y : Nat) (w : World) : fv .f64 (fval .mul .f64 x y w) = fmul (fv .f64 x) (fv .f64 y) := fv_fval ..
theorem fv_quo (x y : Nat) (w : World) : fv .f64 (fval .quo .f64 x y w) = fquo (fv .f64 x) (fv .f64 y) := fv_fval ..
theorem ge_fge (x y : Nat) : (FloatKind.f64.format.order x y == some .gt || FloatKind.f64.format.order x y == some .eq) = fge (fv .f64 x) (fv .f64 y) := by rw [order_ford]; rfl
theorem le_fle (x y : Nat) : (FloatKind.f64.format.order x y == some .lt || FloatKind.f64.format.order x y == some .eq) = fle (fv .f64 x) (fv .f64 y) := by rw [order_ford]; rfl
theorem gt_fgt (x y : Nat) : (FloatKind.f64.format.order x y == some .gt) = fgt (fv .f64 x) (fv .f64 y) := by rw [order_ford]; rfl
theorem lt_flt (x y : Nat) : (FloatKind.f64.format.order x y == some .lt) = flt (fv .f64 x) (fv .f64 y) := by rw [order_ford]; rfl

theorem read_flip (f : Format) (h : f.signWeight = 2 ^ (f.exponentBits + f.fractionBits)) (b : Nat) : (f.read (b ^^^ 2 ^ (f.exponentBits + f.fractionBits))).isNaN = (f.read b).isNaN := by
  have e : (b ^^^ 2 ^ (f.exponentBits + f.fractionBits)) % f.signWeight = b % f.signWeight := by
    rw [h]
    apply Nat.eq_of_testBit_eq
    intro i
    rw [Nat.testBit_mod_two_pow, Nat.testBit_mod_two_pow, Nat.testBit_xor, Nat.testBit_two_pow]
    by_cases hi : i < f.exponentBits + f.fractionBits
    · have : ¬ f.exponentBits + f.fractionBits = i := by omega
      simp [hi, this]
    · simp [hi]
  unfold Format.read
  simp only [e]
  split
  · rfl
  · split
    · rfl
    · split <;> rfl
theorem fv_negFloat (b : Nat) : fv .f64 (Op.negFloat .f64 b) = fneg (fv .f64 b) := by
  have h := read_flip double rfl b
  unfold fv fneg Op.negFloat
  rw [show FloatKind.f64.format = double from rfl, h]
  cases (double.read b).isNaN <;> rfl

/-- What is left of a number of turns without its whole ones. -/
def fracF (x : Option Nat) (n : Int) : Option Nat :=
  if flt (fsub x (some (floatOfInt .f64 n))) (fc 0) then fadd (fsub x (some (floatOfInt .f64 n))) (fc 4607182418800017408) else fsub x (some (floatOfInt .f64 n))
/-- The counter's value in round j. -/
def kA : Nat → Option Nat
  | 0 => fc 4620693217682128896
  | j + 1 => fsub (kA j) (fc 4607182418800017408)
/-- The polynomial behind j rounds. -/
def pA (u : Option Nat) : Nat → Option Nat
  | 0 => fc 4607182418800017408
  | j + 1 => fsub (fc 4607182418800017408) (fquo (fmul u (pA u j)) (fmul (fmul (fc 4611686018427387904) (kA j)) (fadd (fmul (fc 4611686018427387904) (kA j)) (fc 4607182418800017408))))
/-- The sine of a part of a turn. -/
def sineF (f : Option Nat) : Option Nat :=
  let f1 := if fge f (fc 4602678819172646912) then fsub f (fc 4602678819172646912) else f
  let f2 := if fgt f1 (fc 4598175219545276416) then fsub (fc 4602678819172646912) f1 else f1
  let z := fmul f2 (fc 4618760256179416344)
  let r := fmul z (pA (fmul z z) 8)
  if fge f (fc 4602678819172646912) then fneg r else r

theorem kA_test (j : Nat) (h : j < 8) : fge (kA j) (fc 4607182418800017408) = true := by
  have : j = 0 ∨ j = 1 ∨ j = 2 ∨ j = 3 ∨ j = 4 ∨ j = 5 ∨ j = 6 ∨ j = 7 := by omega
  rcases this with rfl | rfl | rfl | rfl | rfl | rfl | rfl | rfl <;> decide +kernel
theorem kA_end : fge (kA 8) (fc 4607182418800017408) = false := by decide +kernel
theorem kA_int (j : Nat) (h : j < 8) : fmul (fmul (fc 4611686018427387904) (kA j)) (fadd (fmul (fc 4611686018427387904) (kA j)) (fc 4607182418800017408)) = fv .f64 (floatOfInt .f64 (2 * (8 - j) * (2 * (8 - j) + 1))) := by
  have : j = 0 ∨ j = 1 ∨ j = 2 ∨ j = 3 ∨ j = 4 ∨ j = 5 ∨ j = 6 ∨ j = 7 := by omega
  rcases this with rfl | rfl | rfl | rfl | rfl | rfl | rfl | rfl <;> decide +kernel

/-! ### The walks -/
/-- The two tests ahead of the polynomial. -/
theorem sine_tests (f : Nat) (F : Option Nat) (hf : fv .f64 f = F) : ∃ t1 t2 : Bool, fge F (fc 4602678819172646912) = t1 ∧ fgt (if t1 = true then fsub F (fc 4602678819172646912) else F) (fc 4598175219545276416) = t2 ∧
    (FloatKind.f64.format.order f 4602678819172646912 == some .gt || FloatKind.f64.format.order f 4602678819172646912 == some .eq) = t1 ∧
    (t1 = true → ∀ w, (FloatKind.f64.format.order (fval .sub .f64 f 4602678819172646912 w) 4598175219545276416 == some .gt) = t2) ∧
    (t1 = false → (FloatKind.f64.format.order f 4598175219545276416 == some .gt) = t2) := by
  subst hf
  refine ⟨_, _, rfl, rfl, ge_fge _ _, fun h w => ?_, fun h => ?_⟩
  · rw [gt_fgt, fv_sub, if_pos h]; rfl
  · rw [gt_fgt, if_neg (by rw [h]; exact Bool.false_ne_true)]; rfl

/-- A round's test. -/
theorem round_test (k j : Nat) (hk : fv .f64 k = kA j) (hj : j < 8) : (FloatKind.f64.format.order k 4607182418800017408 == some .gt || FloatKind.f64.format.order k 4607182418800017408 == some .eq) = true := by
  rw [ge_fge, hk]; exact kA_test j hj
theorem round_end (k : Nat) (hk : fv .f64 k = kA 8) : (FloatKind.f64.format.order k 4607182418800017408 == some .gt || FloatKind.f64.format.order k 4607182418800017408 == some .eq) = false := by
  rw [ge_fge, hk]; exact kA_end

/-- The polynomial's argument, by the two tests. -/
def zF (F : Option Nat) (t1 t2 : Bool) : Option Nat :=
  let f1 := if t1 = true then fsub F (fc 4602678819172646912) else F
  let f2 := if t2 = true then fsub (fc 4602678819172646912) f1 else f1
  fmul f2 (fc 4618760256179416344)
theorem sineF_of (F : Option Nat) (t1 t2 : Bool) (h1 : fge F (fc 4602678819172646912) = t1) (h2 : fgt (if t1 = true then fsub F (fc 4602678819172646912) else F) (fc 4598175219545276416) = t2) :
    sineF F = if t1 = true then fneg (fmul (zF F t1 t2) (pA (fmul (zF F t1 t2) (zF F t1 t2)) 8)) else fmul (zF F t1 t2) (pA (fmul (zF F t1 t2) (zF F t1 t2)) 8) := by
  unfold sineF zF
  rw [h1]
  simp only [h2]

@[go_sem] theorem run_neg_float (P : Program) (k : FloatKind) (b : Nat) (w : World) : (Op.unary .neg (.float k b)).run P w = .ok (.float k (Op.negFloat k b)) w := rfl

end Go.Proofs.YtmiajfdhdpmeoaaGreatDoor
