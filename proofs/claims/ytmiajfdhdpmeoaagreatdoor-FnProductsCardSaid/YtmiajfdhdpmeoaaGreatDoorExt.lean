/-
  Contracts of Go's own small functions on a float's bits (math.Float32bits, Signbit, Abs, Copysign, NaN, Inf, Sqrt): the model's entries, and the bodies above them. Condition: the bits fit the kind.
-/
import Derived.Test.YtmiajfdhdpmeoaaGreatDoorRows
import Derived.Test.YtmiajfdhdpmeoaaGreatDoorFlc
import Derived.Test.YtmiajfdhdpmeoaaGreatDoorOrd
import Derived.Laws.Externs
import Derived.Laws.BitsAllLaws
import Derived.WalkKit
import Derived.Lib.Hide
import Derived.RowKit3
namespace Go.Proofs.YtmiajfdhdpmeoaaGreatDoor
open Go.RowKit Ieee

theorem ret_int {k : IntKind} {a b : Int} (h : a = b) : Ending.returned (.int k a) = .returned (.int k b) := by rw [h]
theorem ret_bool {a b : Bool} (h : a = b) : Ending.returned (.bool a) = .returned (.bool b) := by rw [h]
theorem ret_float {k : FloatKind} {a b : Nat} (h : a = b) : Ending.returned (.float k a) = .returned (.float k b) := by rw [h]

theorem grown_draw (w : World) (n : Nat) : Grown w (w.drewN n) := by
  have h := Grown.refl w
  unfold Grown World.keptBut at h ⊢
  exact h

/-! ### The model's entries -/
@[go_sem] theorem call_f32bits (x : Nat) (w : World) : (callFunc 43 #[.float .f32 x]).run Tryz.prog w = .ok (.value (.int .u32 x)) w := by
  rw [run_callFunc_extern Tryz.func43 (by kernel_rfl) (by kernel_rfl) (by kernel_rfl) (e := Extern.MathFloatBits.float32bits) (by kernel_rfl)]; rfl
@[go_sem] theorem call_f32from (x : Int) (w : World) : (callFunc 42 #[.int .u32 x]).run Tryz.prog w = .ok (.value (.float .f32 x.toNat)) w := by
  rw [run_callFunc_extern Tryz.func42 (by kernel_rfl) (by kernel_rfl) (by kernel_rfl) (e := Extern.MathFloatBits.float32frombits) (by kernel_rfl)]; rfl
@[go_sem] theorem call_f64bits (x : Nat) (w : World) : (callFunc 70 #[.float .f64 x]).run Tryz.prog w = .ok (.value (.int .u64 x)) w := by
  rw [run_callFunc_extern Tryz.func70 (by kernel_rfl) (by kernel_rfl) (by kernel_rfl) (e := Extern.MathFloatBits.float64bits) (by kernel_rfl)]; rfl

/-! ### math.Sqrt -/
def sval (x : Nat) (w : World) : Nat := (double.sqrt x).getD ((Question.nanBits .f64 x x).cut (w.tape w.drawn (.nanBits .f64 x x)))
def sdr (x : Nat) : Nat := if (double.sqrt x).isSome then 0 else 1
theorem fv_sval (x : Nat) (w : World) : fv .f64 (sval x w) = fsqrt (fv .f64 x) := by
  unfold sval fsqrt
  cases hs : double.sqrt x with
  | some r =>
    have hs' : ((double.read x).root (double.fractionBits + 2)).map double.write = some r := hs
    cases hd : (double.read x).root (double.fractionBits + 2) with
    | none => rw [hd] at hs'; cases hs'
    | some d =>
      rw [hd] at hs'
      simp only [Option.map_some, Option.some.injEq] at hs'
      obtain ⟨h1, h2⟩ := root_notNaN hd
      rw [fv_some (k := .f64) h2]
      subst hs'
      rw [show (some x).bind (fun x => FloatKind.f64.format.sqrt x) = double.sqrt x from rfl, hs]
      exact fv_some (read_write_notNaN _ _ h1)
  | none =>
    rw [show (Option.none.getD ((Question.nanBits .f64 x x).cut (w.tape w.drawn (.nanBits .f64 x x)))) = (Question.nanBits .f64 x x).cut (w.tape w.drawn (.nanBits .f64 x x)) from rfl, fv_cut_nan .f64 _ _ (.inl ⟨x, x, rfl⟩)]
    unfold fv
    split
    · rfl
    · exact hs.symm
@[go_sem] theorem call_sqrt (x : Nat) (w : World) : (callFunc 52 #[.float .f64 x]).run Tryz.prog w = .ok (.value (.float .f64 (sval x w))) (w.drewN (sdr x)) := by
  rw [run_callFunc_extern Tryz.func52 (by kernel_rfl) (by kernel_rfl) (by kernel_rfl) (e := Extern.MathSqrt.sqrt) (by kernel_rfl)]
  unfold sval sdr Extern.MathSqrt.sqrt
  change ((Sem.run Tryz.prog (match double.sqrt x with | some r => pure (Value.float .f64 r) | none => do pure (Value.float .f64 (← choose (.nanBits .f64 x x)))) w).andThen fun v w' => Result.ok (Next.value v) w') = _
  cases double.sqrt x with
  | some r => rfl
  | none => rw [sem_choose w (.nanBits .f64 x x) (fun n => .float .f64 n) rfl]; rfl

/-! ### Bits that fit -/
theorem fval_lt (op : BinOp) (k : FloatKind) (x y : Nat) (w : World) : fval op k x y w < 2 ^ k.format.width := by
  unfold fval
  cases h : floatBits op k x y with
  | some r =>
    have := floatBits_wf h
    cases k
    · show r < 4294967296
      simpa [Lit.wf] using this
    · show r < 18446744073709551616
      simpa [Lit.wf] using this
  | none =>
    generalize w.tape w.drawn (.nanBits k x y) = t
    cases k
    · show (t % 2) * 2 ^ 31 + 0x7f800000 + 1 + (t / 2) % (2 ^ 23 - 1) < 2 ^ 32; omega
    · show (t % 2) * 2 ^ 63 + 0x7ff0000000000000 + 1 + (t / 2) % (2 ^ 52 - 1) < 2 ^ 64; omega
theorem wval_lt (b : Nat) (w : World) : wval b w < 18446744073709551616 := by
  unfold wval
  split
  · generalize w.tape w.drawn (.nanConv .f64 b) = t
    show (t % 2) * 2 ^ 63 + 0x7ff0000000000000 + 1 + (t / 2) % (2 ^ 52 - 1) < 2 ^ 64; omega
  · exact double.write_lt _
theorem nval_lt (b : Nat) (w : World) : nval b w < 4294967296 := by
  unfold nval
  split
  · generalize w.tape w.drawn (.nanConv .f32 b) = t
    show (t % 2) * 2 ^ 31 + 0x7f800000 + 1 + (t / 2) % (2 ^ 23 - 1) < 2 ^ 32; omega
  · split
    · generalize w.tape w.drawn (.floatToFloat b) = t
      show t % 2 ^ 32 < 2 ^ 32; omega
    · exact single.write_lt _

/-! ### Signs -/
theorem clear_sign (x : Nat) (hx : x < 18446744073709551616) : bits BinOp.andNot IntKind.u64 (x : Int) 9223372036854775808 = ((x % 9223372036854775808 : Nat) : Int) := by
  have h := u64_andNot_nat x 9223372036854775808 hx (by decide)
  rw [show (18446744073709551615 - 9223372036854775808 : Nat) = 2 ^ 63 - 1 by decide, Nat.and_two_pow_sub_one_eq_mod] at h
  exact h
theorem only_sign (x : Nat) (hx : x < 18446744073709551616) : bits BinOp.and IntKind.u64 (x : Int) 9223372036854775808 = ((x / 9223372036854775808 * 9223372036854775808 : Nat) : Int) := by
  have h := u64_and_nat x 9223372036854775808 hx (by decide)
  rw [show (9223372036854775808 : Nat) = 2 ^ 63 by decide, nat_bit] at h
  rw [show x / 9223372036854775808 = x / 2 ^ 63 % 2 by rw [show (9223372036854775808 : Nat) = 2 ^ 63 by decide]; omega]
  exact h
theorem join_sign (a b : Nat) (ha : a < 9223372036854775808) (hb : b ≤ 1) : bits BinOp.or IntKind.u64 (a : Int) ((b * 9223372036854775808 : Nat) : Int) = ((a + b * 9223372036854775808 : Nat) : Int) := by
  have h := u64_or_nat a (b * 9223372036854775808) (by omega) (by omega)
  rw [h, Nat.or_comm, nat_join 63 (b * 9223372036854775808) a (by omega) ha, Nat.add_comm]

def signB (x : Nat) : Bool := decide (9223372036854775808 ≤ x)
theorem math_Signbit (x : Nat) (w : World) (hx : x < 18446744073709551616) : Calls Tryz.prog 63 #[.float .f64 x] w fun e w' => e = .returned (.bool (signB x)) ∧ w = w' := by
  go_enter Tryz.func63, Tryz.ntmps63
  go_wp2
  go_ret
  refine ⟨?_, rfl⟩
  have e : decide (wrap64 (x : Int) < 0) = signB x := by
    unfold signB wrap64
    rw [decide_eq_decide]; omega
  rw [← e]; rfl
def absB (x : Nat) : Nat := x % 9223372036854775808
def copyB (x s : Nat) : Nat := x % 9223372036854775808 + s / 9223372036854775808 * 9223372036854775808
theorem math_Sqrt (x : Nat) (w : World) : Calls Tryz.prog 32 #[.float .f64 x] w fun e w' => e = .returned (.float .f64 (sval x w)) ∧ w' = w.drewN (sdr x) := by
  go_enter Tryz.func32, Tryz.ntmps32
  go_wp2
  go_ret
  exact ⟨rfl, rfl⟩
end Go.Proofs.YtmiajfdhdpmeoaaGreatDoor
