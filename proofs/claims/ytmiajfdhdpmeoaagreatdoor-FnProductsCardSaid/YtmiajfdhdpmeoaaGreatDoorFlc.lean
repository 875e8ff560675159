/-
  Conversions between floats, and between floats and integers, up to the bits of a NaN; sign bits; square roots. The narrowing conversion is told under the condition that the number is not too large for float32 (there the model asks the tape).
-/
import Derived.Test.YtmiajfdhdpmeoaaGreatDoorFl
import Derived.Test.YtmiajfdhdpmeoaaGreatDoorNum
namespace Go.Proofs.YtmiajfdhdpmeoaaGreatDoor
open Ieee

/-! ### float32 to float64 -/
def wid (o : Option Nat) : Option Nat := o.map fun x => double.write (single.read x)
def wval (b : Nat) (w : World) : Nat := if (single.read b).isNaN then (Question.nanConv .f64 b).cut (w.tape w.drawn (.nanConv .f64 b)) else double.write (single.read b)
def wdr (b : Nat) : Nat := if (single.read b).isNaN then 1 else 0

theorem fv_wval (b : Nat) (w : World) : fv .f64 (wval b w) = wid (fv .f32 b) := by
  unfold wval wid
  cases h : (single.read b).isNaN with
  | true => rw [if_pos rfl, fv_cut_nan .f64 _ _ (.inr ⟨b, rfl⟩)]; unfold fv; rw [show FloatKind.f32.format = single from rfl, h]; rfl
  | false =>
    rw [if_neg Bool.false_ne_true]
    have e : fv .f32 b = some b := by unfold fv; rw [show FloatKind.f32.format = single from rfl, h]; rfl
    rw [e]
    unfold fv
    rw [show FloatKind.f64.format = double from rfl, read_write_notNaN _ _ h]
    rfl

theorem read_single {b : Nat} {s : Bool} {m : Nat} {p : Int} (hd : single.read b = .number s m p) : m < 2 ^ 24 ∧ -149 ≤ p ∧ p ≤ 104 := by
  have e1 : single.binade = 2 ^ 23 := rfl
  have e2 : single.leastPlace = -149 := rfl
  have e3 : single.infRung = 255 * 2 ^ 23 := rfl
  unfold Format.read at hd
  simp only [e1, e2, e3] at hd
  generalize b % single.signWeight = r at hd
  split at hd
  · injection hd with _ hm hp
    omega
  · split at hd
    · injection hd with _ hm hp
      omega
    · split at hd <;> cases hd

theorem read_double {b : Nat} {s : Bool} {m : Nat} {p : Int} (hd : double.read b = .number s m p) : m < 2 ^ 53 ∧ -1074 ≤ p ∧ p ≤ 971 := by
  have e1 : double.binade = 2 ^ 52 := rfl
  have e2 : double.leastPlace = -1074 := rfl
  have e3 : double.infRung = 2047 * 2 ^ 52 := rfl
  unfold Format.read at hd
  simp only [e1, e2, e3] at hd
  generalize b % double.signWeight = r at hd
  split at hd
  · injection hd with _ hm hp
    omega
  · split at hd
    · injection hd with _ hm hp
      omega
    · split at hd <;> cases hd

theorem mg_lt_top {m n : Nat} {p q : Int} (hm : m < 2 ^ n) (hp : -6000 ≤ p) (hq : p + n ≤ q) : mg m p < mg 1 q := by
  refine Nat.lt_of_lt_of_le ((mg_lt_iff (p := p)).2 hm) ?_
  rw [mg_two_pow _ _ hp]
  exact mg_one_le hq

/-- A float32 is never too large for float64. -/
theorem wide_number {b : Nat} {s : Bool} {m : Nat} {p : Int} (h : single.read b = .number s m p) : (double.read (double.write (.number s m p))).isInfinity = false := by
  obtain ⟨h1, h2, h3⟩ := read_single h
  obtain ⟨m', p', hr, _⟩ := read_nearest double s m p (by omega) (by decide) (by decide) m p (Nat.le_trans (Nat.le_of_lt h1) (by decide)) (by show -1074 ≤ p; omega) (Nat.le_refl _)
    (mg_lt_top h1 (by omega) (by show p + ((24 : Nat) : Int) ≤ 1024; omega))
  show (double.read (double.nearest s m p)).isInfinity = false
  rw [hr]; rfl

section
variable {P : Program} (w : World)
theorem run_convert_ff (src dst : TypeId) (s k : FloatKind) (b : Nat) (hs : (P.underlying src).isSome = true) (hd : P.underlying dst = some (.float k)) :
    (convert src dst (.float s b)).run P w = (Conv.floatToFloat s b k).run P w := by
  obtain ⟨u, hs'⟩ := Option.isSome_iff_exists.1 hs
  cases u <;> simp [convert, run_underlying hs', run_underlying hd]
theorem run_convert_fi (src dst : TypeId) (s : FloatKind) (k : IntKind) (b : Nat) (hs : (P.underlying src).isSome = true) (hd : P.underlying dst = some (.int k)) :
    (convert src dst (.float s b)).run P w = (Conv.floatToInt s b k).run P w := by
  obtain ⟨u, hs'⟩ := Option.isSome_iff_exists.1 hs
  cases u <;> simp [convert, run_underlying hs', run_underlying hd]

theorem sem_choose (q : Question) (g : Nat → Value) (hq : q.forced = false) : Sem.run P (do pure (g (← choose q))) w = .ok (g (q.cut (w.tape w.drawn q))) (w.drewN 1) := by
  show Sem.run P (Sem.choose q fun n => Sem.pure (g n)) w = _
  simp only [Sem.run, hq]
  rfl

theorem run_wide_any (b : Nat) : (Conv.floatToFloat .f32 b .f64).run P w = .ok (.float .f64 (wval b w)) (w.drewN (wdr b)) := by
  unfold wval wdr Conv.floatToFloat
  have hdec : FloatKind.f32.decode b = single.read b := rfl
  rw [if_neg (by decide), hdec]
  cases hr : single.read b with
  | nan s t =>
    simp only [Datum.isNaN, if_true]
    exact sem_choose w (.nanConv .f64 b) (fun n => .float .f64 n) rfl
  | infinity s => simp only [Datum.isNaN, Bool.false_eq_true, if_false]; rfl
  | number s m p =>
    have hi : (FloatKind.f64.decode (FloatKind.f64.encode (.number s m p))).isInfinity = false := wide_number hr
    simp only [Datum.isNaN, Bool.false_eq_true, if_false, hi]
    have e : FloatKind.f64.encode (.number s m p) = double.write (.number s m p) := rfl
    rw [e]
    generalize double.write (.number s m p) = x
    rfl

@[go_sem] theorem run_widen (src dst : TypeId) (b : Nat) (hs : (P.underlying src).isSome = true) (hd : P.underlying dst = some (.float .f64)) :
    (convert src dst (.float .f32 b)).run P w = .ok (.float .f64 (wval b w)) (w.drewN (wdr b)) := by
  rw [run_convert_ff w src dst .f32 .f64 b hs hd]
  exact run_wide_any w b
end

/-! ### float64 to float32 -/
def nar (o : Option Nat) : Option Nat := o.map fun x => single.write (double.read x)
/-- The bits of a finite number that is too large for float32. -/
def bigB (x : Nat) : Bool := !(double.read x).isInfinity && (single.read (single.write (double.read x))).isInfinity
def big (o : Option Nat) : Bool := o.any bigB
def nval (b : Nat) (w : World) : Nat :=
  if (double.read b).isNaN then (Question.nanConv .f32 b).cut (w.tape w.drawn (.nanConv .f32 b)) else
  if bigB b then (Question.floatToFloat b).cut (w.tape w.drawn (.floatToFloat b)) else single.write (double.read b)
def ndr (b : Nat) : Nat := if (double.read b).isNaN || bigB b then 1 else 0

theorem fv_nval (b : Nat) (w : World) (h : big (fv .f64 b) = false) : fv .f32 (nval b w) = nar (fv .f64 b) := by
  unfold nval nar
  cases hn : (double.read b).isNaN with
  | true => rw [if_pos rfl, fv_cut_nan .f32 _ _ (.inr ⟨b, rfl⟩)]; unfold fv; rw [show FloatKind.f64.format = double from rfl, hn]; rfl
  | false =>
    rw [if_neg Bool.false_ne_true]
    have e : fv .f64 b = some b := by unfold fv; rw [show FloatKind.f64.format = double from rfl, hn]; rfl
    rw [e] at h ⊢
    have hb : bigB b = false := h
    rw [hb, if_neg Bool.false_ne_true]
    unfold fv
    rw [show FloatKind.f32.format = single from rfl, read_write_notNaN _ _ hn]
    rfl

section
variable {P : Program} (w : World)
theorem run_narrow_any (b : Nat) : (Conv.floatToFloat .f64 b .f32).run P w = .ok (.float .f32 (nval b w)) (w.drewN (ndr b)) := by
  unfold nval ndr bigB Conv.floatToFloat
  have hdec : FloatKind.f64.decode b = double.read b := rfl
  rw [if_neg (by decide), hdec]
  cases hr : double.read b with
  | nan s t =>
    simp only [Datum.isNaN, if_true, Bool.true_or]
    exact sem_choose w (.nanConv .f32 b) (fun n => .float .f32 n) rfl
  | infinity s => simp only [Datum.isNaN, Datum.isInfinity, Bool.not_true, Bool.false_and, Bool.or_false, Bool.false_eq_true, if_false]; rfl
  | number s m p =>
    have e : FloatKind.f32.encode (.number s m p) = single.write (.number s m p) := rfl
    have e2 : ∀ y, FloatKind.f32.decode y = single.read y := fun _ => rfl
    simp only [e, e2, Datum.isNaN]
    generalize single.write (.number s m p) = x
    cases h : (single.read x).isInfinity
    · simp only [Datum.isInfinity, Bool.false_eq_true, if_false, Bool.not_false, Bool.and_false, Bool.or_false]; rfl
    · simp only [Datum.isInfinity, Bool.false_eq_true, if_false, if_true, Bool.not_false, Bool.and_true, Bool.or_true]
      exact sem_choose w (.floatToFloat b) (fun n => .float .f32 n) rfl

@[go_sem] theorem run_narrow (src dst : TypeId) (b : Nat) (hs : (P.underlying src).isSome = true) (hd : P.underlying dst = some (.float .f32)) :
    (convert src dst (.float .f64 b)).run P w = .ok (.float .f32 (nval b w)) (w.drewN (ndr b)) := by
  rw [run_convert_ff w src dst .f64 .f32 b hs hd]
  exact run_narrow_any w b

@[go_sem] theorem run_same_float (src dst : TypeId) (k : FloatKind) (b : Nat) (hs : (P.underlying src).isSome = true) (hd : P.underlying dst = some (.float k)) :
    (convert src dst (.float k b)).run P w = .ok (.float k b) w :=
  run_convert_float_float w src dst k k b b hs hd (by simp [floatToFloatBits])
end

/-! ### float64 to int64 -/
def toi (o : Option Nat) : Option Int := o.bind fun x => floatToIntVal .f64 x .i64
def tval (b : Nat) (w : World) : Int := (floatToIntVal .f64 b .i64).getD (IntKind.i64.wrap ((Question.floatToInt .f64 b .i64).cut (w.tape w.drawn (.floatToInt .f64 b .i64))))
def tdr (b : Nat) : Nat := if (floatToIntVal .f64 b .i64).isSome then 0 else 1

theorem tval_of (b : Nat) (w : World) {n : Int} (h : toi (fv .f64 b) = some n) : tval b w = n := by
  unfold toi fv at h
  split at h
  · cases h
  · have h' : floatToIntVal .f64 b .i64 = some n := h
    unfold tval
    rw [h']; rfl

section
variable {P : Program} (w : World)
@[go_sem] theorem run_float_i64 (src dst : TypeId) (b : Nat) (hs : (P.underlying src).isSome = true) (hd : P.underlying dst = some (.int .i64)) :
    (convert src dst (.float .f64 b)).run P w = .ok (.int .i64 (tval b w)) (w.drewN (tdr b)) := by
  cases h : floatToIntVal .f64 b .i64 with
  | some n => rw [run_convert_float_int w src dst .f64 .i64 b n hs hd h]; simp [tval, tdr, h]; rfl
  | none =>
    rw [run_convert_fi w src dst .f64 .i64 b hs hd]
    unfold tval tdr Conv.floatToInt
    rw [h]
    unfold floatToIntVal at h
    split at h
    · rename_i n hn
      split at h
      · cases h
      · rename_i hb
        rw [hn]; dsimp only; rw [if_neg hb]; rfl
    · rename_i hn
      rw [hn]; rfl
end
end Go.Proofs.YtmiajfdhdpmeoaaGreatDoor
