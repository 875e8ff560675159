/-
  Numbers are compared as their values are; widening keeps the value; what is finite. No condition.
-/
import Derived.Test.YtmiajfdhdpmeoaaGreatDoorFlc
import Derived.Test.YtmiajfdhdpmeoaaGreatDoorOrd
namespace Go.Proofs.YtmiajfdhdpmeoaaGreatDoor
open Ieee

/-- The value, in units of 2^-6000. -/
def sv (s : Bool) (m : Nat) (p : Int) : Int := if s then -((mg m p : Nat) : Int) else ((mg m p : Nat) : Int)

theorem mg_eq_iff {m n : Nat} {p : Int} : mg m p = mg n p ↔ m = n := ⟨mg_inj, fun h => by rw [h]⟩

theorem order_mg (f : Format) {x y : Nat} {s t : Bool} {m n : Nat} {p q : Int} (hx : f.read x = .number s m p) (hy : f.read y = .number t n q) (hp : -6000 ≤ p) (hq : -6000 ≤ q) :
    f.order x y = some (compare (sv s m p) (sv t n q)) := by
  unfold Format.order
  rw [hx, hy]
  simp only [Datum.order]
  congr 1
  have e1 : mg m p = mg (m <<< (p - min p q).toNat) (min p q) := by
    rw [Nat.shiftLeft_eq, ← mg_shift _ _ _ (by omega)]; congr 1; omega
  have e2 : mg n q = mg (n <<< (q - min p q).toNat) (min p q) := by
    rw [Nat.shiftLeft_eq, ← mg_shift _ _ _ (by omega)]; congr 1; omega
  unfold sv signed
  rw [e1, e2]
  generalize m <<< (p - min p q).toNat = a
  generalize n <<< (q - min p q).toNat = b
  have h1 := @mg_lt_iff a b (min p q)
  have h2 := @mg_lt_iff b a (min p q)
  have h3 := @mg_eq_iff a b (min p q)
  have h4 := @mg_lt_iff 0 a (min p q)
  have h5 := @mg_lt_iff 0 b (min p q)
  rw [mg_zero] at h4 h5
  generalize mg a (min p q) = A at *
  generalize mg b (min p q) = B at *
  cases s <;> cases t <;> simp only [Bool.false_eq_true, if_true, if_false] <;> exact compare_of (by omega) (by omega) (by omega)

/-! ### What is finite -/
def isNum (d : Datum) : Bool := match d with | .number .. => true | _ => false

theorem sub_self (k : FloatKind) (b : Nat) (h : (k.format.read b).isNaN = false) :
    (isNum (k.format.read b) = true ∧ ∃ z, fop .sub k (some b) (some b) = some z ∧ ford k (some z) (some 0) = some .eq) ∨ (isNum (k.format.read b) = false ∧ fop .sub k (some b) (some b) = none) := by
  have e : fop .sub k (some b) (some b) = ((k.format.read b).sum (k.format.read b).opposite).map k.format.write := rfl
  rw [e]
  cases hd : k.format.read b with
  | nan s t => rw [hd] at h; cases h
  | infinity s =>
    refine .inr ⟨rfl, ?_⟩
    cases s <;> rfl
  | number s m p =>
    refine .inl ⟨rfl, _, rfl, ?_⟩
    have h0 : ∀ i : Int, signed s m (i - i).toNat + signed (!s) m (i - i).toNat = 0 := by
      intro i; cases s <;> simp [signed] <;> omega
    simp only [Int.min_self, h0, if_true]
    have e0 : ∀ b : Bool, k.format.write (.number b (Int.natAbs 0) p) = k.format.word b 0 := fun _ => rfl
    rw [e0]
    cases s <;> cases k <;> decide

def finB (o : Option Nat) : Bool := ford .f32 (fop .sub .f32 o o) (fv .f32 0) == some .eq
def finW (o : Option Nat) : Bool := ford .f64 (fop .sub .f64 o o) (fv .f64 0) == some .eq
theorem fv_zero32 : fv .f32 0 = some 0 := by decide
theorem fv_zero64 : fv .f64 0 = some 0 := by decide

theorem finB_some (b : Nat) (h : (single.read b).isNaN = false) : finB (some b) = isNum (single.read b) := by
  unfold finB
  rw [fv_zero32]
  rcases sub_self .f32 b h with ⟨h1, z, h2, h3⟩ | ⟨h1, h2⟩
  · rw [h2, h3]; exact h1.symm
  · rw [h2]; exact h1.symm
theorem finW_some (b : Nat) (h : (double.read b).isNaN = false) : finW (some b) = isNum (double.read b) := by
  unfold finW
  rw [fv_zero64]
  rcases sub_self .f64 b h with ⟨h1, z, h2, h3⟩ | ⟨h1, h2⟩
  · rw [h2, h3]; exact h1.symm
  · rw [h2]; exact h1.symm
theorem finB_none : finB none = false := rfl
theorem finW_none : finW none = false := rfl

/-! ### Widening keeps the value -/
theorem wide_read {b : Nat} {s : Bool} {m : Nat} {p : Int} (h : single.read b = .number s m p) :
    ∃ m' p', double.read (double.write (.number s m p)) = .number s m' p' ∧ mg m' p' = mg m p ∧ -1074 ≤ p' := by
  obtain ⟨h1, h2, h3⟩ := read_single h
  obtain ⟨m', p', hr, hp, _, _, hle, hdown, hup⟩ := read_nearest double s m p (by omega) (by decide) (by decide) m p (Nat.le_trans (Nat.le_of_lt h1) (by decide)) (by show -1074 ≤ p; omega) (Nat.le_refl _)
    (mg_lt_top h1 (by omega) (by show p + ((24 : Nat) : Int) ≤ 1024; omega))
  exact ⟨m', p', hr, Nat.le_antisymm hle (hdown m p (Nat.le_trans (Nat.le_of_lt h1) (by decide)) (by show -1074 ≤ p; omega) (Nat.le_refl _)), hp⟩

theorem wid_some (b : Nat) : wid (some b) = some (double.write (single.read b)) := rfl

theorem wid_isNum (b : Nat) (h : (single.read b).isNaN = false) : isNum (double.read (double.write (single.read b))) = isNum (single.read b) := by
  cases hd : single.read b with
  | nan s t => rw [hd] at h; cases h
  | infinity s => cases s <;> decide
  | number s m p =>
    obtain ⟨m', p', hr, _⟩ := wide_read hd
    rw [hr]; rfl

/-- Two float32s are compared as their widened values. -/
theorem ford_wid (a b : Option Nat) (ha : ∀ x, a = some x → (single.read x).isNaN = false) (hb : ∀ x, b = some x → (single.read x).isNaN = false) : ford .f64 (wid a) (wid b) = ford .f32 a b := by
  cases a with
  | none => rfl
  | some x =>
  cases b with
  | none => rfl
  | some y =>
    have hx := ha x rfl
    have hy := hb y rfl
    show double.order (double.write (single.read x)) (double.write (single.read y)) = single.order x y
    cases hdx : single.read x with
    | nan s t => rw [hdx] at hx; cases hx
    | infinity s =>
      cases hdy : single.read y with
      | nan s t => rw [hdy] at hy; cases hy
      | infinity t => unfold Format.order; rw [hdx, hdy]; cases s <;> cases t <;> decide
      | number t n q =>
        obtain ⟨n', q', hr, _⟩ := wide_read hdy
        unfold Format.order
        rw [hdx, hdy, hr]
        cases s
        · rw [show double.read (double.write (.infinity false)) = .infinity false by decide]; rfl
        · rw [show double.read (double.write (.infinity true)) = .infinity true by decide]; rfl
    | number s m p =>
      obtain ⟨m', p', hrx, hmx, hpx⟩ := wide_read hdx
      have bx := read_single hdx
      cases hdy : single.read y with
      | nan s t => rw [hdy] at hy; cases hy
      | infinity t =>
        unfold Format.order
        rw [hdx, hdy, hrx]
        cases t
        · rw [show double.read (double.write (.infinity false)) = .infinity false by decide]; rfl
        · rw [show double.read (double.write (.infinity true)) = .infinity true by decide]; rfl
      | number t n q =>
        obtain ⟨n', q', hry, hmy, hpy⟩ := wide_read hdy
        have by' := read_single hdy
        rw [order_mg double hrx hry (by omega) (by omega), order_mg single hdx hdy (by omega) (by omega)]
        unfold sv
        rw [hmx, hmy]

theorem finW_wid (o : Option Nat) (h : ∀ x, o = some x → (single.read x).isNaN = false) : finW (wid o) = finB o := by
  cases o with
  | none => exact finW_none.trans finB_none.symm
  | some b =>
    have hb := h b rfl
    have e1 := finW_some (double.write (single.read b)) (read_write_notNaN double (single.read b) hb)
    have e2 := finB_some b hb
    have e3 := wid_isNum b hb
    exact e1.trans (e3.trans e2.symm)
theorem fv_isNum (k : FloatKind) (b : Nat) : ∀ x, fv k b = some x → (k.format.read x).isNaN = false := by
  intro x h
  unfold fv at h
  split at h
  · cases h
  · cases h; rename_i h; simpa using h
end Go.Proofs.YtmiajfdhdpmeoaaGreatDoor
