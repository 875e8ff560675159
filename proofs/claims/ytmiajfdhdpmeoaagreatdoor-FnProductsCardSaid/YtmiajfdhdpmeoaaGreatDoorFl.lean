/-
  Floats up to the bits of a NaN: 'fv k b' is 'some b' for the bits of a number or an infinity and 'none' for a NaN; each operation of the model, whatever the tape answers where it is asked for a NaN's bits, is a function of these. No condition.
-/
import Derived.WalkKit
import Derived.WalkLawsBesides
import Derived.Deep.Draws
namespace Go.Proofs.YtmiajfdhdpmeoaaGreatDoor
open Ieee

/-- A float's bits, NaNs all alike. -/
def fv (k : FloatKind) (b : Nat) : Option Nat := if (k.format.read b).isNaN then none else some b

def fop (op : BinOp) (k : FloatKind) (a b : Option Nat) : Option Nat := a.bind fun x => b.bind fun y => floatBits op k x y
def ford (k : FloatKind) (a b : Option Nat) : Option Ordering := a.bind fun x => b.bind fun y => k.format.order x y
def fsqrt (a : Option Nat) : Option Nat := a.bind fun x => FloatKind.f64.format.sqrt x

/-! ### Bits and data -/
theorem word_read (f : Format) (neg : Bool) (r : Nat) (h : r < f.signWeight) : f.word neg r / f.signWeight % 2 = neg.toNat ∧ f.word neg r % f.signWeight = r := by
  have hp : 0 < f.signWeight := Nat.two_pow_pos _
  cases neg
  · simp only [Format.word, Bool.toNat_false, if_neg Bool.false_ne_true]
    exact ⟨by rw [Nat.div_eq_of_lt h], Nat.mod_eq_of_lt h⟩
  · simp only [Format.word, Bool.toNat_true, if_true]
    constructor
    · rw [Nat.add_comm, Nat.add_div_right _ hp, Nat.div_eq_of_lt h]
    · rw [Nat.add_mod_left, Nat.mod_eq_of_lt h]

theorem read_word_notNaN (f : Format) (neg : Bool) (r : Nat) (h : r ≤ f.infRung) : (f.read (f.word neg r)).isNaN = false := by
  have hl := f.infRung_lt
  have hw := word_read f neg r (by omega)
  unfold Format.read
  simp only [hw.2]
  split
  · rfl
  · split
    · rfl
    · split
      · rfl
      · omega

theorem read_word_nan (f : Format) (hf : f.binade ≤ f.infRung) (neg : Bool) (r : Nat) (h1 : f.infRung < r) (h2 : r < f.signWeight) : (f.read (f.word neg r)).isNaN = true := by
  have hw := word_read f neg r h2
  unfold Format.read
  simp only [hw.2]
  rw [if_neg (by omega), if_neg (by omega), if_neg (by omega)]
  rfl

theorem read_write_notNaN (f : Format) (d : Datum) (h : d.isNaN = false) : (f.read (f.write d)).isNaN = false := by
  cases d with
  | number s m p =>
    simp only [Format.write, Format.nearest]
    split
    · exact read_word_notNaN f s 0 (Nat.zero_le _)
    · exact read_word_notNaN f s _ (Nat.min_le_right _ _)
  | infinity s => exact read_word_notNaN f s _ (Nat.le_refl _)
  | nan s t => cases h

theorem sum_notNaN {a b r : Datum} (h : a.sum b = some r) : r.isNaN = false ∧ a.isNaN = false ∧ b.isNaN = false := by
  cases a <;> cases b <;> simp [Datum.sum] at h <;> first | (obtain ⟨_, rfl⟩ := h; exact ⟨rfl, rfl, rfl⟩) | (subst h; exact ⟨rfl, rfl, rfl⟩)

theorem product_notNaN {a b r : Datum} (h : a.product b = some r) : r.isNaN = false ∧ a.isNaN = false ∧ b.isNaN = false := by
  cases a <;> cases b <;> simp [Datum.product] at h <;> first | (obtain ⟨_, rfl⟩ := h; exact ⟨rfl, rfl, rfl⟩) | (subst h; exact ⟨rfl, rfl, rfl⟩)

theorem quotient_notNaN {n : Nat} {a b r : Datum} (h : a.quotient n b = some r) : r.isNaN = false ∧ a.isNaN = false ∧ b.isNaN = false := by
  cases a <;> cases b <;> simp only [Datum.quotient] at h <;> first
    | (cases h; done)
    | (cases h; exact ⟨rfl, rfl, rfl⟩)
    | (split at h
       · split at h
         · cases h
         · cases h; exact ⟨rfl, rfl, rfl⟩
       · cases h; exact ⟨rfl, rfl, rfl⟩)

theorem root_notNaN {n : Nat} {a r : Datum} (h : a.root n = some r) : r.isNaN = false ∧ a.isNaN = false := by
  cases a <;> simp only [Datum.root] at h
  · split at h
    · cases h; exact ⟨rfl, rfl⟩
    · split at h
      · cases h
      · cases h; exact ⟨rfl, rfl⟩
  · split at h
    · cases h
    · cases h; exact ⟨rfl, rfl⟩
  · cases h

theorem opposite_isNaN (d : Datum) : d.opposite.isNaN = d.isNaN := by cases d <;> rfl

theorem floatBits_facts {op : BinOp} {k : FloatKind} {x y r : Nat} (h : floatBits op k x y = some r) : fv k r = some r ∧ fv k x = some x ∧ fv k y = some y := by
  have key : ∀ {d : Option Datum}, d.map k.format.write = some r → (∀ e, d = some e → e.isNaN = false ∧ (k.format.read x).isNaN = false ∧ (k.format.read y).isNaN = false) → fv k r = some r ∧ fv k x = some x ∧ fv k y = some y := by
    intro d hd he
    cases d with
    | none => cases hd
    | some e =>
      simp only [Option.map_some, Option.some.injEq] at hd
      obtain ⟨h1, h2, h3⟩ := he e rfl
      subst hd
      exact ⟨by unfold fv; rw [read_write_notNaN _ _ h1]; rfl, by unfold fv; rw [h2]; rfl, by unfold fv; rw [h3]; rfl⟩
  unfold floatBits at h
  split at h
  · exact key h fun e he => sum_notNaN he
  · exact key h fun e he => by have := sum_notNaN he; rwa [opposite_isNaN] at this
  · exact key h fun e he => product_notNaN he
  · exact key h fun e he => quotient_notNaN he
  · cases h

theorem floatBits_fop (op : BinOp) (k : FloatKind) (x y : Nat) : floatBits op k x y = fop op k (fv k x) (fv k y) := by
  cases h : floatBits op k x y with
  | some r =>
    obtain ⟨_, h2, h3⟩ := floatBits_facts h
    rw [h2, h3]; exact h.symm
  | none =>
    cases hx : fv k x with
    | none => rfl
    | some x' =>
      cases hy : fv k y with
      | none => rfl
      | some y' =>
        unfold fv at hx hy
        split at hx <;> split at hy <;> simp_all
        subst hx; subst hy; exact h.symm

theorem order_ford (k : FloatKind) (x y : Nat) : k.format.order x y = ford k (fv k x) (fv k y) := by
  unfold ford fv
  cases hx : (k.format.read x).isNaN <;> cases hy : (k.format.read y).isNaN <;> simp
  · have : ∃ s t, k.format.read y = .nan s t := by revert hy; cases k.format.read y <;> simp [Datum.isNaN]
    obtain ⟨s, t, h⟩ := this
    unfold Format.order; rw [h]; cases k.format.read x <;> rfl
  all_goals
    have : ∃ s t, k.format.read x = .nan s t := by revert hx; cases k.format.read x <;> simp [Datum.isNaN]
    obtain ⟨s, t, h⟩ := this
    unfold Format.order; rw [h]; rfl

/-! ### The NaNs that the tape gives -/
theorem nan_f32 (t : Nat) : (single.read ((t % 2) * 2 ^ 31 + 0x7f800000 + 1 + (t / 2) % (2 ^ 23 - 1))).isNaN = true := by
  have e : (t % 2) * 2 ^ 31 + 0x7f800000 + 1 + (t / 2) % (2 ^ 23 - 1) = single.word (t % 2 == 1) (0x7f800000 + 1 + (t / 2) % (2 ^ 23 - 1)) := by
    have h2 : t % 2 = 0 ∨ t % 2 = 1 := by omega
    rcases h2 with h | h <;> rw [h] <;> simp [Format.word, Format.signWeight, single] <;> omega
  rw [e]
  refine read_word_nan _ (by decide) _ _ ?_ ?_
  · show 0x7f800000 < _; omega
  · show _ < 2 ^ 31; omega

theorem nan_f64 (t : Nat) : (double.read ((t % 2) * 2 ^ 63 + 0x7ff0000000000000 + 1 + (t / 2) % (2 ^ 52 - 1))).isNaN = true := by
  have e : (t % 2) * 2 ^ 63 + 0x7ff0000000000000 + 1 + (t / 2) % (2 ^ 52 - 1) = double.word (t % 2 == 1) (0x7ff0000000000000 + 1 + (t / 2) % (2 ^ 52 - 1)) := by
    have h2 : t % 2 = 0 ∨ t % 2 = 1 := by omega
    rcases h2 with h | h <;> rw [h] <;> simp [Format.word, Format.signWeight, double] <;> omega
  rw [e]
  refine read_word_nan _ (by decide) _ _ ?_ ?_
  · show 0x7ff0000000000000 < _; omega
  · show _ < 2 ^ 63; omega

theorem fv_none {k : FloatKind} {b : Nat} (h : (k.format.read b).isNaN = true) : fv k b = none := if_pos h
theorem fv_some {k : FloatKind} {b : Nat} (h : (k.format.read b).isNaN = false) : fv k b = some b := if_neg (by rw [h]; exact Bool.false_ne_true)

theorem fv_cut_nan (k : FloatKind) (q : Question) (t : Nat) (h : (∃ x y, q = .nanBits k x y) ∨ ∃ x, q = .nanConv k x) : fv k (q.cut t) = none := by
  rcases h with ⟨x, y, rfl⟩ | ⟨x, rfl⟩ <;> cases k
  · exact fv_none (nan_f32 t)
  · exact fv_none (nan_f64 t)
  · exact fv_none (nan_f32 t)
  · exact fv_none (nan_f64 t)

/-! ### The four operations in a walk -/
/-- The result's bits. -/
def fval (op : BinOp) (k : FloatKind) (x y : Nat) (w : World) : Nat := (floatBits op k x y).getD ((Question.nanBits k x y).cut (w.tape w.drawn (.nanBits k x y)))
/-- How often the tape is asked. -/
def fdr (op : BinOp) (k : FloatKind) (x y : Nat) : Nat := if (floatBits op k x y).isSome then 0 else 1

theorem fv_fval (op : BinOp) (k : FloatKind) (x y : Nat) (w : World) : fv k (fval op k x y w) = fop op k (fv k x) (fv k y) := by
  rw [← floatBits_fop]
  unfold fval
  cases h : floatBits op k x y with
  | some r => exact (floatBits_facts h).1
  | none => exact fv_cut_nan k _ _ (.inl ⟨x, y, rfl⟩)

section
variable {P : Program} (w : World) (t : TypeId) (k : FloatKind) (x y : Nat)
theorem run_choose_nan (op : BinOp) (h : floatBits op k x y = none) : Sem.run P (do pure (Value.float k (← choose (.nanBits k x y)))) w = .ok (.float k (fval op k x y w)) (w.drewN (fdr op k x y)) := by
  unfold fval fdr
  rw [h]
  rfl

@[go_sem] theorem run_fadd : (binOp .add t (.float k x) (.float k y)).run P w = .ok (.float k (fval .add k x y w)) (w.drewN (fdr .add k x y)) := by
  cases h : floatBits .add k x y with
  | some r => rw [run_float_arith w .add t k x y r h]; simp [fval, fdr, h]; rfl
  | none => have h' : k.format.add x y = none := h
            rw [← run_choose_nan (P := P) w k x y .add h]; simp [binOp, Op.floatArith, h']
@[go_sem] theorem run_fsub : (binOp .sub t (.float k x) (.float k y)).run P w = .ok (.float k (fval .sub k x y w)) (w.drewN (fdr .sub k x y)) := by
  cases h : floatBits .sub k x y with
  | some r => rw [run_float_arith w .sub t k x y r h]; simp [fval, fdr, h]; rfl
  | none => have h' : k.format.sub x y = none := h
            rw [← run_choose_nan (P := P) w k x y .sub h]; simp [binOp, Op.floatArith, h']
@[go_sem] theorem run_fmul : (binOp .mul t (.float k x) (.float k y)).run P w = .ok (.float k (fval .mul k x y w)) (w.drewN (fdr .mul k x y)) := by
  cases h : floatBits .mul k x y with
  | some r => rw [run_float_arith w .mul t k x y r h]; simp [fval, fdr, h]; rfl
  | none => have h' : k.format.mul x y = none := h
            rw [← run_choose_nan (P := P) w k x y .mul h]; simp [binOp, Op.floatArith, h']
@[go_sem] theorem run_fquo : (binOp .quo t (.float k x) (.float k y)).run P w = .ok (.float k (fval .quo k x y w)) (w.drewN (fdr .quo k x y)) := by
  cases h : floatBits .quo k x y with
  | some r => rw [run_float_arith w .quo t k x y r h]; simp [fval, fdr, h]; rfl
  | none => have h' : k.format.div x y = none := h
            rw [← run_choose_nan (P := P) w k x y .quo h]; simp [binOp, Op.floatArith, h']
end
end Go.Proofs.YtmiajfdhdpmeoaaGreatDoor
