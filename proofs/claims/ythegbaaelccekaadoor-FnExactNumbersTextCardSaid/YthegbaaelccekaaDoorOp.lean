/-
  Arguments opened: a slice of float32, a tube, a pair of waves: what their cells hold. No condition.
-/
import Derived.Test.YthegbaaelccekaaDoorFs
import Derived.Deep.Slices
import Derived.Laws.Cover2
import Derived.Lib.SmallJoins
namespace Go.Proofs.YthegbaaelccekaaDoor
open Go.RowKit Go.ChangeShapes Go.WideShapes Go.Deep Go.Joins

section
variable {H : Type} {enc : TypeId × Value → H} {w : World} {base b0 : Nat} {spare : Nat → Bool} {held : Bool}

theorem trod_float {P : Program} {t : TypeId} {k : FloatKind} {fuel : Nat} {cs : List Value} {x : DataW H × List MemPlace} (ht : P.underlying t = some (.float k)) (h : DataW.trod enc P w base spare held fuel t cs = some x) : ∃ b, cs = [.float k b] ∧ (Lit.float k b).wf = true := by
  cases fuel with
  | zero => simp [DataW.trod] at h
  | succ n =>
    unfold DataW.trod at h
    rw [ht] at h
    split at h <;> simp_all

theorem trod_floatsB {fuel : Nat} {v : Value} {x : DataW H × List MemPlace} (h : DataW.trod enc Tryd.prog w base spare held fuel 36 [v] = some x) :
    ∃ (a : Option Addr) (n c : Nat) (xs : List Nat), v = .slice a n c ∧ xs.length = n ∧ fls w a xs ∧ (∀ i, i < n → xs.getD i 0 < 4294967296) ∧ n ≤ maxLen := by
  rcases open_slice1 Tryd.underlying36 (by kernel_rfl) h with ⟨hc, _⟩ | ⟨a, len, cap, m, n, V, D, Pl, hc, _, hl, hmx, hm, _, hall⟩
  · simp only [List.cons.injEq, and_true] at hc
    subst hc
    exact ⟨none, 0, 0, [], rfl, rfl, fun i hi => absurd hi (Nat.not_lt_zero _), fun i hi => absurd hi (Nat.not_lt_zero _), Nat.zero_le _⟩
  · simp only [List.cons.injEq, and_true] at hc
    subst hc
    have hlm : len ≤ m := by rw [hm]; split <;> omega
    have hB : ∀ i, i < len → ∃ b, V i = .float .f32 b ∧ b < 4294967296 := fun i hi => by
      obtain ⟨b, hb, hw⟩ := trod_float Tryd.underlying51 (hall i (by omega)).2
      simp only [List.cons.injEq, and_true] at hb
      exact ⟨b, hb, by simpa [Lit.wf] using hw⟩
    obtain ⟨X, hX⟩ := choose_lt hB
    obtain ⟨b, off, spot⟩ := a
    refine ⟨some ⟨b, off, spot⟩, len, cap, (List.range len).map X, rfl, by simp, fun i hi => ?_, fun i hi => ?_, Nat.le_trans hl hmx⟩
    · have hi' : i < len := by simpa using hi
      have hc := (hall i (by omega)).1
      have hspot : spot = none := by simpa [Addr.add] using World.cell?_spot (hall 0 (by omega)).1
      subst hspot
      refine ⟨b, off, rfl, ?_⟩
      rw [(hX i hi').1] at hc
      have e : ((List.range len).map X).getD i 0 = X i := by simp [List.getD, hi']
      rw [e]
      simpa [Addr.add_lit] using hc
    · have e : ((List.range len).map X).getD i 0 = X i := by simp [List.getD, hi]
      rw [e]
      exact (hX i hi).2

theorem trod_floats {fuel : Nat} {v : Value} {x : DataW H × List MemPlace} (h : DataW.trod enc Tryd.prog w base spare held fuel 36 [v] = some x) :
    ∃ (a : Option Addr) (n c : Nat) (xs : List Nat), v = .slice a n c ∧ xs.length = n ∧ fls w a xs ∧ (∀ i, i < n → xs.getD i 0 < 4294967296) := by
  obtain ⟨a, n, c, xs, h1, h2, h3, h4, _⟩ := trod_floatsB h
  exact ⟨a, n, c, xs, h1, h2, h3, h4⟩

set_option maxRecDepth 10000 in
theorem open_floats {v : Value} {d : DataW H} {ps : List MemPlace} (hv : Value.okWide Tryd.prog w .any b0 36 v) (h : DataW.Trod enc Tryd.prog w base spare held 36 v d ps) :
    ∃ (a : Option Addr) (n c : Nat) (xs : List Nat), v = .slice a n c ∧ xs.length = n ∧ fls w a xs ∧ (∀ i, i < n → xs.getD i 0 < 4294967296) := by
  obtain ⟨a, len, cap, rfl⟩ := okWide_slice Tryd.underlying36 hv
  obtain ⟨fuel, hf⟩ := h
  exact trod_floats hf

set_option maxRecDepth 10000 in
theorem open_floatsB {v : Value} {d : DataW H} {ps : List MemPlace} (hv : Value.okWide Tryd.prog w .any b0 36 v) (h : DataW.Trod enc Tryd.prog w base spare held 36 v d ps) :
    ∃ (a : Option Addr) (n c : Nat) (xs : List Nat), v = .slice a n c ∧ xs.length = n ∧ fls w a xs ∧ (∀ i, i < n → xs.getD i 0 < 4294967296) ∧ n < 9223372036854775808 := by
  obtain ⟨a, len, cap, rfl⟩ := okWide_slice Tryd.underlying36 hv
  obtain ⟨fuel, hf⟩ := h
  obtain ⟨a', n, c', xs, h1, h2, h3, h4, h5⟩ := trod_floatsB hf
  exact ⟨a', n, c', xs, h1, h2, h3, h4, Nat.lt_of_le_of_lt h5 (by decide +kernel)⟩

end
end Go.Proofs.YthegbaaelccekaaDoor
