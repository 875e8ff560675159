/-
  Arguments opened: a slice of float32, a tube, a pair of waves: what their cells hold. No condition.
-/
import Derived.Test.YtfodlngbkmhboaaFs
import Derived.Deep.Slices
import Derived.Laws.Cover2
import Derived.Lib.SmallJoins
namespace Go.Proofs.Ytfodlngbkmhboaa
open Go.RowKit Go.ChangeShapes Go.WideShapes Go.Deep Go.Joins

section
variable {H : Type} {enc : TypeId × Value → H} {w : World} {base b0 : Nat} {spare : Nat → Bool} {held : Bool}

theorem trod_float {P : Program} {t : TypeId} {k : FloatKind} {fuel : Nat} {cs : List Value} {x : DataW H × List MemPlace} (ht : P.underlying t = some (.float k)) (h : DataW.trod enc P w base spare held fuel t cs = some x) : ∃ b, cs = [.float k b] ∧ (Lit.float k b).wf = true := by
  cases fuel with
  | zero => simp [DataW.trod] at h
  | succ n =>
    unfold DataW.trod at h
    rw [ht] at h
    split at h <;> simp_all

theorem trod_floatsB {fuel : Nat} {v : Value} {x : DataW H × List MemPlace} (h : DataW.trod enc Try.prog w base spare held fuel 22 [v] = some x) :
    ∃ (a : Option Addr) (n c : Nat) (xs : List Nat), v = .slice a n c ∧ xs.length = n ∧ fls w a xs ∧ (∀ i, i < n → xs.getD i 0 < 4294967296) ∧ n ≤ maxLen := by
  rcases open_slice1 Try.underlying22 (by kernel_rfl) h with ⟨hc, _⟩ | ⟨a, len, cap, m, n, V, D, Pl, hc, _, hl, hmx, hm, _, hall⟩
  · simp only [List.cons.injEq, and_true] at hc
    subst hc
    exact ⟨none, 0, 0, [], rfl, rfl, fun i hi => absurd hi (Nat.not_lt_zero _), fun i hi => absurd hi (Nat.not_lt_zero _), Nat.zero_le _⟩
  · simp only [List.cons.injEq, and_true] at hc
    subst hc
    have hlm : len ≤ m := by rw [hm]; split <;> omega
    have hB : ∀ i, i < len → ∃ b, V i = .float .f32 b ∧ b < 4294967296 := fun i hi => by
      obtain ⟨b, hb, hw⟩ := trod_float Try.underlying23 (hall i (by omega)).2
      simp only [List.cons.injEq, and_true] at hb
      exact ⟨b, hb, by simpa [Lit.wf] using hw⟩
    obtain ⟨X, hX⟩ := choose_lt hB
    obtain ⟨b, off, spot⟩ := a
    refine ⟨some ⟨b, off, spot⟩, len, cap, (List.range len).map X, rfl, by simp, fun i hi => ?_, fun i hi => ?_, Nat.le_trans hl hmx⟩
    · have hi' : i < len := by simpa using hi
      have hc := (hall i (by omega)).1
      have hspot : spot = none := by simpa [Addr.add] using World.cell?_spot (hall 0 (by omega)).1
      subst hspot
      refine ⟨b, off, rfl, ?_⟩
      rw [(hX i hi').1] at hc
      have e : ((List.range len).map X).getD i 0 = X i := by simp [List.getD, hi']
      rw [e]
      simpa [Addr.add_lit] using hc
    · have e : ((List.range len).map X).getD i 0 = X i := by simp [List.getD, hi]
      rw [e]
      exact (hX i hi).2

theorem trod_floats {fuel : Nat} {v : Value} {x : DataW H × List MemPlace} (h : DataW.trod enc Try.prog w base spare held fuel 22 [v] = some x) :
    ∃ (a : Option Addr) (n c : Nat) (xs : List Nat), v = .slice a n c ∧ xs.length = n ∧ fls w a xs ∧ (∀ i, i < n → xs.getD i 0 < 4294967296) := by
  obtain ⟨a, n, c, xs, h1, h2, h3, h4, _⟩ := trod_floatsB h
  exact ⟨a, n, c, xs, h1, h2, h3, h4⟩

theorem open_floats {v : Value} {d : DataW H} {ps : List MemPlace} (hv : Value.okWide Try.prog w .any b0 22 v) (h : DataW.Trod enc Try.prog w base spare held 22 v d ps) :
    ∃ (a : Option Addr) (n c : Nat) (xs : List Nat), v = .slice a n c ∧ xs.length = n ∧ fls w a xs ∧ (∀ i, i < n → xs.getD i 0 < 4294967296) := by
  obtain ⟨a, len, cap, rfl⟩ := okWide_slice Try.underlying22 hv
  obtain ⟨fuel, hf⟩ := h
  exact trod_floats hf

/-- A tube that came in: its areas' address and numbers, its three ends. -/
theorem open_tube {v : Value} {d : DataW H} {ps : List MemPlace} (hv : Value.okWide Try.prog w .any b0 37 v) (h : DataW.Trod enc Try.prog w base spare held 37 v d ps) :
    ∃ (a : Option Addr) (n c : Nat) (xs : List Nat) (l t p : Nat), v = .agg #[.slice a n c, .float .f32 l, .float .f32 t, .float .f32 p] ∧ xs.length = n ∧ fls w a xs ∧ ((∀ i, i < n → xs.getD i 0 < 4294967296) ∧ n ≤ maxLen) ∧ l < 4294967296 ∧ t < 4294967296 ∧ p < 4294967296 := by
  obtain ⟨v0, v1, v2, v3, y0, y1, y2, y3, n, rfl, _, _, h0, h1, h2, h3⟩ := open_agg4 Try.underlying37 (by kernel_rfl) (by kernel_rfl) hv h
  obtain ⟨a, n, c, xs, rfl, e1, e2, e3⟩ := trod_floatsB h0
  obtain ⟨b1, hb1, w1⟩ := trod_float Try.underlying23 h1
  obtain ⟨b2, hb2, w2⟩ := trod_float Try.underlying23 h2
  obtain ⟨b3, hb3, w3⟩ := trod_float Try.underlying23 h3
  simp only [List.cons.injEq, and_true] at hb1 hb2 hb3
  subst hb1 hb2 hb3
  exact ⟨a, n, c, xs, b1, b2, b3, rfl, e1, e2, e3, by simpa [Lit.wf] using w1, by simpa [Lit.wf] using w2, by simpa [Lit.wf] using w3⟩

/-- A pair of waves that came in. -/
theorem open_waves {v : Value} {d : DataW H} {ps : List MemPlace} (hv : Value.okWide Try.prog w .any b0 45 v) (h : DataW.Trod enc Try.prog w base spare held 45 v d ps) :
    ∃ (a : Option Addr) (n c : Nat) (xs : List Nat) (b : Option Addr) (k d : Nat) (ys : List Nat), v = .agg #[.slice a n c, .slice b k d] ∧ xs.length = n ∧ fls w a xs ∧ ((∀ i, i < n → xs.getD i 0 < 4294967296) ∧ n ≤ maxLen) ∧ ys.length = k ∧ fls w b ys ∧ ((∀ i, i < k → ys.getD i 0 < 4294967296) ∧ k ≤ maxLen) := by
  obtain ⟨v0, v1, y0, y1, n, rfl, _, _, h0, h1⟩ := open_agg2 Try.underlying45 (by kernel_rfl) (by kernel_rfl) hv h
  obtain ⟨a, n, c, xs, rfl, e1, e2, e3⟩ := trod_floatsB h0
  obtain ⟨b, k, d, ys, rfl, e4, e5, e6⟩ := trod_floatsB h1
  exact ⟨a, n, c, xs, b, k, d, ys, rfl, e1, e2, e3, e4, e5, e6⟩
end
end Go.Proofs.Ytfodlngbkmhboaa
