/-
  Byte lists: arguments opened; the laws' number chosen by a byte, and their test of lengths. Condition: lists are shorter than 2^31.
-/
import Derived.Test.YthegbaaelccekaaCc
import Derived.WalkKit
import Derived.Deep.Slices
import Derived.Laws.Cover2
import Derived.Lib.SmallJoins
namespace Go.Proofs.Ythegbaaelccekaa
open Go.RowKit Go.ChangeShapes Go.WideShapes Go.Deep Go.Joins

/-- The cells from a on hold the bytes bs. -/
def bys (w : World) (a : Option Addr) (bs : List Nat) : Prop := ∀ i, i < bs.length → ∃ b off, a = some ⟨b, off, none⟩ ∧ w.cell? ⟨b, off + i, none⟩ = some (.int .u8 (bs.getD i 0 : Nat))
theorem bys.drewN {w : World} {a : Option Addr} {bs : List Nat} (h : bys w a bs) (n : Nat) : bys (w.drewN n) a bs := h

section
variable {H : Type} {enc : TypeId × Value → H} {w : World} {base b0 : Nat} {spare : Nat → Bool} {held : Bool}
set_option maxRecDepth 10000 in
theorem open_bytes {v : Value} {d : DataW H} {ps : List MemPlace} (hv : Value.okWide Try.prog w .any b0 22 v) (h : DataW.Trod enc Try.prog w base spare held 22 v d ps) :
    ∃ (a : Option Addr) (n c : Nat) (bs : List Nat), v = .slice a n c ∧ bs.length = n ∧ bys w a bs ∧ (∀ i, i < n → bs.getD i 0 < 256) ∧ n < 9223372036854775808 := by
  obtain ⟨a, len, cap, rfl⟩ := okWide_slice Try.underlying22 hv
  obtain ⟨fuel, hf⟩ := h
  rcases open_slice1 Try.underlying22 (by kernel_rfl) hf with ⟨hc, _⟩ | ⟨a, len, cap, m, n, V, D, Pl, hc, _, hl, hmx, hm, _, hall⟩
  · simp only [Value.cells, List.cons.injEq, and_true] at hc
    cases hc
    exact ⟨none, 0, 0, [], rfl, rfl, fun i hi => absurd hi (Nat.not_lt_zero _), fun i hi => absurd hi (Nat.not_lt_zero _), by omega⟩
  · simp only [Value.cells, List.cons.injEq, and_true] at hc
    cases hc
    have hlm : len ≤ m := by rw [hm]; split <;> omega
    have hB : ∀ i, i < len → ∃ b : Nat, V i = .int .u8 (b : Nat) ∧ b < 256 := fun i hi => by
      obtain ⟨b, hb, _, hw⟩ := DataW.trod_int Try.underlying5 (hall i (by omega)).2
      simp only [List.cons.injEq, and_true] at hb
      have h2 : 0 ≤ b ∧ b < 256 := by
        have h3 : IntKind.u8.min ≤ b ∧ b ≤ IntKind.u8.max := by simpa [Lit.wf] using hw
        rw [show IntKind.u8.min = 0 from by kernel_rfl, show IntKind.u8.max = 255 from by kernel_rfl] at h3
        omega
      exact ⟨b.toNat, by rw [hb, Int.toNat_of_nonneg h2.1], by omega⟩
    obtain ⟨X, hX⟩ := choose_lt hB
    obtain ⟨b, off, spot⟩ := a
    refine ⟨some ⟨b, off, spot⟩, len, cap, (List.range len).map X, rfl, by simp, fun i hi => ?_, fun i hi => ?_, Nat.lt_of_le_of_lt (Nat.le_trans hl hmx) (by decide +kernel)⟩
    · have hi' : i < len := by simpa using hi
      have hc := (hall i (by omega)).1
      have hspot : spot = none := by simpa [Addr.add] using World.cell?_spot (hall 0 (by omega)).1
      subst hspot
      refine ⟨b, off, rfl, ?_⟩
      rw [(hX i hi').1] at hc
      have e : ((List.range len).map X).getD i 0 = X i := by simp [List.getD, hi']
      rw [e]
      simpa [Addr.add_lit] using hc
    · have e : ((List.range len).map X).getD i 0 = X i := by simp [List.getD, hi]
      rw [e]
      exact (hX i hi).2
end

theorem laws_b10Long (a b : Option Addr) (n c k d : Nat) (w : World) (hn : n < 9223372036854775808) (hk : k < 9223372036854775808) : Calls Try.prog 4 #[.slice a n c, .slice b k d] w fun e w' => e = .returned (.bool (decide (1048576 < n) || decide (1048576 < k))) ∧ w' = w := by
  by_cases h1 : (1048576 : Int) < n
  · have h1' : 1048576 < n := by omega
    rw [decide_eq_true h1', Bool.true_or]
    clear h1'
    go_enter Try.func4, Try.ntmps4
    go_wp2
    go_ret
    exact ⟨rfl, rfl⟩
  · have h1' : ¬ 1048576 < n := by omega
    rw [decide_eq_false h1', Bool.false_or]
    clear h1'
    by_cases h2 : (1048576 : Int) < k
    · have h2' : 1048576 < k := by omega
      rw [decide_eq_true h2']
      clear h2'
      go_enter Try.func4, Try.ntmps4
      go_wp2
      go_ret
      exact ⟨rfl, rfl⟩
    · have h2' : ¬ 1048576 < k := by omega
      rw [decide_eq_false h2']
      clear h2'
      go_enter Try.func4, Try.ntmps4
      go_wp2
      go_ret
      exact ⟨rfl, rfl⟩

/-- The number below m chosen by the i-th byte. -/
def atB (bs : List Nat) (i m : Nat) : Nat := if i < bs.length then bs.getD i 0 % m else (i * 37 + 11) % m
theorem atB_lt (bs : List Nat) (i : Nat) {m : Nat} (h : 0 < m) : atB bs i m < m := by
  unfold atB; split <;> exact Nat.mod_lt _ h

theorem laws_b10At (a : Option Addr) (n c : Nat) (bs : List Nat) (i m : Nat) (w : World) (hn : bs.length = n) (ha : bys w a bs) (hb : ∀ i, i < n → bs.getD i 0 < 256) (_ : n < 2147483648) (hi : i < 1000) (hm : 1 < m) (hm2 : m ≤ 1000) :
    Calls Try.prog 5 #[.slice a n c, .int .i64 i, .int .i64 m] w fun e w' => e = .returned (.int .i64 (atB bs i m : Nat)) ∧ w' = w := by
  unfold atB
  by_cases h : i < n
  · rw [if_pos (by omega)]
    obtain ⟨ba, oa, rfl, hca⟩ := ha i (by omega)
    have h8 := hb i h
    clear ha hb
    generalize bs.getD i 0 = v at *
    clear hn
    go_enter Try.func5, Try.ntmps5
    go_wp2
    go_ret
    exact ⟨by rw [Int.natCast_emod]; rfl, rfl⟩
  · rw [if_neg (by omega)]
    clear ha hb
    go_enter Try.func5, Try.ntmps5
    go_wp2
    go_ret
    exact ⟨by rw [Int.natCast_emod, Int.natCast_add, Int.natCast_mul]; rfl, rfl⟩
end Go.Proofs.Ythegbaaelccekaa
