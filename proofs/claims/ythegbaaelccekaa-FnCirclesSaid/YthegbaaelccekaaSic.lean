/-
  The law FnExactSineTurns: the program and the reference, from their contracts. Condition: bits fit the kind.
-/
import Derived.Test.YthegbaaelccekaaSib
namespace Go.Proofs.Ythegbaaelccekaa
open Go.RowKit Ieee

theorem sineW_big (o : Option Nat) (ho : ∀ b, o = some b → (double.read b).isNaN = false) : big (sineW o) = false := by
  unfold sineW
  split
  · rfl
  · rename_i h1
    have h1' : finW o = true := by simpa using h1
    split
    · decide +kernel
    · rename_i h2
      have h2' : fge o (fc 4841369599423283200) = false ∧ fle o (fc 14064741636278059008) = false := by simpa using h2
      have hb := small_bd h1' h2'.1 h2'.2 ho
      cases o with
      | none => cases h1'
      | some b =>
        obtain ⟨n, _, _, _, hn, _⟩ := toi_some hb
        rw [hn]
        exact big_of_Bd (sineF_bd (fracF_bd hb hn)) (by decide) (by decide)

/-- The sine of a float32 of turns. -/
def sineB (x : Nat) : Option Nat := nar (sineW (wid (fv .f32 x)))

theorem wid_read (o : Option Nat) (ho : ∀ x, o = some x → (single.read x).isNaN = false) : ∀ b, wid o = some b → (double.read b).isNaN = false := by
  intro b hb
  cases o with
  | none => cases hb
  | some x => cases hb; exact read_write_notNaN double _ (ho x rfl)

theorem ge32 (x : Nat) : (FloatKind.f32.format.order x 1501560832 == some .gt || FloatKind.f32.format.order x 1501560832 == some .eq) = fge (wid (fv .f32 x)) (fc 4841369599423283200) := by
  have e : fc 4841369599423283200 = wid (fv .f32 1501560832) := by decide +kernel
  unfold fge
  rw [e, ford_wid _ _ (fv_isNum .f32 x) (fv_isNum .f32 _), ← order_ford]
theorem le32 (x : Nat) : (FloatKind.f32.format.order x 3649044480 == some .lt || FloatKind.f32.format.order x 3649044480 == some .eq) = fle (wid (fv .f32 x)) (fc 14064741636278059008) := by
  have e : fc 14064741636278059008 = wid (fv .f32 3649044480) := by decide +kernel
  unfold fle
  rw [e, ford_wid _ _ (fv_isNum .f32 x) (fv_isNum .f32 _), ← order_ford]

theorem nval_nan (b : Nat) (w : World) (h : fv .f64 b = none) : fv .f32 (nval b w) = none := by
  rw [fv_nval b w (by rw [h]; rfl), h]; rfl

end Go.Proofs.Ythegbaaelccekaa
