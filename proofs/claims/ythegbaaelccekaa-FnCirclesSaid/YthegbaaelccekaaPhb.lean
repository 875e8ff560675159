/-
  PhasorOf, in the program and in the reference, and the law's walk. Condition: bits fit the kind.
-/
import Derived.Test.YthegbaaelccekaaPha
import Derived.Laws.ComplexArith
import Derived.Deep.RegionWith
import Derived.Deep.LoopGhost
namespace Go.Proofs.Ythegbaaelccekaa
open Go.RowKit Ieee

/-- The parts after the quarters: cosine and sine, turned. -/
def phP (F : Option Nat) (q : Nat) : Option Nat × Option Nat :=
  if q = 1 then (nar (fsub (fc 0) (sineW F)), nar (sineW (fsub fq F))) else
  if q = 2 then (nar (fsub (fc 0) (sineW (fsub fq F))), nar (fsub (fc 0) (sineW F))) else
  if q = 3 then (nar (sineW F), nar (fsub (fc 0) (sineW (fsub fq F)))) else
  (nar (sineW (fsub fq F)), nar (sineW F))
def phW (x : Option Nat) : Option Nat × Option Nat :=
  if finW x = false then (none, none) else
  if fge x (fc 4841369599423283200) = true ∨ fle x (fc 14064741636278059008) = true then (fv .f32 1065353216, fv .f32 0) else
  phP (qLoop 16 (fracF x ((toi x).getD 0)) 0).1 (qLoop 16 (fracF x ((toi x).getD 0)) 0).2

theorem sine_bd {o : Option Nat} (h : Bd 3 o) (hs : o.isSome = true) : Bd 127 (sineW o) := by
  obtain ⟨m, hm, he⟩ := sineW_small h hs
  rw [he]
  obtain ⟨b, rfl⟩ := Option.isSome_iff_exists.1 hs
  exact sineF_bd (fracF_bd (h.mono (by decide)) hm)
/-- What a phasor's part is worth. -/
theorem part_fv {b : Nat} {o : Option Nat} (w : World) (h : fv .f64 b = o) (ho : Bd 127 o) : fv .f32 (nval b w) = nar o := by
  rw [fv_nval b w (by rw [h]; exact big_of_Bd ho (by decide) (by decide)), h]
theorem part_neg {b : Nat} {o : Option Nat} (w w1 : World) (h : fv .f64 b = o) (ho : Bd 127 o) : fv .f32 (nval (fval .sub .f64 0 b w1) w) = nar (fsub (fc 0) o) :=
  part_fv w (by rw [fv_sub, h]; rfl) (Bd.from0 ho (by decide) (by decide))

def isPh (o : Option Nat × Option Nat) (e : Ending) : Prop := ∃ a b, e = .returned (.complex .f32 a b) ∧ fv .f32 a = o.1 ∧ fv .f32 b = o.2

end Go.Proofs.Ythegbaaelccekaa
