/-
  A float32 that is widened and narrowed is itself. No condition.
-/
import Derived.Test.YtmiajfdhdpmeoaaGreatDoorCc
namespace Go.Proofs.YtmiajfdhdpmeoaaGreatDoor
open Go.RowKit Ieee

theorem sr_word {x y : Nat} (hx : x < 4294967296) (hy : y < 4294967296) (hs : x / 2147483648 % 2 = y / 2147483648 % 2) (h : sr single x = sr single y) : x = y := by
  unfold sr at h
  have e2 : single.signWeight = 2147483648 := by decide
  rw [e2] at h
  split at h <;> split at h <;> omega
theorem same_order {x y : Nat} (hx : x < 4294967296) (hy : y < 4294967296) (nx : (single.read x).isNaN = false) (ny : (single.read y).isNaN = false) (hs : x / 2147483648 % 2 = y / 2147483648 % 2) (ho : single.order x y = some .eq) : x = y := by
  refine sr_word hx hy hs ?_
  rw [order_sr single (by decide) x y nx ny, compare_int] at ho
  by_cases h1 : sr single x < sr single y
  · rw [if_pos h1] at ho; cases ho
  · rw [if_neg h1] at ho
    by_cases h2 : sr single x = sr single y
    · exact h2
    · rw [if_neg h2] at ho; cases ho
theorem write32 (d : Datum) : single.write d < 4294967296 := single.write_lt d
/-- A number of float32, in whatever way it is told. -/
theorem write_same {x : Nat} {s : Bool} {m m' : Nat} {p p' : Int} (hx : x < 4294967296) (hr : single.read x = .number s m p) (hm : mg m' p' = mg m p) (hp : -6000 ≤ p') : single.write (.number s m' p') = x := by
  obtain ⟨h1, h2, h3⟩ := read_single hr
  obtain ⟨m2, p2, hr2, hp2, _, _, hle, hdown, hup⟩ := read_nearest single s m' p' hp (by decide) (by decide) m p (Nat.le_trans (Nat.le_of_lt h1) (by decide)) (by show -149 ≤ p; omega) (Nat.le_of_eq hm)
    (mg_lt_top h1 (by omega) (by show p + ((24 : Nat) : Int) ≤ 128; omega))
  have hmg : mg m2 p2 = mg m p := Nat.le_antisymm hle (hdown m p (Nat.le_trans (Nat.le_of_lt h1) (by decide)) (by show -149 ≤ p; omega) (Nat.le_of_eq hm.symm))
  have hw : single.write (.number s m' p') = single.nearest s m' p' := rfl
  rw [hw]
  have hp2' : -149 ≤ p2 := hp2
  have hsx := neg_read single x
  rw [hr] at hsx
  have hsy := neg_read single (single.nearest s m' p')
  rw [hr2] at hsy
  have e2 : single.signWeight = 2147483648 := by decide
  rw [e2] at hsx hsy
  have hlt : single.nearest s m' p' < 4294967296 := write32 (.number s m' p')
  refine same_order hlt hx (by rw [hr2]; rfl) (by rw [hr]; rfl) ?_ ?_
  · have hsx' : s = (x / 2147483648 % 2 == 1) := hsx
    have hsy' : s = (single.nearest s m' p' / 2147483648 % 2 == 1) := hsy
    have hxy : (x / 2147483648 % 2 == 1) = (single.nearest s m' p' / 2147483648 % 2 == 1) := hsx'.symm.trans hsy'
    clear hsx' hsy' hsx hsy hw hr2 hle hdown hup
    generalize single.nearest s m' p' = y at hxy hlt ⊢
    have h3 : x / 2147483648 % 2 = 0 ∨ x / 2147483648 % 2 = 1 := by omega
    have h4 : y / 2147483648 % 2 = 0 ∨ y / 2147483648 % 2 = 1 := by omega
    rcases h3 with h3 | h3 <;> rcases h4 with h4 | h4 <;> rw [h3, h4] at hxy ⊢ <;> simp at hxy
  · rw [order_mg single hr2 hr (by omega) (by omega)]
    unfold sv
    rw [hmg]
    cases s
    · simp
    · simp
theorem inf_word {x : Nat} {s : Bool} (hx : x < 4294967296) (hr : single.read x = .infinity s) : single.write (.infinity s) = x := by
  have hs := neg_read single x
  rw [hr] at hs
  have e2 : single.signWeight = 2147483648 := by decide
  have e3 : single.infRung = 2139095040 := by decide
  have e4 : single.binade = 8388608 := by decide
  rw [e2] at hs
  unfold Format.read at hr
  rw [e2, e3, e4] at hr
  have hq : x % 2147483648 = 2139095040 := by
    dsimp only at hr
    split at hr
    · cases hr
    · split at hr
      · cases hr
      · split at hr
        · assumption
        · cases hr
  have hs' : s = (x / 2147483648 % 2 == 1) := hs
  show single.word s single.infRung = x
  unfold Format.word
  rw [e2, e3]
  have h3 : x / 2147483648 % 2 = 0 ∨ x / 2147483648 % 2 = 1 := by omega
  rcases h3 with h3 | h3 <;> rw [h3] at hs' <;> simp at hs' <;> subst hs' <;> simp <;> omega
theorem narrow_wide {x : Nat} (hx : x < 4294967296) (w w2 : World) : fv .f32 (nval (wval x w) w2) = fv .f32 x := by
  have key : big (wid (fv .f32 x)) = false ∧ nar (wid (fv .f32 x)) = fv .f32 x := by
    rcases fv_cases .f32 x with ⟨h1, _⟩ | ⟨h1, hn, _⟩
    · rw [h1]; exact ⟨rfl, rfl⟩
    · rw [h1]
      have hn' : (single.read x).isNaN = false := hn
      show bigB (double.write (single.read x)) = false ∧ some (single.write (double.read (double.write (single.read x)))) = some x
      cases hd : single.read x with
      | nan s t => rw [hd] at hn'; cases hn'
      | infinity s =>
        have e : double.read (double.write (.infinity s)) = .infinity s := by cases s <;> decide
        unfold bigB
        rw [e]
        exact ⟨rfl, by rw [inf_word hx hd]⟩
      | number s m p =>
        obtain ⟨m', p', hr, hm, hp⟩ := wide_read hd
        have hw := write_same hx hd hm (by omega)
        unfold bigB
        rw [hr, hw, hd]
        exact ⟨rfl, rfl⟩
  rw [fv_nval _ _ (by rw [fv_wval]; exact key.1), fv_wval, key.2]
end Go.Proofs.YtmiajfdhdpmeoaaGreatDoor
