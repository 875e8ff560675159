/-
  The law FnExactReadComplex: the program and the reference, from their contracts. Condition: the listed variables read as listed, internal/bytealg.MaxLen holds some number.
-/
import Derived.Test.YthegbaaelccekaaDoorCi
namespace Go.Proofs.YthegbaaelccekaaDoor
open Go.RowKit Go.Lib Go.Joins

set_option maxHeartbeats 1000000 in
theorem law_FnExactReadComplex (w : World) (s : ByteArray) (_ : s.size ≤ maxLen) (hm : Hid (MaxLenIs w)) (hd : Hid (Bru w)) (he : Hid (ErrS w)) :
    Calls Tryd.prog 9 #[.string s] w fun e w' => e = .returned (.bool true) ∧ Below w.heap.size w w' := by
  by_cases hs : (s.size : Int) ≤ 1048576
  · have hs' : s.size ≤ 1048576 := by omega
    obtain ⟨v, zs, n, hn, hn64, CS, CI⟩ : ∃ (v : Bool) (zs : List Nat) (n : Nat), Hid (zs.length / 2 = n) ∧ n ≤ 256 ∧
        Hid (∀ (W : World), Calls Tryd.prog 31 #[.string s] W fun e w' => ∃ a cap, e = .returned (.tuple #[.slice a n cap, .bool v]) ∧ Below W.heap.size W w' ∧ Hid (rowV w' 64 W.heap.size a (cvals zs))) ∧
        Hid (∀ (W : World), Hid (MaxLenIs W) → Hid (Bru W) → Hid (ErrS W) → Calls Tryd.prog 32 #[.string s] W fun e w' => ∃ a cap, e = .returned (.tuple #[.slice a n cap, .bool v]) ∧ Below W.heap.size W w' ∧ Hid (rowV w' 64 W.heap.size a (cvals zs))) :=
      ⟨okS 2 s, numS 2 s, _, rfl, by have := numS_len 2 s; omega, fun W => spec_ReadComplex s W hs', fun W h1 h2 h3 => impl_ReadComplex s W hs' h1 h2 h3⟩
    have k1 : ¬ (1 : Int) + (n : Int) < 0 := by omega
    have hil : Hid ((cvals zs).length = n) := by show _ = _; rw [cvals_len]; exact hn.out
    go_enter Tryd.func9, Tryd.ntmps9
    go_wp2_with fail
    refine (CS.out w).mono ?_
    rintro e w1 ⟨P, pc, rfl, B1, HP⟩
    go_wp2_with fail
    refine (CI.out w1 (Lib.hid (hm.out.on B1 (Nat.le_refl _))) (Lib.hid (hd.out.on B1 (Nat.le_refl _))) (Lib.hid (he.out.on B1 (Nat.le_refl _)))).mono ?_
    rintro e w2 ⟨G, gc, rfl, B2, HG⟩
    have D2 := onB B1 B2
    go_wp2_with fail
    refine (laws_eqComplex64S G P n gc pc _ _ zs w2 hn.out HG (Lib.hid (HP.out.stays B2)) (by omega)).mono ?_
    rintro e w3 ⟨rfl, m3, rfl⟩
    go_wp2_with fail
    refine (laws_markComplex64S G n gc 1 w1.heap.size (cvals zs) (w2.drewN m3) hil.out HG (by omega) (by decide)).mono ?_
    rintro e w4 ⟨rfl, M4, _, K4⟩
    have E4 : Below w1.heap.size w1 w4 := (belowD B2 m3).trans (M4 _ (Nat.le_refl _) B2.size)
    have D4 : Below w.heap.size w w4 := onB B1 E4
    clear M4
    go_wp2_with fail
    refine (laws_heldComplex64S G n gc 1 w1.heap.size w4 K4 (by omega) (by decide)).mono ?_
    rintro e w5 ⟨rfl, rfl⟩
    go_wp2_with fail
    refine (CI.out w5 (Lib.hid (hm.out.on D4 (Nat.le_refl _))) (Lib.hid (hd.out.on D4 (Nat.le_refl _))) (Lib.hid (he.out.on D4 (Nat.le_refl _)))).mono ?_
    rintro e w6 ⟨H, hc, rfl, B6, HH⟩
    have E6 := onB E4 B6
    have D6 := onB D4 B6
    go_wp2_with fail
    refine (laws_eqComplex64S H P n hc pc _ _ zs w6 hn.out HH (Lib.hid (HP.out.stays E6)) (by omega)).mono ?_
    rintro e w7 ⟨rfl, m7, rfl⟩
    go_wp2_with fail
    refine (laws_heldComplex64S G n gc 1 w1.heap.size (w6.drewN m7) (Lib.hid ((K4.out.stays B6).stays (belowD (Below.refl _ _) m7))) (by omega) (by decide)).mono ?_
    rintro e w8 ⟨rfl, rfl⟩
    go_wp2_with fail
    go_ret
    exact ⟨rfl, belowD D6 _⟩
  · go_enter Tryd.func9, Tryd.ntmps9
    go_wp2
    go_ret
    exact ⟨rfl, Below.refl _ _⟩
end Go.Proofs.YthegbaaelccekaaDoor
