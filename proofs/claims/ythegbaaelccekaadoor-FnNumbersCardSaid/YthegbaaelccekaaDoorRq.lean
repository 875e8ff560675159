/-
  The law FnExactReadNumbers: the program and the reference, from their contracts. Condition: the listed variables read as listed, internal/bytealg.MaxLen holds some number.
-/
import Derived.Test.YthegbaaelccekaaDoorRp
import Derived.Test.YthegbaaelccekaaDoorMf
namespace Go.Proofs.YthegbaaelccekaaDoor
open Go.RowKit Go.Lib Go.Joins

theorem spec_ReadNumbers (s : ByteArray) (w : World) (hs : s.size ≤ 1048576) :
    Calls Tryd.prog 27 #[.string s] w fun e w' => readsF 1 s w w' e := by
  go_enter Tryd.func27, Tryd.ntmps27
  go_wp2_with fail
  refine (spec_l01NRead s _ hs).mono ?_
  rintro e w1 ⟨a, cap, rfl, b1, hr⟩
  have HB := Lib.hid b1
  have HR := Lib.hid hr
  clear b1 hr
  go_wp2
  go_ret2
  exact ⟨a, cap, rfl, HB.out, HR.out⟩
theorem impl_ReadNumbers (s : ByteArray) (w : World) (hs : s.size ≤ 1048576) (hm : Hid (MaxLenIs w)) (hd : Hid (Bru w)) (he : Hid (ErrS w)) :
    Calls Tryd.prog 28 #[.string s] w fun e w' => readsF 1 s w w' e := by
  go_enter Tryd.func28, Tryd.ntmps28
  go_wp2_with fail
  refine (impl_readNumbers s 1 (by decide) (by decide) _ hs hm hd he).mono ?_
  rintro e w1 ⟨a, cap, rfl, b1, hr⟩
  have HB := Lib.hid b1
  have HR := Lib.hid hr
  clear b1 hr
  go_wp2
  go_ret2
  exact ⟨a, cap, rfl, HB.out, HR.out⟩

set_option maxHeartbeats 1000000 in
theorem law_FnExactReadNumbers (w : World) (s : ByteArray) (_ : s.size ≤ maxLen) (hm : Hid (MaxLenIs w)) (hd : Hid (Bru w)) (he : Hid (ErrS w)) :
    Calls Tryd.prog 8 #[.string s] w fun e w' => e = .returned (.bool true) ∧ Below w.heap.size w w' := by
  by_cases hs : (s.size : Int) ≤ 1048576
  · have hs' : s.size ≤ 1048576 := by omega
    obtain ⟨v, zs, n, hn, hn64, CS, CI⟩ : ∃ (v : Bool) (zs : List Nat) (n : Nat), Hid (zs.length = n) ∧ n ≤ 256 ∧
        Hid (∀ (W : World), Calls Tryd.prog 27 #[.string s] W fun e w' => ∃ a cap, e = .returned (.tuple #[.slice a n cap, .bool v]) ∧ Below W.heap.size W w' ∧ Hid (rowV w' 51 W.heap.size a (fvals zs))) ∧
        Hid (∀ (W : World), Hid (MaxLenIs W) → Hid (Bru W) → Hid (ErrS W) → Calls Tryd.prog 28 #[.string s] W fun e w' => ∃ a cap, e = .returned (.tuple #[.slice a n cap, .bool v]) ∧ Below W.heap.size W w' ∧ Hid (rowV w' 51 W.heap.size a (fvals zs))) :=
      ⟨okS 1 s, numS 1 s, _, rfl, numS_len 1 s, fun W => spec_ReadNumbers s W hs', fun W h1 h2 h3 => impl_ReadNumbers s W hs' h1 h2 h3⟩
    have k1 : ¬ (1 : Int) + (n : Int) < 0 := by omega
    have hil : Hid ((fvals zs).length = n) := by show _ = _; rw [fvals_len]; exact hn.out
    go_enter Tryd.func8, Tryd.ntmps8
    go_wp2_with fail
    refine (CS.out w).mono ?_
    rintro e w1 ⟨P, pc, rfl, B1, HP⟩
    go_wp2_with fail
    refine (CI.out w1 (Lib.hid (hm.out.on B1 (Nat.le_refl _))) (Lib.hid (hd.out.on B1 (Nat.le_refl _))) (Lib.hid (he.out.on B1 (Nat.le_refl _)))).mono ?_
    rintro e w2 ⟨G, gc, rfl, B2, HG⟩
    have D2 := onB B1 B2
    go_wp2_with fail
    refine (laws_eqs G P gc pc n zs zs w2 hn.out (Lib.hid HG.out.fls) (Lib.hid (HP.out.stays B2).fls) (by omega) rfl).mono ?_
    rintro e w3 ⟨rfl, m3, rfl⟩
    go_wp2_with fail
    refine (laws_markFloat32S G n gc 1 w1.heap.size (fvals zs) (w2.drewN m3) hil.out HG (by omega) (by decide)).mono ?_
    rintro e w4 ⟨rfl, M4, _, K4⟩
    have E4 : Below w1.heap.size w1 w4 := (belowD B2 m3).trans (M4 _ (Nat.le_refl _) B2.size)
    have D4 : Below w.heap.size w w4 := onB B1 E4
    clear M4
    go_wp2_with fail
    refine (laws_heldFloat32S G n gc 1 w1.heap.size w4 K4 (by omega) (by decide)).mono ?_
    rintro e w5 ⟨rfl, rfl⟩
    go_wp2_with fail
    refine (CI.out w5 (Lib.hid (hm.out.on D4 (Nat.le_refl _))) (Lib.hid (hd.out.on D4 (Nat.le_refl _))) (Lib.hid (he.out.on D4 (Nat.le_refl _)))).mono ?_
    rintro e w6 ⟨H, hc, rfl, B6, HH⟩
    have E6 := onB E4 B6
    have D6 := onB D4 B6
    go_wp2_with fail
    refine (laws_eqs H P hc pc n zs zs w6 hn.out (Lib.hid HH.out.fls) (Lib.hid (HP.out.stays E6).fls) (by omega) rfl).mono ?_
    rintro e w7 ⟨rfl, m7, rfl⟩
    go_wp2_with fail
    refine (laws_heldFloat32S G n gc 1 w1.heap.size (w6.drewN m7) (Lib.hid ((K4.out.stays B6).stays (belowD (Below.refl _ _) m7))) (by omega) (by decide)).mono ?_
    rintro e w8 ⟨rfl, rfl⟩
    go_wp2_with fail
    go_ret
    exact ⟨rfl, belowD D6 _⟩
  · go_enter Tryd.func8, Tryd.ntmps8
    go_wp2
    go_ret
    exact ⟨rfl, Below.refl _ _⟩
end Go.Proofs.YthegbaaelccekaaDoor
