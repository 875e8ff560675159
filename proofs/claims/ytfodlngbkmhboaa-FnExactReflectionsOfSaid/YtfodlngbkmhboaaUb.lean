/-
  The law FnExactAreasFrom: the program and the reference, from their contracts. Condition: the reflections are read off memory.
-/
import Derived.Test.YtfodlngbkmhboaaUa
namespace Go.Proofs.Ytfodlngbkmhboaa
open Go.RowKit Ieee

theorem copyX (a : Option Addr) (n c : Nat) (xs : List Nat) (w : World) (hn : xs.length = n) (ha : Hid (fls w a xs)) (hx : n < 2147483648) :
    Calls Try.prog 18 #[.slice a n c] w fun e w' => ∃ b, e = .returned (.slice (some ⟨b, 0, none⟩) n n) ∧ w.heap.size ≤ b ∧ Below w.heap.size w w' ∧ Hid (rowA w' w.heap.size (some ⟨b, 0, none⟩) xs) := by
  subst hn
  refine (laws_toFloat32S a c xs w ha.out hx).mono ?_
  rintro e w' ⟨rfl, h1, h2, _⟩
  exact ⟨_, rfl, Nat.le_refl _, h1, flr.rowA h2 (Nat.le_refl _)⟩
theorem eqX (a b : Option Addr) (n m c d : Nat) (xs ys : List Nat) (w : World) (hn : xs.length = n) (hm : ys.length = m) (ha : Hid (fls w a xs)) (hb : Hid (fls w b ys)) (hx : n < 2147483648) (h : xs.map (fv .f32) = ys.map (fv .f32)) :
    Calls Try.prog 21 #[.slice a n c, .slice b m d] w fun e w' => e = .returned (.bool true) ∧ Below w.heap.size w w' := by
  subst hn hm
  refine (laws_eqFloat32S a b c d xs ys w ha.out hb.out hx h).mono ?_
  rintro e w' ⟨rfl, k, rfl⟩
  exact ⟨rfl, below_drewN (Below.refl _ _) k⟩

set_option maxHeartbeats 4000000 in
theorem law_FnExactAreasFrom (w : World) (a : Option Addr) (n c : Nat) (xs : List Nat) (hn : xs.length = n) (ha : fls w a xs) (_ : ∀ i, i < n → xs.getD i 0 < 4294967296) (x0 : Nat) (_ : (Lit.float .f32 x0).wf = true) :
    Calls Try.prog 5 #[.slice a n c, .float .f32 x0] w fun e w' => e = .returned (.bool true) ∧ Below w.heap.size w w' := by
  have HN := Lib.hid hn
  have HA := Lib.hid ha
  clear hn ha
  by_cases h : n ≤ 1048576
  · have hx : n < 2147483648 := by omega
    obtain ⟨v, L, CS, CI⟩ : ∃ (v : Bool) (L : List (Option Nat)),
        Hid (∀ (b : Option Addr) (W : World), Hid (fls W b xs) → Calls Try.prog 24 #[.slice b n n, .float .f32 x0] W fun e w' => ∃ A ys cap, e = .returned (.tuple #[.slice A ys.length cap, .bool v]) ∧ ys.map (fv .f32) = L ∧ ys.length ≤ 16 ∧ Below W.heap.size W w' ∧ Hid (rowA w' W.heap.size A ys)) ∧
        Hid (∀ (b : Option Addr) (W : World), Hid (fls W b xs) → Calls Try.prog 25 #[.slice b n n, .float .f32 x0] W fun e w' => ∃ A ys cap, e = .returned (.tuple #[.slice A ys.length cap, .bool v]) ∧ ys.map (fv .f32) = L ∧ ys.length ≤ 16 ∧ Below W.heap.size W w' ∧ Hid (rowA w' W.heap.size A ys)) :=
      ⟨arOk (fv .f32 x0) xs n, arL (fv .f32 x0) xs n, fun b W hb => spec_AreasFrom b n n x0 xs W HN.out hb hx, fun b W hb => impl_AreasFrom b n n x0 xs W HN.out hb hx⟩
    have k0 : ¬ (1 : Int) + (n : Int) < 0 := by omega
    go_enter Try.func5, Try.ntmps5
    go_wp2_with fail
    -- w0, w1
    refine (copyX a n c xs w HN.out HA hx).mono ?_
    rintro e w1 ⟨b1, rfl, _, B1, F1⟩
    go_wp2_with fail
    refine (CS.out _ w1 F1.out.fls).mono ?_
    rintro e w2 ⟨P, ps, pc, rfl, hp, hpl, B2, Z⟩
    have HP := Lib.hid hp
    clear hp
    have D2 := Below.on B1 B2
    go_wp2_with fail
    -- x0
    refine (copyX a n c xs w2 HN.out (HA.out.stays D2) hx).mono ?_
    rintro e w3 ⟨b3, rfl, hb3, B3, X⟩
    have D3 := Below.on D2 B3
    go_wp2_with fail
    -- g0, g1
    refine (CI.out _ w3 X.out.fls).mono ?_
    rintro e w4 ⟨G, gs, gc, rfl, hg, hgl, B4, Y⟩
    have HG := Lib.hid hg
    clear hg
    have D4 := Below.on D3 B4
    have E4 := Below.on B3 B4
    have k1 : ¬ (1 : Int) + (gs.length : Int) < 0 := by omega
    have x3 : b3 < w3.heap.size := (X.out.lt _ rfl).2
    go_wp2_with fail
    refine (eqX G P gs.length ps.length gc pc gs ps w4 rfl rfl Y.out.fls (Z.out.stays E4).fls (by omega) (HG.out.trans HP.out.symm)).mono ?_
    rintro e w5 ⟨rfl, B5⟩
    have D5 := Below.on D4 B5
    go_wp2_with fail
    -- eq(x0, copy)
    refine (copyX a n c xs w5 HN.out (HA.out.stays D5) hx).mono ?_
    rintro e w6 ⟨b6, rfl, _, B6, F6⟩
    go_wp2_with fail
    refine (eqX (some ⟨b3, 0, none⟩) (some ⟨b6, 0, none⟩) n n n n xs xs w6 HN.out HN.out ((X.out.stays (Below.on B4 B5)).stays B6).fls F6.out.fls hx rfl).mono ?_
    rintro e w7 ⟨rfl, B7⟩
    have B67 := Below.on B6 B7
    have D7 := Below.on D5 B67
    have E7 := Below.on (Below.on E4 B5) B67
    have X7 := Lib.hid (X.out.stays (Below.on (Below.on B4 B5) B67))
    have Y7 := Lib.hid (Y.out.stays (Below.on B5 B67))
    go_wp2_with fail
    -- k = mark(x0, k)
    refine (laws_markFloat32S (some ⟨b3, 0, none⟩) n n 1 w2.heap.size xs w7 HN.out X7 hx (by decide)).mono ?_
    rintro e w8 ⟨rfl, M8, T8, _⟩
    have E78 : Below w2.heap.size w7 w8 := M8 _ (Nat.le_refl _) E7.size
    have E8 : Below w2.heap.size w2 w8 := E7.trans E78
    have D8 : Below w.heap.size w w8 := D7.trans (E78.mono D2.size)
    have Y8 : Hid (rowA w8 w3.heap.size G gs) := Y7.out.turned T8 (fun x y h1 h2 => by cases h2; have := (Y7.out.lt x h1).1; simp only []; omega)
    clear M8 T8
    go_wp2_with fail
    refine (eqX G P gs.length ps.length gc pc gs ps w8 rfl rfl Y8.out.fls (Z.out.stays E8).fls (by omega) (HG.out.trans HP.out.symm)).mono ?_
    rintro e w9 ⟨rfl, B9⟩
    have E9 := Below.on E8 B9
    have D9 := Below.on D8 B9
    go_wp2_with fail
    -- m = mark(g0, m)
    refine (laws_markFloat32S G gs.length gc 1 w3.heap.size gs w9 rfl (Y8.out.stays B9) (by omega) (by decide)).mono ?_
    rintro e wa ⟨rfl, Ma, _, K⟩
    have Ea' : Below w2.heap.size w9 wa := Ma _ B3.size E9.size
    have Ea : Below w2.heap.size w2 wa := E9.trans Ea'
    have Da : Below w.heap.size w wa := D9.trans (Ea'.mono D2.size)
    clear Ma
    go_wp2_with fail
    refine (laws_heldFloat32S G gs.length gc 1 w3.heap.size wa K (by omega) (by decide)).mono ?_
    rintro e wb ⟨rfl, rfl⟩
    go_wp2_with fail
    -- h0, h1
    refine (copyX a n c xs _ HN.out (HA.out.stays Da) hx).mono ?_
    rintro e wc ⟨bc, rfl, _, Bc, Fc⟩
    go_wp2_with fail
    refine (CI.out _ wc Fc.out.fls).mono ?_
    rintro e wd ⟨H, hs, hc, rfl, hh, hhl, Bd, V⟩
    have HH := Lib.hid hh
    clear hh
    have Bcd := Below.on Bc Bd
    have Ed := Below.on Ea Bcd
    go_wp2_with fail
    refine (eqX H P hs.length ps.length hc pc hs ps wd rfl rfl V.out.fls (Z.out.stays Ed).fls (by omega) (HH.out.trans HP.out.symm)).mono ?_
    rintro e we ⟨rfl, Be⟩
    have Bce := Below.on Bcd Be
    go_wp2_with fail
    refine (laws_heldFloat32S G gs.length gc 1 w3.heap.size we (K.out.stays Bce) (by omega) (by decide)).mono ?_
    rintro e wf ⟨rfl, rfl⟩
    go_wp2_with fail
    go_ret
    exact ⟨rfl, Below.on Da Bce⟩
  · go_enter Try.func5, Try.ntmps5
    go_wp2_with fail
    go_ret
    exact ⟨rfl, Below.refl _ _⟩
end Go.Proofs.Ytfodlngbkmhboaa
