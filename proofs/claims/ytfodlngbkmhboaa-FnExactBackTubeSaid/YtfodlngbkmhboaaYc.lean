/-
  The law FnExactBackTube: the program and the reference, from their contracts. Condition: the tube is read off memory.
-/
import Derived.Test.YtfodlngbkmhboaaYb
namespace Go.Proofs.Ytfodlngbkmhboaa
open Go.RowKit Ieee
attribute [local irreducible] wpAnyH

set_option maxHeartbeats 4000000 in
theorem law_FnExactBackTube (w : World) (a : Option Addr) (n c : Nat) (xs : List Nat) (l t p : Nat) (hn : xs.length = n) (ha : fls w a xs) (hx : (∀ i, i < n → xs.getD i 0 < 4294967296) ∧ n ≤ maxLen) (_ : l < 4294967296) (_ : t < 4294967296) (_ : p < 4294967296) :
    Calls Try.prog 14 #[.agg #[.slice a n c, .float .f32 l, .float .f32 t, .float .f32 p]] w fun e w' => e = .returned (.bool true) ∧ Below w.heap.size w w' := by
  have HN := Lib.hid hn
  have hm : n ≤ 9223372036854775807 := hx.2
  have B := leftI_bounds (n := n) (k := 1048576) (by decide)
  have R0 := tubeF_row w 37 a n c l t p
  have A0 : Below w.heap.size w (w.alloc (.cells #[.slice a n c, .float .f32 l, .float .f32 t, .float .f32 p] 37)) := (Below.refl _ _).alloc (Nat.le_refl _) _
  have HA := Lib.hid (ha.stays A0)
  clear hn ha hx
  by_cases h : leftI n 1048576 < 0
  · go_enter Try.func14, Try.ntmps14
    go_wp2_with fail
    refine (laws_szTube a n c l t p _ _ hm (by decide) (by decide)).mono ?_
    rintro e w0 ⟨rfl, B0⟩
    go_wp2_with fail
    go_ret
    exact ⟨rfl, Below.on A0 B0⟩
  · have hx : n < 2147483648 := by have := leftI_ok (n := n) (k := 1048576) (by decide) h; omega
    obtain ⟨v, l', t', p', L, CS, CI⟩ : ∃ (v : Bool) (l' t' p' : Nat) (L : List (Option Nat)),
        Hid (∀ (b : Option Addr) (W : World), Hid (fls W b xs) → Calls Try.prog 54 #[.agg #[.slice b n n, .float .f32 l, .float .f32 t, .float .f32 p]] W fun e w' => ∃ A ys cap, e = .returned (.tuple #[.agg #[.slice A ys.length cap, .float .f32 l', .float .f32 t', .float .f32 p'], .bool v]) ∧ ys.map (fv .f32) = L ∧ ys.length ≤ 16 ∧ Below W.heap.size W w' ∧ Hid (rowA w' W.heap.size A ys)) ∧
        Hid (∀ (b : Option Addr) (W : World), Hid (fls W b xs) → Calls Try.prog 55 #[.agg #[.slice b n n, .float .f32 l, .float .f32 t, .float .f32 p]] W fun e w' => ∃ A ys cap, e = .returned (.tuple #[.agg #[.slice A ys.length cap, .float .f32 l', .float .f32 t', .float .f32 p'], .bool v]) ∧ ys.map (fv .f32) = L ∧ ys.length ≤ 16 ∧ Below W.heap.size W w' ∧ Hid (rowA w' W.heap.size A ys)) :=
      ⟨validT xs n l t p, _, _, _, _, fun b W hb => (spec_BackTube b n n l t p xs W HN.out hb hx).mono fun _ _ h => h.form, fun b W hb => (impl_BackTube b n n l t p xs W HN.out hb hx).mono fun _ _ h => h.form⟩
    have k0 : ¬ (1 : Int) + (n : Int) < 0 := by omega
    go_enter Try.func14, Try.ntmps14
    go_wp2_with fail
    generalize w.alloc (.cells #[.slice a n c, .float .f32 l, .float .f32 t, .float .f32 p] 37) = Wa at R0 A0 HA
    refine (laws_szTube a n c l t p _ Wa hm (by decide) (by decide)).mono ?_
    rintro e w0 ⟨rfl, B0⟩
    obtain ⟨c0, c1, c2, c3⟩ := tube_stays R0 B0
    go_wp2_with fail
    -- w0, w1
    refine (laws_toTube a n c l t p xs _ HN.out (HA.out.stays B0) hx).mono ?_
    rintro e w1 ⟨b1, rfl, B1, F1⟩
    have D1 := Below.on B0 B1
    clear c0 c1 c2 c3
    go_wp2_with fail
    refine (CS.out b1 w1 F1).mono ?_
    rintro e w2 ⟨P, ps, pc, rfl, hp, hpl, B2, Z⟩
    have HP := Lib.hid hp
    clear hp
    have D2 := Below.on D1 B2
    have A2 := alloc_belowP w2 (.cells #[.slice P ps.length pc, .float .f32 l', .float .f32 t', .float .f32 p'] 40)
    have R2 := tubeF_row w2 40 P ps.length pc l' t' p'
    have Z2 := Lib.hid (Z.out.stays A2)
    obtain ⟨c0, c1, c2, c3⟩ := tube_stays R0 (Below.on D2 A2)
    clear Z
    go_wp2_with fail
    generalize w2.alloc (.cells #[.slice P ps.length pc, .float .f32 l', .float .f32 t', .float .f32 p'] 40) = W2 at A2 R2 Z2 c0 c1 c2 c3
    have D2' := Below.on D2 A2
    clear D2 A2
    -- x0
    refine (laws_toTubeX a n c l t p xs _ HN.out (HA.out.stays D2') hx).mono ?_
    rintro e w3 ⟨b3, rfl, hb3, B3, F3⟩
    have D3 := Below.on D2' B3
    have A3 := alloc_belowP w3 (.cells #[.slice (some ⟨b3, 0, none⟩) n n, .float .f32 l, .float .f32 t, .float .f32 p] 40)
    have R3 := tubeF_row w3 40 (some ⟨b3, 0, none⟩) n n l t p
    have X3 := Lib.hid ((flr.rowA F3 hb3).stays A3)
    have b3lt := World.rowIs.lt F3
    clear F3 c0 c1 c2 c3
    go_wp2_with fail
    generalize w3.alloc (.cells #[.slice (some ⟨b3, 0, none⟩) n n, .float .f32 l, .float .f32 t, .float .f32 p] 40) = W3 at A3 R3 X3
    have D3' := Below.on D3 A3
    have E3 := Below.on B3 A3
    have HX3 := Lib.hid X3.out.fls
    -- g0, g1
    refine (CI.out (some ⟨b3, 0, none⟩) W3 HX3).mono ?_
    rintro e w4 ⟨G, gs, gc, rfl, hg, hgl, B4, Y⟩
    have HG := Lib.hid hg
    clear hg
    have k1 : ¬ (1 : Int) + (gs.length : Int) < 0 := by omega
    have E4 := Below.on E3 B4
    have D4 := Below.on D3' B4
    have A4 := alloc_belowP w4 (.cells #[.slice G gs.length gc, .float .f32 l', .float .f32 t', .float .f32 p'] 40)
    have R4 := tubeF_row w4 40 G gs.length gc l' t' p'
    have L4 : Hid (∀ x, G = some x → x.block ≠ w4.heap.size) := fun x hx => by have := (Y.out.lt x hx).2; omega
    have b34 : b3 < W3.heap.size := Nat.lt_of_lt_of_le b3lt A3.size
    have h34 : W3.heap.size ≤ w4.heap.size := B4.size
    have Y4 := Lib.hid (Y.out.stays A4)
    obtain ⟨c0, c1, c2, c3⟩ := tube_stays R2 (Below.on E4 A4)
    clear Y
    go_wp2_with fail
    generalize w4.alloc (.cells #[.slice G gs.length gc, .float .f32 l', .float .f32 t', .float .f32 p'] 40) = W4 at A4 R4 Y4 c0 c1 c2 c3
    have D4' := Below.on D4 A4
    have E4' := Below.on E4 A4
    have U4 := Below.on B4 A4
    have h4 : w4.heap.size < W4.heap.size := World.rowIs.lt R4
    refine (eqTubeX G P gs.length ps.length gc pc l' t' p' gs ps W4 rfl rfl Y4.out.fls (Z2.out.stays E4').fls (by omega) (HG.out.trans HP.out.symm)).mono ?_
    rintro e w5 ⟨rfl, B5⟩
    clear c0 c1 c2 c3
    have D5 := Below.on D4' B5
    have U5 := Below.on U4 B5
    obtain ⟨y0, y1, y2, y3⟩ := tube_stays R0 D5
    obtain ⟨z0, z1, z2, z3⟩ := tube_stays R3 U5
    go_wp2_with fail
    -- eqTube(x0, toTube(aT))
    go_region_held3 (fun W => W.cell? ⟨w.heap.size, 0, none⟩ = some (.slice a n c) ∧ W.cell? ⟨w.heap.size, 1, none⟩ = some (.float .f32 l) ∧ W.cell? ⟨w.heap.size, 2, none⟩ = some (.float .f32 t) ∧ W.cell? ⟨w.heap.size, 3, none⟩ = some (.float .f32 p) ∧ W.cell? ⟨w3.heap.size, 0, none⟩ = some (.slice (some ⟨b3, 0, none⟩) n n) ∧ W.cell? ⟨w3.heap.size, 1, none⟩ = some (.float .f32 l) ∧ W.cell? ⟨w3.heap.size, 2, none⟩ = some (.float .f32 t) ∧ W.cell? ⟨w3.heap.size, 3, none⟩ = some (.float .f32 p)) (first | exact ⟨y0, y1, y2, y3, z0, z1, z2, z3⟩ | exact ⟨u0, u1, u2, u3, v0, v1, v2, v3⟩ | exact ⟨s0, s1, s2, s3, q0, q1, q2, q3⟩) (first
      | (go_at_call 30; refine (laws_toTube a n c l t p xs _ HN.out (HA.out.stays D5.drew) hx).mono ?_; rintro r w6 ⟨p6, rfl, B6, F6⟩; obtain ⟨u0, u1, u2, u3⟩ := tube_stays R0 (Below.on D5.drew B6); obtain ⟨v0, v1, v2, v3⟩ := tube_stays R3 (Below.on U5.drew B6))
      | (go_at_call 32; refine (laws_eqTube (some ⟨b3, 0, none⟩) p6 n n n l t p l t p xs xs _ HN.out (X3.out.stays (Below.on U5.drew B6)).fls F6 hx rfl rfl rfl rfl).mono ?_; rintro r w7 ⟨rfl, B7⟩; obtain ⟨s0, s1, s2, s3⟩ := tube_stays R0 (Below.on (Below.on D5.drew B6) B7); obtain ⟨q0, q1, q2, q3⟩ := tube_stays R3 (Below.on (Below.on U5.drew B6) B7)))
    have D7 := Below.on (Below.on D5.drew B6) B7
    have E7 := Below.on (Below.on (Below.on E4' B5).drew B6) B7
    have U7 := Below.on (Below.on U5.drew B6) B7
    have V7 := Below.on (Below.on B5.drew B6) B7
    have X7 := Lib.hid (X3.out.stays U7)
    clear y0 y1 y2 y3 z0 z1 z2 z3 u0 u1 u2 u3 v0 v1 v2 v3
    have s7 : w4.heap.size < w7.heap.size := Nat.lt_of_lt_of_le h4 V7.size
    go_wp2_with fail
    -- k = mark(x0, k)
    refine (laws_markTube (some ⟨b3, 0, none⟩) n n l t p 1 W2.heap.size xs w7 HN.out X7 hx (by decide)).mono ?_
    rintro e w8 ⟨rfl, M8, T8, _⟩
    have E7' : Below W2.heap.size w7 w8 := M8 _ (Nat.le_refl _) E7.size
    have E8 : Below W2.heap.size W2 w8 := E7.trans E7'
    have D8 : Below Wa.heap.size Wa w8 := D7.trans (E7'.mono D2'.size)
    have R8 : w8.heap[w4.heap.size]? = W4.heap[w4.heap.size]? := (T8 _ s7 (fun x hx => by cases hx; simp only []; omega)).trans (V7.block _ h4)
    have Y8 : Hid (rowA w8 W3.heap.size G gs) := (Y4.out.stays V7).turned T8 (fun x y h1 h2 => by cases h2; have := (Y4.out.lt x h1).1; simp only []; omega)
    have s8 : w4.heap.size < w8.heap.size := Nat.lt_of_lt_of_le s7 E7'.size
    clear M8 T8 s0 s1 s2 s3 q0 q1 q2 q3
    obtain ⟨c0, c1, c2, c3⟩ := tube_stays R2 E8
    obtain ⟨d0, d1, d2, d3⟩ := tube_cells R4 R8
    have HR8 := Lib.hid R8
    clear R8
    go_wp2_with fail
    refine (eqTubeX G P gs.length ps.length gc pc l' t' p' gs ps w8 rfl rfl Y8.out.fls (Z2.out.stays E8).fls (by omega) (HG.out.trans HP.out.symm)).mono ?_
    rintro e w9 ⟨rfl, B9⟩
    clear c0 c1 c2 c3 d0 d1 d2 d3
    have D9 : Below Wa.heap.size Wa w9 := Below.on D8 B9
    have E9 := Below.on E8 B9
    have R9 := Lib.hid ((B9.block _ s8).trans HR8.out)
    obtain ⟨d0, d1, d2, d3⟩ := tube_cells R4 R9.out
    have s9 : w4.heap.size < w9.heap.size := Nat.lt_of_lt_of_le s8 B9.size
    have Y9 := Lib.hid (Y8.out.stays B9)
    go_wp2_with fail
    -- m = mark(g0, m)
    refine (laws_markTube G gs.length gc l' t' p' 1 W3.heap.size gs w9 rfl Y9 (by omega) (by decide)).mono ?_
    rintro e wa ⟨rfl, Ma, Ta, K⟩
    have Ea' : Below W2.heap.size w9 wa := Ma _ E3.size E9.size
    have Ea : Below W2.heap.size W2 wa := E9.trans Ea'
    have Da : Below Wa.heap.size Wa wa := D9.trans (Ea'.mono D2'.size)
    have Ra := Lib.hid ((Ta _ s9 (fun x hx => L4.out x hx)).trans R9.out)
    have sa : w4.heap.size < wa.heap.size := Nat.lt_of_lt_of_le s9 Ea'.size
    clear d0 d1 d2 d3
    obtain ⟨d0, d1, d2, d3⟩ := tube_cells R4 Ra.out
    clear Ma Ta
    go_wp2_with fail
    -- q = held(g0, q)
    refine (laws_heldTube G gs.length gc l' t' p' 1 W3.heap.size wa K (by omega) (by decide)).mono ?_
    rintro e wb ⟨rfl, Bb⟩
    have Db := Below.on Da Bb
    have Eb := Below.on Ea Bb
    have Rb := Lib.hid ((Bb.block _ sa).trans Ra.out)
    have sb : w4.heap.size < wb.heap.size := Nat.lt_of_lt_of_le sa Bb.size
    have Kb := Lib.hid (K.out.stays Bb)
    clear d0 d1 d2 d3 K
    obtain ⟨c0, c1, c2, c3⟩ := tube_stays R0 Db
    go_wp2_with fail
    -- h0, h1
    refine (laws_toTube a n c l t p xs _ HN.out (HA.out.stays Db) hx).mono ?_
    rintro e wc ⟨bc, rfl, Bc, Fc⟩
    have Dc := Below.on Db Bc
    clear c0 c1 c2 c3
    go_wp2_with fail
    refine (CI.out bc wc Fc).mono ?_
    rintro e wd ⟨H, hs, hc, rfl, hh, hhl, Bd, V⟩
    have HH := Lib.hid hh
    clear hh
    have Dd := Below.on Dc Bd
    have Ad := alloc_belowP wd (.cells #[.slice H hs.length hc, .float .f32 l', .float .f32 t', .float .f32 p'] 40)
    have Ed := Below.on (Below.on (Below.on Eb Bc) Bd) Ad
    have V' := Lib.hid (V.out.stays Ad).fls
    obtain ⟨c0, c1, c2, c3⟩ := tube_stays R2 Ed
    clear V
    go_wp2_with fail
    generalize wd.alloc (.cells #[.slice H hs.length hc, .float .f32 l', .float .f32 t', .float .f32 p'] 40) = Wd at Ad Ed V' c0 c1 c2 c3
    have Dd' := Below.on Dd Ad
    refine (eqTubeX H P hs.length ps.length hc pc l' t' p' hs ps Wd rfl rfl V' (Z2.out.stays Ed).fls (by omega) (HH.out.trans HP.out.symm)).mono ?_
    rintro e we ⟨rfl, Be⟩
    have Xe := Below.on (Below.on (Below.on Bc Bd) Ad) Be
    have Re := (Xe.block _ sb).trans Rb.out
    clear c0 c1 c2 c3
    obtain ⟨d0, d1, d2, d3⟩ := tube_cells R4 Re
    have Ke := Lib.hid (Kb.out.stays Xe)
    clear Re
    go_wp2_with fail
    -- q = held(g0, q)
    refine (laws_heldTube G gs.length gc l' t' p' 1 W3.heap.size we Ke (by omega) (by decide)).mono ?_
    rintro e wf ⟨rfl, Bf⟩
    go_wp2_with fail
    go_ret
    exact ⟨rfl, Below.on A0 (Below.on (Below.on Dd' Be) Bf)⟩
end Go.Proofs.Ytfodlngbkmhboaa
