/-
  ReflectionsOf in the reference; the law FnExactReflectionsOf: the program and the reference, from their contracts. Condition: the tube is read off memory.
-/
import Derived.Test.YtfodlngbkmhboaaRg
import Derived.Test.YtfodlngbkmhboaaUb
namespace Go.Proofs.Ytfodlngbkmhboaa
open Go.RowKit Ieee
attribute [local irreducible] wpAnyH

theorem spec_l02List (a : Option Addr) (n c : Nat) (xs : List Nat) (w : World) (hn : xs.length = n) (ha : Hid (fls w a xs)) (hx : n < 2147483648) (hf : Hid (∀ j, j ≤ n → allU finU xs j = true)) :
    Calls Try.prog 85 #[.slice a n c] w fun e w' => e = .returned (.tuple #[.slice a n c, .bool true]) ∧ ∃ m, w' = w.drewN m := by
  have HN := Lib.hid hn
  clear hn
  go_enter Try.func85, Try.ntmps85
  go_wp2_with fail
  go_loopg [4] n (fun g i wr => ∃ j m : Nat, g + j = n ∧ i = .int .i64 j ∧ wr = w.drewN m)
  case atStart => exact ⟨0, 0, by omega, rfl, rfl⟩
  case round =>
    obtain ⟨j, m, hj, rfl, rfl⟩ := hrel
    by_cases hlt : j < n
    · obtain ⟨ba, oa, rfl, hca⟩ := ha.out j (by rw [HN.out]; exact hlt)
      have hfin : finB (fv .f32 (xs.getD j 0)) = true := allU_get (p := finU) (hf.out n (Nat.le_refl _)) hlt
      generalize xs.getD j 0 = x at hca hfin
      have HO := Lib.hid hfin
      clear hfin
      go_wp2_with (go_at_call 77; refine (spec_l01Finite _ _).mono ?_; rw [HO.out]; rintro e w' ⟨rfl, q, rfl⟩)
      go_roundg (gk - 1)
      case measure => omega
      case rel => exact ⟨j + 1, _, by omega, by go_num, rfl⟩
    · have hjn : j = n := by omega
      subst hjn
      go_wp2_with fail
      go_ret2
      exact ⟨rfl, _, rfl⟩

theorem spec_ReflectionsOf (a : Option Addr) (n l t p : Nat) (xs : List Nat) (w : World) (hn : xs.length = n) (ha : Hid (fls w a xs)) (hx : n < 2147483648) :
    Calls Try.prog 56 #[.agg #[.slice a n n, .float .f32 l, .float .f32 t, .float .f32 p]] w (listP w (validT xs n l t p) (refL (validT xs n l t p) xs n)) := by
  have HN := Lib.hid hn
  clear hn
  have R1 := tubeF_row w 40 a n n l t p
  have A1 := alloc_belowP w (.cells #[.slice a n n, .float .f32 l, .float .f32 t, .float .f32 p] 40)
  have HA := Lib.hid (ha.out.stays A1)
  cases hV : validT xs n l t p
  · have HV := Lib.hid hV
    clear hV
    go_enter Try.func56, Try.ntmps56
    go_wp2_with fail
    refine (spec_l02Is _ 0 a n n l t p xs _ HN.out HA hx (tube_stays R1 (Below.refl _ _))).mono ?_
    rw [HV.out]
    rintro r w2 ⟨rfl, m, rfl⟩
    go_wp2_with fail
    go_ret2
    exact ⟨none, [], 0, rfl, rfl, by simp, below_drewN A1 _, Or.inl ⟨rfl, rfl⟩⟩
  · have HV := Lib.hid hV
    obtain ⟨v1, v16⟩ := valid_len hV
    obtain ⟨ba, oa, rfl, _⟩ := ha.out 0 (by rw [HN.out]; exact v1)
    clear hV
    go_enter Try.func56, Try.ntmps56
    go_wp2_with fail
    generalize w.alloc (.cells #[.slice (some ⟨ba, oa, none⟩) n n, .float .f32 l, .float .f32 t, .float .f32 p] 40) = W1 at R1 A1 HA ⊢
    refine (spec_l02Is _ 0 (some ⟨ba, oa, none⟩) n n l t p xs W1 HN.out HA hx (tube_stays R1 (Below.refl _ _))).mono ?_
    rw [HV.out]
    rintro r w2 ⟨rfl, m, hw2⟩
    have B2 : Below W1.heap.size W1 w2 := by rw [hw2]; exact below_drewN (Below.refl _ _) m
    clear hw2
    go_wp2_with fail
    refine (spec_l02Reflections w.heap.size ba oa n l t p xs w2 HN.out (HA.out.stays B2) v1 v16 (tube_stays R1 B2) (Nat.lt_of_lt_of_le (World.rowIs.lt R1) B2.size) HV).mono ?_
    rintro r w3 ⟨G, ys, cap, rfl, hy, B3, HG⟩
    have HY := Lib.hid hy
    have HL : Hid (ys.length = n - 1) := hy.1
    have HFIN : Hid (∀ j, j ≤ ys.length → allU finU ys j = true) := fun j hj => hy.fin (fun k hk => refF_fin HV.out (by omega)) j (by rw [← hy.1]; exact hj)
    clear hy
    go_wp2_with fail
    refine (spec_l02List G ys.length cap ys w3 rfl HG.out.fls (by have := HL.out; omega) HFIN).mono ?_
    rintro r w4 ⟨rfl, q, rfl⟩
    go_wp2_with fail
    go_ret2
    have hs : w.heap.size ≤ w2.heap.size := Nat.le_trans A1.size B2.size
    exact ⟨G, ys, cap, rfl, by unfold refL; rw [if_pos rfl]; exact HY.out.list, by have := HL.out; omega, below_drewN (Below.on A1 (Below.on B2 B3)) _, HG.out.mono hs⟩

set_option maxHeartbeats 4000000 in
theorem law_FnExactReflectionsOf (w : World) (a : Option Addr) (n c : Nat) (xs : List Nat) (l t p : Nat) (hn : xs.length = n) (ha : fls w a xs) (hx : (∀ i, i < n → xs.getD i 0 < 4294967296) ∧ n ≤ maxLen) (_ : l < 4294967296) (_ : t < 4294967296) (_ : p < 4294967296) :
    Calls Try.prog 15 #[.agg #[.slice a n c, .float .f32 l, .float .f32 t, .float .f32 p]] w fun e w' => e = .returned (.bool true) ∧ Below w.heap.size w w' := by
  have HN := Lib.hid hn
  have hm : n ≤ 9223372036854775807 := hx.2
  have B := leftI_bounds (n := n) (k := 1048576) (by decide)
  have R0 := tubeF_row w 37 a n c l t p
  have A0 : Below w.heap.size w (w.alloc (.cells #[.slice a n c, .float .f32 l, .float .f32 t, .float .f32 p] 37)) := (Below.refl _ _).alloc (Nat.le_refl _) _
  have HA := Lib.hid (ha.stays A0)
  clear hn ha hx
  by_cases h : leftI n 1048576 < 0
  · go_enter Try.func15, Try.ntmps15
    go_wp2_with fail
    refine (laws_szTube a n c l t p _ _ hm (by decide) (by decide)).mono ?_
    rintro e w0 ⟨rfl, B0⟩
    go_wp2_with fail
    go_ret
    exact ⟨rfl, Below.on A0 B0⟩
  · have hx : n < 2147483648 := by have := leftI_ok (n := n) (k := 1048576) (by decide) h; omega
    obtain ⟨v, L, CS, CI⟩ : ∃ (v : Bool) (L : List (Option Nat)),
        Hid (∀ (b : Option Addr) (W : World), Hid (fls W b xs) → Calls Try.prog 56 #[.agg #[.slice b n n, .float .f32 l, .float .f32 t, .float .f32 p]] W (listP W v L)) ∧
        Hid (∀ (b : Option Addr) (W : World), Hid (fls W b xs) → Calls Try.prog 57 #[.agg #[.slice b n n, .float .f32 l, .float .f32 t, .float .f32 p]] W (listP W v L)) :=
      ⟨validT xs n l t p, refL (validT xs n l t p) xs n, fun b W hb => spec_ReflectionsOf b n l t p xs W HN.out hb hx, fun b W hb => impl_ReflectionsOf b n l t p xs W HN.out hb hx⟩
    have k0 : ¬ (1 : Int) + (n : Int) < 0 := by omega
    go_enter Try.func15, Try.ntmps15
    go_wp2_with fail
    generalize w.alloc (.cells #[.slice a n c, .float .f32 l, .float .f32 t, .float .f32 p] 37) = Wa at R0 A0 HA
    refine (laws_szTube a n c l t p _ Wa hm (by decide) (by decide)).mono ?_
    rintro e w0 ⟨rfl, B0⟩
    obtain ⟨c0, c1, c2, c3⟩ := tube_stays R0 B0
    go_wp2_with fail
    -- w0, w1
    refine (laws_toTube a n c l t p xs _ HN.out (HA.out.stays B0) hx).mono ?_
    rintro e w1 ⟨b1, rfl, B1, F1⟩
    have D1 := Below.on B0 B1
    clear c0 c1 c2 c3
    go_wp2_with fail
    refine (CS.out b1 w1 F1).mono ?_
    rintro e w2 ⟨P, ps, pc, rfl, hp, hpl, B2, Z⟩
    have HP := Lib.hid hp
    clear hp
    have D2 := Below.on D1 B2
    obtain ⟨c0, c1, c2, c3⟩ := tube_stays R0 D2
    go_wp2_with fail
    -- x0
    refine (laws_toTubeX a n c l t p xs _ HN.out (HA.out.stays D2) hx).mono ?_
    rintro e w3 ⟨b3, rfl, hb3, B3, F3⟩
    have D3 := Below.on D2 B3
    have A3 := alloc_belowP w3 (.cells #[.slice (some ⟨b3, 0, none⟩) n n, .float .f32 l, .float .f32 t, .float .f32 p] 40)
    have R3 := tubeF_row w3 40 (some ⟨b3, 0, none⟩) n n l t p
    have X3 := Lib.hid ((flr.rowA F3 hb3).stays A3)
    have b3lt := World.rowIs.lt F3
    clear F3 c0 c1 c2 c3
    go_wp2_with fail
    generalize w3.alloc (.cells #[.slice (some ⟨b3, 0, none⟩) n n, .float .f32 l, .float .f32 t, .float .f32 p] 40) = W3 at A3 R3 X3
    have D3' := Below.on D3 A3
    have E3 := Below.on B3 A3
    have HX3 := Lib.hid X3.out.fls
    -- g0, g1
    refine (CI.out (some ⟨b3, 0, none⟩) W3 HX3).mono ?_
    rintro e w4 ⟨G, gs, gc, rfl, hg, hgl, B4, Y⟩
    have HG := Lib.hid hg
    clear hg
    have k1 : ¬ (1 : Int) + (gs.length : Int) < 0 := by omega
    have E4 := Below.on E3 B4
    have D4 := Below.on D3' B4
    have b34 : b3 < W3.heap.size := Nat.lt_of_lt_of_le b3lt A3.size
    go_wp2_with fail
    refine (eqX G P gs.length ps.length gc pc gs ps w4 rfl rfl Y.out.fls (Z.out.stays E4).fls (by omega) (HG.out.trans HP.out.symm)).mono ?_
    rintro e w5 ⟨rfl, B5⟩
    have D5 := Below.on D4 B5
    have U5 := Below.on B4 B5
    obtain ⟨y0, y1, y2, y3⟩ := tube_stays R0 D5
    obtain ⟨z0, z1, z2, z3⟩ := tube_stays R3 U5
    go_wp2_with fail
    -- eqTube(x0, toTube(aT))
    go_region_held3 (fun W => W.cell? ⟨w.heap.size, 0, none⟩ = some (.slice a n c) ∧ W.cell? ⟨w.heap.size, 1, none⟩ = some (.float .f32 l) ∧ W.cell? ⟨w.heap.size, 2, none⟩ = some (.float .f32 t) ∧ W.cell? ⟨w.heap.size, 3, none⟩ = some (.float .f32 p) ∧ W.cell? ⟨w3.heap.size, 0, none⟩ = some (.slice (some ⟨b3, 0, none⟩) n n) ∧ W.cell? ⟨w3.heap.size, 1, none⟩ = some (.float .f32 l) ∧ W.cell? ⟨w3.heap.size, 2, none⟩ = some (.float .f32 t) ∧ W.cell? ⟨w3.heap.size, 3, none⟩ = some (.float .f32 p)) (first | exact ⟨y0, y1, y2, y3, z0, z1, z2, z3⟩ | exact ⟨u0, u1, u2, u3, v0, v1, v2, v3⟩ | exact ⟨s0, s1, s2, s3, q0, q1, q2, q3⟩) (first
      | (go_at_call 30; refine (laws_toTube a n c l t p xs _ HN.out (HA.out.stays D5.drew) hx).mono ?_; rintro r w6 ⟨p6, rfl, B6, F6⟩; obtain ⟨u0, u1, u2, u3⟩ := tube_stays R0 (Below.on D5.drew B6); obtain ⟨v0, v1, v2, v3⟩ := tube_stays R3 (Below.on U5.drew B6))
      | (go_at_call 32; refine (laws_eqTube (some ⟨b3, 0, none⟩) p6 n n n l t p l t p xs xs _ HN.out (X3.out.stays (Below.on U5.drew B6)).fls F6 hx rfl rfl rfl rfl).mono ?_; rintro r w7 ⟨rfl, B7⟩; obtain ⟨s0, s1, s2, s3⟩ := tube_stays R0 (Below.on (Below.on D5.drew B6) B7); obtain ⟨q0, q1, q2, q3⟩ := tube_stays R3 (Below.on (Below.on U5.drew B6) B7)))
    have D7 := Below.on (Below.on D5.drew B6) B7
    have E7 := Below.on (Below.on (Below.on E4 B5).drew B6) B7
    have U7 := Below.on (Below.on U5.drew B6) B7
    have V7 := Below.on (Below.on B5.drew B6) B7
    have X7 := Lib.hid (X3.out.stays U7)
    clear y0 y1 y2 y3 z0 z1 z2 z3 u0 u1 u2 u3 v0 v1 v2 v3
    go_wp2_with fail
    -- k = mark(x0, k)
    refine (laws_markTube (some ⟨b3, 0, none⟩) n n l t p 1 w2.heap.size xs w7 HN.out X7 hx (by decide)).mono ?_
    rintro e w8 ⟨rfl, M8, T8, _⟩
    have E7' : Below w2.heap.size w7 w8 := M8 _ (Nat.le_refl _) E7.size
    have E8 : Below w2.heap.size w2 w8 := E7.trans E7'
    have D8 : Below Wa.heap.size Wa w8 := D7.trans (E7'.mono D2.size)
    have Y8 : Hid (rowA w8 W3.heap.size G gs) := (Y.out.stays V7).turned T8 (fun x y h1 h2 => by cases h2; have := (Y.out.lt x h1).1; simp only []; omega)
    clear M8 T8 s0 s1 s2 s3 q0 q1 q2 q3
    go_wp2_with fail
    refine (eqX G P gs.length ps.length gc pc gs ps w8 rfl rfl Y8.out.fls (Z.out.stays E8).fls (by omega) (HG.out.trans HP.out.symm)).mono ?_
    rintro e w9 ⟨rfl, B9⟩
    have D9 : Below Wa.heap.size Wa w9 := Below.on D8 B9
    have E9 := Below.on E8 B9
    have Y9 := Lib.hid (Y8.out.stays B9)
    go_wp2_with fail
    -- m = mark(g0, m)
    refine (laws_markFloat32S G gs.length gc 1 W3.heap.size gs w9 rfl Y9 (by omega) (by decide)).mono ?_
    rintro e wa ⟨rfl, Ma, Ta, K⟩
    have Ea' : Below w2.heap.size w9 wa := Ma _ E3.size E9.size
    have Ea : Below w2.heap.size w2 wa := E9.trans Ea'
    have Da : Below Wa.heap.size Wa wa := D9.trans (Ea'.mono D2.size)
    clear Ma Ta
    go_wp2_with fail
    -- q = held(g0, q)
    refine (laws_heldFloat32S G gs.length gc 1 W3.heap.size wa K (by omega) (by decide)).mono ?_
    rintro e wb ⟨rfl, rfl⟩
    obtain ⟨c0, c1, c2, c3⟩ := tube_stays R0 Da
    go_wp2_with fail
    -- h0, h1
    refine (laws_toTube a n c l t p xs _ HN.out (HA.out.stays Da) hx).mono ?_
    rintro e wc ⟨bc, rfl, Bc, Fc⟩
    have Dc := Below.on Da Bc
    clear c0 c1 c2 c3
    go_wp2_with fail
    refine (CI.out bc wc Fc).mono ?_
    rintro e wd ⟨H, hs, hc, rfl, hh, hhl, Bd, V⟩
    have HH := Lib.hid hh
    clear hh
    have Dd := Below.on Dc Bd
    have Ed := Below.on (Below.on Ea Bc) Bd
    go_wp2_with fail
    refine (eqX H P hs.length ps.length hc pc hs ps wd rfl rfl V.out.fls (Z.out.stays Ed).fls (by omega) (HH.out.trans HP.out.symm)).mono ?_
    rintro e we ⟨rfl, Be⟩
    have Xe := Below.on (Below.on Bc Bd) Be
    have Ke := Lib.hid (K.out.stays Xe)
    go_wp2_with fail
    -- q = held(g0, q)
    refine (laws_heldFloat32S G gs.length gc 1 W3.heap.size we Ke (by omega) (by decide)).mono ?_
    rintro e wf ⟨rfl, rfl⟩
    go_wp2_with fail
    go_ret
    exact ⟨rfl, Below.on A0 (Below.on Dd Be)⟩
end Go.Proofs.Ytfodlngbkmhboaa
