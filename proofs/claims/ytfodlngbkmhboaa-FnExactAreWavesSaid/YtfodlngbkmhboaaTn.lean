/-
  The law FnExactAreWaves: the program and the reference, from their contracts. Condition: tube and waves are read off memory.
-/
import Derived.Test.YtfodlngbkmhboaaTl
import Derived.Deep.RegionHeld3
namespace Go.Proofs.Ytfodlngbkmhboaa
open Go.RowKit Ieee
attribute [local irreducible] wpAnyH

theorem laws_toWaves2 (a b : Option Addr) (n c m d : Nat) (xs ys : List Nat) (w : World) (hn : xs.length = n) (hm : ys.length = m) (ha : Hid (fls w a xs)) (hb : Hid (fls w b ys)) (hx : n < 2147483648) (hy : m < 2147483648) :
    Calls Try.prog 35 #[.agg #[.slice a n c, .slice b m d]] w fun e w' => ∃ A B, e = .returned (.agg #[.slice A n n, .slice B m m]) ∧ Below w.heap.size w w' ∧ Hid (fls w' A xs) ∧ Hid (fls w' B ys) := by
  refine (laws_toWavesX a b n c m d xs ys w hn hm ha hb hx hy).mono ?_
  rintro e w' ⟨A, B, rfl, _, _, hb, h1, h2⟩
  exact ⟨_, _, rfl, hb, h1.fls, h2.fls⟩

theorem alloc_belowA (w : World) (x : Obj) : Below w.heap.size w (w.alloc x) := (Below.refl _ _).alloc (Nat.le_refl _) _

set_option maxHeartbeats 4000000 in
theorem law_FnExactAreWaves (w : World) (a : Option Addr) (n c : Nat) (xs : List Nat) (l t p : Nat) (hn : xs.length = n) (ha : fls w a xs) (hx : (∀ i, i < n → xs.getD i 0 < 4294967296) ∧ n ≤ maxLen) (_ : l < 4294967296) (_ : t < 4294967296) (_ : p < 4294967296)
    (b : Option Addr) (k e : Nat) (us : List Nat) (b' : Option Addr) (o f : Nat) (vs : List Nat) (hk : us.length = k) (hb : fls w b us) (hu : (∀ i, i < k → us.getD i 0 < 4294967296) ∧ k ≤ maxLen) (ho : vs.length = o) (hb' : fls w b' vs) (hv : (∀ i, i < o → vs.getD i 0 < 4294967296) ∧ o ≤ maxLen) :
    Calls Try.prog 12 #[.agg #[.slice a n c, .float .f32 l, .float .f32 t, .float .f32 p], .agg #[.slice b k e, .slice b' o f]] w fun r w' => r = .returned (.bool true) ∧ Below w.heap.size w w' := by
  have HN := Lib.hid hn
  have HK := Lib.hid hk
  have HO := Lib.hid ho
  have ln : n ≤ 9223372036854775807 := hx.2
  have lk : k ≤ 9223372036854775807 := hu.2
  have lo : o ≤ 9223372036854775807 := hv.2
  have R1 := (tubeF_row w 37 a n c l t p).alloc (.cells #[.slice b k e, .slice b' o f] 45)
  have R2 := waveF_row (w.alloc (.cells #[.slice a n c, .float .f32 l, .float .f32 t, .float .f32 p] 37)) 45 b k e b' o f
  rw [World.size_alloc] at R2
  have A0 := alloc2_belowH w (.cells #[.slice a n c, .float .f32 l, .float .f32 t, .float .f32 p] 37) (.cells #[.slice b k e, .slice b' o f] 45)
  have HA := Lib.hid (ha.stays A0)
  have HB := Lib.hid (hb.stays A0)
  have HB' := Lib.hid (hb'.stays A0)
  have B1 := leftI_bounds (n := n) (k := 1048576) (by decide)
  clear hn ha hx hk hb hu ho hb' hv
  by_cases h : leftI n 1048576 < 0
  · go_enter Try.func12, Try.ntmps12
    go_wp2_with fail
    refine (laws_szTube a n c l t p _ _ ln (by decide) (by decide)).mono ?_
    rintro r w0 ⟨rfl, B0⟩
    go_wp2_with fail
    go_ret
    exact ⟨rfl, Below.on A0 B0⟩
  · have l1 := leftI_ok (n := n) (k := 1048576) (by decide) h
    have h0 : 0 ≤ leftI n 1048576 := by omega
    have B2 := leftW_bounds (n := k) (m := o) (k := leftI n 1048576) B1.2
    by_cases h2 : leftW k o (leftI n 1048576) < 0
    · go_enter Try.func12, Try.ntmps12
      go_wp2_with fail
      generalize ((w.alloc (.cells #[.slice a n c, .float .f32 l, .float .f32 t, .float .f32 p] 37)).alloc (.cells #[.slice b k e, .slice b' o f] 45)) = Wa at R1 R2 A0 HA HB HB'
      refine (laws_szTube a n c l t p _ _ ln (by decide) (by decide)).mono ?_
      rintro r w0 ⟨rfl, B0⟩
      obtain ⟨c0, c1⟩ := waves_stays R2 B0
      go_wp2_with fail
      refine (laws_szWaves b b' k e o f _ _ lk lo h0 B1.2).mono ?_
      rintro r w0' ⟨rfl, B0'⟩
      go_wp2_with fail
      go_ret
      exact ⟨rfl, Below.on A0 (Below.on B0 B0')⟩
    · have l2 := leftW_ok (n := k) (m := o) (k := leftI n 1048576) B1.2 h2
      have xn : n < 2147483648 := by omega
      have xk : k < 2147483648 := by omega
      have xo : o < 2147483648 := by omega
      go_enter Try.func12, Try.ntmps12
      go_wp2_with fail
      generalize ((w.alloc (.cells #[.slice a n c, .float .f32 l, .float .f32 t, .float .f32 p] 37)).alloc (.cells #[.slice b k e, .slice b' o f] 45)) = Wa at R1 R2 A0 HA HB HB'
      refine (laws_szTube a n c l t p _ _ ln (by decide) (by decide)).mono ?_
      rintro r w0 ⟨rfl, B0⟩
      obtain ⟨c0, c1⟩ := waves_stays R2 B0
      go_wp2_with fail
      refine (laws_szWaves b b' k e o f _ _ lk lo h0 B1.2).mono ?_
      rintro r w1 ⟨rfl, B1'⟩
      have D1 := Below.on B0 B1'
      clear c0 c1
      obtain ⟨c0, c1, c2, c3⟩ := tube_stays R1 D1
      obtain ⟨d0, d1⟩ := waves_stays R2 D1
      go_wp2_with fail
      go_region_held3 (fun W => W.cell? ⟨w.heap.size, 0, none⟩ = some (.slice a n c) ∧ W.cell? ⟨w.heap.size, 1, none⟩ = some (.float .f32 l) ∧ W.cell? ⟨w.heap.size, 2, none⟩ = some (.float .f32 t) ∧ W.cell? ⟨w.heap.size, 3, none⟩ = some (.float .f32 p) ∧ W.cell? ⟨w.heap.size + 1, 0, none⟩ = some (.slice b k e) ∧ W.cell? ⟨w.heap.size + 1, 1, none⟩ = some (.slice b' o f)) (first | exact ⟨c0, c1, c2, c3, d0, d1⟩ | exact ⟨e0, e1, e2, e3, f0, f1⟩ | exact ⟨g0, g1, g2, g3, h0, h1⟩ | exact ⟨y0, y1, y2, y3, z0, z1⟩) (first
        | (go_at_call 30; refine (laws_toTube a n c l t p xs _ HN.out (HA.out.stays D1.drew) xn).mono ?_; rintro r w2 ⟨p1, rfl, B2', F1⟩; have D2 := Below.on D1.drew B2'; obtain ⟨e0, e1, e2, e3⟩ := tube_stays R1 D2; obtain ⟨f0, f1⟩ := waves_stays R2 D2)
        | (go_at_call 35; refine (laws_toWaves2 b b' k e o f us vs _ HK.out HO.out (HB.out.stays D2) (HB'.out.stays D2) xk xo).mono ?_; rintro r w3 ⟨p3, p4, rfl, B3, F3, F4⟩; have D3 := Below.on D2 B3; obtain ⟨g0, g1, g2, g3⟩ := tube_stays R1 D3; obtain ⟨h0, h1⟩ := waves_stays R2 D3)
        | (go_at_call 48; refine (spec_AreWaves p1 p3 p4 n n l t p k k o o xs us vs _ HN.out HK.out HO.out (F1.out.stays B3) F3 F4 xn xk xo).mono ?_; rintro r w4 ⟨rfl, B4⟩; have D4 := Below.on D3 B4; obtain ⟨y0, y1, y2, y3⟩ := tube_stays R1 D4; obtain ⟨z0, z1⟩ := waves_stays R2 D4))
      all_goals
        clear c0 c1 c2 c3 d0 d1 e0 e1 e2 e3 f0 f1 g0 g1 g2 g3 h0 h1 z0 z1
        go_wp2_with fail
        refine (laws_toTube a n c l t p xs _ HN.out (HA.out.stays D4) xn).mono ?_
        rintro r w5 ⟨p5, rfl, B5, F5⟩
        have D5 := Below.on D4 B5
        clear y0 y1 y2 y3
        have A5 := alloc_belowA w5 (.cells #[.slice p5 n n, .float .f32 l, .float .f32 t, .float .f32 p] 40)
        have R5 := tubeF_row w5 40 p5 n n l t p
        obtain ⟨d0, d1⟩ := waves_stays R2 (Below.on D5 A5)
        go_wp2_with fail
        generalize w5.alloc (.cells #[.slice p5 n n, .float .f32 l, .float .f32 t, .float .f32 p] 40) = W5 at A5 R5 d0 d1
        have E5 := Below.on D5 A5
        refine (laws_toWaves2 b b' k e o f us vs _ HK.out HO.out (HB.out.stays E5) (HB'.out.stays E5) xk xo).mono ?_
        rintro r w6 ⟨p7, p8, rfl, B6, F7, F8⟩
        have D6 := Below.on E5 B6
        have A6 := alloc_belowA w6 (.cells #[.slice p7 k k, .slice p8 o o] 48)
        have R6 := waveF_row w6 48 p7 k k p8 o o
        clear d0 d1
        obtain ⟨d0, d1, d2, d3⟩ := tube_stays R5 (Below.on B6 A6)
        go_wp2_with fail
        generalize w6.alloc (.cells #[.slice p7 k k, .slice p8 o o] 48) = W6 at A6 R6 d0 d1 d2 d3
        have E6 := Below.on D6 A6
        have G5 := Lib.hid (F5.out.stays (Below.on A5 (Below.on B6 A6)))
        have G7 := Lib.hid (F7.out.stays A6)
        have G8 := Lib.hid (F8.out.stays A6)
        refine (impl_AreWaves p5 p7 p8 n n l t p k k o o xs us vs _ HN.out HK.out HO.out G5 G7 G8 xn xk xo).mono ?_
        rintro r w7 ⟨rfl, B7⟩
        have D7 := Below.on E6 B7
        have D7' := Below.on (Below.on B6 A6) B7
        have G5' := Lib.hid (G5.out.stays B7)
        have G7' := Lib.hid (G7.out.stays B7)
        have G8' := Lib.hid (G8.out.stays B7)
        clear d0 d1 d2 d3
        obtain ⟨y0, y1, y2, y3⟩ := tube_stays R1 D7
        obtain ⟨z0, z1, z2, z3⟩ := tube_stays R5 D7'
        go_wp2_with fail
        go_region_held3 (fun W => W.cell? ⟨w.heap.size, 0, none⟩ = some (.slice a n c) ∧ W.cell? ⟨w.heap.size, 1, none⟩ = some (.float .f32 l) ∧ W.cell? ⟨w.heap.size, 2, none⟩ = some (.float .f32 t) ∧ W.cell? ⟨w.heap.size, 3, none⟩ = some (.float .f32 p) ∧ W.cell? ⟨w5.heap.size, 0, none⟩ = some (.slice p5 n n) ∧ W.cell? ⟨w5.heap.size, 1, none⟩ = some (.float .f32 l) ∧ W.cell? ⟨w5.heap.size, 2, none⟩ = some (.float .f32 t) ∧ W.cell? ⟨w5.heap.size, 3, none⟩ = some (.float .f32 p)) (first | exact ⟨y0, y1, y2, y3, z0, z1, z2, z3⟩ | exact ⟨u0, u1, u2, u3, v0, v1, v2, v3⟩ | exact ⟨s0, s1, s2, s3, q0, q1, q2, q3⟩) (first
          | (go_at_call 30; refine (laws_toTube a n c l t p xs _ HN.out (HA.out.stays D7.drew) xn).mono ?_; rintro r w8 ⟨p9, rfl, B8, F9⟩; obtain ⟨u0, u1, u2, u3⟩ := tube_stays R1 (Below.on D7.drew B8); obtain ⟨v0, v1, v2, v3⟩ := tube_stays R5 (Below.on D7'.drew B8))
          | (go_at_call 32; refine (laws_eqTube p5 p9 n n n l t p l t p xs xs _ HN.out ((G5'.out.drewN 1).stays B8) F9 xn rfl rfl rfl rfl).mono ?_; rintro r w9 ⟨rfl, B9⟩; obtain ⟨s0, s1, s2, s3⟩ := tube_stays R1 (Below.on (Below.on D7.drew B8) B9); obtain ⟨q0, q1, q2, q3⟩ := tube_stays R5 (Below.on (Below.on D7'.drew B8) B9)))
        all_goals
          have D9 := Below.on (Below.on D7.drew B8) B9
          have D9' := Below.on (Below.on B7.drew B8) B9
          have G7'' := Lib.hid (((G7'.out.drewN 1).stays B8).stays B9)
          have G8'' := Lib.hid (((G8'.out.drewN 1).stays B8).stays B9)
          clear y0 y1 y2 y3 z0 z1 z2 z3 u0 u1 u2 u3 v0 v1 v2 v3 s0 s1 s2 s3 q0 q1 q2 q3
          obtain ⟨y0, y1⟩ := waves_stays R2 D9
          obtain ⟨z0, z1⟩ := waves_stays R6 D9'
          go_wp2_with fail
          go_region_held3 (fun W => W.cell? ⟨w.heap.size + 1, 0, none⟩ = some (.slice b k e) ∧ W.cell? ⟨w.heap.size + 1, 1, none⟩ = some (.slice b' o f) ∧ W.cell? ⟨w6.heap.size, 0, none⟩ = some (.slice p7 k k) ∧ W.cell? ⟨w6.heap.size, 1, none⟩ = some (.slice p8 o o)) (first | exact ⟨y0, y1, z0, z1⟩ | exact ⟨u0, u1, v0, v1⟩ | exact ⟨s0, s1, q0, q1⟩) (first
            | (go_at_call 35; refine (laws_toWaves2 b b' k e o f us vs _ HK.out HO.out (HB.out.stays D9.drew) (HB'.out.stays D9.drew) xk xo).mono ?_; rintro r wa ⟨pa, pb, rfl, Ba, Fa, Fb⟩; obtain ⟨u0, u1⟩ := waves_stays R2 (Below.on D9.drew Ba); obtain ⟨v0, v1⟩ := waves_stays R6 (Below.on D9'.drew Ba))
            | (go_at_call 37; refine (laws_eqWaves p7 p8 pa pb k o k o k o us vs us vs _ HK.out HO.out ((G7''.out.drewN 1).stays Ba) ((G8''.out.drewN 1).stays Ba) Fa Fb xk xo rfl rfl).mono ?_; rintro r wb ⟨rfl, Bb⟩; obtain ⟨s0, s1⟩ := waves_stays R2 (Below.on (Below.on D9.drew Ba) Bb); obtain ⟨q0, q1⟩ := waves_stays R6 (Below.on (Below.on D9'.drew Ba) Bb)))
          all_goals
            go_wp2_with fail
            go_ret
            exact ⟨rfl, Below.on A0 (Below.on (Below.on D9.drew Ba) Bb)⟩
end Go.Proofs.Ytfodlngbkmhboaa
