/-
  The law FnExactSameWaves: the program and the reference, from their contracts. Condition: the waves are read off memory.
-/
import Derived.Test.YtfodlngbkmhboaaTj
namespace Go.Proofs.Ytfodlngbkmhboaa
open Go.RowKit Ieee

theorem laws_toWaves (a b : Option Addr) (n c m d : Nat) (xs ys : List Nat) (w : World) (hn : xs.length = n) (hm : ys.length = m) (ha : Hid (fls w a xs)) (hb : Hid (fls w b ys)) (hx : n < 2147483648) (hy : m < 2147483648) :
    Calls Try.prog 35 #[.agg #[.slice a n c, .slice b m d]] w fun e w' => ∃ A B, e = .returned (.agg #[.slice A n n, .slice B m m]) ∧ Below w.heap.size w w' ∧ Hid (fls w' A xs) ∧ Hid (fls w' B ys) := by
  refine (laws_toWavesX a b n c m d xs ys w hn hm ha hb hx hy).mono ?_
  rintro e w' ⟨A, B, rfl, _, _, hb, h1, h2⟩
  exact ⟨_, _, rfl, hb, h1.fls, h2.fls⟩

theorem alloc_belowW (w : World) (x : Obj) : Below w.heap.size w (w.alloc x) := (Below.refl _ _).alloc (Nat.le_refl _) _

def waveAt (w : World) (B : Nat) (a : Option Addr) (n c : Nat) (b : Option Addr) (m d : Nat) : Prop := w.cell? ⟨B, 0, none⟩ = some (.slice a n c) ∧ w.cell? ⟨B, 1, none⟩ = some (.slice b m d)
theorem wave_stays {W w' : World} {B : Nat} {T : TypeId} {a : Option Addr} {n c : Nat} {b : Option Addr} {m d : Nat} (h : W.rowIs B T 2 (waveF a n c b m d)) (hb : Below W.heap.size W w') : waveAt w' B a n c b m d := by
  have k := h.of_block (hb.block _ h.lt)
  exact ⟨k.cell (i := 0) (by decide), k.cell (i := 1) (by decide)⟩

set_option maxHeartbeats 4000000 in
theorem law_FnExactSameWaves (w : World) (a : Option Addr) (n c : Nat) (xs : List Nat) (b : Option Addr) (m d : Nat) (ys : List Nat) (hn : xs.length = n) (ha : fls w a xs) (hx : (∀ i, i < n → xs.getD i 0 < 4294967296) ∧ n ≤ maxLen) (hm : ys.length = m) (hb : fls w b ys) (hy : (∀ i, i < m → ys.getD i 0 < 4294967296) ∧ m ≤ maxLen)
    (a' : Option Addr) (k e : Nat) (us : List Nat) (b' : Option Addr) (o f : Nat) (vs : List Nat) (hk : us.length = k) (ha' : fls w a' us) (hu : (∀ i, i < k → us.getD i 0 < 4294967296) ∧ k ≤ maxLen) (ho : vs.length = o) (hb' : fls w b' vs) (hv : (∀ i, i < o → vs.getD i 0 < 4294967296) ∧ o ≤ maxLen) :
    Calls Try.prog 7 #[.agg #[.slice a n c, .slice b m d], .agg #[.slice a' k e, .slice b' o f]] w fun r w' => r = .returned (.bool true) ∧ Below w.heap.size w w' := by
  have HN := Lib.hid hn
  have HM := Lib.hid hm
  have HK := Lib.hid hk
  have HO := Lib.hid ho
  have ln : n ≤ 9223372036854775807 := hx.2
  have lm : m ≤ 9223372036854775807 := hy.2
  have lk : k ≤ 9223372036854775807 := hu.2
  have lo : o ≤ 9223372036854775807 := hv.2
  have UX := Lib.hid hx.1
  have UY := Lib.hid hy.1
  have UU := Lib.hid hu.1
  have UV := Lib.hid hv.1
  have R1 := (waveF_row w 45 a n c b m d).alloc (.cells #[.slice a' k e, .slice b' o f] 45)
  have R2 := waveF_row (w.alloc (.cells #[.slice a n c, .slice b m d] 45)) 45 a' k e b' o f
  rw [World.size_alloc] at R2
  have A0 := alloc2_belowH w (.cells #[.slice a n c, .slice b m d] 45) (.cells #[.slice a' k e, .slice b' o f] 45)
  have HA := Lib.hid (ha.stays A0)
  have HB := Lib.hid (hb.stays A0)
  have HA' := Lib.hid (ha'.stays A0)
  have HB' := Lib.hid (hb'.stays A0)
  have B1 := leftW_bounds (n := n) (m := m) (k := 1048576) (by decide)
  clear hn ha hx hm hb hy hk ha' hu ho hb' hv
  by_cases h : leftW n m 1048576 < 0
  · go_enter Try.func7, Try.ntmps7
    go_wp2_with fail
    refine (laws_szWaves a b n c m d _ _ ln lm (by decide) (by decide)).mono ?_
    rintro r w0 ⟨rfl, B0⟩
    go_wp2_with fail
    go_ret
    exact ⟨rfl, Below.on A0 B0⟩
  · have l1 := leftW_ok (n := n) (m := m) (k := 1048576) (by decide) h
    have h0 : 0 ≤ leftW n m 1048576 := by omega
    have B2 := leftW_bounds (n := k) (m := o) (k := leftW n m 1048576) B1.2
    by_cases h2 : leftW k o (leftW n m 1048576) < 0
    · go_enter Try.func7, Try.ntmps7
      go_wp2_with fail
      generalize ((w.alloc (.cells #[.slice a n c, .slice b m d] 45)).alloc (.cells #[.slice a' k e, .slice b' o f] 45)) = Wa at R1 R2 A0 HA HB HA' HB'
      refine (laws_szWaves a b n c m d _ _ ln lm (by decide) (by decide)).mono ?_
      rintro r w0 ⟨rfl, B0⟩
      obtain ⟨c0, c1⟩ := wave_stays R2 B0
      go_wp2_with fail
      refine (laws_szWaves a' b' k e o f _ _ lk lo h0 B1.2).mono ?_
      rintro r w0' ⟨rfl, B0'⟩
      go_wp2_with fail
      go_ret
      exact ⟨rfl, Below.on A0 (Below.on B0 B0')⟩
    · have l2 := leftW_ok (n := k) (m := o) (k := leftW n m 1048576) B1.2 h2
      have xn : n < 2147483648 := by omega
      have xm : m < 2147483648 := by omega
      have xk : k < 2147483648 := by omega
      have xo : o < 2147483648 := by omega
      go_enter Try.func7, Try.ntmps7
      go_wp2_with fail
      generalize ((w.alloc (.cells #[.slice a n c, .slice b m d] 45)).alloc (.cells #[.slice a' k e, .slice b' o f] 45)) = Wa at R1 R2 A0 HA HB HA' HB'
      refine (laws_szWaves a b n c m d _ _ ln lm (by decide) (by decide)).mono ?_
      rintro r w0 ⟨rfl, B0⟩
      obtain ⟨c0, c1⟩ := wave_stays R2 B0
      go_wp2_with fail
      refine (laws_szWaves a' b' k e o f _ _ lk lo h0 B1.2).mono ?_
      rintro r w1 ⟨rfl, B1'⟩
      have D1 := Below.on B0 B1'
      clear c0 c1
      obtain ⟨c0, c1⟩ := wave_stays R1 D1
      obtain ⟨d0, d1⟩ := wave_stays R2 D1
      go_wp2_with fail
      go_region_with (first
        | (go_at_call_of 35 (Value.slice a n c); refine (laws_toWaves a b n c m d xs ys _ HN.out HM.out (HA.out.stays D1.drew) (HB.out.stays D1.drew) xn xm).mono ?_; rintro r w2 ⟨p1, p2, rfl, B2', F1, F2⟩; have D2 := Below.on D1.drew B2'; obtain ⟨g0, g1⟩ := wave_stays R2 D2)
        | (go_at_call_of 35 (Value.slice a' k e); refine (laws_toWaves a' b' k e o f us vs _ HK.out HO.out (HA'.out.stays D2) (HB'.out.stays D2) xk xo).mono ?_; rintro r w3 ⟨p3, p4, rfl, B3, F3, F4⟩; have D3 := Below.on D2 B3)
        | (go_at_call 34; refine (spec_SameWaves p1 p2 p3 p4 n n m m k k o o xs ys us vs _ HN.out HM.out HK.out HO.out (F1.out.stays B3) (F2.out.stays B3) F3 F4 xn xm xk xo UX UY UU UV).mono ?_; rintro r w4 ⟨rfl, B4⟩; have D4 := Below.on D3 B4; obtain ⟨y0, y1⟩ := wave_stays R1 D4))
      all_goals
        clear c0 c1 d0 d1 g0 g1
        go_wp2_with fail
        refine (laws_toWaves a b n c m d xs ys _ HN.out HM.out (HA.out.stays D4) (HB.out.stays D4) xn xm).mono ?_
        rintro r w5 ⟨p5, p6, rfl, B5, F5, F6⟩
        have D5 := Below.on D4 B5
        clear y0 y1
        have A5 := alloc_belowW w5 (.cells #[.slice p5 n n, .slice p6 m m] 48)
        have R5 := waveF_row w5 48 p5 n n p6 m m
        obtain ⟨d0, d1⟩ := wave_stays R2 (Below.on D5 A5)
        go_wp2_with fail
        generalize w5.alloc (.cells #[.slice p5 n n, .slice p6 m m] 48) = W5 at A5 R5 d0 d1
        have E5 := Below.on D5 A5
        refine (laws_toWaves a' b' k e o f us vs _ HK.out HO.out (HA'.out.stays E5) (HB'.out.stays E5) xk xo).mono ?_
        rintro r w6 ⟨p7, p8, rfl, B6, F7, F8⟩
        have D6 := Below.on E5 B6
        have A6 := alloc_belowW w6 (.cells #[.slice p7 k k, .slice p8 o o] 48)
        have R6 := waveF_row w6 48 p7 k k p8 o o
        clear d0 d1
        obtain ⟨d0, d1⟩ := wave_stays R5 (Below.on B6 A6)
        go_wp2_with fail
        generalize w6.alloc (.cells #[.slice p7 k k, .slice p8 o o] 48) = W6 at A6 R6 d0 d1
        have E6 := Below.on D6 A6
        have G5 := Lib.hid (F5.out.stays (Below.on A5 (Below.on B6 A6)))
        have G6 := Lib.hid (F6.out.stays (Below.on A5 (Below.on B6 A6)))
        have G7 := Lib.hid (F7.out.stays A6)
        have G8 := Lib.hid (F8.out.stays A6)
        refine (impl_SameWaves p5 p6 p7 p8 n n m m k k o o xs ys us vs _ HN.out HM.out HK.out HO.out G5 G6 G7 G8 xn xm xk xo UX UY UU UV).mono ?_
        rintro r w7 ⟨rfl, B7⟩
        have D7 := Below.on E6 B7
        have D7' := Below.on (Below.on B6 A6) B7
        have G5' := Lib.hid (G5.out.stays B7)
        have G6' := Lib.hid (G6.out.stays B7)
        have G7' := Lib.hid (G7.out.stays B7)
        have G8' := Lib.hid (G8.out.stays B7)
        clear d0 d1
        obtain ⟨y0, y1⟩ := wave_stays R1 D7
        obtain ⟨z0, z1⟩ := wave_stays R5 D7'
        go_wp2_with fail
        go_region_with (first
          | (go_at_call_of 35 (Value.slice a n c); refine (laws_toWaves a b n c m d xs ys _ HN.out HM.out (HA.out.stays D7.drew) (HB.out.stays D7.drew) xn xm).mono ?_; rintro r w8 ⟨p9, p10, rfl, B8, F9, F10⟩; obtain ⟨v0, v1⟩ := wave_stays R5 (Below.on D7'.drew B8))
          | (go_at_call 37; refine (laws_eqWaves p5 p6 p9 p10 n m n m n m xs ys xs ys _ HN.out HM.out ((G5'.out.drewN 1).stays B8) ((G6'.out.drewN 1).stays B8) F9 F10 xn xm rfl rfl).mono ?_; rintro r w9 ⟨rfl, B9⟩))
        all_goals
          have D9 := Below.on (Below.on D7.drew B8) B9
          have D9' := Below.on (Below.on B7.drew B8) B9
          have G7'' := Lib.hid (((G7'.out.drewN 1).stays B8).stays B9)
          have G8'' := Lib.hid (((G8'.out.drewN 1).stays B8).stays B9)
          clear y0 y1 z0 z1 v0 v1
          obtain ⟨y0, y1⟩ := wave_stays R2 D9
          obtain ⟨z0, z1⟩ := wave_stays R6 D9'
          go_wp2_with fail
          go_region_with (first
            | (go_at_call_of 35 (Value.slice a' k e); refine (laws_toWaves a' b' k e o f us vs _ HK.out HO.out (HA'.out.stays D9.drew) (HB'.out.stays D9.drew) xk xo).mono ?_; rintro r wa ⟨pa, pb, rfl, Ba, Fa, Fb⟩; obtain ⟨v0, v1⟩ := wave_stays R6 (Below.on D9'.drew Ba))
            | (go_at_call 37; refine (laws_eqWaves p7 p8 pa pb k o k o k o us vs us vs _ HK.out HO.out ((G7''.out.drewN 1).stays Ba) ((G8''.out.drewN 1).stays Ba) Fa Fb xk xo rfl rfl).mono ?_; rintro r wb ⟨rfl, Bb⟩))
          all_goals
            go_wp2_with fail
            go_ret
            exact ⟨rfl, Below.on A0 (Below.on (Below.on D9.drew Ba) Bb)⟩
end Go.Proofs.Ytfodlngbkmhboaa
