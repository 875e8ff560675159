/-
  Which waves belong to a tube: AreWaves: the program and the reference. Condition: what they hold is read off memory; lengths below 2^31.
-/
import Derived.Test.YtfodlngbkmhboaaTj
import Derived.Deep.QuietTactic
namespace Go.Proofs.Ytfodlngbkmhboaa
open Go.RowKit Ieee
attribute [local irreducible] wpQuiet

theorem waves_stays {W w' : World} {B : Nat} {T : TypeId} {a : Option Addr} {n c : Nat} {b : Option Addr} {m d : Nat} (h : W.rowIs B T 2 (waveF a n c b m d)) (hb : Below W.heap.size W w') : w'.cell? ⟨B, 0, none⟩ = some (.slice a n c) ∧ w'.cell? ⟨B, 1, none⟩ = some (.slice b m d) := by
  have k := h.of_block (hb.block _ h.lt)
  exact ⟨k.cell (i := 0) (by decide), k.cell (i := 1) (by decide)⟩

def areW (xs us vs : List Nat) (n l t p k o : Nat) : Bool := validT xs n l t p && decide (k = n) && decide (o = n) && allU finU us k && allU finU vs o

theorem impl_AreWaves (a b b' : Option Addr) (n c l t p k e o f : Nat) (xs us vs : List Nat) (w : World) (hn : xs.length = n) (hk : us.length = k) (ho : vs.length = o) (ha : Hid (fls w a xs)) (hb : Hid (fls w b us)) (hb' : Hid (fls w b' vs))
    (hx : n < 2147483648) (hu : k < 2147483648) (hv : o < 2147483648) :
    Calls Try.prog 49 #[.agg #[.slice a n c, .float .f32 l, .float .f32 t, .float .f32 p], .agg #[.slice b k e, .slice b' o f]] w fun r w' => r = .returned (.bool (areW xs us vs n l t p k o)) ∧ Below w.heap.size w w' := by
  have HN := Lib.hid hn
  have HK := Lib.hid hk
  have HO := Lib.hid ho
  clear hn hk ho
  have R1 := (tubeF_row w 40 a n c l t p).alloc (.cells #[.slice b k e, .slice b' o f] 48)
  have R2 := waveF_row (w.alloc (.cells #[.slice a n c, .float .f32 l, .float .f32 t, .float .f32 p] 40)) 48 b k e b' o f
  rw [World.size_alloc] at R2
  have A0 := alloc2_belowH w (.cells #[.slice a n c, .float .f32 l, .float .f32 t, .float .f32 p] 40) (.cells #[.slice b k e, .slice b' o f] 48)
  have HA := Lib.hid (ha.out.stays A0)
  have HB := Lib.hid (hb.out.stays A0)
  have HB' := Lib.hid (hb'.out.stays A0)
  cases hV : validT xs n l t p
  · have HV := Lib.hid hV
    have HR : Hid (areW xs us vs n l t p k o = false) := by show _ = _; unfold areW; rw [hV]; rfl
    clear hV
    rw [HR.out]
    go_enter Try.func49, Try.ntmps49
    go_wp2_with fail
    generalize ((w.alloc (.cells #[.slice a n c, .float .f32 l, .float .f32 t, .float .f32 p] 40)).alloc (.cells #[.slice b k e, .slice b' o f] 48)) = Wa at R1 R2 A0 HA HB HB' ⊢
    refine (impl_ValidTube a n c l t p xs Wa HN.out HA hx).mono ?_
    rw [HV.out]
    rintro r w2 ⟨rfl, B2⟩
    go_wp2_with fail
    go_ret
    exact ⟨rfl, Below.on A0 B2⟩
  · have HV := Lib.hid hV
    by_cases e1 : k = n
    · have e1' := e1.symm
      subst e1'
      clear e1
      by_cases e2 : o = n
      · have e2' := e2.symm
        subst e2'
        clear e2
        cases h3 : allU finU us n
        · have HR : Hid (areW xs us vs n l t p n n = false) := by show _ = _; unfold areW; rw [hV, h3]; simp
          have H3 := Lib.hid h3
          clear h3 hV
          rw [HR.out]
          go_enter Try.func49, Try.ntmps49
          go_wp2_with fail
          generalize ((w.alloc (.cells #[.slice a n c, .float .f32 l, .float .f32 t, .float .f32 p] 40)).alloc (.cells #[.slice b n e, .slice b' n f] 48)) = Wa at R1 R2 A0 HA HB HB' ⊢
          refine (impl_ValidTube a n c l t p xs Wa HN.out HA hx).mono ?_
          rw [HV.out]
          rintro r w2 ⟨rfl, B2⟩
          obtain ⟨c0, c1, c2, c3⟩ := tube_stays R1 B2
          obtain ⟨d0, d1⟩ := waves_stays R2 B2
          go_wp2_with fail
          refine (impl_areFinite b n e us w2 HK.out (HB.out.stays B2) hu).mono ?_
          rw [H3.out]
          rintro r w' ⟨rfl, q, rfl⟩
          go_wp2_with fail
          go_ret
          exact ⟨rfl, below_drewN (Below.on A0 B2) _⟩
        · have HR : Hid (areW xs us vs n l t p n n = allU finU vs n) := by show _ = _; unfold areW; rw [hV, h3, decide_eq_true rfl]; simp
          have H3 := Lib.hid h3
          clear h3 hV
          rw [HR.out]
          go_enter Try.func49, Try.ntmps49
          go_wp2_with fail
          generalize ((w.alloc (.cells #[.slice a n c, .float .f32 l, .float .f32 t, .float .f32 p] 40)).alloc (.cells #[.slice b n e, .slice b' n f] 48)) = Wa at R1 R2 A0 HA HB HB' ⊢
          refine (impl_ValidTube a n c l t p xs Wa HN.out HA hx).mono ?_
          rw [HV.out]
          rintro r w2 ⟨rfl, B2⟩
          obtain ⟨c0, c1, c2, c3⟩ := tube_stays R1 B2
          obtain ⟨d0, d1⟩ := waves_stays R2 B2
          go_wp2_with fail
          refine (impl_areFinite b n e us w2 HK.out (HB.out.stays B2) hu).mono ?_
          rw [H3.out]
          rintro r w' ⟨rfl, q, rfl⟩
          go_wp2_with fail
          refine (impl_areFinite b' n f vs _ HO.out ((HB'.out.stays B2).drewN _) hv).mono ?_
          rintro r w' ⟨rfl, q', rfl⟩
          go_wp2_with fail
          go_ret
          exact ⟨rfl, below_drewN (Below.on A0 B2) _⟩
      · have h5 : ((o : Int) == (n : Int)) = false := by simp; omega
        have HR : Hid (areW xs us vs n l t p n o = false) := by show _ = _; unfold areW; rw [decide_eq_false e2]; simp
        clear hV
        rw [HR.out]
        go_enter Try.func49, Try.ntmps49
        go_wp2_with fail
        generalize ((w.alloc (.cells #[.slice a n c, .float .f32 l, .float .f32 t, .float .f32 p] 40)).alloc (.cells #[.slice b n e, .slice b' o f] 48)) = Wa at R1 R2 A0 HA HB HB' ⊢
        refine (impl_ValidTube a n c l t p xs Wa HN.out HA hx).mono ?_
        rw [HV.out]
        rintro r w2 ⟨rfl, B2⟩
        obtain ⟨c0, c1, c2, c3⟩ := tube_stays R1 B2
        obtain ⟨d0, d1⟩ := waves_stays R2 B2
        go_wp2_with fail
        go_ret
        exact ⟨rfl, Below.on A0 B2⟩
    · have h6 : ((k : Int) == (n : Int)) = false := by simp; omega
      have HR : Hid (areW xs us vs n l t p k o = false) := by show _ = _; unfold areW; rw [decide_eq_false e1]; simp
      clear hV
      rw [HR.out]
      go_enter Try.func49, Try.ntmps49
      go_wp2_with fail
      generalize ((w.alloc (.cells #[.slice a n c, .float .f32 l, .float .f32 t, .float .f32 p] 40)).alloc (.cells #[.slice b k e, .slice b' o f] 48)) = Wa at R1 R2 A0 HA HB HB' ⊢
      refine (impl_ValidTube a n c l t p xs Wa HN.out HA hx).mono ?_
      rw [HV.out]
      rintro r w2 ⟨rfl, B2⟩
      obtain ⟨c0, c1, c2, c3⟩ := tube_stays R1 B2
      obtain ⟨d0, d1⟩ := waves_stays R2 B2
      go_wp2_with fail
      go_ret
      exact ⟨rfl, Below.on A0 B2⟩
def wavesAt (w : World) (B : Nat) (a : Option Addr) (n c : Nat) (b : Option Addr) (m d : Nat) : Prop := w.cell? ⟨B, 0, none⟩ = some (.slice a n c) ∧ w.cell? ⟨B, 1, none⟩ = some (.slice b m d)

set_option maxHeartbeats 1000000 in
theorem spec_l02Waves (A B : Nat) (a b b' : Option Addr) (n c l t p k e o f : Nat) (xs us vs : List Nat) (w : World) (hn : xs.length = n) (hk : us.length = k) (ho : vs.length = o) (ha : Hid (fls w a xs)) (hb : Hid (fls w b us)) (hb' : Hid (fls w b' vs))
    (hx : n < 2147483648) (hu : k < 2147483648) (hv : o < 2147483648) (TA : tubeAt w A 0 a n c l t p) (WB : wavesAt w B b k e b' o f) :
    Calls Try.prog 82 #[.pointer (some ⟨A, 0, none⟩), .pointer (some ⟨B, 0, none⟩)] w fun r w' => r = .returned (.bool (areW xs us vs n l t p k o)) ∧ ∃ m, w' = w.drewN m := by
  have HN := Lib.hid hn
  have HK := Lib.hid hk
  have HO := Lib.hid ho
  have HT := Lib.hid TA
  clear hn hk ho
  obtain ⟨a0, a1, a2, a3⟩ := TA
  obtain ⟨d0, d1⟩ := WB
  simp only [Nat.zero_add] at a1 a2 a3
  unfold areW
  generalize hV : validT xs n l t p = v
  generalize h1 : allU finU us k = f1
  generalize h2 : allU finU vs o = f2
  have HV := Lib.hid hV
  have H1 := Lib.hid h1
  have H2 := Lib.hid h2
  clear hV h1 h2
  have CI : Hid (∀ i, Calls Try.prog 67 #[.pointer (some ⟨A, 0, none⟩)] (w.drewN i) fun r w'' => r = .returned (.bool v) ∧ ∃ m, w'' = w.drewN m) := fun i =>
    Calls.quiet_of ((spec_l02Is A 0 a n c l t p xs _ HN.out (ha.out.drewN _) hx HT.out).mono (by rw [HV.out]; exact fun _ _ h => h))
  have C1 : Hid (∀ i, Calls Try.prog 93 #[.slice b k e] (w.drewN i) fun r w'' => r = .returned (.bool f1) ∧ ∃ m, w'' = w.drewN m) := fun i =>
    Calls.quiet_of ((spec_l02Finite b k e us _ HK.out (hb.out.drewN _) hu).mono (by rw [H1.out]; exact fun _ _ h => h))
  have C2 : Hid (∀ i, Calls Try.prog 93 #[.slice b' o f] (w.drewN i) fun r w'' => r = .returned (.bool f2) ∧ ∃ m, w'' = w.drewN m) := fun i =>
    Calls.quiet_of ((spec_l02Finite b' o f vs _ HO.out (hb'.out.drewN _) hv).mono (by rw [H2.out]; exact fun _ _ h => h))
  clear HN HK HO HT ha hb hb' HV H1 H2
  cases v
  · go_enter Try.func82, Try.ntmps82
    go_wp2_with (first | (go_at_call 67; refine (CI.out 0).mono ?_; rintro r w2 ⟨rfl, m1, rfl⟩) | (go_at_call_of 93 (Value.slice b k e); refine (C1.out _).mono ?_; rintro r w3 ⟨rfl, m2, rfl⟩) | (go_at_call_of 93 (Value.slice b' o f); refine (C2.out _).mono ?_; rintro r w4 ⟨rfl, m3, rfl⟩))
    go_ret
    exact ⟨by first | rfl | simp_all, _, rfl⟩
  · by_cases e1 : k = n
    · have e1' := e1.symm
      subst e1'
      clear e1
      by_cases e2 : o = n
      · have e2' := e2.symm
        subst e2'
        clear e2
        cases f1
        · go_enter Try.func82, Try.ntmps82
          go_wp2_with (first | (go_at_call 67; refine (CI.out 0).mono ?_; rintro r w2 ⟨rfl, m1, rfl⟩) | (go_at_call_of 93 (Value.slice b n e); refine (C1.out _).mono ?_; rintro r w3 ⟨rfl, m2, rfl⟩) | (go_at_call_of 93 (Value.slice b' n f); refine (C2.out _).mono ?_; rintro r w4 ⟨rfl, m3, rfl⟩))
          go_ret
          exact ⟨by first | rfl | simp_all, _, rfl⟩
        · go_enter Try.func82, Try.ntmps82
          go_wp2_with (first | (go_at_call 67; refine (CI.out 0).mono ?_; rintro r w2 ⟨rfl, m1, rfl⟩) | (go_at_call_of 93 (Value.slice b n e); refine (C1.out _).mono ?_; rintro r w3 ⟨rfl, m2, rfl⟩) | (go_at_call_of 93 (Value.slice b' n f); refine (C2.out _).mono ?_; rintro r w4 ⟨rfl, m3, rfl⟩))
          go_ret
          exact ⟨by first | rfl | simp_all, _, rfl⟩
      · have h6 : ((o : Int) == (n : Int)) = false := by simp; omega
        go_enter Try.func82, Try.ntmps82
        go_wp2_with (first | (go_at_call 67; refine (CI.out 0).mono ?_; rintro r w2 ⟨rfl, m1, rfl⟩) | (go_at_call_of 93 (Value.slice b n e); refine (C1.out _).mono ?_; rintro r w3 ⟨rfl, m2, rfl⟩) | (go_at_call_of 93 (Value.slice b' o f); refine (C2.out _).mono ?_; rintro r w4 ⟨rfl, m3, rfl⟩))
        go_ret
        exact ⟨by rw [decide_eq_false e2]; simp, _, rfl⟩
    · have h6 : ((k : Int) == (n : Int)) = false := by simp; omega
      go_enter Try.func82, Try.ntmps82
      go_wp2_with (first | (go_at_call 67; refine (CI.out 0).mono ?_; rintro r w2 ⟨rfl, m1, rfl⟩) | (go_at_call_of 93 (Value.slice b k e); refine (C1.out _).mono ?_; rintro r w3 ⟨rfl, m2, rfl⟩) | (go_at_call_of 93 (Value.slice b' o f); refine (C2.out _).mono ?_; rintro r w4 ⟨rfl, m3, rfl⟩))
      go_ret
      exact ⟨by rw [decide_eq_false e1]; simp, _, rfl⟩

theorem spec_AreWaves (a b b' : Option Addr) (n c l t p k e o f : Nat) (xs us vs : List Nat) (w : World) (hn : xs.length = n) (hk : us.length = k) (ho : vs.length = o) (ha : Hid (fls w a xs)) (hb : Hid (fls w b us)) (hb' : Hid (fls w b' vs))
    (hx : n < 2147483648) (hu : k < 2147483648) (hv : o < 2147483648) :
    Calls Try.prog 48 #[.agg #[.slice a n c, .float .f32 l, .float .f32 t, .float .f32 p], .agg #[.slice b k e, .slice b' o f]] w fun r w' => r = .returned (.bool (areW xs us vs n l t p k o)) ∧ Below w.heap.size w w' := by
  have HN := Lib.hid hn
  have HK := Lib.hid hk
  have HO := Lib.hid ho
  clear hn hk ho
  have R1 := (tubeF_row w 40 a n c l t p).alloc (.cells #[.slice b k e, .slice b' o f] 48)
  have R2 := waveF_row (w.alloc (.cells #[.slice a n c, .float .f32 l, .float .f32 t, .float .f32 p] 40)) 48 b k e b' o f
  rw [World.size_alloc] at R2
  have A0 := alloc2_belowH w (.cells #[.slice a n c, .float .f32 l, .float .f32 t, .float .f32 p] 40) (.cells #[.slice b k e, .slice b' o f] 48)
  go_enter Try.func48, Try.ntmps48
  go_wp2_with fail
  refine (spec_l02Waves _ _ a b b' n c l t p k e o f xs us vs _ HN.out HK.out HO.out (ha.out.stays A0) (hb.out.stays A0) (hb'.out.stays A0) hx hu hv (tube_stays R1 (Below.refl _ _)) (waves_stays R2 (Below.refl _ _))).mono ?_
  rintro r w' ⟨rfl, m, rfl⟩
  go_wp2
  go_ret
  exact ⟨rfl, below_drewN A0 _⟩
end Go.Proofs.Ytfodlngbkmhboaa
