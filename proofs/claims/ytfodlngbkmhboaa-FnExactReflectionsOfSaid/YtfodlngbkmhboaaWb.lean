/-
  SetEnds, in the program and in the reference. Condition: the tube is read off memory; lengths below 2^31.
-/
import Derived.Test.YtfodlngbkmhboaaWa
namespace Go.Proofs.Ytfodlngbkmhboaa
open Go.RowKit Ieee

theorem valid_len {xs : List Nat} {n l t p : Nat} (h : validT xs n l t p = true) : 0 < n ∧ n ≤ 16 := by
  unfold validT areasOk at h
  simp only [Bool.and_eq_true, decide_eq_true_eq] at h
  omega
theorem rowA.set1 {w : World} {B b i : Nat} {a : Option Addr} {xs : List Nat} (h : rowA w B a xs) (hb : ∀ x, a = some x → x.block ≠ b) (v : Value) : rowA (w.setCell ⟨b, i, Option.none⟩ v) B a xs := by
  rcases h with h | ⟨g, rfl, hB, h⟩
  · exact Or.inl h
  · have hg := hb _ rfl
    refine Or.inr ⟨g, rfl, hB, h.of_block ?_⟩
    rw [Below.heap_setCell _ _ _ _ (by simpa using hg)]

def seV (xs : List Nat) (n l t p l2 t2 p2 : Nat) : Bool := validT xs n l t p && validT xs n l2 t2 p2

set_option maxHeartbeats 1000000 in
theorem impl_SetEnds (a : Option Addr) (n c l t p l2 t2 p2 : Nat) (xs : List Nat) (w : World) (hn : xs.length = n) (ha : Hid (fls w a xs)) (hx : n < 2147483648) :
    Calls Try.prog 59 #[.agg #[.slice a n c, .float .f32 l, .float .f32 t, .float .f32 p], .float .f32 l2, .float .f32 t2, .float .f32 p2] w (tubeP w (seV xs n l t p l2 t2 p2) (xs.map (fv .f32)) l2 t2 p2) := by
  have HN := Lib.hid hn
  clear hn
  have R1 := (tubeF_row w 40 a n c l t p).alloc (.cells #[.slice none 0 0, .float .f32 0, .float .f32 0, .float .f32 0] 40)
  have R2 := tubeF_row (w.alloc (.cells #[.slice a n c, .float .f32 l, .float .f32 t, .float .f32 p] 40)) 40 none 0 0 0 0 0
  rw [World.size_alloc] at R2
  have A0 := alloc2_belowH w (.cells #[.slice a n c, .float .f32 l, .float .f32 t, .float .f32 p] 40) (.cells #[.slice none 0 0, .float .f32 0, .float .f32 0, .float .f32 0] 40)
  have HA := Lib.hid (ha.out.stays A0)
  cases hV : validT xs n l t p
  · have HV := Lib.hid hV
    have HO : Hid (seV xs n l t p l2 t2 p2 = false) := by show _ = _; unfold seV; rw [hV]; rfl
    clear hV
    rw [HO.out]
    go_enter Try.func59, Try.ntmps59
    go_wp2_with fail
    generalize ((w.alloc (.cells #[.slice a n c, .float .f32 l, .float .f32 t, .float .f32 p] 40)).alloc (.cells #[.slice none 0 0, .float .f32 0, .float .f32 0, .float .f32 0] 40)) = Wa at R1 R2 A0 HA
    refine (impl_ValidTube a n c l t p xs Wa HN.out HA hx).mono ?_
    rw [HV.out]
    rintro r w2 ⟨rfl, B2⟩
    obtain ⟨d0, d1, d2, d3⟩ := tube_stays R2 B2
    have R3 := R2.of_block (B2.block _ (World.rowIs.lt R2))
    have f0 := R3.frozen 0
    have f1 := R3.frozen 1
    have f2 := R3.frozen 2
    have f3 := R3.frozen 3
    simp only [Nat.zero_add] at d1 d2 d3
    clear R3
    go_wp2_with fail
    refine bodyPost_ret (results_tubeB Try.results59 _ _ (w.heap.size + 1) rfl (by simp [go_sem, d0]; rfl) (by simp [go_sem, d1]; rfl) (by simp [go_sem, d2]; rfl) (by simp [go_sem, d3]; rfl)) rfl ?_
    refine tubeP.no ?_
    iterate 4 (refine Below.setCell ?_ (by show w.heap.size ≤ _; simp only []; omega) _)
    exact Below.on A0 B2
  · have HV := Lib.hid hV
    have HO : Hid (seV xs n l t p l2 t2 p2 = validT xs n l2 t2 p2) := by show _ = _; unfold seV; rw [hV]; rfl
    obtain ⟨v1, v16⟩ := valid_len hV
    obtain ⟨ba, oa, rfl, _⟩ := ha.out 0 (by rw [HN.out]; exact v1)
    clear hV
    rw [HO.out]
    go_enter Try.func59, Try.ntmps59
    go_wp2_with fail
    generalize ((w.alloc (.cells #[.slice (some ⟨ba, oa, none⟩) n c, .float .f32 l, .float .f32 t, .float .f32 p] 40)).alloc (.cells #[.slice none 0 0, .float .f32 0, .float .f32 0, .float .f32 0] 40)) = Wa at R1 R2 A0 HA
    refine (impl_ValidTube (some ⟨ba, oa, none⟩) n c l t p xs Wa HN.out HA hx).mono ?_
    rw [HV.out]
    rintro r w2 ⟨rfl, B2⟩
    obtain ⟨c0, c1, c2, c3⟩ := tube_stays R1 B2
    go_wp2_with fail
    refine (slices_Clone ⟨ba, oa, none⟩ n c xs w2 HN.out (HA.out.stays B2) v16).mono ?_
    rintro r w3 ⟨G, cap, rfl, B3, HG⟩
    go_wp2_with fail
    refine (impl_checkedTube G n cap l2 t2 p2 xs w3 HN.out HG.out.fls hx).mono ?_
    rintro r w4 ⟨rfl, B4⟩
    have B24 := Below.on B2 (Below.on B3 B4)
    have HG4 := Lib.hid (HG.out.stays B4)
    obtain ⟨d0, d1, d2, d3⟩ := tube_stays R2 B24
    have R3 := R2.of_block (B24.block _ (World.rowIs.lt R2))
    have f0 := R3.frozen 0
    have f1 := R3.frozen 1
    have f2 := R3.frozen 2
    have f3 := R3.frozen 3
    simp only [Nat.zero_add] at d1 d2 d3
    have s2 : w.heap.size + 1 < w2.heap.size := Nat.lt_of_lt_of_le (World.rowIs.lt R2) B2.size
    clear R3 c0 c1 c2 c3
    cases hvv : validT xs n l2 t2 p2
    · have HVV := Lib.hid hvv
      rw [tubeR_false]
      clear hvv
      go_wp2_with fail
      refine bodyPost_ret (results_tubeB Try.results59 _ _ (w.heap.size + 1) rfl (by simp [go_sem, d0]; rfl) (by simp [go_sem, d1]; rfl) (by simp [go_sem, d2]; rfl) (by simp [go_sem, d3]; rfl)) rfl ?_
      rw [HVV.out]
      refine tubeP.no ?_
      iterate 4 (refine Below.setCell ?_ (by show w.heap.size ≤ _; simp only []; omega) _)
      exact Below.on A0 B24
    · have HVV := Lib.hid hvv
      rw [tubeR_true]
      clear hvv
      go_wp2_with fail
      refine bodyPost_ret (results_tubeB Try.results59 _ _ (w.heap.size + 1) rfl (by simp [go_sem, d0]; rfl) (by simp [go_sem, d1]; rfl) (by simp [go_sem, d2]; rfl) (by simp [go_sem, d3]; rfl)) rfl ?_
      rw [HVV.out]
      have hl := HN.out
      refine ⟨G, xs, cap, by rw [tubeR_true, hl]; rfl, fun _ => ⟨rfl, by omega, ?_⟩, ?_⟩
      · refine rowA.set4 (HG4.out.mono (by omega)) (fun x hx => ?_) _ _ _ _
        have := (HG4.out.lt x hx).1
        omega
      · iterate 4 (refine Below.setCell ?_ (by show w.heap.size ≤ _; simp only []; omega) _)
        exact Below.on A0 B24

set_option maxHeartbeats 1000000 in
theorem spec_SetEnds (a : Option Addr) (n c l t p l2 t2 p2 : Nat) (xs : List Nat) (w : World) (hn : xs.length = n) (ha : Hid (fls w a xs)) (hx : n < 2147483648) :
    Calls Try.prog 58 #[.agg #[.slice a n c, .float .f32 l, .float .f32 t, .float .f32 p], .float .f32 l2, .float .f32 t2, .float .f32 p2] w (tubeP w (seV xs n l t p l2 t2 p2) (xs.map (fv .f32)) l2 t2 p2) := by
  have HN := Lib.hid hn
  clear hn
  have R1 := (tubeF_row w 40 a n c l t p).alloc (.cells #[.slice none 0 0, .float .f32 0, .float .f32 0, .float .f32 0] 40)
  have R2 := tubeF_row (w.alloc (.cells #[.slice a n c, .float .f32 l, .float .f32 t, .float .f32 p] 40)) 40 none 0 0 0 0 0
  rw [World.size_alloc] at R2
  have A0 := alloc2_belowH w (.cells #[.slice a n c, .float .f32 l, .float .f32 t, .float .f32 p] 40) (.cells #[.slice none 0 0, .float .f32 0, .float .f32 0, .float .f32 0] 40)
  have HA := Lib.hid (ha.out.stays A0)
  cases hV : validT xs n l t p
  · have HV := Lib.hid hV
    have HO : Hid (seV xs n l t p l2 t2 p2 = false) := by show _ = _; unfold seV; rw [hV]; rfl
    clear hV
    rw [HO.out]
    go_enter Try.func58, Try.ntmps58
    go_wp2_with fail
    generalize ((w.alloc (.cells #[.slice a n c, .float .f32 l, .float .f32 t, .float .f32 p] 40)).alloc (.cells #[.slice none 0 0, .float .f32 0, .float .f32 0, .float .f32 0] 40)) = Wa at R1 R2 A0 HA
    refine (spec_l02Is _ 0 a n c l t p xs Wa HN.out HA hx (tube_stays R1 (Below.refl _ _))).mono ?_
    rw [HV.out]
    rintro r w2 ⟨rfl, m, hw2⟩
    have B2 : Below Wa.heap.size Wa w2 := by rw [hw2]; exact below_drewN (Below.refl _ _) m
    clear hw2
    obtain ⟨d0, d1, d2, d3⟩ := tube_stays R2 B2
    have R3 := R2.of_block (B2.block _ (World.rowIs.lt R2))
    have f0 := R3.frozen 0
    have f1 := R3.frozen 1
    have f2 := R3.frozen 2
    have f3 := R3.frozen 3
    simp only [Nat.zero_add] at d1 d2 d3
    clear R3
    go_wp2_with fail
    refine bodyPost_ret (results_tubeB Try.results58 _ _ (w.heap.size + 1) rfl (by simp [go_sem, d0]; rfl) (by simp [go_sem, d1]; rfl) (by simp [go_sem, d2]; rfl) (by simp [go_sem, d3]; rfl)) rfl ?_
    refine tubeP.no ?_
    iterate 4 (refine Below.setCell ?_ (by show w.heap.size ≤ _; simp only []; omega) _)
    exact Below.on A0 B2
  · have HV := Lib.hid hV
    have HO : Hid (seV xs n l t p l2 t2 p2 = validT xs n l2 t2 p2) := by show _ = _; unfold seV; rw [hV]; rfl
    obtain ⟨v1, v16⟩ := valid_len hV
    clear hV
    rw [HO.out]
    go_enter Try.func58, Try.ntmps58
    go_wp2_with fail
    generalize ((w.alloc (.cells #[.slice a n c, .float .f32 l, .float .f32 t, .float .f32 p] 40)).alloc (.cells #[.slice none 0 0, .float .f32 0, .float .f32 0, .float .f32 0] 40)) = Wa at R1 R2 A0 HA
    refine (spec_l02Is _ 0 a n c l t p xs Wa HN.out HA hx (tube_stays R1 (Below.refl _ _))).mono ?_
    rw [HV.out]
    rintro r w2 ⟨rfl, m, hw2⟩
    have B2 : Below Wa.heap.size Wa w2 := by rw [hw2]; exact below_drewN (Below.refl _ _) m
    clear hw2
    have s2 : w.heap.size + 1 < w2.heap.size := Nat.lt_of_lt_of_le (World.rowIs.lt R2) B2.size
    go_wp2_with fail
    refine (spec_l02Own w.heap.size a n c l t p xs w2 HN.out (HA.out.stays B2) v1 v16 (tube_stays R1 B2) (by omega)).mono ?_
    rintro r w3 ⟨G, cap, rfl, B3, HG⟩
    have A3 := alloc_belowP w3 (.cells #[.slice G n cap, .float .f32 l2, .float .f32 t2, .float .f32 p2] 40)
    have HG3 := Lib.hid (HG.out.stays A3)
    go_wp2_with fail
    refine (spec_l02Give G n cap l2 t2 p2 xs _ HN.out HG3.out.fls hx).mono ?_
    rintro r w4 ⟨rfl, B4⟩
    have B24 := Below.on B2 (Below.on (Below.on B3 A3) B4)
    have HG4 := Lib.hid (HG3.out.stays B4)
    obtain ⟨d0, d1, d2, d3⟩ := tube_stays R2 B24
    have R3 := R2.of_block (B24.block _ (World.rowIs.lt R2))
    have f0 := R3.frozen 0
    have f1 := R3.frozen 1
    have f2 := R3.frozen 2
    have f3 := R3.frozen 3
    simp only [Nat.zero_add] at d1 d2 d3
    clear R3
    cases hvv : validT xs n l2 t2 p2
    · have HVV := Lib.hid hvv
      rw [tubeR_false]
      clear hvv
      go_wp2_with fail
      refine bodyPost_ret (results_tubeB Try.results58 _ _ (w.heap.size + 1) rfl (by simp [go_sem, d0]; rfl) (by simp [go_sem, d1]; rfl) (by simp [go_sem, d2]; rfl) (by simp [go_sem, d3]; rfl)) rfl ?_
      rw [HVV.out]
      refine tubeP.no ?_
      iterate 4 (refine Below.setCell ?_ (by show w.heap.size ≤ _; simp only []; omega) _)
      exact Below.on A0 B24
    · have HVV := Lib.hid hvv
      rw [tubeR_true]
      clear hvv
      go_wp2_with fail
      refine bodyPost_ret (results_tubeB Try.results58 _ _ (w.heap.size + 1) rfl (by simp [go_sem, d0]; rfl) (by simp [go_sem, d1]; rfl) (by simp [go_sem, d2]; rfl) (by simp [go_sem, d3]; rfl)) rfl ?_
      rw [HVV.out]
      have hl := HN.out
      refine ⟨G, xs, cap, by rw [tubeR_true, hl]; rfl, fun _ => ⟨rfl, by omega, ?_⟩, ?_⟩
      · refine rowA.set4 (HG4.out.mono (by omega)) (fun x hx => ?_) _ _ _ _
        have := (HG4.out.lt x hx).1
        omega
      · iterate 4 (refine Below.setCell ?_ (by show w.heap.size ≤ _; simp only []; omega) _)
        exact Below.on A0 B24
end Go.Proofs.Ytfodlngbkmhboaa
