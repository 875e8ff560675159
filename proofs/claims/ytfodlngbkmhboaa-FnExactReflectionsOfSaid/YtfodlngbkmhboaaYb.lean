/-
  BackTube, in the program and in the reference. Condition: the tube is read off memory; lengths below 2^31.
-/
import Derived.Test.YtfodlngbkmhboaaYa
import Derived.Deep.RegionLaw
namespace Go.Proofs.Ytfodlngbkmhboaa
open Go.RowKit Ieee
attribute [local irreducible] wpAnyH

theorem rowA.some_of {w : World} {B : Nat} {a : Option Addr} {xs : List Nat} (h : rowA w B a xs) (hn : 0 < xs.length) : ∃ g, a = some ⟨g, 0, Option.none⟩ ∧ B ≤ g := by
  rcases h with ⟨_, rfl⟩ | ⟨g, rfl, hB, _⟩
  · exact absurd hn (by simp)
  · exact ⟨g, rfl, hB⟩

theorem tubeF_sets {w : World} {b : Nat} {T : TypeId} {a a' : Option Addr} {n c l t p n' c' l' t' p' : Nat} (h : w.rowIs b T 4 (tubeF a n c l t p)) :
    ((((w.setCell ⟨b, 0, none⟩ (.slice a' n' c')).setCell ⟨b, 1, none⟩ (.float .f32 l')).setCell ⟨b, 2, none⟩ (.float .f32 t')).setCell ⟨b, 3, none⟩ (.float .f32 p')).rowIs b T 4 (tubeF a' n' c' l' t' p') :=
  ((((h.set 0 (.slice a' n' c')).set 1 (.float .f32 l')).set 2 (.float .f32 t')).set 3 (.float .f32 p')).congr fun i hi => by
    have : i = 0 ∨ i = 1 ∨ i = 2 ∨ i = 3 := by omega
    rcases this with rfl | rfl | rfl | rfl <;> rfl

set_option maxHeartbeats 1000000 in
theorem impl_BackTube (a : Option Addr) (n c l t p : Nat) (xs : List Nat) (w : World) (hn : xs.length = n) (ha : Hid (fls w a xs)) (hx : n < 2147483648) :
    Calls Try.prog 55 #[.agg #[.slice a n c, .float .f32 l, .float .f32 t, .float .f32 p]] w (tubeP w (validT xs n l t p) (xs.reverse.map (fv .f32)) l p t) := by
  have HN := Lib.hid hn
  clear hn
  have R1 := (tubeF_row w 40 a n c l t p).alloc (.cells #[.slice none 0 0, .float .f32 0, .float .f32 0, .float .f32 0] 40)
  have R2 := tubeF_row (w.alloc (.cells #[.slice a n c, .float .f32 l, .float .f32 t, .float .f32 p] 40)) 40 none 0 0 0 0 0
  rw [World.size_alloc] at R2
  have A0 := alloc2_belowH w (.cells #[.slice a n c, .float .f32 l, .float .f32 t, .float .f32 p] 40) (.cells #[.slice none 0 0, .float .f32 0, .float .f32 0, .float .f32 0] 40)
  have HA := Lib.hid (ha.out.stays A0)
  cases hV : validT xs n l t p
  · have HV := Lib.hid hV
    clear hV
    go_enter Try.func55, Try.ntmps55
    go_wp2_with fail
    generalize ((w.alloc (.cells #[.slice a n c, .float .f32 l, .float .f32 t, .float .f32 p] 40)).alloc (.cells #[.slice none 0 0, .float .f32 0, .float .f32 0, .float .f32 0] 40)) = Wa at R1 R2 A0 HA
    refine (impl_ValidTube a n c l t p xs Wa HN.out HA hx).mono ?_
    rw [HV.out]
    rintro r w2 ⟨rfl, B2⟩
    obtain ⟨d0, d1, d2, d3⟩ := tube_stays R2 B2
    have R3 := R2.of_block (B2.block _ (World.rowIs.lt R2))
    have f0 := R3.frozen 0
    have f1 := R3.frozen 1
    have f2 := R3.frozen 2
    have f3 := R3.frozen 3
    simp only [Nat.zero_add] at d1 d2 d3
    clear R3
    go_wp2_with fail
    refine bodyPost_ret (results_tubeB Try.results55 _ _ (w.heap.size + 1) rfl (by simp [go_sem, d0]; rfl) (by simp [go_sem, d1]; rfl) (by simp [go_sem, d2]; rfl) (by simp [go_sem, d3]; rfl)) rfl ?_
    refine tubeP.no ?_
    iterate 4 (refine Below.setCell ?_ (by show w.heap.size ≤ _; simp only []; omega) _)
    exact Below.on A0 B2
  · have HV := Lib.hid hV
    obtain ⟨v1, v16⟩ := valid_len hV
    obtain ⟨ba, oa, rfl, _⟩ := ha.out 0 (by rw [HN.out]; exact v1)
    clear hV
    go_enter Try.func55, Try.ntmps55
    go_wp2_with fail
    generalize ((w.alloc (.cells #[.slice (some ⟨ba, oa, none⟩) n c, .float .f32 l, .float .f32 t, .float .f32 p] 40)).alloc (.cells #[.slice none 0 0, .float .f32 0, .float .f32 0, .float .f32 0] 40)) = Wa at R1 R2 A0 HA
    refine (impl_ValidTube (some ⟨ba, oa, none⟩) n c l t p xs Wa HN.out HA hx).mono ?_
    rw [HV.out]
    rintro r w2 ⟨rfl, B2⟩
    obtain ⟨c0, c1, c2, c3⟩ := tube_stays R1 B2
    simp only [Nat.zero_add] at c1 c2 c3
    have HA2 := Lib.hid (HA.out.stays B2).dw
    have Al := alloc_belowP w2 (.cells #[.slice none 0 0, .float .f32 0, .float .f32 0, .float .f32 0] 40)
    have RT := tubeF_row w2 40 none 0 0 0 0 0
    have HA3 := Lib.hid ((HA.out.stays B2).stays Al).dw
    have BX := Lib.hid (Below.on B2 Al).drew
    have s2 : w.heap.size < w2.heap.size := Nat.lt_of_lt_of_le (World.rowIs.lt R1) B2.size
    have s2' : w.heap.size + 1 < w2.heap.size := Nat.lt_of_lt_of_le (World.rowIs.lt R2) B2.size
    go_wp2_with fail
    go_region_held3 (fun W => W.cell? ⟨w.heap.size, 0, none⟩ = some (.slice (some ⟨ba, oa, none⟩) n c) ∧ W.cell? ⟨w.heap.size, 1, none⟩ = some (.float .f32 l) ∧ W.cell? ⟨w.heap.size, 2, none⟩ = some (.float .f32 t) ∧ W.cell? ⟨w.heap.size, 3, none⟩ = some (.float .f32 p)) (first | go_keep | exact ⟨(cell_set4 _ _ _ _ _ _ _ (by show w.heap.size ≠ w2.heap.size; omega)).trans e0, (cell_set4 _ _ _ _ _ _ _ (by show w.heap.size ≠ w2.heap.size; omega)).trans e1, (cell_set4 _ _ _ _ _ _ _ (by show w.heap.size ≠ w2.heap.size; omega)).trans e2, (cell_set4 _ _ _ _ _ _ _ (by show w.heap.size ≠ w2.heap.size; omega)).trans e3⟩) (first
      | (go_at_call 83; refine (slices_Clone ⟨ba, oa, none⟩ n c xs w2.drew HN.out HA2 v16).mono ?_; rintro r w3 ⟨G, cap, rfl, B3, HG⟩; obtain ⟨e0, e1, e2, e3⟩ := tube_stays R1 (Below.on B2.drew B3); simp only [Nat.zero_add] at e1 e2 e3; have BB := Lib.hid (Below.on B2.drew B3))
      | (go_at_call 83; refine (slices_Clone ⟨ba, oa, none⟩ n c xs (w2.alloc (.cells #[.slice none 0 0, .float .f32 0, .float .f32 0, .float .f32 0] 40)).drew HN.out HA3 v16).mono ?_; rintro r w3 ⟨G, cap, rfl, B3, HG⟩; obtain ⟨e0, e1, e2, e3⟩ := tube_stays R1 (Below.on BX.out B3); simp only [Nat.zero_add] at e1 e2 e3; have BB := Lib.hid (Below.on BX.out B3); have RT3 := RT.of_block (B3.block _ (World.rowIs.lt RT)); obtain ⟨k0, k1, k2, k3⟩ := tube_stays RT3 (Below.refl _ _); have m0 := RT3.frozen 0; have m1 := RT3.frozen 1; have m2 := RT3.frozen 2; have m3 := RT3.frozen 3; simp only [Nat.zero_add] at k1 k2 k3; have HRT := Lib.hid RT3; clear RT3))
    · have A4 := alloc_belowP w3 (.cells #[.slice G n cap, .float .f32 l, .float .f32 p, .float .f32 t] 40)
      have R4 := tubeF_row w3 40 G n cap l p t
      have HG4 := Lib.hid (HG.out.stays A4)
      have HNE : Hid (∀ x, G = some x → x.block ≠ w3.heap.size) := fun x hx => by have := (HG.out.lt x hx).2; omega
      have B4 := Below.on BB.out A4
      clear e0 e1 e2 e3 c0 c1 c2 c3
      generalize w3.alloc (.cells #[.slice G n cap, .float .f32 l, .float .f32 p, .float .f32 t] 40) = W4 at A4 R4 HG4 B4 ⊢
      obtain ⟨g, rfl, hgB⟩ := HG4.out.some_of (by rw [HN.out]; exact v1)
      have NE := HNE.out ⟨g, 0, none⟩ rfl
      obtain ⟨t0, t1, t2, t3⟩ := tube_stays R4 (Below.refl _ _)
      simp only [Nat.zero_add] at t1 t2 t3
      have L4 := World.rowIs.lt R4
      have HR4 := Lib.hid R4
      clear R4
      go_wp2_with fail
      refine (slices_Reverse g n cap w2.heap.size xs W4 HN.out HG4 v16 v1).mono ?_
      rintro r w5 ⟨rfl, M5, T5, HG5⟩
      have b5 : w5.heap[w3.heap.size]? = W4.heap[w3.heap.size]? := T5 _ L4 (fun x hx => by cases hx; exact NE)
      have B5 : Below Wa.heap.size Wa w5 := B4.trans (M5 _ B2.size)
      clear t0 t1 t2 t3 M5 T5
      obtain ⟨t0, t1, t2, t3⟩ := tube_cells HR4.out b5
      obtain ⟨d0, d1, d2, d3⟩ := tube_stays R2 B5
      have R5 := R2.of_block (B5.block _ (World.rowIs.lt R2))
      have f0 := R5.frozen 0
      have f1 := R5.frozen 1
      have f2 := R5.frozen 2
      have f3 := R5.frozen 3
      simp only [Nat.zero_add] at d1 d2 d3 t1 t2 t3
      clear R5 b5
      go_wp2_with fail
      refine bodyPost_ret (results_tubeB Try.results55 _ _ (w.heap.size + 1) rfl (by simp [go_sem, d0]; rfl) (by simp [go_sem, d1]; rfl) (by simp [go_sem, d2]; rfl) (by simp [go_sem, d3]; rfl)) rfl ?_
      have hl : xs.reverse.length = n := by rw [List.length_reverse, HN.out]
      refine ⟨some ⟨g, 0, none⟩, xs.reverse, cap, by rw [tubeR_true, hl]; rfl, fun _ => ⟨rfl, by omega, ?_⟩, ?_⟩
      · refine rowA.set4 (HG5.out.mono (by omega)) (fun x hx => ?_) _ _ _ _
        have := (HG5.out.lt x hx).1
        omega
      · iterate 4 (refine Below.setCell ?_ (by show w.heap.size ≤ _; simp only []; omega) _)
        exact Below.on A0 B5
    · have HNE : Hid (∀ x, G = some x → x.block ≠ w2.heap.size) := fun x hx => by have h1 := (HG.out.lt x hx).1; have h2 : (w2.alloc (.cells #[.slice none 0 0, .float .f32 0, .float .f32 0, .float .f32 0] 40)).drew.heap.size = w2.heap.size + 1 := World.size_alloc _ _; omega
      have R4 := tubeF_sets (l' := l) (t' := p) (p' := t) (a' := G) (n' := n) (c' := cap) HRT.out
      have HG4 : Hid (rowA ((((w3.setCell ⟨w2.heap.size, 0, none⟩ (.slice G n cap)).setCell ⟨w2.heap.size, 1, none⟩ (.float .f32 l)).setCell ⟨w2.heap.size, 2, none⟩ (.float .f32 p)).setCell ⟨w2.heap.size, 3, none⟩ (.float .f32 t)) w2.heap.size G xs) := rowA.set4 (HG.out.mono (by have h2 : (w2.alloc (.cells #[.slice none 0 0, .float .f32 0, .float .f32 0, .float .f32 0] 40)).drew.heap.size = w2.heap.size + 1 := World.size_alloc _ _; omega)) HNE.out _ _ _ _
      have B4 : Below Wa.heap.size Wa ((((w3.setCell ⟨w2.heap.size, 0, none⟩ (.slice G n cap)).setCell ⟨w2.heap.size, 1, none⟩ (.float .f32 l)).setCell ⟨w2.heap.size, 2, none⟩ (.float .f32 p)).setCell ⟨w2.heap.size, 3, none⟩ (.float .f32 t)) := by
        iterate 4 (refine Below.setCell ?_ (by exact B2.size) _)
        exact BB.out
      clear e0 e1 e2 e3 c0 c1 c2 c3 k0 k1 k2 k3 m0 m1 m2 m3
      generalize ((((w3.setCell ⟨w2.heap.size, 0, none⟩ (.slice G n cap)).setCell ⟨w2.heap.size, 1, none⟩ (.float .f32 l)).setCell ⟨w2.heap.size, 2, none⟩ (.float .f32 p)).setCell ⟨w2.heap.size, 3, none⟩ (.float .f32 t)) = W4 at R4 HG4 B4 ⊢
      obtain ⟨g, rfl, hgB⟩ := HG4.out.some_of (by rw [HN.out]; exact v1)
      have NE := HNE.out ⟨g, 0, none⟩ rfl
      obtain ⟨t0, t1, t2, t3⟩ := tube_stays R4 (Below.refl _ _)
      simp only [Nat.zero_add] at t1 t2 t3
      have L4 := World.rowIs.lt R4
      have HR4 := Lib.hid R4
      clear R4
      go_wp2_with fail
      refine (slices_Reverse g n cap w2.heap.size xs W4 HN.out HG4 v16 v1).mono ?_
      rintro r w5 ⟨rfl, M5, T5, HG5⟩
      have b5 : w5.heap[w2.heap.size]? = W4.heap[w2.heap.size]? := T5 _ L4 (fun x hx => by cases hx; exact NE)
      have B5 : Below Wa.heap.size Wa w5 := B4.trans (M5 _ B2.size)
      clear t0 t1 t2 t3 M5 T5
      obtain ⟨t0, t1, t2, t3⟩ := tube_cells HR4.out b5
      obtain ⟨d0, d1, d2, d3⟩ := tube_stays R2 B5
      have R5 := R2.of_block (B5.block _ (World.rowIs.lt R2))
      have f0 := R5.frozen 0
      have f1 := R5.frozen 1
      have f2 := R5.frozen 2
      have f3 := R5.frozen 3
      simp only [Nat.zero_add] at d1 d2 d3 t1 t2 t3
      clear R5 b5
      go_wp2_with fail
      refine bodyPost_ret (results_tubeB Try.results55 _ _ (w.heap.size + 1) rfl (by simp [go_sem, d0]; rfl) (by simp [go_sem, d1]; rfl) (by simp [go_sem, d2]; rfl) (by simp [go_sem, d3]; rfl)) rfl ?_
      have hl : xs.reverse.length = n := by rw [List.length_reverse, HN.out]
      refine ⟨some ⟨g, 0, none⟩, xs.reverse, cap, by rw [tubeR_true, hl]; rfl, fun _ => ⟨rfl, by omega, ?_⟩, ?_⟩
      · refine rowA.set4 (HG5.out.mono (by omega)) (fun x hx => ?_) _ _ _ _
        have := (HG5.out.lt x hx).1
        omega
      · iterate 4 (refine Below.setCell ?_ (by show w.heap.size ≤ _; simp only []; omega) _)
        exact Below.on A0 B5

theorem own.setCell {w : World} {B g n cap b i : Nat} {ys : List Nat} {u : Value} (h : own w B (.slice (some ⟨g, 0, Option.none⟩) n cap) ys) (hne : g ≠ b) : own (w.setCell ⟨b, i, Option.none⟩ u) B (.slice (some ⟨g, 0, Option.none⟩) n cap) ys := by
  refine ⟨h.1, ?_⟩
  rcases h.2 with ⟨h', _⟩ | ⟨g1, cap1, cur, hv, hb, hg, r⟩
  · cases h'
  · refine Or.inr ⟨g1, cap1, cur, hv, hb, ?_, r⟩
    have e : g1 = g := by
      simp only [Value.slice.injEq, Option.some.injEq, Addr.mk.injEq] at hv
      exact hv.1.1.symm
    rw [Below.heap_setCell _ _ _ _ (by rw [e]; exact hne)]
    exact hg

/-- One number appended, as a step of a region that draws its order. -/
theorem step_append_one {ops : Array Oper} {o : Oper} {a : Act} {K : Act → World → Prop} {Q : Exit → Act → World → Prop} {E : Prop} (hgd : o.guard = none) (s x : Operand)
    (ho : o.op = .call { callee := .builtin .append, args := #[s, x], argTypes := #[22, 22] }) (B : Nat) (g0 n c : Nat) (ys : List Nat) (W : World) (z h0 : Nat)
    (hs : a.eval s = .slice (some ⟨g0, 0, none⟩) n c) (hx : a.eval x = .slice (some ⟨h0, 0, none⟩) 1 1) (hn : ys.length = n) (hh : h0 < W.heap.size) (hz : W.cell? ⟨h0, 0, none⟩ = some (.float .f32 z)) (hown : own W B (.slice (some ⟨g0, 0, none⟩) n c) ys) (hB : B ≤ W.heap.size) (hl : n ≤ 1000000)
    (h : ∀ g cap w', own w' B (.slice (some ⟨g, 0, none⟩) (n + 1) cap) (ys ++ [z]) → Below B W w' → (g = g0 ∨ g = W.heap.size) → (∀ j, j < W.heap.size → j ≠ g0 → w'.heap[j]? = W.heap[j]?) → K (a.put o.dst (.slice (some ⟨g, 0, none⟩) (n + 1) cap)) w') :
    if Region.wanted o (yielded ops a.tmps) = true then Oper.wp Try.prog o a W K Q else E := by
  subst hn
  obtain ⟨i0, hi, hz0, hz1, hz2⟩ := info_parts info_f32
  refine step_append_lies W hgd s x 22 ho B 23 i0 (.float .f32 0) 1 4 Try.underlying22 hi hz0 hz1 hz2 rfl (by decide) _ ys.length (vals ys) hs hown ⟨h0, 0, none⟩ 1 1 [.float .f32 z] hx rfl ?_ ?_ (by decide) (by unfold maxLen; omega) (by omega) hB _ rfl ?_
  · intro j u hj
    match j, hj with
    | 0, hj => simp at hj; subst hj; simpa [Addr.add] using hz
  · intro u hu; simp at hu; subst hu; rfl
  · intro g cap w' h2 h3 h4 _
    refine h g cap w' (own.added h2) ((Below.refl B W).grown h3 hB (fun k hk => (World.ownsRow.lt hown k hk).1)) ?_ (fun j hj hne => h3.block j hj (by simpa [Value.ownBlock] using hne))
    rcases h4 with h4 | h4
    · left; simpa [Value.ownBlock] using h4.symm
    · right; exact h4

/-- The first j from the end. -/
def Rv (xs ys : List Nat) (n j : Nat) : Prop := ys.length = j ∧ ∀ k, k < j → ys.getD k 0 = xs.getD (n - 1 - k) 0
theorem Rv.add {xs ys : List Nat} {n j x : Nat} (h : Rv xs ys n j) (hx : x = xs.getD (n - 1 - j) 0) : Rv xs (ys ++ [x]) n (j + 1) := by
  refine ⟨by simp [h.1], fun i hi => ?_⟩
  by_cases h1 : i < j
  · rw [List.getD_eq_getElem?_getD, List.getElem?_append_left (by rw [h.1]; exact h1), ← List.getD_eq_getElem?_getD]; exact h.2 i h1
  · have : i = j := by omega
    subst this
    rw [List.getD_eq_getElem?_getD, List.getElem?_append_right (by rw [h.1]; exact Nat.le_refl _), h.1, Nat.sub_self]
    exact hx
theorem Rv.rev {xs ys : List Nat} {n : Nat} (h : Rv xs ys n n) (hn : xs.length = n) : ys = xs.reverse := by
  apply List.ext_getElem
  · rw [h.1, List.length_reverse, hn]
  · intro i h1 h2
    have hi : i < n := by rw [h.1] at h1; exact h1
    have e1 := h.2 i hi
    rw [← rev_getD xs n i hn hi, List.getD_eq_getElem?_getD, List.getD_eq_getElem?_getD, List.getElem?_eq_getElem h1, List.getElem?_eq_getElem h2] at e1
    simpa using e1

set_option maxHeartbeats 1000000 in
theorem spec_BackTube (a : Option Addr) (n c l t p : Nat) (xs : List Nat) (w : World) (hn : xs.length = n) (ha : Hid (fls w a xs)) (hx : n < 2147483648) :
    Calls Try.prog 54 #[.agg #[.slice a n c, .float .f32 l, .float .f32 t, .float .f32 p]] w (tubeP w (validT xs n l t p) (xs.reverse.map (fv .f32)) l p t) := by
  have HN := Lib.hid hn
  clear hn
  have R1 := (tubeF_row w 40 a n c l t p).alloc (.cells #[.slice none 0 0, .float .f32 0, .float .f32 0, .float .f32 0] 40)
  have R2 := tubeF_row (w.alloc (.cells #[.slice a n c, .float .f32 l, .float .f32 t, .float .f32 p] 40)) 40 none 0 0 0 0 0
  rw [World.size_alloc] at R2
  have A0 := alloc2_belowH w (.cells #[.slice a n c, .float .f32 l, .float .f32 t, .float .f32 p] 40) (.cells #[.slice none 0 0, .float .f32 0, .float .f32 0, .float .f32 0] 40)
  have HA := Lib.hid (ha.out.stays A0)
  cases hV : validT xs n l t p
  · have HV := Lib.hid hV
    clear hV
    go_enter Try.func54, Try.ntmps54
    go_wp2_with fail
    generalize ((w.alloc (.cells #[.slice a n c, .float .f32 l, .float .f32 t, .float .f32 p] 40)).alloc (.cells #[.slice none 0 0, .float .f32 0, .float .f32 0, .float .f32 0] 40)) = Wa at R1 R2 A0 HA
    refine (spec_l02Is _ 0 a n c l t p xs Wa HN.out HA hx (tube_stays R1 (Below.refl _ _))).mono ?_
    rw [HV.out]
    rintro r w2 ⟨rfl, m, hw2⟩
    have B2 : Below Wa.heap.size Wa w2 := by rw [hw2]; exact below_drewN (Below.refl _ _) m
    clear hw2
    obtain ⟨d0, d1, d2, d3⟩ := tube_stays R2 B2
    have R3 := R2.of_block (B2.block _ (World.rowIs.lt R2))
    have f0 := R3.frozen 0
    have f1 := R3.frozen 1
    have f2 := R3.frozen 2
    have f3 := R3.frozen 3
    simp only [Nat.zero_add] at d1 d2 d3
    clear R3
    go_wp2_with fail
    refine bodyPost_ret (results_tubeB Try.results54 _ _ (w.heap.size + 1) rfl (by simp [go_sem, d0]; rfl) (by simp [go_sem, d1]; rfl) (by simp [go_sem, d2]; rfl) (by simp [go_sem, d3]; rfl)) rfl ?_
    refine tubeP.no ?_
    iterate 4 (refine Below.setCell ?_ (by show w.heap.size ≤ _; simp only []; omega) _)
    exact Below.on A0 B2
  · have HV := Lib.hid hV
    obtain ⟨v1, v16⟩ := valid_len hV
    obtain ⟨ba, oa, rfl, hcell0⟩ := ha.out 0 (by rw [HN.out]; exact v1)
    have hba := lt_of_cell hcell0
    clear hV hcell0
    go_enter Try.func54, Try.ntmps54
    go_wp2_with fail
    have S0 : ((w.alloc (.cells #[.slice (some ⟨ba, oa, none⟩) n c, .float .f32 l, .float .f32 t, .float .f32 p] 40)).alloc (.cells #[.slice none 0 0, .float .f32 0, .float .f32 0, .float .f32 0] 40)).heap.size = w.heap.size + 2 := by rw [World.size_alloc, World.size_alloc]
    generalize ((w.alloc (.cells #[.slice (some ⟨ba, oa, none⟩) n c, .float .f32 l, .float .f32 t, .float .f32 p] 40)).alloc (.cells #[.slice none 0 0, .float .f32 0, .float .f32 0, .float .f32 0] 40)) = Wa at R1 R2 A0 HA S0
    have HS0 := Lib.hid S0
    clear S0
    refine (spec_l02Is _ 0 (some ⟨ba, oa, none⟩) n c l t p xs Wa HN.out HA hx (tube_stays R1 (Below.refl _ _))).mono ?_
    rw [HV.out]
    rintro r w2 ⟨rfl, m, hw2⟩
    have B2 : Below Wa.heap.size Wa w2 := by rw [hw2]; exact below_drewN (Below.refl _ _) m
    clear hw2
    have s2 : w.heap.size + 2 ≤ w2.heap.size := by have := HS0.out; have := B2.size; omega
    have O2 := Lib.hid (own.empty w2 w2.heap.size (Nat.le_refl _))
    have A2 := alloc2_belowH w2 (.cells #[] 23) (.cells #[.slice (some ⟨w2.heap.size, 0, none⟩) 0 0, .float .f32 l, .float .f32 p, .float .f32 t] 40)
    have T2 := tubeF_row (w2.alloc (.cells #[] 23)) 40 (some ⟨w2.heap.size, 0, none⟩) 0 0 l p t
    rw [World.size_alloc] at T2
    have O3 := World.ownsRow.alloc O2.out (.cells #[.slice (some ⟨w2.heap.size, 0, none⟩) 0 0, .float .f32 l, .float .f32 p, .float .f32 t] 40)
    have S3 : ((w2.alloc (.cells #[] 23)).alloc (.cells #[.slice (some ⟨w2.heap.size, 0, none⟩) 0 0, .float .f32 l, .float .f32 p, .float .f32 t] 40)).heap.size = w2.heap.size + 2 := by rw [World.size_alloc, World.size_alloc]
    obtain ⟨c0, c1, c2, c3⟩ := tube_stays R1 B2
    simp only [Nat.zero_add] at c1 c2 c3
    have al1 := alloc_belowP w2 (.cells #[] 23)
    obtain ⟨e0, e1, e2, e3⟩ := tube_stays R1 (Below.on B2 al1)
    obtain ⟨u0, u1, u2, u3⟩ := tube_stays R1 (Below.on B2 A2)
    simp only [Nat.zero_add] at e1 e2 e3 u1 u2 u3
    go_wp2_with fail
    generalize ((w2.alloc (.cells #[] 23)).alloc (.cells #[.slice (some ⟨w2.heap.size, 0, none⟩) 0 0, .float .f32 l, .float .f32 p, .float .f32 t] 40)) = W3 at A2 T2 O3 S3 u0 u1 u2 u3 ⊢
    have HS3 := Lib.hid S3
    clear S3 c0 c1 c2 c3 e0 e1 e2 e3 u0 u1 u2 u3 O2 al1
    go_loopg [5] n (fun g iv wr => ∃ (j : Nat) (k : Int) (ys : List Nat) (gb cap : Nat), g + j = n ∧ iv = .int .i64 k ∧ k + j + 1 = n ∧ Hid (Rv xs ys n j) ∧ Hid (own wr w2.heap.size (.slice (some ⟨gb, 0, none⟩) j cap) ys) ∧ gb ≠ w2.heap.size + 1 ∧ Hid (wr.rowIs (w2.heap.size + 1) 40 4 (tubeF (some ⟨gb, 0, none⟩) j cap l p t)) ∧ Hid (Below w2.heap.size w2 wr) ∧ Hid (w2.heap.size + 2 ≤ wr.heap.size))
    case atStart => exact ⟨0, (n : Int) - 1, [], w2.heap.size, 0, by omega, rfl, by omega, ⟨rfl, fun k hk => by omega⟩, O3, by omega, T2, A2, by show _ ≤ _; rw [HS3.out]; exact Nat.le_refl _⟩
    case round =>
      obtain ⟨j, k, ys, gb, cap, hj, rfl, hk, hys, OW, hgb, HT, hbel, hsz⟩ := hrel
      have HL := Lib.hid hys.out.1
      obtain ⟨c0, c1, c2, c3⟩ := tube_stays R1 (Below.on B2 hbel.out)
      obtain ⟨t0, t1, t2, t3⟩ := tube_stays HT.out (Below.refl _ _)
      simp only [Nat.zero_add] at c1 c2 c3 t1 t2 t3
      by_cases hlt : j < n
      · obtain ⟨i0, rfl⟩ := Int.eq_ofNat_of_zero_le (show 0 ≤ k by omega)
        have hi0 : i0 + j + 1 = n := by omega
        obtain ⟨ba', oa', hba', hca⟩ := ha.out i0 (by rw [HN.out]; omega)
        cases hba'
        have hsrc : wr.cell? ⟨ba, oa + i0, none⟩ = some (.float .f32 (xs.getD i0 0)) := by rw [((Below.on A0 (Below.on B2 hbel.out)).cell (p := ⟨ba, oa + i0, none⟩) hba)]; exact hca
        generalize hxj : xs.getD i0 0 = x at hsrc
        have HX := Lib.hid hxj
        clear hca hxj c1 c2 c3 t1 t2 t3
        have al := alloc_belowP wr (.cells #[.float .f32 x] 23)
        have T4lt : w2.heap.size + 1 < wr.heap.size := World.rowIs.lt HT.out
        have ODW : Hid (own (wr.alloc (.cells #[.float .f32 x] 23)).drew w2.heap.size (.slice (some ⟨gb, 0, none⟩) j cap) ys) := World.ownsRow.alloc OW.out _
        have HH : Hid (wr.heap.size < (wr.alloc (.cells #[.float .f32 x] 23)).drew.heap.size) := by show _ < (wr.alloc _).heap.size; rw [World.size_alloc]; omega
        have HW : Hid ((wr.alloc (.cells #[.float .f32 x] 23)).drew.heap.size = wr.heap.size + 1) := World.size_alloc _ _
        have HZ : Hid ((wr.alloc (.cells #[.float .f32 x] 23)).drew.cell? ⟨wr.heap.size, 0, none⟩ = some (.float .f32 x)) := by show (wr.alloc _).cell? _ = _; simp [World.cell?_alloc_new]
        have kT : ∀ o, (wr.alloc o).cell? ⟨w2.heap.size + 1, 0, none⟩ = some (.slice (some ⟨gb, 0, none⟩) j cap) := fun o => by rw [(alloc_belowP wr o).cell (p := ⟨w2.heap.size + 1, 0, none⟩) T4lt]; exact t0
        have kc : ∀ o, (wr.alloc o).cell? ⟨w.heap.size, 0, none⟩ = some (.slice (some ⟨ba, oa, none⟩) n c) := fun o => by rw [(alloc_belowP wr o).cell (p := ⟨w.heap.size, 0, none⟩) (by show w.heap.size < _; omega)]; exact c0
        have ks : ∀ o, (wr.alloc o).cell? ⟨ba, oa + i0, none⟩ = some (.float .f32 x) := fun o => by rw [(alloc_belowP wr o).cell (p := ⟨ba, oa + i0, none⟩) (by show ba < _; omega)]; exact hsrc
        have il : (i0 : Int) < (n : Int) := by omega
        go_wp2_with fail
        go_region_law (refine step_append_one rfl (.tmp 26) (.tmp 32) rfl w2.heap.size gb j cap ys _ x wr.heap.size rfl rfl HL.out HH.out HZ.out ODW.out (by have := HW.out; omega) (by omega) ?_; intro g' cap' w1 hown' hb' hg' hk'; have b4 : w1.heap[w2.heap.size + 1]? = wr.heap[w2.heap.size + 1]? := (hk' _ (by have := HW.out; omega) (Ne.symm hgb)).trans (al.block _ T4lt); have f0 : w1.cell? ⟨w.heap.size, 0, none⟩ = some (.slice (some ⟨ba, oa, none⟩) n c) := (hb'.cell (p := ⟨w.heap.size, 0, none⟩) (by show w.heap.size < _; omega)).trans (kc _); have f1 : w1.cell? ⟨ba, oa + i0, none⟩ = some (.float .f32 x) := (hb'.cell (p := ⟨ba, oa + i0, none⟩) (by show ba < _; omega)).trans (ks _); have HT1 := World.rowIs.of_block HT.out b4; have q0 : w1.cell? ⟨w2.heap.size + 1, 0, none⟩ = some (.slice (some ⟨gb, 0, none⟩) j cap) := HT1.cell (i := 0) (by decide); have qf := HT1.frozen 0; have HT1' := Lib.hid HT1; have HO' := Lib.hid hown'; have HB' := Lib.hid hb'; have HG' := Lib.hid hg'; clear HT1 hown' hb' hg' hk' b4)
        all_goals
          go_wp2_with fail
          go_roundg (gk - 1)
          case measure => omega
          case rel =>
            have hne : g' ≠ w2.heap.size + 1 := by
              rcases HG'.out with h | h
              · rw [h]; exact hgb
              · rw [h, HW.out]; omega
            exact ⟨j + 1, (i0 : Int) - 1, ys ++ [x], g', cap', by omega, rfl, by omega, hys.out.add (by rw [← HX.out, show n - 1 - j = i0 by omega]), own.setCell HO'.out hne, hne, tubeF_set HT1'.out, ((hbel.out.trans (al.mono (by omega))).drew.trans HB'.out).setCell (by show w2.heap.size ≤ w2.heap.size + 1; omega) _, by show _ ≤ _; have := HB'.out.size; have := HW.out; simp [World.setCell]; omega⟩
      · have hjn : j = n := by omega
        subst hjn
        have hrev := hys.out.rev HN.out
        obtain ⟨A', cap', hv, hrow⟩ := OW.out.row
        rw [HL.out] at hv
        injection hv with hv1 hv2 hv3
        subst hv1
        have HRW := Lib.hid hrow
        have B5 : Hid (Below Wa.heap.size Wa wr) := Below.on B2 hbel.out
        obtain ⟨d0, d1, d2, d3⟩ := tube_stays R2 B5.out
        have R5 := R2.of_block (B5.out.block _ (World.rowIs.lt R2))
        have f0 := R5.frozen 0
        have f1 := R5.frozen 1
        have f2 := R5.frozen 2
        have f3 := R5.frozen 3
        simp only [Nat.zero_add] at d1 d2 d3
        have HREV := Lib.hid hrev
        clear R5 hrow hrev hv2 hv3 c0 c1 c2 c3
        go_wp2_with fail
        refine bodyPost_ret (results_tubeB Try.results54 _ _ (w.heap.size + 1) rfl (by simp [go_sem, d0]; rfl) (by simp [go_sem, d1]; rfl) (by simp [go_sem, d2]; rfl) (by simp [go_sem, d3]; rfl)) rfl ?_
        have hl := HL.out
        refine ⟨some ⟨gb, 0, none⟩, ys, cap, by rw [tubeR_true, hl]; rfl, fun _ => ⟨by rw [HREV.out], by omega, ?_⟩, ?_⟩
        · refine rowA.set4 (HRW.out.mono (by omega)) (fun x hx => ?_) _ _ _ _
          have := (HRW.out.lt x hx).1
          omega
        · iterate 4 (refine Below.setCell ?_ (by show w.heap.size ≤ _; simp only []; omega) _)
          exact Below.on A0 B5.out
end Go.Proofs.Ytfodlngbkmhboaa
