/-
  A list taken over whole: slices.Clone, l02Own; SetEnds, in the program and in the reference. Condition: the tube is read off memory; lengths below 2^31.
-/
import Derived.Test.YtfodlngbkmhboaaVc
import Derived.Deep.RegionHeld3
import Derived.WalkSpells
namespace Go.Proofs.Ytfodlngbkmhboaa
open Go.RowKit Ieee
attribute [local irreducible] wpAnyH

theorem news_fls {W : World} {ad : Addr} {xs : List Nat} (h : fls W (some ad) xs) : ∀ j u, (vals xs)[j]? = some u → W.cell? (ad.add j) = some u := by
  intro j u hu
  have hj : j < xs.length := by
    apply Nat.lt_of_not_le
    intro hle
    rw [List.getElem?_eq_none (by rw [vals_len]; exact hle)] at hu
    cases hu
  obtain ⟨b, off, e, hc⟩ := h j hj
  cases e
  rw [vals_get xs j hj] at hu
  cases hu
  have e : (⟨b, off, none⟩ : Addr).add j = ⟨b, off + j, none⟩ := by unfold Addr.add; split <;> simp_all
  rw [e]
  exact hc
theorem own.dw {w : World} {B : Nat} {v : Value} {ys : List Nat} (h : own w B v ys) : own w.drew B v ys := h
theorem fls.dw {w : World} {a : Option Addr} {xs : List Nat} (h : fls w a xs) : fls w.drew a xs := h
theorem vals_one (xs : List Nat) : ∀ u ∈ vals xs, u.oneCell' = true := by
  intro u hu
  unfold vals at hu
  obtain ⟨x, _, rfl⟩ := List.mem_map.1 hu
  rfl

/-- A list appended to nothing. -/
theorem wpList_append_from {ops : Array Oper} {rest : List Oper} {o : Oper} {a : Act} {Q : Exit → Act → World → Prop} (hgd : o.guard = none) (s x : Operand)
    (ho : o.op = .call { callee := .builtin .append, args := #[s, x], argTypes := #[22, 22] }) (B : Nat) (v : Value) (W : World) (ad : Addr) (n c : Nat) (xs : List Nat)
    (hs : a.eval s = v) (hx : a.eval x = .slice (some ad) n c) (hn : xs.length = n) (ha : fls W (some ad) xs) (hown : own W B v []) (hB : B ≤ W.heap.size) (hl : n ≤ 1000000)
    (h : ∀ v' w', own w' B v' xs → Below B W w' → wpList Try.prog ops Q rest (a.put o.dst v') w') :
    wpList Try.prog ops Q (o :: rest) a W := by
  obtain ⟨i0, hi, hz0, hz1, hz2⟩ := info_parts info_f32
  refine wpList_append_own _ hgd s x 22 ho B 23 i0 (.float .f32 0) 1 4 Try.underlying22 hi hz0 hz1 hz2 rfl (by decide) v 0 [] hs hown ad n c (vals xs) hx (by rw [vals_len, hn, Nat.mul_one]) (news_fls ha) (vals_one xs) (by unfold maxLen; omega) (by omega) hB ?_
  intro v' w' h1 h2 _
  refine h v' w' ?_ ((Below.refl B W).grown h2 hB (fun k hk => (World.ownsRow.lt hown k hk).1))
  unfold own
  rw [hn]
  rw [Nat.zero_add, List.nil_append] at h1
  exact h1

/-- .. as a step of a region that draws its order. -/
theorem step_append_from {ops : Array Oper} {o : Oper} {a : Act} {K : Act → World → Prop} {Q : Exit → Act → World → Prop} {E : Prop} (hgd : o.guard = none) (s x : Operand)
    (ho : o.op = .call { callee := .builtin .append, args := #[s, x], argTypes := #[22, 22] }) (B : Nat) (v : Value) (W : World) (ad : Addr) (n c : Nat) (xs : List Nat)
    (hs : a.eval s = v) (hx : a.eval x = .slice (some ad) n c) (hn : xs.length = n) (h1 : 0 < n) (ha : fls W (some ad) xs) (hown : own W B v []) (hB : B ≤ W.heap.size) (hl : n ≤ 1000000)
    (h : ∀ g cap w', own w' B (.slice (some ⟨g, 0, none⟩) n cap) xs → Below B W w' → K (a.put o.dst (.slice (some ⟨g, 0, none⟩) n cap)) w') :
    if Region.wanted o (yielded ops a.tmps) = true then Oper.wp Try.prog o a W K Q else E := by
  obtain ⟨i0, hi, hz0, hz1, hz2⟩ := info_parts info_f32
  refine step_append_lies W hgd s x 22 ho B 23 i0 (.float .f32 0) 1 4 Try.underlying22 hi hz0 hz1 hz2 rfl (by decide) v 0 [] hs hown ad n c (vals xs) hx (by rw [vals_len, hn, Nat.mul_one]) (news_fls ha) (vals_one xs) h1 (by unfold maxLen; omega) (by omega) hB _ rfl ?_
  intro g cap w' h2 h3 _ _
  rw [Nat.zero_add] at h2 ⊢
  rw [List.nil_append] at h2
  refine h g cap w' ?_ ((Below.refl B W).grown h3 hB (fun k hk => (World.ownsRow.lt hown k hk).1))
  unfold own
  rw [hn]
  exact h2

theorem slices_Clone (ad : Addr) (n c : Nat) (xs : List Nat) (w : World) (hn : xs.length = n) (ha : Hid (fls w (some ad) xs)) (hx : n ≤ 16) :
    Calls Try.prog 83 #[.slice (some ad) n c] w fun e w' => ∃ A cap, e = .returned (.slice A n cap) ∧ Below w.heap.size w w' ∧ Hid (rowA w' w.heap.size A xs) := by
  have HN := Lib.hid hn
  clear hn
  have A1 := alloc_belowP w (.cells #[] 23)
  have O1 := Lib.hid (own.empty w w.heap.size (Nat.le_refl _))
  have F1 := Lib.hid (ha.out.stays A1)
  have S1 := Lib.hid A1.size
  have hnil := fun w => Lib.run_eql_slice_nil (P := Try.prog) w 22 23 (some ad) n c 0 0 Try.underlying22
  go_enter Try.func83, Try.ntmps83
  go_wp2_with (at_builtin; (refine wpList_append_from rfl (.tmp 5) (.tmp 6) rfl w.heap.size (.slice (some ⟨w.heap.size, 0, none⟩) 0 0) _ ad n c xs rfl rfl HN.out F1.out O1.out S1.out (by omega) ?_; intro v' w1 hown' hb'))
  obtain ⟨A, cap, hv, hrow⟩ := hown'.row
  rw [HN.out] at hv
  subst hv
  have HR := Lib.hid hrow
  clear hrow hown'
  go_wp2_with fail
  go_ret
  exact ⟨A, cap, rfl, (A1.trans (hb'.mono (Nat.le_refl _))), HR⟩

theorem cell_set4 (W : World) (b : Nat) (v0 v1 v2 v3 : Value) (p : Addr) (hp : p.block ≠ b) : ((((W.setCell ⟨b, 0, none⟩ v0).setCell ⟨b, 1, none⟩ v1).setCell ⟨b, 2, none⟩ v2).setCell ⟨b, 3, none⟩ v3).cell? p = W.cell? p := by
  apply World.cell?_of_block
  rw [Below.heap_setCell _ _ _ _ hp, Below.heap_setCell _ _ _ _ hp, Below.heap_setCell _ _ _ _ hp, Below.heap_setCell _ _ _ _ hp]

theorem spec_l02Own (A : Nat) (a : Option Addr) (n c l t p : Nat) (xs : List Nat) (w : World) (hn : xs.length = n) (ha : Hid (fls w a xs)) (h1 : 0 < n) (hx : n ≤ 16) (TA : tubeAt w A 0 a n c l t p) (hA : A < w.heap.size) :
    Calls Try.prog 88 #[.pointer (some ⟨A, 0, none⟩)] w fun e w' => ∃ G cap, e = .returned (.agg #[.slice G n cap, .float .f32 l, .float .f32 t, .float .f32 p]) ∧ Below w.heap.size w w' ∧ Hid (rowA w' w.heap.size G xs) := by
  have HN := Lib.hid hn
  obtain ⟨ba, oa, rfl, _⟩ := ha.out 0 (by omega)
  clear hn
  obtain ⟨t0, t1, t2, t3⟩ := TA
  have hne : A ≠ w.heap.size := by omega
  have A1 := alloc_belowP w (.cells #[.slice none 0 0, .float .f32 0, .float .f32 0, .float .f32 0] 40)
  have R1 := tubeF_row w 40 none 0 0 0 0 0
  have S1 : (w.alloc (.cells #[.slice none 0 0, .float .f32 0, .float .f32 0, .float .f32 0] 40)).heap.size = w.heap.size + 1 := World.size_alloc _ _
  have e0 := A1.cell (p := ⟨A, 0, none⟩) hA
  have e1 := A1.cell (p := ⟨A, 1, none⟩) hA
  have e2 := A1.cell (p := ⟨A, 2, none⟩) hA
  have e3 := A1.cell (p := ⟨A, 3, none⟩) hA
  simp only [Nat.zero_add] at t1 t2 t3
  rw [t0] at e0
  rw [t1] at e1
  rw [t2] at e2
  rw [t3] at e3
  have F1 := Lib.hid (ha.out.stays A1)
  clear t0 t1 t2 t3
  go_enter Try.func88, Try.ntmps88
  go_wp2_with fail
  generalize w.alloc (.cells #[.slice none 0 0, .float .f32 0, .float .f32 0, .float .f32 0] 40) = W1 at A1 R1 S1 e0 e1 e2 e3 F1 ⊢
  have A2 := alloc_belowP W1 (.cells #[] 23)
  have O2 := Lib.hid (own.empty W1 (w.heap.size + 1) (by omega))
  have F2 := Lib.hid (F1.out.stays A2)
  have S2 : Hid (w.heap.size + 1 ≤ (W1.alloc (.cells #[] 23)).heap.size) := by show _ ≤ _; rw [World.size_alloc]; omega
  have HS1 := Lib.hid S1
  have hlt : A < W1.heap.size := by omega
  clear S1
  go_region_held3 (fun W => W.cell? ⟨A, 0, none⟩ = some (.slice (some ⟨ba, oa, none⟩) n c) ∧ W.cell? ⟨A, 1, none⟩ = some (.float .f32 l) ∧ W.cell? ⟨A, 2, none⟩ = some (.float .f32 t) ∧ W.cell? ⟨A, 3, none⟩ = some (.float .f32 p)) (first | go_keep | exact ⟨(cell_set4 _ _ _ _ _ _ _ hne).trans f0, (cell_set4 _ _ _ _ _ _ _ hne).trans f1, (cell_set4 _ _ _ _ _ _ _ hne).trans f2, (cell_set4 _ _ _ _ _ _ _ hne).trans f3⟩) (first
    | (refine step_append_from rfl (.tmp 3) (.tmp 7) rfl (w.heap.size + 1) (.slice (some ⟨W1.heap.size, 0, none⟩) 0 0) _ ⟨ba, oa, none⟩ n c xs rfl rfl HN.out h1 F2.out.dw O2.out.dw S2.out (by omega) ?_; intro g cap w2 hown' hb'; have bc : ∀ i, w2.cell? ⟨A, i, none⟩ = W1.cell? ⟨A, i, none⟩ := fun i => (hb'.cell (p := ⟨A, i, none⟩) (by show A < w.heap.size + 1; omega)).trans (A2.cell (p := ⟨A, i, none⟩) hlt); have f0 := (bc 0).trans e0; have f1 := (bc 1).trans e1; have f2 := (bc 2).trans e2; have f3 := (bc 3).trans e3; have R2 := World.rowIs.of_block R1 ((hb'.block w.heap.size (Nat.lt_succ_self _)).trans (A2.block w.heap.size (World.rowIs.lt R1))); obtain ⟨k0, k1, k2, k3⟩ := tube_stays R2 (Below.refl _ _); have m0 := R2.frozen 0; have m1 := R2.frozen 1; have m2 := R2.frozen 2; have m3 := R2.frozen 3; simp only [Nat.zero_add] at k1 k2 k3; have HO := Lib.hid hown'; have HB := Lib.hid hb'; clear hown' hb' bc R2))
  go_wp2_with fail
  refine bodyPost_ret (results_tube Try.results88 _ _ w.heap.size rfl (v0 := .slice (some ⟨g, 0, none⟩) n cap) (v1 := .float .f32 l) (v2 := .float .f32 t) (v3 := .float .f32 p) (by simp [go_sem, k0]) (by simp [go_sem, k1]) (by simp [go_sem, k2]) (by simp [go_sem, k3])) rfl ?_
  obtain ⟨A', cap', hv, hrow⟩ := HO.out.row
  rw [HN.out] at hv
  injection hv with hv1 hv2 hv3
  subst hv1
  refine ⟨_, cap, rfl, ?_, rowA.set4 (hrow.mono (Nat.le_succ _)) (fun x hx => ?_) _ _ _ _⟩
  · iterate 4 (refine Below.setCell ?_ (by exact Nat.le_refl _) _)
    exact A1.trans ((A2.mono (by have := HS1.out; omega)).drew.trans (HB.out.mono (Nat.le_succ _)))
  · have := (hrow.lt x hx).1
    omega
end Go.Proofs.Ytfodlngbkmhboaa
