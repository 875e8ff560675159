/-
  StillWaves, in the program and in the reference: two rows of noughts. Condition: the tube is read off memory; lengths below 2^31.
-/
import Derived.Test.YtfodlngbkmhboaaTp
import Derived.Deep.RegionHeld3
namespace Go.Proofs.Ytfodlngbkmhboaa
open Go.RowKit Ieee

theorem results_wavesB {fn : Func} {q u : Tmp} (h : fn.results = #[.cell q 48, .tmp u]) (tmps : Array Value) (w : World) (g : Nat) (hp : tmps.getD q undef = .pointer (some ⟨g, 0, none⟩)) {v0 v1 : Value}
    (c0 : w.cell? ⟨g, 0, none⟩ = some v0) (c1 : w.cell? ⟨g, 1, none⟩ = some v1) : (results fn tmps).run Try.prog w = .ok (.tuple #[.agg #[v0, v1], tmps.getD u undef]) w := by
  have hp' : tmps[q]?.getD undef = .pointer (some ⟨g, 0, none⟩) := by simpa using hp
  simp [results, h, hp', go_sem, c0, c1]

/-- How many numbers the waves of a tube that is not moving have. -/
def stN (xs : List Nat) (n l t p : Nat) : Nat := if validT xs n l t p = true then n else 0

theorem cells_after (W0 : World) (o o' : Obj) (p : Addr) (hp : p.block < W0.heap.size) : ((W0.alloc o).alloc o').drew.cell? p = W0.cell? p := (alloc2_belowH W0 o o').cell hp

theorem made_rows (W0 : World) (g B n : Nat) (hg : W0.heap.size = g) (hB : B ≤ g) :
    rowA ((W0.alloc (.cells (madeCells #[.float .f32 0] n) 23)).alloc (.cells (madeCells #[.float .f32 0] n) 23)).drew B (some ⟨g, 0, none⟩) (List.replicate n 0) ∧
    rowA ((W0.alloc (.cells (madeCells #[.float .f32 0] n) 23)).alloc (.cells (madeCells #[.float .f32 0] n) 23)).drew B (some ⟨g + 1, 0, none⟩) (List.replicate n 0) := by
  subst hg
  have h1 := (World.rowIs_made W0 (.float .f32 0) n 23).alloc (.cells (madeCells #[.float .f32 0] n) 23)
  have h2 := World.rowIs_made (W0.alloc (.cells (madeCells #[.float .f32 0] n) 23)) (.float .f32 0) n 23
  rw [World.size_alloc] at h2
  have z : ∀ i, i < (List.replicate n 0).length → (Value.float .f32 0) = .float .f32 ((List.replicate n 0).getD i 0) := by
    intro i hi
    rw [List.getD_eq_getElem?_getD, List.getElem?_eq_getElem hi, List.getElem_replicate]; rfl
  exact ⟨Or.inr ⟨_, rfl, hB, n, _, by simp, h1, z⟩, Or.inr ⟨_, rfl, by omega, n, _, by simp, h2, z⟩⟩

theorem impl_StillWaves (a : Option Addr) (n c l t p : Nat) (xs : List Nat) (w : World) (hn : xs.length = n) (ha : Hid (fls w a xs)) (hx : n < 2147483648) :
    Calls Try.prog 51 #[.agg #[.slice a n c, .float .f32 l, .float .f32 t, .float .f32 p]] w fun e w' => ∃ A B, e = .returned (.tuple #[.agg #[.slice A (stN xs n l t p) (stN xs n l t p), .slice B (stN xs n l t p) (stN xs n l t p)], .bool (validT xs n l t p)]) ∧ Below w.heap.size w w' ∧
      Hid (rowA w' w.heap.size A (List.replicate (stN xs n l t p) 0)) ∧ Hid (rowA w' w.heap.size B (List.replicate (stN xs n l t p) 0)) ∧ Hid (∀ x y, B = some x → A = some y → y.block ≠ x.block) := by
  have HN := Lib.hid hn
  clear hn
  have R1 := (tubeF_row w 40 a n c l t p).alloc (.cells #[.slice none 0 0, .slice none 0 0] 48)
  have R2 := waveF_row (w.alloc (.cells #[.slice a n c, .float .f32 l, .float .f32 t, .float .f32 p] 40)) 48 none 0 0 none 0 0
  rw [World.size_alloc] at R2
  have A0 := alloc2_belowH w (.cells #[.slice a n c, .float .f32 l, .float .f32 t, .float .f32 p] 40) (.cells #[.slice none 0 0, .slice none 0 0] 48)
  have S0 : ((w.alloc (.cells #[.slice a n c, .float .f32 l, .float .f32 t, .float .f32 p] 40)).alloc (.cells #[.slice none 0 0, .slice none 0 0] 48)).heap.size = w.heap.size + 2 := by rw [World.size_alloc, World.size_alloc]
  have HA := Lib.hid (ha.out.stays A0)
  cases hV : validT xs n l t p
  · have HV := Lib.hid hV
    have HS : Hid (stN xs n l t p = 0) := by show _ = _; unfold stN; rw [hV]; rfl
    clear hV
    rw [HS.out]
    go_enter Try.func51, Try.ntmps51
    go_wp2_with fail
    generalize ((w.alloc (.cells #[.slice a n c, .float .f32 l, .float .f32 t, .float .f32 p] 40)).alloc (.cells #[.slice none 0 0, .slice none 0 0] 48)) = Wa at R1 R2 A0 S0 HA
    have HS0 := Lib.hid S0
    clear S0
    refine (impl_ValidTube a n c l t p xs Wa HN.out HA hx).mono ?_
    rw [HV.out]
    rintro r w2 ⟨rfl, B2⟩
    have R3 := R2.of_block (B2.block _ (World.rowIs.lt R2))
    have d0 : w2.cell? ⟨w.heap.size + 1, 0, none⟩ = some (.slice none 0 0) := R3.cell (i := 0) (by decide)
    have d1 : w2.cell? ⟨w.heap.size + 1, 1, none⟩ = some (.slice none 0 0) := R3.cell (i := 1) (by decide)
    have f0 := R3.frozen 0
    have f1 := R3.frozen 1
    have HR := Lib.hid R3
    clear R3
    go_wp2_with fail
    refine bodyPost_ret (results_wavesB Try.results51 _ _ _ rfl (v0 := .slice none 0 0) (v1 := .slice none 0 0) ?_ ?_) rfl ?_
    · simp [go_sem, d0]
    · simp [go_sem, d1]
    refine ⟨none, none, rfl, ?_, Or.inl ⟨rfl, rfl⟩, Or.inl ⟨rfl, rfl⟩, fun _ _ h => by cases h⟩
    iterate 2 refine Below.setCell ?_ (by show w.heap.size ≤ _; simp only []; omega) _
    exact Below.on A0 B2
  · have HV := Lib.hid hV
    have HS : Hid (stN xs n l t p = n) := by show _ = _; unfold stN; rw [hV]; rfl
    clear hV
    rw [HS.out]
    have hmk := run_make_row' (P := Try.prog) 22 23 (.float .f32 0) 4 Try.underlying22 info_f32 rfl .i64 .i64 n (by omega) (by omega)
    go_enter Try.func51, Try.ntmps51
    go_wp2_with fail
    generalize ((w.alloc (.cells #[.slice a n c, .float .f32 l, .float .f32 t, .float .f32 p] 40)).alloc (.cells #[.slice none 0 0, .slice none 0 0] 48)) = Wa at R1 R2 A0 S0 HA
    have HS0 := Lib.hid S0
    clear S0
    refine (impl_ValidTube a n c l t p xs Wa HN.out HA hx).mono ?_
    rw [HV.out]
    rintro r w2 ⟨rfl, B2⟩
    obtain ⟨c0, c1, c2, c3⟩ := tube_stays R1 B2
    have R3 := R2.of_block (B2.block _ (World.rowIs.lt R2))
    have d0 : w2.cell? ⟨w.heap.size + 1, 0, none⟩ = some (.slice none 0 0) := R3.cell (i := 0) (by decide)
    have d1 : w2.cell? ⟨w.heap.size + 1, 1, none⟩ = some (.slice none 0 0) := R3.cell (i := 1) (by decide)
    have f0 := R3.frozen 0
    have f1 := R3.frozen 1
    have b1 : w.heap.size + 1 < w2.heap.size := World.rowIs.lt R3
    have HR := Lib.hid R3
    have ab : ∀ o, Below w2.heap.size w2 (w2.alloc o) := fun o => alloc_belowP w2 o
    have ab2 : ∀ o o', Below w2.heap.size w2 ((w2.alloc o).alloc o') := fun o o' => alloc2_belowH w2 o o'
    have b0 : w.heap.size < w2.heap.size := by omega
    have kc : ∀ o, (w2.alloc o).cell? ⟨w.heap.size, 0, none⟩ = some (.slice a n c) := fun o => by rw [(ab o).cell (p := ⟨w.heap.size, 0, none⟩) b0]; exact c0
    have kd : ∀ o o', ((w2.alloc o).alloc o').cell? ⟨w.heap.size + 1, 0, none⟩ = some (.slice none 0 0) := fun o o' => by rw [(ab2 o o').cell (p := ⟨w.heap.size + 1, 0, none⟩) b1]; exact d0
    have ke : ∀ o o', ((w2.alloc o).alloc o').cell? ⟨w.heap.size + 1, 1, none⟩ = some (.slice none 0 0) := fun o o' => by rw [(ab2 o o').cell (p := ⟨w.heap.size + 1, 1, none⟩) b1]; exact d1
    have kf : ∀ o o', ((w2.alloc o).alloc o').frozen? ⟨w.heap.size + 1, 0, none⟩ = false := fun o o' => by rw [(ab2 o o').frozen (p := ⟨w.heap.size + 1, 0, none⟩) b1]; exact f0
    have kg : ∀ o o', ((w2.alloc o).alloc o').frozen? ⟨w.heap.size + 1, 1, none⟩ = false := fun o o' => by rw [(ab2 o o').frozen (p := ⟨w.heap.size + 1, 1, none⟩) b1]; exact f1
    clear R3 ab ab2
    go_wp2_with fail
    go_region
    all_goals go_wp2_with fail
    · refine bodyPost_ret (results_wavesB Try.results51 _ _ _ rfl (v0 := .slice (some ⟨w2.heap.size, 0, none⟩) n n) (v1 := .slice (some ⟨w2.heap.size + 1, 0, none⟩) n n) (by rw [cells_after _ _ _ _ (by simpa using b1)]; simp [go_sem, d0, d1]) (by rw [cells_after _ _ _ _ (by simpa using b1)]; simp [go_sem, d0, d1])) rfl ?_
      refine ⟨_, _, rfl, ?_, (made_rows _ w2.heap.size _ n (by simp) (by omega)).1, (made_rows _ w2.heap.size _ n (by simp) (by omega)).2, fun x y h1 h2 => by cases h1; cases h2; simp⟩
      refine Below.drew (Below.alloc (Below.alloc (Below.setCell (Below.setCell (Below.on A0 B2) ?_ _) ?_ _) ?_ _) ?_ _) <;> simp <;> omega
    · refine bodyPost_ret (results_wavesB Try.results51 _ _ _ rfl (v0 := .slice (some ⟨w2.heap.size + 1, 0, none⟩) n n) (v1 := .slice (some ⟨w2.heap.size, 0, none⟩) n n) (by rw [cells_after _ _ _ _ (by simpa using b1)]; simp [go_sem, d0, d1]) (by rw [cells_after _ _ _ _ (by simpa using b1)]; simp [go_sem, d0, d1])) rfl ?_
      refine ⟨_, _, rfl, ?_, (made_rows _ w2.heap.size _ n (by simp) (by omega)).2, (made_rows _ w2.heap.size _ n (by simp) (by omega)).1, fun x y h1 h2 => by cases h1; cases h2; simp⟩
      refine Below.drew (Below.alloc (Below.alloc (Below.setCell (Below.setCell (Below.on A0 B2) ?_ _) ?_ _) ?_ _) ?_ _) <;> simp <;> omega
theorem spec_StillWaves (a : Option Addr) (n c l t p : Nat) (xs : List Nat) (w : World) (hn : xs.length = n) (ha : Hid (fls w a xs)) (hx : n < 2147483648) :
    Calls Try.prog 50 #[.agg #[.slice a n c, .float .f32 l, .float .f32 t, .float .f32 p]] w fun e w' => ∃ A B, e = .returned (.tuple #[.agg #[.slice A (stN xs n l t p) (stN xs n l t p), .slice B (stN xs n l t p) (stN xs n l t p)], .bool (validT xs n l t p)]) ∧ Below w.heap.size w w' ∧
      Hid (rowA w' w.heap.size A (List.replicate (stN xs n l t p) 0)) ∧ Hid (rowA w' w.heap.size B (List.replicate (stN xs n l t p) 0)) ∧ Hid (∀ x y, B = some x → A = some y → y.block ≠ x.block) := by
  have HN := Lib.hid hn
  clear hn
  have R1 := (tubeF_row w 40 a n c l t p).alloc (.cells #[.slice none 0 0, .slice none 0 0] 48)
  have R2 := waveF_row (w.alloc (.cells #[.slice a n c, .float .f32 l, .float .f32 t, .float .f32 p] 40)) 48 none 0 0 none 0 0
  rw [World.size_alloc] at R2
  have A0 := alloc2_belowH w (.cells #[.slice a n c, .float .f32 l, .float .f32 t, .float .f32 p] 40) (.cells #[.slice none 0 0, .slice none 0 0] 48)
  have S0 : ((w.alloc (.cells #[.slice a n c, .float .f32 l, .float .f32 t, .float .f32 p] 40)).alloc (.cells #[.slice none 0 0, .slice none 0 0] 48)).heap.size = w.heap.size + 2 := by rw [World.size_alloc, World.size_alloc]
  have HA := Lib.hid (ha.out.stays A0)
  cases hV : validT xs n l t p
  · have HV := Lib.hid hV
    have HS : Hid (stN xs n l t p = 0) := by show _ = _; unfold stN; rw [hV]; rfl
    clear hV
    rw [HS.out]
    go_enter Try.func50, Try.ntmps50
    go_wp2_with fail
    generalize ((w.alloc (.cells #[.slice a n c, .float .f32 l, .float .f32 t, .float .f32 p] 40)).alloc (.cells #[.slice none 0 0, .slice none 0 0] 48)) = Wa at R1 R2 A0 S0 HA
    have HS0 := Lib.hid S0
    clear S0
    refine (spec_l02Is _ 0 a n c l t p xs Wa HN.out HA hx (tube_stays R1 (Below.refl _ _))).mono ?_
    rw [HV.out]
    rintro r w2 ⟨rfl, m, hw2⟩
    have B2 : Below Wa.heap.size Wa w2 := by rw [hw2]; exact below_drewN (Below.refl _ _) m
    clear hw2
    have R3 := R2.of_block (B2.block _ (World.rowIs.lt R2))
    have d0 : w2.cell? ⟨w.heap.size + 1, 0, none⟩ = some (.slice none 0 0) := R3.cell (i := 0) (by decide)
    have d1 : w2.cell? ⟨w.heap.size + 1, 1, none⟩ = some (.slice none 0 0) := R3.cell (i := 1) (by decide)
    have f0 := R3.frozen 0
    have f1 := R3.frozen 1
    have HR := Lib.hid R3
    clear R3
    go_wp2_with fail
    refine bodyPost_ret (results_wavesB Try.results50 _ _ _ rfl (v0 := .slice none 0 0) (v1 := .slice none 0 0) ?_ ?_) rfl ?_
    · simp [go_sem, d0]
    · simp [go_sem, d1]
    refine ⟨none, none, rfl, ?_, Or.inl ⟨rfl, rfl⟩, Or.inl ⟨rfl, rfl⟩, fun _ _ h => by cases h⟩
    iterate 2 refine Below.setCell ?_ (by show w.heap.size ≤ _; simp only []; omega) _
    exact Below.on A0 B2
  · have HV := Lib.hid hV
    have HS : Hid (stN xs n l t p = n) := by show _ = _; unfold stN; rw [hV]; rfl
    clear hV
    rw [HS.out]
    have hmk := run_make_row' (P := Try.prog) 22 23 (.float .f32 0) 4 Try.underlying22 info_f32 rfl .i64 .i64 n (by omega) (by omega)
    go_enter Try.func50, Try.ntmps50
    go_wp2_with fail
    generalize ((w.alloc (.cells #[.slice a n c, .float .f32 l, .float .f32 t, .float .f32 p] 40)).alloc (.cells #[.slice none 0 0, .slice none 0 0] 48)) = Wa at R1 R2 A0 S0 HA
    have HS0 := Lib.hid S0
    clear S0
    refine (spec_l02Is _ 0 a n c l t p xs Wa HN.out HA hx (tube_stays R1 (Below.refl _ _))).mono ?_
    rw [HV.out]
    rintro r w2 ⟨rfl, m, hw2⟩
    have B2 : Below Wa.heap.size Wa w2 := by rw [hw2]; exact below_drewN (Below.refl _ _) m
    clear hw2
    obtain ⟨c0, c1, c2, c3⟩ := tube_stays R1 B2
    have R3 := R2.of_block (B2.block _ (World.rowIs.lt R2))
    have d0 : w2.cell? ⟨w.heap.size + 1, 0, none⟩ = some (.slice none 0 0) := R3.cell (i := 0) (by decide)
    have d1 : w2.cell? ⟨w.heap.size + 1, 1, none⟩ = some (.slice none 0 0) := R3.cell (i := 1) (by decide)
    have f0 := R3.frozen 0
    have f1 := R3.frozen 1
    have b1 : w.heap.size + 1 < w2.heap.size := World.rowIs.lt R3
    have HR := Lib.hid R3
    have ab : ∀ o, Below w2.heap.size w2 (w2.alloc o) := fun o => alloc_belowP w2 o
    have ab2 : ∀ o o', Below w2.heap.size w2 ((w2.alloc o).alloc o') := fun o o' => alloc2_belowH w2 o o'
    have b0 : w.heap.size < w2.heap.size := by omega
    have kc : ∀ o, (w2.alloc o).cell? ⟨w.heap.size, 0, none⟩ = some (.slice a n c) := fun o => by rw [(ab o).cell (p := ⟨w.heap.size, 0, none⟩) b0]; exact c0
    have kd : ∀ o o', ((w2.alloc o).alloc o').cell? ⟨w.heap.size + 1, 0, none⟩ = some (.slice none 0 0) := fun o o' => by rw [(ab2 o o').cell (p := ⟨w.heap.size + 1, 0, none⟩) b1]; exact d0
    have ke : ∀ o o', ((w2.alloc o).alloc o').cell? ⟨w.heap.size + 1, 1, none⟩ = some (.slice none 0 0) := fun o o' => by rw [(ab2 o o').cell (p := ⟨w.heap.size + 1, 1, none⟩) b1]; exact d1
    have kf : ∀ o o', ((w2.alloc o).alloc o').frozen? ⟨w.heap.size + 1, 0, none⟩ = false := fun o o' => by rw [(ab2 o o').frozen (p := ⟨w.heap.size + 1, 0, none⟩) b1]; exact f0
    have kg : ∀ o o', ((w2.alloc o).alloc o').frozen? ⟨w.heap.size + 1, 1, none⟩ = false := fun o o' => by rw [(ab2 o o').frozen (p := ⟨w.heap.size + 1, 1, none⟩) b1]; exact f1
    clear R3 ab ab2
    go_wp2_with fail
    go_region
    all_goals go_wp2_with fail
    · refine bodyPost_ret (results_wavesB Try.results50 _ _ _ rfl (v0 := .slice (some ⟨w2.heap.size, 0, none⟩) n n) (v1 := .slice (some ⟨w2.heap.size + 1, 0, none⟩) n n) (by rw [cells_after _ _ _ _ (by simpa using b1)]; simp [go_sem, d0, d1]) (by rw [cells_after _ _ _ _ (by simpa using b1)]; simp [go_sem, d0, d1])) rfl ?_
      refine ⟨_, _, rfl, ?_, (made_rows _ w2.heap.size _ n (by simp) (by omega)).1, (made_rows _ w2.heap.size _ n (by simp) (by omega)).2, fun x y h1 h2 => by cases h1; cases h2; simp⟩
      refine Below.drew (Below.alloc (Below.alloc (Below.setCell (Below.setCell (Below.on A0 B2) ?_ _) ?_ _) ?_ _) ?_ _) <;> simp <;> omega
    · refine bodyPost_ret (results_wavesB Try.results50 _ _ _ rfl (v0 := .slice (some ⟨w2.heap.size + 1, 0, none⟩) n n) (v1 := .slice (some ⟨w2.heap.size, 0, none⟩) n n) (by rw [cells_after _ _ _ _ (by simpa using b1)]; simp [go_sem, d0, d1]) (by rw [cells_after _ _ _ _ (by simpa using b1)]; simp [go_sem, d0, d1])) rfl ?_
      refine ⟨_, _, rfl, ?_, (made_rows _ w2.heap.size _ n (by simp) (by omega)).2, (made_rows _ w2.heap.size _ n (by simp) (by omega)).1, fun x y h1 h2 => by cases h1; cases h2; simp⟩
      refine Below.drew (Below.alloc (Below.alloc (Below.setCell (Below.setCell (Below.on A0 B2) ?_ _) ?_ _) ?_ _) ?_ _) <;> simp <;> omega
end Go.Proofs.Ytfodlngbkmhboaa
