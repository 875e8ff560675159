/-
  Tubes and waves in the laws: their sizes, copies, comparisons. Condition: lengths below 2^31 for copies.
-/
import Derived.Test.YtfodlngbkmhboaaSn
import Derived.Test.YtfodlngbkmhboaaTa
import Derived.Handy
namespace Go.Proofs.Ytfodlngbkmhboaa
open Go.RowKit Ieee

/-! ### Sizes -/
/-- What a size leaves over. -/
def leftI (n : Nat) (k : Int) : Int := if k - n < 0 then -1 else k - n
theorem leftI_bounds {n : Nat} {k : Int} (hk : k ≤ 1048576) : -1 ≤ leftI n k ∧ leftI n k ≤ 1048576 := by unfold leftI; split <;> omega
theorem leftI_ok {n : Nat} {k : Int} (hk : k ≤ 1048576) (h : ¬ leftI n k < 0) : n ≤ 1048576 := by
  unfold leftI at h
  split at h
  · omega
  · omega
theorem laws_szFloat32S (a : Option Addr) (n c : Nat) (k : Int) (w : World) (hn : n ≤ 9223372036854775807) (hk : 0 ≤ k) (hk2 : k ≤ 1048576) : Calls Try.prog 66 #[.slice a n c, .int .i64 k] w fun e w' => e = .returned (.int .i64 (leftI n k)) ∧ w = w' := by
  by_cases h : k - n < 0
  · have H : Hid (leftI n k = -1) := if_pos h
    go_enter Try.func66, Try.ntmps66
    go_wp2
    go_ret
    exact ⟨by rw [H.out]; rfl, rfl⟩
  · have H : Hid (leftI n k = k - n) := if_neg h
    go_enter Try.func66, Try.ntmps66
    go_wp2
    go_ret
    exact ⟨by rw [H.out]; rfl, rfl⟩
theorem laws_szTube (a : Option Addr) (n c l t p : Nat) (k : Int) (w : World) (hn : n ≤ 9223372036854775807) (hk : 0 ≤ k) (hk2 : k ≤ 1048576) :
    Calls Try.prog 28 #[.agg #[.slice a n c, .float .f32 l, .float .f32 t, .float .f32 p], .int .i64 k] w fun e w' => e = .returned (.int .i64 (leftI n k)) ∧ Below w.heap.size w w' := by
  have B := leftI_bounds (n := n) hk2
  have S : Hid (∀ w, Calls Try.prog 66 #[.slice a n c, .int .i64 k] w fun e w' => e = .returned (.int .i64 (leftI n k)) ∧ w = w') := fun w => laws_szFloat32S a n c k w hn hk hk2
  by_cases h : leftI n k < 0
  · have H : Hid (leftI n k = -1) := by show _ = _; omega
    go_enter Try.func28, Try.ntmps28
    go_wp2_with (go_at_call 66; refine (S.out _).mono ?_; rintro e w' ⟨rfl, rfl⟩)
    go_ret
    exact ⟨by rw [H.out]; rfl, (Below.refl _ _).alloc (Nat.le_refl _) _⟩
  · go_enter Try.func28, Try.ntmps28
    go_wp2_with (go_at_call 66; refine (S.out _).mono ?_; rintro e w' ⟨rfl, rfl⟩)
    go_ret
    exact ⟨rfl, (Below.refl _ _).alloc (Nat.le_refl _) _⟩

/-! ### Copies -/
/-- A tube's cells. -/
def tubeF (a : Option Addr) (n c l t p : Nat) : Nat → Value
  | 0 => .slice a n c
  | 1 => .float .f32 l
  | 2 => .float .f32 t
  | _ => .float .f32 p
theorem tubeF_row (w : World) (T : TypeId) (a : Option Addr) (n c l t p : Nat) : (w.alloc (.cells #[.slice a n c, .float .f32 l, .float .f32 t, .float .f32 p] T)).rowIs w.heap.size T 4 (tubeF a n c l t p) :=
  World.rowIs_alloc w #[.slice a n c, .float .f32 l, .float .f32 t, .float .f32 p] T (tubeF a n c l t p) (fun i hi => by
    have : i = 0 ∨ i = 1 ∨ i = 2 ∨ i = 3 := by simp at hi; omega
    rcases this with rfl | rfl | rfl | rfl <;> rfl)

theorem results_tube {fn : Func} {q : Tmp} (h : fn.results = #[.cell q 40]) (tmps : Array Value) (w : World) (g : Nat) (hp : tmps.getD q undef = .pointer (some ⟨g, 0, none⟩)) {v0 v1 v2 v3 : Value}
    (c0 : w.cell? ⟨g, 0, none⟩ = some v0) (c1 : w.cell? ⟨g, 1, none⟩ = some v1) (c2 : w.cell? ⟨g, 2, none⟩ = some v2) (c3 : w.cell? ⟨g, 3, none⟩ = some v3) : (results fn tmps).run Try.prog w = .ok (.agg #[v0, v1, v2, v3]) w := by
  have hp' : tmps[q]?.getD undef = .pointer (some ⟨g, 0, none⟩) := by simpa using hp
  simp [results, h, hp', go_sem, c0, c1, c2, c3]

set_option maxHeartbeats 2000000 in
theorem laws_toTubeX (a : Option Addr) (n c l t p : Nat) (xs : List Nat) (w : World) (hn : xs.length = n) (ha : Hid (fls w a xs)) (hx : n < 2147483648) :
    Calls Try.prog 30 #[.agg #[.slice a n c, .float .f32 l, .float .f32 t, .float .f32 p]] w fun e w' => ∃ b, e = .returned (.agg #[.slice (some ⟨b, 0, none⟩) n n, .float .f32 l, .float .f32 t, .float .f32 p]) ∧ w.heap.size ≤ b ∧ Below w.heap.size w w' ∧ flr w' b xs := by
  have HN := Lib.hid hn
  have hn' := hn
  subst hn'
  clear hn
  go_enter Try.func30, Try.ntmps30
  go_wp2_with fail
  generalize hW3 : ((w.alloc (.cells #[.slice a xs.length c, .float .f32 l, .float .f32 t, .float .f32 p] 37)).alloc (.cells #[.slice none 0 0, .float .f32 0, .float .f32 0, .float .f32 0] 40)).alloc (.cells #[.slice none 0 0, .float .f32 0, .float .f32 0, .float .f32 0] 40) = W3
  have B3 : Below w.heap.size w W3 := by
    rw [← hW3]
    exact (((Below.refl _ _).alloc (Nat.le_refl _) _).alloc (by rw [World.size_alloc]; omega) _).alloc (by rw [World.size_alloc, World.size_alloc]; omega) _
  have S3 : W3.heap.size = w.heap.size + 3 := by rw [← hW3, World.size_alloc, World.size_alloc, World.size_alloc]
  have T3 : W3.rowIs w.heap.size 37 4 (tubeF a xs.length c l t p) := by
    rw [← hW3]; exact ((tubeF_row w _ a xs.length c l t p).alloc _).alloc _
  have U3 : W3.rowIs (w.heap.size + 1) 40 4 (tubeF none 0 0 0 0 0) := by
    rw [← hW3]
    have k := (tubeF_row (w.alloc (.cells #[.slice a xs.length c, .float .f32 l, .float .f32 t, .float .f32 p] 37)) 40 none 0 0 0 0 0).alloc (.cells #[.slice none 0 0, .float .f32 0, .float .f32 0, .float .f32 0] 40)
    rw [World.size_alloc] at k
    exact k
  have O3 : W3.rowIs (w.heap.size + 1 + 1) 40 4 (tubeF none 0 0 0 0 0) := by
    rw [← hW3]
    have k := tubeF_row ((w.alloc (.cells #[.slice a xs.length c, .float .f32 l, .float .f32 t, .float .f32 p] 37)).alloc (.cells #[.slice none 0 0, .float .f32 0, .float .f32 0, .float .f32 0] 40)) 40 none 0 0 0 0 0
    rw [World.size_alloc, World.size_alloc] at k
    exact k
  clear hW3
  refine (laws_toFloat32S a c xs W3 (ha.out.stays B3) hx).mono ?_
  rintro e w1 ⟨rfl, hb, hr, hs⟩
  have hr' := hr
  unfold flr at hr'
  have T1 := T3.of_block (hb.block _ (by omega))
  have U1 := U3.of_block (hb.block _ (by omega))
  have O1 := O3.of_block (hb.block _ (by omega))
  clear T3 U3 O3
  have t1 : w1.cell? ⟨w.heap.size, 1, none⟩ = some (.float .f32 l) := T1.cell (i := 1) (by decide)
  have t2 : w1.cell? ⟨w.heap.size, 2, none⟩ = some (.float .f32 t) := T1.cell (i := 2) (by decide)
  have t3 : w1.cell? ⟨w.heap.size, 3, none⟩ = some (.float .f32 p) := T1.cell (i := 3) (by decide)
  have o0 : w1.cell? ⟨w.heap.size + 1 + 1, 0, none⟩ = some (.slice none 0 0) := O1.cell (i := 0) (by decide)
  have o1 : w1.cell? ⟨w.heap.size + 1 + 1, 1, none⟩ = some (.float .f32 0) := O1.cell (i := 1) (by decide)
  have o2 : w1.cell? ⟨w.heap.size + 1 + 1, 2, none⟩ = some (.float .f32 0) := O1.cell (i := 2) (by decide)
  have o3 : w1.cell? ⟨w.heap.size + 1 + 1, 3, none⟩ = some (.float .f32 0) := O1.cell (i := 3) (by decide)
  have u0 : w1.cell? ⟨w.heap.size + 1, 0, none⟩ = some (.slice none 0 0) := U1.cell (i := 0) (by decide)
  have u1 : w1.cell? ⟨w.heap.size + 1, 1, none⟩ = some (.float .f32 0) := U1.cell (i := 1) (by decide)
  have u2 : w1.cell? ⟨w.heap.size + 1, 2, none⟩ = some (.float .f32 0) := U1.cell (i := 2) (by decide)
  have u3 : w1.cell? ⟨w.heap.size + 1, 3, none⟩ = some (.float .f32 0) := U1.cell (i := 3) (by decide)
  have fo : ∀ i, w1.frozen? ⟨w.heap.size + 1 + 1, i, none⟩ = false := fun i => O1.frozen i
  have fu : ∀ i, w1.frozen? ⟨w.heap.size + 1, i, none⟩ = false := fun i => U1.frozen i
  have BB : Hid (Below w.heap.size w w1) := B3.trans (hb.mono (by omega))
  have HS := Lib.hid hs
  have HR := Lib.hid hr
  have SS := Lib.hid S3
  clear T1 U1 O1 hb hs hr hr' B3 S3
  go_wp2
  refine bodyPost_ret (results_tube Try.results30 _ _ _ rfl (v0 := .slice (some ⟨W3.heap.size, 0, none⟩) xs.length xs.length) (v1 := .float .f32 l) (v2 := .float .f32 t) (v3 := .float .f32 p) ?_ ?_ ?_ ?_) rfl ?_
  · simp [go_sem, u0]
  · simp [go_sem, u1]
  · simp [go_sem, u2]
  · simp [go_sem, u3]
  have hS := SS.out
  refine ⟨_, rfl, by omega, ?_, ?_⟩
  · iterate 8 refine Below.setCell ?_ (by show w.heap.size ≤ _; simp only []; omega) _
    exact BB.out
  · unfold flr
    iterate 8 refine World.rowIs.setOther ?_ (by simp only []; omega) _
    exact HR.out
theorem laws_toTube (a : Option Addr) (n c l t p : Nat) (xs : List Nat) (w : World) (hn : xs.length = n) (ha : Hid (fls w a xs)) (hx : n < 2147483648) :
    Calls Try.prog 30 #[.agg #[.slice a n c, .float .f32 l, .float .f32 t, .float .f32 p]] w fun e w' => ∃ b, e = .returned (.agg #[.slice b n n, .float .f32 l, .float .f32 t, .float .f32 p]) ∧ Below w.heap.size w w' ∧ Hid (fls w' b xs) := by
  refine (laws_toTubeX a n c l t p xs w hn ha hx).mono ?_
  rintro e w' ⟨b, rfl, _, hb, hr⟩
  exact ⟨_, rfl, hb, hr.fls⟩

/-- Two tubes of the same numbers. -/
theorem laws_eqTube (a b : Option Addr) (c1 c2 n l t p l' t' p' : Nat) (xs ys : List Nat) (w : World) (hn : xs.length = n) (ha : Hid (fls w a xs)) (hb : Hid (fls w b ys)) (hx : n < 2147483648) (h : xs.map (fv .f32) = ys.map (fv .f32))
    (hl : fv .f32 l = fv .f32 l') (ht : fv .f32 t = fv .f32 t') (hp : fv .f32 p = fv .f32 p') :
    Calls Try.prog 32 #[.agg #[.slice a n c1, .float .f32 l, .float .f32 t, .float .f32 p], .agg #[.slice b n c2, .float .f32 l', .float .f32 t', .float .f32 p']] w fun e w' => e = .returned (.bool true) ∧ Below w.heap.size w w' := by
  have HN := Lib.hid hn
  have H := Lib.hid h
  have hl' : ∀ w1 w2, fv .f64 (wval l w1) = fv .f64 (wval l' w2) := fun w1 w2 => by rw [fv_wval, fv_wval, hl]
  have ht' : ∀ w1 w2, fv .f64 (wval t w1) = fv .f64 (wval t' w2) := fun w1 w2 => by rw [fv_wval, fv_wval, ht]
  have hp' : ∀ w1 w2, fv .f64 (wval p w1) = fv .f64 (wval p' w2) := fun w1 w2 => by rw [fv_wval, fv_wval, hp]
  have HL := Lib.hid hl'
  have HT := Lib.hid ht'
  have HP := Lib.hid hp'
  clear hn h hl ht hp hl' ht' hp'
  go_enter Try.func32, Try.ntmps32
  go_wp2_with fail
  have B2 : Hid (Below w.heap.size w ((w.alloc (.cells #[.slice a n c1, .float .f32 l, .float .f32 t, .float .f32 p] 40)).alloc (.cells #[.slice b n c2, .float .f32 l', .float .f32 t', .float .f32 p'] 40))) :=
    ((Below.refl _ _).alloc (Nat.le_refl _) _).alloc (by rw [World.size_alloc]; omega) _
  refine (laws_eqs a b c1 c2 n xs ys _ HN.out (ha.out.stays B2.out) (hb.out.stays B2.out) hx H.out).mono ?_
  rintro e w' ⟨rfl, m, rfl⟩
  go_wp2_with (go_at_call 20; refine (laws_sameFloat _ _ _ (by first | exact HL.out _ _ | exact HT.out _ _ | exact HP.out _ _)).mono ?_; rintro e w' ⟨rfl, m', rfl⟩)
  all_goals
    go_ret
    exact ⟨rfl, below_drewN B2.out _⟩
end Go.Proofs.Ytfodlngbkmhboaa
