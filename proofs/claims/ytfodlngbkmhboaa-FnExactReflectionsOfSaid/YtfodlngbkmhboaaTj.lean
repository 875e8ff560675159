/-
  Waves copied in the laws. Condition: lengths below 2^31.
-/
import Derived.Test.YtfodlngbkmhboaaTi
namespace Go.Proofs.Ytfodlngbkmhboaa
open Go.RowKit Ieee

/-- A pair of waves' cells. -/
def waveF (a : Option Addr) (n c : Nat) (b : Option Addr) (m d : Nat) : Nat → Value
  | 0 => .slice a n c
  | _ => .slice b m d
theorem waveF_row (w : World) (T : TypeId) (a : Option Addr) (n c : Nat) (b : Option Addr) (m d : Nat) : (w.alloc (.cells #[.slice a n c, .slice b m d] T)).rowIs w.heap.size T 2 (waveF a n c b m d) :=
  World.rowIs_alloc w #[.slice a n c, .slice b m d] T (waveF a n c b m d) (fun i hi => by
    have : i = 0 ∨ i = 1 := by simp at hi; omega
    rcases this with rfl | rfl <;> rfl)

theorem results_waves {fn : Func} {q : Tmp} (h : fn.results = #[.cell q 48]) (tmps : Array Value) (w : World) (g : Nat) (hp : tmps.getD q undef = .pointer (some ⟨g, 0, none⟩)) {v0 v1 : Value}
    (c0 : w.cell? ⟨g, 0, none⟩ = some v0) (c1 : w.cell? ⟨g, 1, none⟩ = some v1) : (results fn tmps).run Try.prog w = .ok (.agg #[v0, v1]) w := by
  have hp' : tmps[q]?.getD undef = .pointer (some ⟨g, 0, none⟩) := by simpa using hp
  simp [results, h, hp', go_sem, c0, c1]

set_option maxHeartbeats 2000000 in
theorem laws_toWavesX (a b : Option Addr) (n c m d : Nat) (xs ys : List Nat) (w : World) (hn : xs.length = n) (hm : ys.length = m) (ha : Hid (fls w a xs)) (hb : Hid (fls w b ys)) (hx : n < 2147483648) (hy : m < 2147483648) :
    Calls Try.prog 35 #[.agg #[.slice a n c, .slice b m d]] w fun e w' => ∃ A B, e = .returned (.agg #[.slice (some ⟨A, 0, none⟩) n n, .slice (some ⟨B, 0, none⟩) m m]) ∧ w.heap.size ≤ A ∧ A < B ∧ Below w.heap.size w w' ∧ flr w' A xs ∧ flr w' B ys := by
  subst hn hm
  go_enter Try.func35, Try.ntmps35
  go_wp2_with fail
  generalize hW3 : ((w.alloc (.cells #[.slice a xs.length c, .slice b ys.length d] 45)).alloc (.cells #[.slice none 0 0, .slice none 0 0] 48)).alloc (.cells #[.slice none 0 0, .slice none 0 0] 48) = W3
  have B3 : Below w.heap.size w W3 := by
    rw [← hW3]
    exact (((Below.refl _ _).alloc (Nat.le_refl _) _).alloc (by rw [World.size_alloc]; omega) _).alloc (by rw [World.size_alloc, World.size_alloc]; omega) _
  have S3 : W3.heap.size = w.heap.size + 3 := by rw [← hW3, World.size_alloc, World.size_alloc, World.size_alloc]
  have T3 : W3.rowIs w.heap.size 45 2 (waveF a xs.length c b ys.length d) := by
    rw [← hW3]; exact ((waveF_row w _ a xs.length c b ys.length d).alloc _).alloc _
  have U3 : W3.rowIs (w.heap.size + 1) 48 2 (waveF none 0 0 none 0 0) := by
    rw [← hW3]
    have k := (waveF_row (w.alloc (.cells #[.slice a xs.length c, .slice b ys.length d] 45)) 48 none 0 0 none 0 0).alloc (.cells #[.slice none 0 0, .slice none 0 0] 48)
    rw [World.size_alloc] at k
    exact k
  have O3 : W3.rowIs (w.heap.size + 1 + 1) 48 2 (waveF none 0 0 none 0 0) := by
    rw [← hW3]
    have k := waveF_row ((w.alloc (.cells #[.slice a xs.length c, .slice b ys.length d] 45)).alloc (.cells #[.slice none 0 0, .slice none 0 0] 48)) 48 none 0 0 none 0 0
    rw [World.size_alloc, World.size_alloc] at k
    exact k
  clear hW3
  refine (laws_toFloat32S a c xs W3 (ha.out.stays B3) hx).mono ?_
  rintro e w1 ⟨rfl, hb1, hr1, hs1⟩
  have T1 := T3.of_block (hb1.block _ (by omega))
  have U1 := U3.of_block (hb1.block _ (by omega))
  have O1 := O3.of_block (hb1.block _ (by omega))
  clear T3 U3 O3
  have t1 : w1.cell? ⟨w.heap.size, 1, none⟩ = some (.slice b ys.length d) := T1.cell (i := 1) (by decide)
  have o0 : w1.cell? ⟨w.heap.size + 1 + 1, 0, none⟩ = some (.slice none 0 0) := O1.cell (i := 0) (by decide)
  have fo : ∀ i, w1.frozen? ⟨w.heap.size + 1 + 1, i, none⟩ = false := fun i => O1.frozen i
  have BB : Below w.heap.size w w1 := B3.trans (hb1.mono (by omega))
  have FB := Lib.hid (hb.out.stays BB)
  have HS := Lib.hid hs1
  have HR := Lib.hid hr1
  have SS := Lib.hid S3
  have HU := Lib.hid U1
  have HO1 := Lib.hid O1
  clear T1 U1 O1 hb1 hs1 hr1 B3 S3
  go_wp2_with fail
  have hS := SS.out
  have hS1 := HS.out
  have BS : Below w.heap.size w (w1.setCell ⟨w.heap.size + 1 + 1, 0, none⟩ (.slice (some ⟨W3.heap.size, 0, none⟩) xs.length xs.length)) := BB.setCell (by show w.heap.size ≤ w.heap.size + 1 + 1; omega) _
  have US := HU.out.setOther (a := ⟨w.heap.size + 1 + 1, 0, none⟩) (by show w.heap.size + 1 ≠ w.heap.size + 1 + 1; omega) (.slice (some ⟨W3.heap.size, 0, none⟩) xs.length xs.length)
  have OS := HO1.out.set 0 (.slice (some ⟨W3.heap.size, 0, none⟩) xs.length xs.length)
  have RS : flr (w1.setCell ⟨w.heap.size + 1 + 1, 0, none⟩ (.slice (some ⟨W3.heap.size, 0, none⟩) xs.length xs.length)) W3.heap.size xs := World.rowIs.setOther HR.out (by show W3.heap.size ≠ w.heap.size + 1 + 1; omega) _
  have ZS : (w1.setCell ⟨w.heap.size + 1 + 1, 0, none⟩ (.slice (some ⟨W3.heap.size, 0, none⟩) xs.length xs.length)).heap.size = w1.heap.size := by simp [World.setCell]
  generalize w1.setCell ⟨w.heap.size + 1 + 1, 0, none⟩ (.slice (some ⟨W3.heap.size, 0, none⟩) xs.length xs.length) = Ws at BS US OS RS ZS
  refine (laws_toFloat32S b d ys Ws (hb.out.stays BS) hy).mono ?_
  rintro e w2 ⟨rfl, hb2, hr2, hs2⟩
  have U2 := US.of_block (hb2.block _ (by omega))
  have O2 := OS.of_block (hb2.block _ (by omega))
  have R2 : flr w2 W3.heap.size xs := World.rowIs.of_block RS (hb2.block _ (by omega))
  have u0 : w2.cell? ⟨w.heap.size + 1, 0, none⟩ = some (.slice none 0 0) := U2.cell (i := 0) (by decide)
  have u1 : w2.cell? ⟨w.heap.size + 1, 1, none⟩ = some (.slice none 0 0) := U2.cell (i := 1) (by decide)
  have q0 : w2.cell? ⟨w.heap.size + 1 + 1, 0, none⟩ = some (.slice (some ⟨W3.heap.size, 0, none⟩) xs.length xs.length) := O2.cell (i := 0) (by decide)
  have q1 : w2.cell? ⟨w.heap.size + 1 + 1, 1, none⟩ = some (.slice none 0 0) := O2.cell (i := 1) (by decide)
  have fo2 : ∀ i, w2.frozen? ⟨w.heap.size + 1 + 1, i, none⟩ = false := fun i => O2.frozen i
  have fu2 : ∀ i, w2.frozen? ⟨w.heap.size + 1, i, none⟩ = false := fun i => U2.frozen i
  have BB2 : Hid (Below w.heap.size w w2) := BS.trans (hb2.mono (by omega))
  have HR2 := Lib.hid R2
  have HRb := Lib.hid hr2
  have HZ := Lib.hid ZS
  clear U2 O2 R2 US OS RS ZS hb2 hr2 hs2 BS t1 o0 fo hS hS1
  go_wp2
  refine bodyPost_ret (results_waves Try.results35 _ _ _ rfl (v0 := .slice (some ⟨W3.heap.size, 0, none⟩) xs.length xs.length) (v1 := .slice (some ⟨Ws.heap.size, 0, none⟩) ys.length ys.length) ?_ ?_) rfl ?_
  · simp [go_sem, u0]
  · simp [go_sem, u1]
  have hS := SS.out
  have hS1 := HS.out
  have hZ := HZ.out
  refine ⟨W3.heap.size, Ws.heap.size, rfl, by omega, by omega, ?_, ?_, ?_⟩
  · iterate 3 refine Below.setCell ?_ (by show w.heap.size ≤ _; simp only []; omega) _
    exact BB2.out
  · unfold flr
    iterate 3 refine World.rowIs.setOther ?_ (by simp only []; omega) _
    exact HR2.out
  · unfold flr
    iterate 3 refine World.rowIs.setOther ?_ (by simp only []; omega) _
    exact HRb.out
end Go.Proofs.Ytfodlngbkmhboaa
