/-
  The law FnExactHornTube: the program and the reference, from their contracts. Condition: bits fit the kind.
-/
import Derived.Test.YtfodlngbkmhboaaVb
namespace Go.Proofs.Ytfodlngbkmhboaa
open Go.RowKit Ieee

theorem tube_cells {W w' : World} {B : Nat} {T : TypeId} {a : Option Addr} {n c l t p : Nat} (h : W.rowIs B T 4 (tubeF a n c l t p)) (e : w'.heap[B]? = W.heap[B]?) : tubeAt w' B 0 a n c l t p := tube_stays (h.of_block e) (Below.refl _ _)
/-- What a maker of tubes hands back, written out. -/
theorem tubeP.form {w w' : World} {v : Bool} {L : List (Option Nat)} {l t p : Nat} {e : Ending} (h : tubeP w v L l t p e w') :
    ∃ A ys cap, e = .returned (.tuple #[.agg #[.slice A ys.length cap, .float .f32 (pickN v l), .float .f32 (pickN v t), .float .f32 (pickN v p)], .bool v]) ∧ ys.map (fv .f32) = (if v = true then L else []) ∧ ys.length ≤ 16 ∧ Below w.heap.size w w' ∧ Hid (rowA w' w.heap.size A ys) := by
  obtain ⟨A, ys, cap, rfl, h1, h2⟩ := h
  cases v
  · exact ⟨none, [], 0, rfl, rfl, by simp, h2, Or.inl ⟨rfl, rfl⟩⟩
  · obtain ⟨h3, h4, h5⟩ := h1 rfl
    exact ⟨A, ys, cap, rfl, h3, h4, h2, h5⟩
/-- .. equal tubes, lists of one length by their numbers. -/
theorem eqTubeX (a b : Option Addr) (n m c1 c2 l t p : Nat) (xs ys : List Nat) (w : World) (hn : xs.length = n) (hm : ys.length = m) (ha : Hid (fls w a xs)) (hb : Hid (fls w b ys)) (hx : n < 2147483648) (h : xs.map (fv .f32) = ys.map (fv .f32)) :
    Calls Try.prog 32 #[.agg #[.slice a n c1, .float .f32 l, .float .f32 t, .float .f32 p], .agg #[.slice b m c2, .float .f32 l, .float .f32 t, .float .f32 p]] w fun e w' => e = .returned (.bool true) ∧ Below w.heap.size w w' := by
  have hl : xs.length = ys.length := by simpa using congrArg List.length h
  have : m = n := by omega
  subst this
  exact laws_eqTube a b c1 c2 m l t p l t p xs ys w hn ha hb hx h rfl rfl rfl

set_option maxHeartbeats 4000000 in
theorem law_FnExactHornTube (w : World) (cnt : Int) (_ : (Lit.int .i64 cnt).wf = true) (f0 : Nat) (_ : (Lit.float .f32 f0).wf = true) (f1 : Nat) (_ : (Lit.float .f32 f1).wf = true) :
    Calls Try.prog 11 #[.int .i64 cnt, .float .f32 f0, .float .f32 f1] w fun e w' => e = .returned (.bool true) ∧ Below w.heap.size w w' := by
  obtain ⟨v, l, t, p, L, CS, CI⟩ : ∃ (v : Bool) (l t p : Nat) (L : List (Option Nat)),
      Hid (∀ W : World, Calls Try.prog 44 #[.int .i64 cnt, .float .f32 f0, .float .f32 f1] W fun e w' => ∃ A ys cap, e = .returned (.tuple #[.agg #[.slice A ys.length cap, .float .f32 l, .float .f32 t, .float .f32 p], .bool v]) ∧ ys.map (fv .f32) = L ∧ ys.length ≤ 16 ∧ Below W.heap.size W w' ∧ Hid (rowA w' W.heap.size A ys)) ∧
      Hid (∀ W : World, Calls Try.prog 45 #[.int .i64 cnt, .float .f32 f0, .float .f32 f1] W fun e w' => ∃ A ys cap, e = .returned (.tuple #[.agg #[.slice A ys.length cap, .float .f32 l, .float .f32 t, .float .f32 p], .bool v]) ∧ ys.map (fv .f32) = L ∧ ys.length ≤ 16 ∧ Below W.heap.size W w' ∧ Hid (rowA w' W.heap.size A ys)) :=
    ⟨hornI (fv .f32 f0) (fv .f32 f1) cnt, _, _, _, _, fun W => (spec_HornAll cnt f0 f1 W).mono fun _ _ h => h.form, fun W => (impl_HornAll cnt f0 f1 W).mono fun _ _ h => h.form⟩
  go_enter Try.func11, Try.ntmps11
  go_wp2_with fail
  -- w0, w1
  refine (CS.out w).mono ?_
  rintro e w2 ⟨P, ps, pc, rfl, hp, hpl, B2, Z⟩
  have HP := Lib.hid hp
  clear hp
  have A2 := alloc_belowP w2 (.cells #[.slice P ps.length pc, .float .f32 l, .float .f32 t, .float .f32 p] 40)
  have R2 := tubeF_row w2 40 P ps.length pc l t p
  have Z2 := Lib.hid (Z.out.stays A2)
  go_wp2_with fail
  generalize w2.alloc (.cells #[.slice P ps.length pc, .float .f32 l, .float .f32 t, .float .f32 p] 40) = W2 at A2 R2 Z2
  have D2 := Below.on B2 A2
  -- g0, g1
  refine (CI.out W2).mono ?_
  rintro e w4 ⟨G, gs, gc, rfl, hg, hgl, B4, Y⟩
  have HG := Lib.hid hg
  clear hg
  have k1 : ¬ (1 : Int) + (gs.length : Int) < 0 := by omega
  have A4 := alloc_belowP w4 (.cells #[.slice G gs.length gc, .float .f32 l, .float .f32 t, .float .f32 p] 40)
  have R4 := tubeF_row w4 40 G gs.length gc l t p
  have Y4 := Lib.hid (Y.out.stays A4)
  have L4 : Hid (∀ x, G = some x → x.block ≠ w4.heap.size) := fun x hx => by have := (Y.out.lt x hx).2; omega
  obtain ⟨c0, c1, c2, c3⟩ := tube_stays R2 (Below.on B4 A4)
  go_wp2_with fail
  generalize w4.alloc (.cells #[.slice G gs.length gc, .float .f32 l, .float .f32 t, .float .f32 p] 40) = W4 at A4 R4 Y4 c0 c1 c2 c3
  have E4 := Below.on B4 A4
  have D4 := Below.on D2 E4
  have h4 : w4.heap.size < W4.heap.size := World.rowIs.lt R4
  refine (eqTubeX G P gs.length ps.length gc pc l t p gs ps W4 rfl rfl Y4.out.fls (Z2.out.stays E4).fls (by omega) (HG.out.trans HP.out.symm)).mono ?_
  rintro e w5 ⟨rfl, B5⟩
  clear c0 c1 c2 c3
  obtain ⟨d0, d1, d2, d3⟩ := tube_stays R4 B5
  go_wp2_with fail
  -- m = mark(g0, m)
  refine (laws_markTube G gs.length gc l t p 1 W2.heap.size gs w5 rfl (Y4.out.stays B5) (by omega) (by decide)).mono ?_
  rintro e w6 ⟨rfl, M6, T6, K⟩
  have E5 := Below.on E4 B5
  have E6 : Below W2.heap.size W2 w6 := E5.trans (M6 _ (Nat.le_refl _) E5.size)
  have h5 : w4.heap.size < w5.heap.size := Nat.lt_of_lt_of_le h4 B5.size
  have h56 : w5.heap.size ≤ w6.heap.size := (M6 0 (Nat.zero_le _) (Nat.zero_le _)).size
  have b6 : w6.heap[w4.heap.size]? = W4.heap[w4.heap.size]? := (T6 _ h5 (fun x hx => L4.out x hx)).trans (B5.block _ h4)
  have H6 := Lib.hid b6
  clear d0 d1 d2 d3 M6 T6
  obtain ⟨d0, d1, d2, d3⟩ := tube_cells R4 b6
  clear b6
  go_wp2_with fail
  refine (laws_heldTube G gs.length gc l t p 1 W2.heap.size w6 K (by omega) (by decide)).mono ?_
  rintro e w7 ⟨rfl, B7⟩
  have K7 := Lib.hid (K.out.stays B7)
  have E7 := Below.on E6 B7
  have h7 : w4.heap.size < w7.heap.size := Nat.lt_of_lt_of_le (Nat.lt_of_lt_of_le h5 h56) B7.size
  have H7 := Lib.hid ((B7.block _ (Nat.lt_of_lt_of_le h5 h56)).trans H6.out)
  clear d0 d1 d2 d3
  go_wp2_with fail
  -- h0, h1
  refine (CI.out w7).mono ?_
  rintro e w8 ⟨H, hs, hc, rfl, hh, hhl, B8, V⟩
  have HH := Lib.hid hh
  clear hh
  have A8 := alloc_belowP w8 (.cells #[.slice H hs.length hc, .float .f32 l, .float .f32 t, .float .f32 p] 40)
  have E8 := Below.on E7 (Below.on B8 A8)
  have V8 := Lib.hid (V.out.stays A8)
  obtain ⟨c0, c1, c2, c3⟩ := tube_stays R2 E8
  go_wp2_with fail
  generalize w8.alloc (.cells #[.slice H hs.length hc, .float .f32 l, .float .f32 t, .float .f32 p] 40) = W8 at A8 V8 E8 c0 c1 c2 c3
  refine (eqTubeX H P hs.length ps.length hc pc l t p hs ps W8 rfl rfl V8.out.fls (Z2.out.stays E8).fls (by omega) (HH.out.trans HP.out.symm)).mono ?_
  rintro e w9 ⟨rfl, B9⟩
  have X9 := Below.on (Below.on B8 A8) B9
  have E9 := Below.on E8 B9
  have b9 := (X9.block _ h7).trans H7.out
  clear c0 c1 c2 c3
  obtain ⟨d0, d1, d2, d3⟩ := tube_cells R4 b9
  clear b9
  go_wp2_with fail
  refine (laws_heldTube G gs.length gc l t p 1 W2.heap.size w9 (K7.out.stays X9) (by omega) (by decide)).mono ?_
  rintro e wa ⟨rfl, Ba⟩
  go_wp2_with fail
  go_ret
  exact ⟨rfl, Below.on D2 (Below.on E9 Ba)⟩
end Go.Proofs.Ytfodlngbkmhboaa
