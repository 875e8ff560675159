/-
  Marks in tubes and waves. Condition: the lists are the call's own; lengths below 2^31, marks below 2^33.
-/
import Derived.Test.YtfodlngbkmhboaaTo
namespace Go.Proofs.Ytfodlngbkmhboaa
open Go.RowKit Ieee

theorem alloc_belowP (w : World) (x : Obj) : Below w.heap.size w (w.alloc x) := (Below.refl _ _).alloc (Nat.le_refl _) _
theorem TurnedA.after {a : Option Addr} {w w1 w' : World} (h : Below w.heap.size w w1) (t : TurnedA a w1 w') : TurnedA a w w' := fun j hj hne => (t j (Nat.lt_of_lt_of_le hj h.size) hne).trans (h.block j hj)
theorem TurnedA.on {a : Option Addr} {w w1 w' : World} (t : TurnedA a w w1) (hs : w.heap.size ≤ w1.heap.size) (h : Below w1.heap.size w1 w') : TurnedA a w w' := fun j hj hne => (h.block j (Nat.lt_of_lt_of_le hj hs)).trans (t j hj hne)

/-- Of what stood, only the lists at a and at b have turned. -/
def Turned2 (a b : Option Addr) (w w' : World) : Prop := ∀ j, j < w.heap.size → (∀ x, a = some x → x.block ≠ j) → (∀ x, b = some x → x.block ≠ j) → w'.heap[j]? = w.heap[j]?

theorem laws_markTube (a : Option Addr) (n c l t p k B : Nat) (xs : List Nat) (w : World) (hn : xs.length = n) (hr : Hid (rowA w B a xs)) (hx : n < 2147483648) (hk : k < 8589934592) :
    Calls Try.prog 46 #[.agg #[.slice a n c, .float .f32 l, .float .f32 t, .float .f32 p], .int .i64 k] w fun e w' => e = .returned (.int .i64 (k + n : Nat)) ∧ (∀ B', B' ≤ B → B' ≤ w.heap.size → Below B' w w') ∧ TurnedA a w w' ∧ Hid (mrowA w' B a k n) := by
  have HN := Lib.hid hn
  clear hn
  have A1 := alloc_belowP w (.cells #[.slice a n c, .float .f32 l, .float .f32 t, .float .f32 p] 40)
  have H1 := Lib.hid (hr.out.stays A1)
  go_enter Try.func46, Try.ntmps46
  go_wp2_with fail
  refine (laws_markFloat32S a n c k B xs _ HN.out H1 hx hk).mono ?_
  rintro e w' ⟨rfl, hb, ht, hm⟩
  have HB := Lib.hid hb
  have HT := Lib.hid ht
  clear hb ht
  go_wp2_with fail
  go_ret
  exact ⟨rfl, fun B' h1 h2 => (A1.mono h2).trans (HB.out B' h1 (Nat.le_trans h2 A1.size)), HT.out.after A1, hm⟩

theorem laws_heldTube (a : Option Addr) (n c l t p k B : Nat) (w : World) (hr : Hid (mrowA w B a k n)) (hx : n < 2147483648) (hk : k < 8589934592) :
    Calls Try.prog 47 #[.agg #[.slice a n c, .float .f32 l, .float .f32 t, .float .f32 p], .int .i64 k] w fun e w' => e = .returned (.int .i64 (k + n : Nat)) ∧ Below w.heap.size w w' := by
  have A1 := alloc_belowP w (.cells #[.slice a n c, .float .f32 l, .float .f32 t, .float .f32 p] 40)
  have H1 := Lib.hid (hr.out.stays A1)
  have h0 : ¬ ((k : Int) + (n : Int)) < 0 := by omega
  go_enter Try.func47, Try.ntmps47
  go_wp2_with fail
  refine (laws_heldFloat32S a n c k B _ H1 hx hk).mono ?_
  rintro e w' ⟨rfl, rfl⟩
  go_wp2_with fail
  go_ret
  exact ⟨rfl, A1⟩

theorem laws_markWaves (a b : Option Addr) (n c m d k B : Nat) (xs ys : List Nat) (w : World) (hn : xs.length = n) (hm : ys.length = m) (hr : Hid (rowA w B a xs)) (hs : Hid (rowA w B b ys)) (hd : Hid (∀ x y, b = some x → a = some y → y.block ≠ x.block)) (hx : n < 2147483648) (hy : m < 2147483648) (hk : k < 2147483648) :
    Calls Try.prog 52 #[.agg #[.slice a n c, .slice b m d], .int .i64 k] w fun e w' => e = .returned (.int .i64 (k + n + m : Nat)) ∧ (∀ B', B' ≤ B → B' ≤ w.heap.size → Below B' w w') ∧ Turned2 a b w w' ∧ Hid (mrowA w' B a k n) ∧ Hid (mrowA w' B b (k + n) m) := by
  have HN := Lib.hid hn
  have HM := Lib.hid hm
  clear hn hm
  have A1 := alloc_belowP w (.cells #[.slice a n c, .slice b m d] 48)
  have R1 := waveF_row w 48 a n c b m d
  have H1 := Lib.hid (hr.out.stays A1)
  have H2 := Lib.hid (hs.out.stays A1)
  have L1 : Hid (∀ x, a = some x → w.heap.size ≠ x.block) := fun x hx => by have := (hr.out.lt x hx).2; omega
  go_enter Try.func52, Try.ntmps52
  go_wp2_with fail
  generalize w.alloc (.cells #[.slice a n c, .slice b m d] 48) = W1 at A1 R1 H1 H2
  refine (laws_markFloat32S a n c k B xs _ HN.out H1 hx (by omega)).mono ?_
  rintro e w2 ⟨rfl, hb, ht, hm⟩
  have HB := Lib.hid hb
  have HT := Lib.hid ht
  have SZ := Lib.hid (hb 0 (Nat.zero_le _) (Nat.zero_le _)).size
  have H3 := Lib.hid (H2.out.turned ht hd.out)
  have R2 : w2.rowIs w.heap.size 48 2 (waveF a n c b m d) := World.rowIs.of_block R1 (ht _ (World.rowIs.lt R1) fun x hx => (L1.out x hx).symm)
  have c0 := R2.cell (i := 0) (by decide)
  have c1 : w2.cell? ⟨w.heap.size, 1, none⟩ = some (.slice b m d) := R2.cell (i := 1) (by decide)
  clear hb ht
  go_wp2_with fail
  refine (laws_markFloat32S b m d (k + n) B ys _ HM.out H3 hy (by omega)).mono ?_
  rintro e w3 ⟨rfl, hb, ht, hm'⟩
  have HT' := Lib.hid ht
  have HB' := Lib.hid hb
  have H4 := Lib.hid (hm.out.turned ht (fun x y h1 h2 => (hd.out y x h2 h1).symm))
  clear hb ht
  go_wp2_with fail
  go_ret
  exact ⟨rfl, fun B' h1 h2 => ((A1.mono h2).trans (HB.out B' h1 (Nat.le_trans h2 A1.size))).trans (HB'.out B' h1 (Nat.le_trans h2 (Nat.le_trans A1.size (HB.out B' h1 (Nat.le_trans h2 A1.size)).size))), fun j hj n1 n2 => (HT'.out j (Nat.lt_of_lt_of_le hj (Nat.le_trans A1.size (SZ.out))) n2).trans (((HT.out j (Nat.lt_of_lt_of_le hj A1.size) n1)).trans (A1.block j hj)), H4, hm'⟩

theorem laws_heldWaves (a b : Option Addr) (n c m d k B : Nat) (w : World) (hr : Hid (mrowA w B a k n)) (hs : Hid (mrowA w B b (k + n) m)) (hx : n < 2147483648) (hy : m < 2147483648) (hk : k < 2147483648) :
    Calls Try.prog 53 #[.agg #[.slice a n c, .slice b m d], .int .i64 k] w fun e w' => e = .returned (.int .i64 (k + n + m : Nat)) ∧ Below w.heap.size w w' := by
  have A1 := alloc_belowP w (.cells #[.slice a n c, .slice b m d] 48)
  have H1 := Lib.hid (hr.out.stays A1)
  have H2 := Lib.hid (hs.out.stays A1)
  have h0 : ¬ ((k : Int) + (n : Int)) < 0 := by omega
  have h1 : ¬ ((k : Int) + (n : Int) + (m : Int)) < 0 := by omega
  go_enter Try.func53, Try.ntmps53
  go_wp2_with fail
  refine (laws_heldFloat32S a n c k B _ H1 hx (by omega)).mono ?_
  rintro e w' ⟨rfl, rfl⟩
  go_wp2_with fail
  refine (laws_heldFloat32S b m d (k + n) B _ H2 hy (by omega)).mono ?_
  rintro e w' ⟨rfl, rfl⟩
  go_wp2_with fail
  go_ret
  exact ⟨rfl, A1⟩
end Go.Proofs.Ytfodlngbkmhboaa
