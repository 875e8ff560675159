/-
  The laws' source of choices: bytes, then a simple sequence. Condition: few choices (fewer than 2^20), lists of bytes below 2^31.
-/
import Derived.Test.YthegbaaelccekaaDoorBys
import Derived.Deep.LoopGhost
import Derived.Deep.QuietTactic
import Derived.BigQuiet
import Derived.Deep.RegionWith
import Derived.Below
namespace Go.Proofs.YthegbaaelccekaaDoor
open Go.RowKit

/-- Of what stood, only block b has turned. -/
def Only (b : Nat) (w w' : World) : Prop := Below b w w' ∧ ∀ j, j < w.heap.size → j ≠ b → w'.heap[j]? = w.heap[j]?
theorem Only.refl (b : Nat) (w : World) : Only b w w := ⟨Below.refl _ _, fun _ _ _ => rfl⟩
theorem Only.trans {b : Nat} {w w' w'' : World} (h : Only b w w') (k : Only b w' w'') : Only b w w'' :=
  ⟨h.1.trans k.1, fun j hj hne => (k.2 j (Nat.lt_of_lt_of_le hj h.1.size) hne).trans (h.2 j hj hne)⟩
theorem Only.drewN (b : Nat) (w : World) (n : Nat) : Only b w (w.drewN n) := ⟨(Below.refl b w).trans ⟨rfl, rfl, rfl, Nat.le_refl _, fun _ _ => rfl⟩, fun _ _ _ => rfl⟩
theorem Only.setCell (b : Nat) (w : World) (i : Nat) (v : Value) : Only b w (w.setCell ⟨b, i, none⟩ v) :=
  ⟨(Below.refl b w).setCell (Nat.le_refl _) v, fun j _ hne => Below.heap_setCell w ⟨b, i, none⟩ v j hne⟩
theorem Only.of_below {b : Nat} {w w' : World} (h : Below w.heap.size w w') (hb : b ≤ w.heap.size) : Only b w w' := ⟨h.mono hb, fun j hj _ => h.block j hj⟩

/-- A source over the bytes bs, which has been asked at most A times. -/
def SrcAt (w : World) (b : Nat) (bs : List Nat) (A : Nat) : Prop := ∃ (ca : Option Addr) (cn cc at' sd : Nat), w.heap[b]? = some (.cells #[.slice ca cn cc, .int .i64 at', .int .u64 sd] 105 (0, 0)) ∧
  bs.length = cn ∧ bys w ca bs ∧ (∀ i, i < cn → bs.getD i 0 < 256) ∧ at' ≤ A ∧ sd < 18446744073709551616 ∧ cn < 2147483648 ∧ (0 < cn → ∀ x, ca = some x → x.block < b)
theorem bys.only {b : Nat} {w w' : World} {a : Option Addr} {bs : List Nat} (h : bys w a bs) (ho : Only b w w') (hne : 0 < bs.length → ∀ x, a = some x → x.block ≠ b) : bys w' a bs := by
  intro i hi
  obtain ⟨c, off, e, hc⟩ := h i hi
  refine ⟨c, off, e, ?_⟩
  have hlt : c < w.heap.size := World.block_lt_of_cell? w ⟨c, off + i, none⟩ hc
  rw [World.cell?_of_block (w := w) (a := ⟨c, off + i, none⟩) (ho.2 c hlt (hne (by omega) ⟨c, off, none⟩ e))]
  exact hc
theorem SrcAt.lt {w : World} {b : Nat} {bs : List Nat} {A : Nat} (h : SrcAt w b bs A) : b < w.heap.size := by
  obtain ⟨ca, cn, cc, at', sd, h, _⟩ := h
  obtain ⟨hlt, _⟩ := Array.getElem?_eq_some_iff.1 h
  exact hlt
theorem SrcAt.mono {w : World} {b : Nat} {bs : List Nat} {A B : Nat} (h : SrcAt w b bs A) (hab : A ≤ B) : SrcAt w b bs B := by
  obtain ⟨ca, cn, cc, at', sd, h1, h2, h3, h4, h5, h6⟩ := h
  exact ⟨ca, cn, cc, at', sd, h1, h2, h3, h4, Nat.le_trans h5 hab, h6⟩
/-- What leaves block b alone leaves the source as it is. -/
theorem SrcAt.below {w w' : World} {b : Nat} {bs : List Nat} {A : Nat} (h : SrcAt w b bs A) (hb : Below w.heap.size w w') : SrcAt w' b bs A := by
  have hlt := h.lt
  obtain ⟨ca, cn, cc, at', sd, h1, h2, h3, h4, h5, h6, h7, h8⟩ := h
  refine ⟨ca, cn, cc, at', sd, (hb.block b hlt).trans h1, h2, ?_, h4, h5, h6, h7, h8⟩
  intro i hi
  obtain ⟨c, off, e, hc⟩ := h3 i hi
  refine ⟨c, off, e, ?_⟩
  rw [hb.cell (p := ⟨c, off + i, none⟩) (World.block_lt_of_cell? w ⟨c, off + i, none⟩ hc)]
  exact hc

/-- The same, for what turns blocks behind b alone. -/
theorem SrcAt.above {w w' : World} {b B : Nat} {bs : List Nat} {A : Nat} (h : SrcAt w b bs A) (hb : Below B w w') (hB : b < B) : SrcAt w' b bs A := by
  obtain ⟨ca, cn, cc, at', sd, h1, h2, h3, h4, h5, h6, h7, h8⟩ := h
  refine ⟨ca, cn, cc, at', sd, (hb.block b hB).trans h1, h2, ?_, h4, h5, h6, h7, h8⟩
  intro i hi
  obtain ⟨c, off, e, hc⟩ := h3 i hi
  refine ⟨c, off, e, ?_⟩
  rw [hb.cell (p := ⟨c, off + i, none⟩) (Nat.lt_trans (h8 (by omega) ⟨c, off, none⟩ e) hB)]
  exact hc

theorem and255 (x : Nat) (hx : x < 18446744073709551616) : bits BinOp.and IntKind.u64 (x : Int) 255 = ((x % 256 : Nat) : Int) := by
  have h : x &&& 255 < 2 ^ 64 := Nat.and_lt_two_pow _ (by omega)
  show IntKind.u64.wrap ((BitVec.ofInt 64 (x : Int) &&& BitVec.ofInt 64 ((255 : Nat) : Int)).toNat : Int) = _
  rw [BitVec.toNat_and, ofInt_u64 x (by omega), ofInt_u64 255 (by omega), IntKind.wrap_u64, show (255 : Nat) = 2 ^ 8 - 1 by decide, Nat.and_two_pow_sub_one_eq_mod]
  omega

theorem wrap_bd (z : Int) : 0 ≤ IntKind.u64.wrap z ∧ IntKind.u64.wrap z < 18446744073709551616 := by rw [IntKind.wrap_u64]; omega
theorem and255_bd (x : Int) : 0 ≤ bits BinOp.and IntKind.u64 x 255 ∧ bits BinOp.and IntKind.u64 x 255 ≤ 255 := by
  have h : (BitVec.ofInt 64 x &&& BitVec.ofInt 64 ((255 : Nat) : Int)).toNat ≤ 255 := by
    rw [BitVec.toNat_and, ofInt_u64 255 (by omega)]
    exact Nat.and_le_right
  show 0 ≤ IntKind.u64.wrap ((BitVec.ofInt 64 x &&& BitVec.ofInt 64 ((255 : Nat) : Int)).toNat : Int) ∧ IntKind.u64.wrap ((BitVec.ofInt 64 x &&& BitVec.ofInt 64 ((255 : Nat) : Int)).toNat : Int) ≤ 255
  rw [IntKind.wrap_u64]
  omega
theorem src_set {w : World} {b : Nat} {c0 c1 c2 v1 v2 : Value} {T : TypeId} (hb : w.heap[b]? = some (.cells #[c0, c1, c2] T (0, 0))) : ((w.setCell ⟨b, 1, none⟩ v1).setCell ⟨b, 2, none⟩ v2).heap[b]? = some (.cells #[c0, v1, v2] T (0, 0)) := by
  simp [World.setCell, Array.getElem?_modify, hb]
/-- Behind one choice. -/
theorem SrcAt.turned {w : World} {b A : Nat} {bs : List Nat} {ca : Option Addr} {cn cc at' sd : Nat} {z : Int} (hb : w.heap[b]? = some (.cells #[.slice ca cn cc, .int .i64 at', .int .u64 sd] 105 (0, 0))) (hn : bs.length = cn) (hby : bys w ca bs) (hbb : ∀ i, i < cn → bs.getD i 0 < 256)
    (hat : at' ≤ A) (hcn : cn < 2147483648) (hne : 0 < cn → ∀ x, ca = some x → x.block < b) (hz : 0 ≤ z ∧ z < 18446744073709551616) :
    SrcAt ((w.setCell ⟨b, 1, none⟩ (.int .i64 ((at' : Int) + 1))).setCell ⟨b, 2, none⟩ (.int .u64 z)) b bs (A + 1) ∧ Only b w ((w.setCell ⟨b, 1, none⟩ (.int .i64 ((at' : Int) + 1))).setCell ⟨b, 2, none⟩ (.int .u64 z)) := by
  have ho := (Only.setCell b w 1 (.int .i64 ((at' : Int) + 1))).trans (Only.setCell b _ 2 (.int .u64 z))
  refine ⟨⟨ca, cn, cc, at' + 1, z.toNat, ?_, hn, hby.only ho (fun h0 x hx => Nat.ne_of_lt (hne (by omega) x hx)), hbb, by omega, by omega, hcn, hne⟩, ho⟩
  rw [src_set hb]
  simp only [Int.natCast_add, Int.toNat_of_nonneg hz.1]
  rfl

theorem SrcAt.turnedD {w : World} {b A : Nat} {bs : List Nat} {ca : Option Addr} {cn cc at' sd : Nat} {z : Int} (k l : Nat) (hb : w.heap[b]? = some (.cells #[.slice ca cn cc, .int .i64 at', .int .u64 sd] 105 (0, 0))) (hn : bs.length = cn) (hby : bys w ca bs) (hbb : ∀ i, i < cn → bs.getD i 0 < 256)
    (hat : at' ≤ A) (hcn : cn < 2147483648) (hne : 0 < cn → ∀ x, ca = some x → x.block < b) (hz : 0 ≤ z ∧ z < 18446744073709551616) :
    SrcAt ((((w.drewN k).setCell ⟨b, 1, none⟩ (.int .i64 ((at' : Int) + 1))).setCell ⟨b, 2, none⟩ (.int .u64 z)).drewN l) b bs (A + 1) ∧ Only b w ((((w.drewN k).setCell ⟨b, 1, none⟩ (.int .i64 ((at' : Int) + 1))).setCell ⟨b, 2, none⟩ (.int .u64 z)).drewN l) := by
  obtain ⟨h1, h2⟩ := SrcAt.turned (w := w.drewN k) (A := A) hb hn hby hbb hat hcn hne hz
  exact ⟨h1, (Only.drewN b w k).trans (h2.trans (Only.drewN b _ l))⟩
theorem ret_small (x : Int) (h0 : 0 ≤ x) (h1 : x ≤ 255) : ∃ v : Nat, v < 256 ∧ Ending.returned (.int .i64 (wrap64 x)) = .returned (.int .i64 v) := by
  refine ⟨x.toNat, by omega, ?_⟩
  have : wrap64 x = (x.toNat : Int) := by
    unfold wrap64
    omega
  rw [this]

set_option maxHeartbeats 1000000 in
theorem src_next (b A : Nat) (bs : List Nat) (w : World) (hs : Hid (SrcAt w b bs A)) (hA : A < 1048576) :
    Calls Tryd.prog 96 #[.pointer (some ⟨b, 0, none⟩)] w fun e w' => (∃ v : Nat, v < 256 ∧ e = .returned (.int .i64 v)) ∧ SrcAt w' b bs (A + 1) ∧ Only b w w' := by
  obtain ⟨ca, cn, cc, at', sd, hb, hn, hby, hbb, hat, hsd, hcn, hne⟩ := hs.out
  have hc0 : w.cell? ⟨b, 0, none⟩ = some (.slice ca cn cc) := by simp [World.cell?, hb]
  have hc1 : w.cell? ⟨b, 1, none⟩ = some (.int .i64 at') := by simp [World.cell?, hb]
  have hc2 : w.cell? ⟨b, 2, none⟩ = some (.int .u64 sd) := by simp [World.cell?, hb]
  have hf0 : ∀ i, w.frozen? ⟨b, i, none⟩ = false := by intro i; simp [World.frozen?, hb]
  have HB := Lib.hid hb
  have HN := Lib.hid hn
  have HBY := Lib.hid hby
  have HBB := Lib.hid hbb
  have HNE := Lib.hid hne
  clear hb hn hby hbb hne hs
  by_cases hlt : at' < cn
  · obtain ⟨cb, co, rfl, hcc⟩ := HBY.out at' (by rw [HN.out]; exact hlt)
    have hv := HBB.out at' hlt
    generalize bs.getD at' 0 = v at hcc hv
    go_enter Tryd.func96, Tryd.ntmps96
    go_wp2_with fail
    go_quiet (fail)
    go_wp2_with fail
    go_quiet (fail)
    go_wp2_with fail
    go_quiet (fail)
    go_wp2_with fail
    go_ret
    exact ⟨⟨v, hv, rfl⟩, SrcAt.turnedD _ _ HB.out HN.out HBY.out HBB.out hat hcn HNE.out (wrap_bd _)⟩
  · have hge : (cn : Int) ≤ (at' : Int) := by omega
    have hb1 : ∀ x : Int, 0 ≤ bits BinOp.and IntKind.u64 x 255 := fun x => (and255_bd x).1
    have hb2 : ∀ x : Int, bits BinOp.and IntKind.u64 x 255 ≤ 255 := fun x => (and255_bd x).2
    have H1 := Lib.hid hb1
    have H2 := Lib.hid hb2
    go_enter Tryd.func96, Tryd.ntmps96
    go_wp2_with fail
    go_quiet (fail)
    go_wp2_with fail
    go_quiet (fail)
    go_wp2_with fail
    go_ret
    refine ⟨ret_small _ (H1.out _) (H2.out _), SrcAt.turnedD _ _ HB.out HN.out HBY.out HBB.out hat hcn HNE.out (wrap_bd _)⟩
end Go.Proofs.YthegbaaelccekaaDoor
