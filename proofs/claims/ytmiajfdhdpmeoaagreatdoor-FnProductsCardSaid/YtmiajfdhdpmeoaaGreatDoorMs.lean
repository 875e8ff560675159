/-
  Byte lists: arguments opened; the laws' number chosen by a byte, and their test of lengths. Condition: lists are shorter than 2^31.
  The laws' source of choices: bytes, then a simple sequence. Condition: few choices (fewer than 2^20), lists of bytes below 2^31.
  Choices out of the source: a number below another, yes or no, one of some numbers. Condition: few choices (fewer than 2^20).
-/
import Derived.Test.YtmiajfdhdpmeoaaGreatDoorCc
import Derived.WalkKit
import Derived.Deep.Slices
import Derived.Laws.Cover2
import Derived.Lib.SmallJoins
import Derived.Deep.LoopGhost
import Derived.Deep.QuietTactic
import Derived.BigQuiet
import Derived.Deep.RegionWith
import Derived.Below
namespace Go.Proofs.YtmiajfdhdpmeoaaGreatDoor
open Go.RowKit Go.ChangeShapes Go.WideShapes Go.Deep Go.Joins

/-- The cells from a on hold the bytes bs. -/
def bys (w : World) (a : Option Addr) (bs : List Nat) : Prop := ∀ i, i < bs.length → ∃ b off, a = some ⟨b, off, none⟩ ∧ w.cell? ⟨b, off + i, none⟩ = some (.int .u8 (bs.getD i 0 : Nat))
theorem bys.drewN {w : World} {a : Option Addr} {bs : List Nat} (h : bys w a bs) (n : Nat) : bys (w.drewN n) a bs := h

section
variable {H : Type} {enc : TypeId × Value → H} {w : World} {base b0 : Nat} {spare : Nat → Bool} {held : Bool}
set_option maxRecDepth 10000 in
theorem open_bytes {v : Value} {d : DataW H} {ps : List MemPlace} (hv : Value.okWide Tryz.prog w .any b0 22 v) (h : DataW.Trod enc Tryz.prog w base spare held 22 v d ps) :
    ∃ (a : Option Addr) (n c : Nat) (bs : List Nat), v = .slice a n c ∧ bs.length = n ∧ bys w a bs ∧ (∀ i, i < n → bs.getD i 0 < 256) ∧ n < 9223372036854775808 := by
  obtain ⟨a, len, cap, rfl⟩ := okWide_slice Tryz.underlying22 hv
  obtain ⟨fuel, hf⟩ := h
  rcases open_slice1 Tryz.underlying22 (by kernel_rfl) hf with ⟨hc, _⟩ | ⟨a, len, cap, m, n, V, D, Pl, hc, _, hl, hmx, hm, _, hall⟩
  · simp only [Value.cells, List.cons.injEq, and_true] at hc
    cases hc
    exact ⟨none, 0, 0, [], rfl, rfl, fun i hi => absurd hi (Nat.not_lt_zero _), fun i hi => absurd hi (Nat.not_lt_zero _), by omega⟩
  · simp only [Value.cells, List.cons.injEq, and_true] at hc
    cases hc
    have hlm : len ≤ m := by rw [hm]; split <;> omega
    have hB : ∀ i, i < len → ∃ b : Nat, V i = .int .u8 (b : Nat) ∧ b < 256 := fun i hi => by
      obtain ⟨b, hb, _, hw⟩ := DataW.trod_int Tryz.underlying5 (hall i (by omega)).2
      simp only [List.cons.injEq, and_true] at hb
      have h2 : 0 ≤ b ∧ b < 256 := by
        have h3 : IntKind.u8.min ≤ b ∧ b ≤ IntKind.u8.max := by simpa [Lit.wf] using hw
        rw [show IntKind.u8.min = 0 from by kernel_rfl, show IntKind.u8.max = 255 from by kernel_rfl] at h3
        omega
      exact ⟨b.toNat, by rw [hb, Int.toNat_of_nonneg h2.1], by omega⟩
    obtain ⟨X, hX⟩ := choose_lt hB
    obtain ⟨b, off, spot⟩ := a
    refine ⟨some ⟨b, off, spot⟩, len, cap, (List.range len).map X, rfl, by simp, fun i hi => ?_, fun i hi => ?_, Nat.lt_of_le_of_lt (Nat.le_trans hl hmx) (by decide +kernel)⟩
    · have hi' : i < len := by simpa using hi
      have hc := (hall i (by omega)).1
      have hspot : spot = none := by simpa [Addr.add] using World.cell?_spot (hall 0 (by omega)).1
      subst hspot
      refine ⟨b, off, rfl, ?_⟩
      rw [(hX i hi').1] at hc
      have e : ((List.range len).map X).getD i 0 = X i := by simp [List.getD, hi']
      rw [e]
      simpa [Addr.add_lit] using hc
    · have e : ((List.range len).map X).getD i 0 = X i := by simp [List.getD, hi]
      rw [e]
      exact (hX i hi).2
end

theorem laws_b10Long (a b : Option Addr) (n c k d : Nat) (w : World) (hn : n < 9223372036854775808) (hk : k < 9223372036854775808) : Calls Tryz.prog 4 #[.slice a n c, .slice b k d] w fun e w' => e = .returned (.bool (decide (1048576 < n) || decide (1048576 < k))) ∧ w' = w := by
  by_cases h1 : (1048576 : Int) < n
  · have h1' : 1048576 < n := by omega
    rw [decide_eq_true h1', Bool.true_or]
    clear h1'
    go_enter Tryz.func4, Tryz.ntmps4
    go_wp2
    go_ret
    exact ⟨rfl, rfl⟩
  · have h1' : ¬ 1048576 < n := by omega
    rw [decide_eq_false h1', Bool.false_or]
    clear h1'
    by_cases h2 : (1048576 : Int) < k
    · have h2' : 1048576 < k := by omega
      rw [decide_eq_true h2']
      clear h2'
      go_enter Tryz.func4, Tryz.ntmps4
      go_wp2
      go_ret
      exact ⟨rfl, rfl⟩
    · have h2' : ¬ 1048576 < k := by omega
      rw [decide_eq_false h2']
      clear h2'
      go_enter Tryz.func4, Tryz.ntmps4
      go_wp2
      go_ret
      exact ⟨rfl, rfl⟩

/-- The number below m chosen by the i-th byte. -/
def atB (bs : List Nat) (i m : Nat) : Nat := if i < bs.length then bs.getD i 0 % m else (i * 37 + 11) % m
theorem atB_lt (bs : List Nat) (i : Nat) {m : Nat} (h : 0 < m) : atB bs i m < m := by
  unfold atB; split <;> exact Nat.mod_lt _ h

theorem laws_b10At (a : Option Addr) (n c : Nat) (bs : List Nat) (i m : Nat) (w : World) (hn : bs.length = n) (ha : bys w a bs) (hb : ∀ i, i < n → bs.getD i 0 < 256) (_ : n < 2147483648) (hi : i < 1000) (hm : 1 < m) (hm2 : m ≤ 1000) :
    Calls Tryz.prog 15 #[.slice a n c, .int .i64 i, .int .i64 m] w fun e w' => e = .returned (.int .i64 (atB bs i m : Nat)) ∧ w' = w := by
  unfold atB
  by_cases h : i < n
  · rw [if_pos (by omega)]
    obtain ⟨ba, oa, rfl, hca⟩ := ha i (by omega)
    have h8 := hb i h
    clear ha hb
    generalize bs.getD i 0 = v at *
    clear hn
    go_enter Tryz.func15, Tryz.ntmps15
    go_wp2
    go_ret
    exact ⟨by rw [Int.natCast_emod]; rfl, rfl⟩
  · rw [if_neg (by omega)]
    clear ha hb
    go_enter Tryz.func15, Tryz.ntmps15
    go_wp2
    go_ret
    exact ⟨by rw [Int.natCast_emod, Int.natCast_add, Int.natCast_mul]; rfl, rfl⟩
end Go.Proofs.YtmiajfdhdpmeoaaGreatDoor

namespace Go.Proofs.YtmiajfdhdpmeoaaGreatDoor
open Go.RowKit

/-- Of what stood, only block b has turned. -/
def Only (b : Nat) (w w' : World) : Prop := Below b w w' ∧ ∀ j, j < w.heap.size → j ≠ b → w'.heap[j]? = w.heap[j]?
theorem Only.refl (b : Nat) (w : World) : Only b w w := ⟨Below.refl _ _, fun _ _ _ => rfl⟩
theorem Only.trans {b : Nat} {w w' w'' : World} (h : Only b w w') (k : Only b w' w'') : Only b w w'' :=
  ⟨h.1.trans k.1, fun j hj hne => (k.2 j (Nat.lt_of_lt_of_le hj h.1.size) hne).trans (h.2 j hj hne)⟩
theorem Only.drewN (b : Nat) (w : World) (n : Nat) : Only b w (w.drewN n) := ⟨(Below.refl b w).trans ⟨rfl, rfl, rfl, Nat.le_refl _, fun _ _ => rfl⟩, fun _ _ _ => rfl⟩
theorem Only.setCell (b : Nat) (w : World) (i : Nat) (v : Value) : Only b w (w.setCell ⟨b, i, none⟩ v) :=
  ⟨(Below.refl b w).setCell (Nat.le_refl _) v, fun j _ hne => Below.heap_setCell w ⟨b, i, none⟩ v j hne⟩
theorem Only.of_below {b : Nat} {w w' : World} (h : Below w.heap.size w w') (hb : b ≤ w.heap.size) : Only b w w' := ⟨h.mono hb, fun j hj _ => h.block j hj⟩

/-- A source over the bytes bs, which has been asked at most A times. -/
def SrcAt (w : World) (b : Nat) (bs : List Nat) (A : Nat) : Prop := ∃ (ca : Option Addr) (cn cc at' sd : Nat), w.heap[b]? = some (.cells #[.slice ca cn cc, .int .i64 at', .int .u64 sd] 76 (0, 0)) ∧
  bs.length = cn ∧ bys w ca bs ∧ (∀ i, i < cn → bs.getD i 0 < 256) ∧ at' ≤ A ∧ sd < 18446744073709551616 ∧ cn < 2147483648 ∧ (0 < cn → ∀ x, ca = some x → x.block < b)
theorem bys.only {b : Nat} {w w' : World} {a : Option Addr} {bs : List Nat} (h : bys w a bs) (ho : Only b w w') (hne : 0 < bs.length → ∀ x, a = some x → x.block ≠ b) : bys w' a bs := by
  intro i hi
  obtain ⟨c, off, e, hc⟩ := h i hi
  refine ⟨c, off, e, ?_⟩
  have hlt : c < w.heap.size := World.block_lt_of_cell? w ⟨c, off + i, none⟩ hc
  rw [World.cell?_of_block (w := w) (a := ⟨c, off + i, none⟩) (ho.2 c hlt (hne (by omega) ⟨c, off, none⟩ e))]
  exact hc
theorem SrcAt.lt {w : World} {b : Nat} {bs : List Nat} {A : Nat} (h : SrcAt w b bs A) : b < w.heap.size := by
  obtain ⟨ca, cn, cc, at', sd, h, _⟩ := h
  obtain ⟨hlt, _⟩ := Array.getElem?_eq_some_iff.1 h
  exact hlt
theorem SrcAt.mono {w : World} {b : Nat} {bs : List Nat} {A B : Nat} (h : SrcAt w b bs A) (hab : A ≤ B) : SrcAt w b bs B := by
  obtain ⟨ca, cn, cc, at', sd, h1, h2, h3, h4, h5, h6⟩ := h
  exact ⟨ca, cn, cc, at', sd, h1, h2, h3, h4, Nat.le_trans h5 hab, h6⟩
/-- What leaves block b alone leaves the source as it is. -/
theorem SrcAt.below {w w' : World} {b : Nat} {bs : List Nat} {A : Nat} (h : SrcAt w b bs A) (hb : Below w.heap.size w w') : SrcAt w' b bs A := by
  have hlt := h.lt
  obtain ⟨ca, cn, cc, at', sd, h1, h2, h3, h4, h5, h6, h7, h8⟩ := h
  refine ⟨ca, cn, cc, at', sd, (hb.block b hlt).trans h1, h2, ?_, h4, h5, h6, h7, h8⟩
  intro i hi
  obtain ⟨c, off, e, hc⟩ := h3 i hi
  refine ⟨c, off, e, ?_⟩
  rw [hb.cell (p := ⟨c, off + i, none⟩) (World.block_lt_of_cell? w ⟨c, off + i, none⟩ hc)]
  exact hc

/-- The same, for what turns blocks behind b alone. -/
theorem SrcAt.above {w w' : World} {b B : Nat} {bs : List Nat} {A : Nat} (h : SrcAt w b bs A) (hb : Below B w w') (hB : b < B) : SrcAt w' b bs A := by
  obtain ⟨ca, cn, cc, at', sd, h1, h2, h3, h4, h5, h6, h7, h8⟩ := h
  refine ⟨ca, cn, cc, at', sd, (hb.block b hB).trans h1, h2, ?_, h4, h5, h6, h7, h8⟩
  intro i hi
  obtain ⟨c, off, e, hc⟩ := h3 i hi
  refine ⟨c, off, e, ?_⟩
  rw [hb.cell (p := ⟨c, off + i, none⟩) (Nat.lt_trans (h8 (by omega) ⟨c, off, none⟩ e) hB)]
  exact hc

theorem and255 (x : Nat) (hx : x < 18446744073709551616) : bits BinOp.and IntKind.u64 (x : Int) 255 = ((x % 256 : Nat) : Int) := by
  have h : x &&& 255 < 2 ^ 64 := Nat.and_lt_two_pow _ (by omega)
  show IntKind.u64.wrap ((BitVec.ofInt 64 (x : Int) &&& BitVec.ofInt 64 ((255 : Nat) : Int)).toNat : Int) = _
  rw [BitVec.toNat_and, ofInt_u64 x (by omega), ofInt_u64 255 (by omega), IntKind.wrap_u64, show (255 : Nat) = 2 ^ 8 - 1 by decide, Nat.and_two_pow_sub_one_eq_mod]
  omega

theorem wrap_bd (z : Int) : 0 ≤ IntKind.u64.wrap z ∧ IntKind.u64.wrap z < 18446744073709551616 := by rw [IntKind.wrap_u64]; omega
theorem and255_bd (x : Int) : 0 ≤ bits BinOp.and IntKind.u64 x 255 ∧ bits BinOp.and IntKind.u64 x 255 ≤ 255 := by
  have h : (BitVec.ofInt 64 x &&& BitVec.ofInt 64 ((255 : Nat) : Int)).toNat ≤ 255 := by
    rw [BitVec.toNat_and, ofInt_u64 255 (by omega)]
    exact Nat.and_le_right
  show 0 ≤ IntKind.u64.wrap ((BitVec.ofInt 64 x &&& BitVec.ofInt 64 ((255 : Nat) : Int)).toNat : Int) ∧ IntKind.u64.wrap ((BitVec.ofInt 64 x &&& BitVec.ofInt 64 ((255 : Nat) : Int)).toNat : Int) ≤ 255
  rw [IntKind.wrap_u64]
  omega
theorem src_set {w : World} {b : Nat} {c0 c1 c2 v1 v2 : Value} {T : TypeId} (hb : w.heap[b]? = some (.cells #[c0, c1, c2] T (0, 0))) : ((w.setCell ⟨b, 1, none⟩ v1).setCell ⟨b, 2, none⟩ v2).heap[b]? = some (.cells #[c0, v1, v2] T (0, 0)) := by
  simp [World.setCell, Array.getElem?_modify, hb]
/-- Behind one choice. -/
theorem SrcAt.turned {w : World} {b A : Nat} {bs : List Nat} {ca : Option Addr} {cn cc at' sd : Nat} {z : Int} (hb : w.heap[b]? = some (.cells #[.slice ca cn cc, .int .i64 at', .int .u64 sd] 76 (0, 0))) (hn : bs.length = cn) (hby : bys w ca bs) (hbb : ∀ i, i < cn → bs.getD i 0 < 256)
    (hat : at' ≤ A) (hcn : cn < 2147483648) (hne : 0 < cn → ∀ x, ca = some x → x.block < b) (hz : 0 ≤ z ∧ z < 18446744073709551616) :
    SrcAt ((w.setCell ⟨b, 1, none⟩ (.int .i64 ((at' : Int) + 1))).setCell ⟨b, 2, none⟩ (.int .u64 z)) b bs (A + 1) ∧ Only b w ((w.setCell ⟨b, 1, none⟩ (.int .i64 ((at' : Int) + 1))).setCell ⟨b, 2, none⟩ (.int .u64 z)) := by
  have ho := (Only.setCell b w 1 (.int .i64 ((at' : Int) + 1))).trans (Only.setCell b _ 2 (.int .u64 z))
  refine ⟨⟨ca, cn, cc, at' + 1, z.toNat, ?_, hn, hby.only ho (fun h0 x hx => Nat.ne_of_lt (hne (by omega) x hx)), hbb, by omega, by omega, hcn, hne⟩, ho⟩
  rw [src_set hb]
  simp only [Int.natCast_add, Int.toNat_of_nonneg hz.1]
  rfl

theorem SrcAt.turnedD {w : World} {b A : Nat} {bs : List Nat} {ca : Option Addr} {cn cc at' sd : Nat} {z : Int} (k l : Nat) (hb : w.heap[b]? = some (.cells #[.slice ca cn cc, .int .i64 at', .int .u64 sd] 76 (0, 0))) (hn : bs.length = cn) (hby : bys w ca bs) (hbb : ∀ i, i < cn → bs.getD i 0 < 256)
    (hat : at' ≤ A) (hcn : cn < 2147483648) (hne : 0 < cn → ∀ x, ca = some x → x.block < b) (hz : 0 ≤ z ∧ z < 18446744073709551616) :
    SrcAt ((((w.drewN k).setCell ⟨b, 1, none⟩ (.int .i64 ((at' : Int) + 1))).setCell ⟨b, 2, none⟩ (.int .u64 z)).drewN l) b bs (A + 1) ∧ Only b w ((((w.drewN k).setCell ⟨b, 1, none⟩ (.int .i64 ((at' : Int) + 1))).setCell ⟨b, 2, none⟩ (.int .u64 z)).drewN l) := by
  obtain ⟨h1, h2⟩ := SrcAt.turned (w := w.drewN k) (A := A) hb hn hby hbb hat hcn hne hz
  exact ⟨h1, (Only.drewN b w k).trans (h2.trans (Only.drewN b _ l))⟩
theorem ret_small (x : Int) (h0 : 0 ≤ x) (h1 : x ≤ 255) : ∃ v : Nat, v < 256 ∧ Ending.returned (.int .i64 (wrap64 x)) = .returned (.int .i64 v) := by
  refine ⟨x.toNat, by omega, ?_⟩
  have : wrap64 x = (x.toNat : Int) := by
    unfold wrap64
    omega
  rw [this]

set_option maxHeartbeats 1000000 in
theorem src_next (b A : Nat) (bs : List Nat) (w : World) (hs : Hid (SrcAt w b bs A)) (hA : A < 1048576) :
    Calls Tryz.prog 50 #[.pointer (some ⟨b, 0, none⟩)] w fun e w' => (∃ v : Nat, v < 256 ∧ e = .returned (.int .i64 v)) ∧ SrcAt w' b bs (A + 1) ∧ Only b w w' := by
  obtain ⟨ca, cn, cc, at', sd, hb, hn, hby, hbb, hat, hsd, hcn, hne⟩ := hs.out
  have hc0 : w.cell? ⟨b, 0, none⟩ = some (.slice ca cn cc) := by simp [World.cell?, hb]
  have hc1 : w.cell? ⟨b, 1, none⟩ = some (.int .i64 at') := by simp [World.cell?, hb]
  have hc2 : w.cell? ⟨b, 2, none⟩ = some (.int .u64 sd) := by simp [World.cell?, hb]
  have hf0 : ∀ i, w.frozen? ⟨b, i, none⟩ = false := by intro i; simp [World.frozen?, hb]
  have HB := Lib.hid hb
  have HN := Lib.hid hn
  have HBY := Lib.hid hby
  have HBB := Lib.hid hbb
  have HNE := Lib.hid hne
  clear hb hn hby hbb hne hs
  by_cases hlt : at' < cn
  · obtain ⟨cb, co, rfl, hcc⟩ := HBY.out at' (by rw [HN.out]; exact hlt)
    have hv := HBB.out at' hlt
    generalize bs.getD at' 0 = v at hcc hv
    go_enter Tryz.func50, Tryz.ntmps50
    go_wp2_with fail
    go_quiet (fail)
    go_wp2_with fail
    go_quiet (fail)
    go_wp2_with fail
    go_quiet (fail)
    go_wp2_with fail
    go_ret
    exact ⟨⟨v, hv, rfl⟩, SrcAt.turnedD _ _ HB.out HN.out HBY.out HBB.out hat hcn HNE.out (wrap_bd _)⟩
  · have hge : (cn : Int) ≤ (at' : Int) := by omega
    have hb1 : ∀ x : Int, 0 ≤ bits BinOp.and IntKind.u64 x 255 := fun x => (and255_bd x).1
    have hb2 : ∀ x : Int, bits BinOp.and IntKind.u64 x 255 ≤ 255 := fun x => (and255_bd x).2
    have H1 := Lib.hid hb1
    have H2 := Lib.hid hb2
    go_enter Tryz.func50, Tryz.ntmps50
    go_wp2_with fail
    go_quiet (fail)
    go_wp2_with fail
    go_quiet (fail)
    go_wp2_with fail
    go_ret
    refine ⟨ret_small _ (H1.out _) (H2.out _), SrcAt.turnedD _ _ HB.out HN.out HBY.out HBB.out hat hcn HNE.out (wrap_bd _)⟩
end Go.Proofs.YtmiajfdhdpmeoaaGreatDoor

namespace Go.Proofs.YtmiajfdhdpmeoaaGreatDoor
open Go.RowKit

theorem src_pick (b A n : Nat) (bs : List Nat) (w : World) (hs : Hid (SrcAt w b bs A)) (hA : A < 1000000) (h1 : 1 < n) (h2 : n ≤ 70000) :
    Calls Tryz.prog 28 #[.pointer (some ⟨b, 0, none⟩), .int .i64 n] w fun e w' => (∃ v : Nat, v < n ∧ e = .returned (.int .i64 v)) ∧ SrcAt w' b bs (A + 2) ∧ Only b w w' := by
  have H1 := Lib.hid (src_next b A bs w hs (by omega))
  by_cases h200 : (200 : Int) < n
  · go_enter Tryz.func28, Tryz.ntmps28
    go_wp2_with fail
    refine H1.out.mono ?_
    rintro e w1 ⟨⟨v, hv, rfl⟩, s1, o1⟩
    go_wp2_with fail
    refine (src_next b (A + 1) bs w1 (Lib.hid s1) (by omega)).mono ?_
    rintro e w2 ⟨⟨u, hu, rfl⟩, s2, o2⟩
    have O := Lib.hid (o1.trans o2)
    have S := Lib.hid s2
    clear s1 o1 s2 o2
    have hmod := Nat.mod_lt (v * 256 + u) (show 0 < n by omega)
    go_wp2_with fail
    go_ret
    exact ⟨⟨(v * 256 + u) % n, hmod, by simp⟩, S.out, O.out⟩
  · go_enter Tryz.func28, Tryz.ntmps28
    go_wp2_with fail
    refine H1.out.mono ?_
    rintro e w1 ⟨⟨v, hv, rfl⟩, s1, o1⟩
    have O := Lib.hid o1
    have S := Lib.hid (s1.mono (show A + 1 ≤ A + 2 by omega))
    clear s1 o1
    have hmod := Nat.mod_lt v (show 0 < n by omega)
    go_wp2_with fail
    go_ret
    exact ⟨⟨v % n, hmod, by simp⟩, S.out, O.out⟩
theorem src_one (b A n : Nat) (bs : List Nat) (w : World) (hs : Hid (SrcAt w b bs A)) (hA : A < 1000000) (h1 : 1 < n) (h2 : n ≤ 70000) :
    Calls Tryz.prog 38 #[.pointer (some ⟨b, 0, none⟩), .int .i64 n] w fun e w' => (∃ t : Bool, e = .returned (.bool t)) ∧ SrcAt w' b bs (A + 2) ∧ Only b w w' := by
  have H1 := Lib.hid (src_pick b A n bs w hs hA h1 h2)
  go_enter Tryz.func38, Tryz.ntmps38
  go_wp2_with fail
  refine H1.out.mono ?_
  rintro e w1 ⟨⟨v, hv, rfl⟩, s1, o1⟩
  have O := Lib.hid o1
  have S := Lib.hid s1
  clear s1 o1
  go_wp2_with fail
  go_ret
  exact ⟨⟨_, rfl⟩, S.out, O.out⟩
theorem src_among (b A g m c : Nat) (f : Nat → Int) (bs : List Nat) (w : World) (hs : Hid (SrcAt w b bs A)) (hA : A < 1000000) (h1 : 1 < m) (h2 : m ≤ 200) (hf : Hid (∀ i, i < m → w.cell? ⟨g, i, none⟩ = some (.int .i64 (f i)) ∧ 0 ≤ f i ∧ f i < 4294967296)) (hg : g ≠ b) :
    Calls Tryz.prog 61 #[.pointer (some ⟨b, 0, none⟩), .slice (some ⟨g, 0, none⟩) m c] w fun e w' => (∃ v : Nat, v < 4294967296 ∧ e = .returned (.int .i64 v)) ∧ SrcAt w' b bs (A + 2) ∧ Only b w w' := by
  have H1 := Lib.hid (src_pick b A m bs w hs hA h1 (by omega))
  have HG := Lib.hid hg
  go_enter Tryz.func61, Tryz.ntmps61
  go_wp2_with fail
  refine H1.out.mono ?_
  rintro e w1 ⟨⟨v, hv, rfl⟩, s1, o1⟩
  obtain ⟨hc, hz0, hz1⟩ := hf.out v hv
  have hc1 : w1.cell? ⟨g, v, none⟩ = some (.int .i64 (f v)) := by
    rw [World.cell?_of_block (w := w) (a := ⟨g, v, none⟩) (o1.2 g (World.block_lt_of_cell? w ⟨g, v, none⟩ hc) HG.out)]
    exact hc
  have O := Lib.hid o1
  have S := Lib.hid s1
  clear s1 o1 hc hg
  obtain ⟨z, hz⟩ : ∃ z : Nat, f v = z := ⟨(f v).toNat, by omega⟩
  rw [hz] at hc1 hz1
  have hzz : z < 4294967296 := by omega
  clear hz hz0 hz1
  go_wp2_with fail
  go_ret
  exact ⟨⟨z, hzz, rfl⟩, S.out, O.out⟩
end Go.Proofs.YtmiajfdhdpmeoaaGreatDoor
