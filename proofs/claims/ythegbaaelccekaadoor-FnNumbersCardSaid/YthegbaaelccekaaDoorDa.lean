/-
  Decimal in the reference: digits laid one before another; in the program: strconv.FormatInt's contract. Condition: the table internal/strconv.uint64pow10 reads as listed (for the program's).
-/
import Derived.Test.YthegbaaelccekaaDoorShelf
import Derived.Test.YthegbaaelccekaaDoorChecked
import Derived.Lib.ItoaNum
import Derived.Lib.ItoaMem
import Derived.Lib.ItoaLen
import Derived.Lib.UnsafeStr
import Derived.Lib.BufferWrite
import Derived.Lib.Hide
import Derived.WalkKit
import Derived.WalkLawsBesides
import Derived.Deep.LoopGhost
import Derived.OwnWalk
import Derived.Deep.AppendLies
import Derived.Laws.IdiomStrings
namespace Go.Proofs.YthegbaaelccekaaDoor
open Go.RowKit Go.Lib

/-- Behind some rounds: l stands behind r's digits. -/
def Dig (u r : Nat) (l : List UInt8) : Prop := if r = 0 ∧ l ≠ [] then decDigits u = l else decDigits u = decDigits r ++ l
theorem Dig.start (u : Nat) : Dig u u [] := by unfold Dig; simp
theorem Dig.step {u r : Nat} {l : List UInt8} (h : Dig u r l) (hr : ¬ (r = 0 ∧ l ≠ [])) : Dig u (r / 10) (UInt8.ofNat (48 + r % 10) :: l) := by
  unfold Dig at h
  rw [if_neg hr] at h
  unfold Dig
  rw [decDigits.eq_1 r] at h
  by_cases h10 : r < 10
  · rw [dif_pos h10] at h
    have : r / 10 = 0 := by omega
    have e : r % 10 = r := by omega
    rw [if_pos ⟨this, by simp⟩, h, e]; rfl
  · rw [dif_neg h10] at h
    rw [if_neg (by omega), h]
    simp
theorem Dig.done {u r : Nat} {l : List UInt8} (h : Dig u r l) (hr : r = 0 ∧ l ≠ []) : decDigits u = l := by
  unfold Dig at h; rwa [if_pos hr] at h

/-! ### A list of bytes of the call's own -/
def ownB (w : World) (B : Nat) (v : Value) (l : List UInt8) : Prop := w.ownsRow B 5 1 v l.length (byteCells l)
theorem byteCells_len (l : List UInt8) : (byteCells l).length = l.length := by simp [byteCells]
theorem byteCells_get (l : List UInt8) (j : Nat) (h : j < l.length) : (byteCells l)[j]? = some (.int .u8 (l[j].toNat : Nat)) := by
  unfold byteCells
  rw [List.getElem?_map, List.getElem?_eq_getElem h]; rfl
theorem ownB.form {w : World} {B : Nat} {v : Value} {l : List UInt8} (h : ownB w B v l) (hn : 0 < l.length) : ∃ g cap, v = .slice (some ⟨g, 0, none⟩) l.length cap ∧ B ≤ g ∧ g < w.heap.size ∧ (∀ j u, (byteCells l)[j]? = some u → w.cell? ((⟨g, 0, none⟩ : Addr).add j) = some u) := by
  obtain ⟨g, cap, rfl, h1, h2⟩ := World.ownsRow.form h hn
  refine ⟨g, cap, rfl, h1, h2, fun j u hj => ?_⟩
  have hlt : j < l.length := by
    apply Nat.lt_of_not_le; intro hle
    rw [List.getElem?_eq_none (by rw [byteCells_len]; exact hle)] at hj; cases hj
  have e : (⟨g, 0, none⟩ : Addr).add j = ⟨g, j, none⟩ := by unfold Addr.add; split <;> simp_all
  rw [e, World.ownsRow.cellAt h j (by omega)]
  exact hj
theorem info_u8 : (Tryd.prog.info? 5).map (fun i => (i.zero, i.size, i.bytes)) = some (some (.int .u8 0), 1, 1) := by kernel_rfl

theorem lt_cell {w : World} {a : Addr} {v : Value} (h : w.cell? a = some v) : a.block < w.heap.size := by
  apply Nat.lt_of_not_le
  intro hge
  unfold World.cell? at h
  rw [Array.getElem?_eq_none hge] at h
  cases h

theorem ownB.cells {w : World} {B g n cap : Nat} {l : List UInt8} (h : ownB w B (.slice (some ⟨g, 0, none⟩) n cap) l) (hn : 0 < l.length) : ∀ j u, (byteCells l)[j]? = some u → w.cell? ((⟨g, 0, none⟩ : Addr).add j) = some u := by
  obtain ⟨g1, cap1, e, _, _, hc⟩ := h.form hn
  cases e
  exact hc
theorem conv_cells {w : World} {g n cap : Nat} {l : List UInt8} (hn : l.length = n) (hc : ∀ j u, (byteCells l)[j]? = some u → w.cell? ((⟨g, 0, none⟩ : Addr).add j) = some u) :
    (convert 49 9 (.slice (some ⟨g, 0, none⟩) n cap)).run Tryd.prog w = .ok (.string ⟨l.toArray⟩) w := by
  subst hn
  exact run_convert_bytes_back w 49 9 5 _ cap l Tryd.underlying49 Tryd.underlying5 Tryd.underlying9 (fun j hj => hc j _ (byteCells_get l j hj))

/-- A byte put before a list. -/
theorem wpList_append_before {ops : Array Oper} {rest : List Oper} {o : Oper} {a : Act} {Q : Exit → Act → World → Prop} (hgd : o.guard = none) (s x : Operand)
    (ho : o.op = .call { callee := .builtin .append, args := #[s, x], argTypes := #[49, 49] }) (B : Nat) (W : World) (z : Int) (b : UInt8) (hzb : z = (b.toNat : Nat)) (g g0 n c : Nat) (l : List UInt8)
    (hs : a.eval s = .slice (some ⟨g, 0, none⟩) 1 1) (hx : a.eval x = .slice (some ⟨g0, 0, none⟩) n c) (hg : W.heap.size = g) (hn : l.length = n)
    (hc : ∀ j u, (byteCells l)[j]? = some u → W.cell? ((⟨g0, 0, none⟩ : Addr).add j) = some u) (hB : B ≤ W.heap.size) (hl : n ≤ 1000000)
    (h : ∀ g' cap w', ownB w' B (.slice (some ⟨g', 0, none⟩) (n + 1) cap) (b :: l) → Below B W w' → wpList Tryd.prog ops Q rest (a.put o.dst (.slice (some ⟨g', 0, none⟩) (n + 1) cap)) w') :
    wpList Tryd.prog ops Q (o :: rest) a (W.alloc (.cells #[.int .u8 z] 5)) := by
  subst hg hn hzb
  obtain ⟨i0, hi, hz0, hz1, hz2⟩ := info_parts info_u8
  have hown : ownB (W.alloc (.cells #[.int .u8 (b.toNat : Nat)] 5)) B (.slice (some ⟨W.heap.size, 0, none⟩) 1 1) [b] :=
    World.ownsRow_lit W #[.int .u8 (b.toNat : Nat)] 1 hB (by decide) rfl
  refine wpList_append_own _ hgd s x 49 ho B 5 i0 (.int .u8 0) 1 1 Tryd.underlying49 hi hz0 hz1 hz2 rfl (by decide) _ 1 (byteCells [b]) hs hown ⟨g0, 0, none⟩ l.length c (byteCells l) hx (by rw [byteCells_len, Nat.mul_one]) ?_ (byteCells_one l) (by unfold maxLen; omega) (by omega) (by rw [World.size_alloc]; omega) ?_
  · intro j u hj
    have h5 := hc j u hj
    have h6 := lt_cell h5
    rw [((Below.refl W.heap.size W).alloc (Nat.le_refl _) (.cells #[.int .u8 (b.toNat : Nat)] 5)).cell h6]
    exact h5
  · intro v' w' h1 h2 _
    have h3 : ownB w' B v' (b :: l) := by
      unfold ownB
      rw [List.length_cons, Nat.add_comm]
      exact h1
    obtain ⟨g', cap, rfl, _⟩ := ownB.form h3 (by simp)
    exact h g' cap w' (by simpa using h3) (((Below.refl B W).alloc hB _).grown h2 (by rw [World.size_alloc]; omega) (fun k hk => (World.ownsRow.lt hown k hk).1))

theorem Dig.len {u r : Nat} {l : List UInt8} (h : Dig u r l) (hu : u ≤ 9223372036854775808) : l.length ≤ 21 := by
  have h1 : l.length ≤ (decDigits u).length := by
    unfold Dig at h; split at h <;> rw [h] <;> simp
  by_cases h0 : 1 ≤ u
  · have := itoa_length_le (-(u : Int)) (by omega) (by omega)
    rw [itoa_neg u h0, List.length_cons] at this
    omega
  · have : u = 0 := by omega
    subst this
    rw [decDigits.eq_1] at h1
    simp at h1
    omega

set_option maxRecDepth 10000 in
set_option maxHeartbeats 1000000 in
theorem spec_l01Dec (n : Int) (w : World) (h0 : -9223372036854775808 ≤ n) (h1 : n ≤ 9223372036854775807) : Calls Tryd.prog 50 #[.int .i64 n] w fun e w' => e = .returned (.string ⟨(itoa n).toArray⟩) ∧ Below w.heap.size w w' := by
  go_enter Tryd.func50, Tryd.ntmps50
  go_wp2
  go_loopg [3, 4] (n.natAbs + 1) (fun g o r wr => ∃ (l : List UInt8) (x : Int) (gb cap : Nat), o = .slice (some ⟨gb, 0, none⟩) l.length cap ∧ r = .int .i64 x ∧ ((x = 0 ∧ l ≠ []) ∨ x.natAbs < g) ∧ ((0 ≤ n ∧ 0 ≤ x ∧ x ≤ n) ∨ (n < 0 ∧ x ≤ 0 ∧ n ≤ x)) ∧ Hid (Dig n.natAbs x.natAbs l) ∧ Hid (∀ j u, (byteCells l)[j]? = some u → wr.cell? ((⟨gb, 0, none⟩ : Addr).add j) = some u) ∧ Hid (Below w.heap.size w wr))
  case atStart => exact ⟨[], n, w.heap.size, 0, rfl, rfl, Or.inr (by omega), by omega, Dig.start _, (fun j u hj => by simp [byteCells] at hj), (Below.refl _ w).alloc (Nat.le_refl _) _⟩
  case round =>
    obtain ⟨l, x, gb, cap, rfl, rfl, hgk, hs, hd, hc, hb⟩ := hrel
    have hL := hd.out.len (by omega)
    have hW := Lib.hid hb.out.size
    by_cases hz : x = 0 ∧ l ≠ []
    · obtain ⟨rfl, hl0⟩ := hz
      have hl1 : ((l.length : Int) == 0) = false := by have := List.length_pos_iff.2 hl0; rw [beq_eq_false_iff_ne]; omega
      have hdd := hd.out.done ⟨rfl, hl0⟩
      clear hl0 hgk hs hd
      have hcv := conv_cells (cap := cap) rfl hc.out
      by_cases hn : n < 0
      · have e : itoa n = 45 :: l := by unfold itoa; rw [if_pos hn, hdd]
        have E := Lib.hid e
        clear e hdd
        go_wp2_with (at_builtin; go_loud (refine wpList_append_before rfl (.tmp 31) (.tmp 32) rfl w.heap.size wr 45 45 (by decide) _ gb l.length cap l rfl rfl rfl rfl hc.out hW.out (by omega) ?_); intro g' cap' w' hown hbel; go_loud (have hcv' := conv_cells (cap := cap') (n := l.length + 1) (by simp) (hown.cells (by simp))))
        go_ret
        exact ⟨by rw [E.out]; rfl, hb.out.trans hbel⟩
      · have e : itoa n = l := by unfold itoa; rw [if_neg hn, ← hdd]; congr 1; omega
        have E := Lib.hid e
        clear e hdd
        go_wp2
        go_ret
        exact ⟨by rw [E.out]; rfl, hb.out⟩
    · have hz' : ¬ (x.natAbs = 0 ∧ l ≠ []) := fun h => hz ⟨by omega, h.2⟩
      have hd1 := hd.out.step hz'
      generalize hb1 : UInt8.ofNat (48 + x.natAbs % 10) = b at hd1
      have hb2 : b.toNat = 48 + x.natAbs % 10 := by rw [← hb1, UInt8.toNat_ofNat']; omega
      have D1 := Lib.hid hd1
      clear hb1 hd1
      rcases hs with ⟨hn, hx, hxn⟩ | ⟨hn, hx, hxn⟩
      · have hz1 : (48 + x % 10 : Int) = (b.toNat : Nat) := by omega
        have hz2 : x.natAbs / 10 = (x / 10).natAbs := by omega
        have hz3 : x / 10 = 0 ∨ (x / 10).natAbs < gk - 1 := by
          rcases hgk with ⟨h, _⟩ | h
          · exact Or.inl (by omega)
          · by_cases h9 : x / 10 = 0
            · exact Or.inl h9
            · exact Or.inr (by omega)
        have hz4 : 0 < gk := by
          rcases hgk with h | h
          · exact absurd h hz
          · omega
        have HZ := Lib.hid hz1
        have HZ2 := Lib.hid hz2
        have HZ3 := Lib.hid hz3
        have HZ4 := Lib.hid hz4
        clear hz1 hz2 hb2 hz' hz3 hz4 hgk
        by_cases hl0 : l = []
        · subst hl0
          clear hz
          go_wp2
          go_roundg (gk - 1)
          case measure => have := HZ4.out; omega
          case rel =>
            refine ⟨[b], x / 10, _, _, rfl, rfl, HZ3.out.imp (fun h => ⟨h, by simp⟩) id, Or.inl ⟨hn, by omega, by omega⟩, HZ2.out ▸ D1.out, ?_, ?_⟩
            · intro j u hj
              match j, hj with
              | 0, hj => simp [byteCells] at hj; subst hj; simp [Addr.add, HZ.out]
            · exact hb.out.alloc hW.out _
        · have hl1 : ((l.length : Int) == 0) = false := by have := List.length_pos_iff.2 hl0; rw [beq_eq_false_iff_ne]; omega
          have hx0 : (x != 0) = true := by rw [bne_iff_ne]; exact fun h => hz ⟨h, hl0⟩
          have HL0 := Lib.hid hl0
          clear hl0 hz
          go_wp2_with (at_builtin; go_loud (refine wpList_append_before rfl (.tmp 24) (.tmp 25) rfl w.heap.size wr _ b HZ.out _ gb l.length cap l rfl rfl rfl rfl hc.out hW.out (by omega) ?_); intro g' cap' w' hown hbel)
          go_roundg (gk - 1)
          case measure => have := HZ4.out; omega
          case rel => exact ⟨b :: l, x / 10, _, _, rfl, rfl, HZ3.out.imp (fun h => ⟨h, by simp⟩) id, Or.inl ⟨hn, by omega, by omega⟩, HZ2.out ▸ D1.out, hown.cells (by simp), hb.out.trans hbel⟩
      · obtain ⟨y, rfl⟩ : ∃ y : Nat, x = -(y : Int) := ⟨x.natAbs, by omega⟩
        have ht : (-(y : Int)).tmod 10 = -((y % 10 : Nat) : Int) := by rw [Int.neg_tmod]; rfl
        have hq : (-(y : Int)).tdiv 10 = -((y / 10 : Nat) : Int) := by rw [Int.neg_tdiv]; rfl
        have hm := Nat.mod_lt y (show 0 < 10 by omega)
        have hqy : y / 10 ≤ y ∧ (y ≠ 0 → y / 10 < y) := ⟨Nat.div_le_self _ _, fun h => Nat.div_lt_self (by omega) (by omega)⟩
        have hny : (-(y : Int)).natAbs = y := by omega
        rw [hny] at hb2 D1 hgk
        have hz4 : 0 < gk := by
          rcases hgk with h | h
          · exact absurd h hz
          · omega
        generalize y % 10 = m at ht hm hb2
        generalize y / 10 = q at hq hqy D1
        have hz3 : -(q : Int) = 0 ∨ (-(q : Int)).natAbs < gk - 1 := by
          rcases hgk with ⟨h, _⟩ | h
          · exact Or.inl (by omega)
          · by_cases h9 : q = 0
            · exact Or.inl (by omega)
            · exact Or.inr (by have := hqy.2 (by omega); omega)
        have hq2 : (-(q : Int)).natAbs = q := by omega
        have HZ3 := Lib.hid hz3
        have HZ4 := Lib.hid hz4
        have HQ2 := Lib.hid hq2
        have HQY := Lib.hid hqy.1
        have hqb : q ≤ 9223372036854775808 := by have := hqy.1; omega
        clear hz' hz3 hz4 hgk hq2 hny hqy
        by_cases hl0 : l = []
        · subst hl0
          clear hz
          go_wp2
          all_goals
            go_roundg (gk - 1)
            case measure => have := HZ4.out; omega
            case rel =>
              refine ⟨[b], -(q : Int), _, _, rfl, rfl, HZ3.out.imp (fun h => ⟨h, by simp⟩) id, Or.inr ⟨hn, by omega, by have := HQY.out; omega⟩, HQ2.out.symm ▸ D1.out, ?_, hb.out.alloc hW.out _⟩
              intro j u hj
              match j, hj with
              | 0, hj => simp [byteCells] at hj; subst hj; simp [Addr.add]; omega
        · have hl1 : ((l.length : Int) == 0) = false := by have := List.length_pos_iff.2 hl0; rw [beq_eq_false_iff_ne]; omega
          have hx0 : (-(y : Int) != 0) = true := by rw [bne_iff_ne]; exact fun h => hz ⟨h, hl0⟩
          have HL0 := Lib.hid hl0
          clear hl0 hz
          go_wp2_with (at_builtin; refine wpList_append_before rfl (.tmp 24) (.tmp 25) rfl w.heap.size wr _ b (by omega) _ gb l.length cap l rfl rfl rfl rfl hc.out hW.out (by omega) ?_; intro g' cap' w' hown hbel)
          all_goals
            go_roundg (gk - 1)
            case measure => have := HZ4.out; omega
            case rel => exact ⟨b :: l, -(q : Int), _, _, rfl, rfl, HZ3.out.imp (fun h => ⟨h, by simp⟩) id, Or.inr ⟨hn, by omega, by have := HQY.out; omega⟩, HQ2.out.symm ▸ D1.out, hown.cells (by simp), hb.out.trans hbel⟩
end Go.Proofs.YthegbaaelccekaaDoor
