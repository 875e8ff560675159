/-
  ReadComplex in the reference. Condition: a text of at most 2^20 bytes.
  ReadComplex in the program. Condition: the listed variables read as listed, internal/bytealg.MaxLen holds some number; a text of at most 2^20 bytes.
-/
import Derived.Test.YtmiajfdhdpmeoaaGreatDoorMr
import Derived.Test.YtmiajfdhdpmeoaaGreatDoorCy
import Derived.Deep.RegionHeld3
import Derived.Deep.AppendLies
import Derived.IntWalk
namespace Go.Proofs.YtmiajfdhdpmeoaaGreatDoor
open Go.RowKit Go.Lib Go.Joins

theorem cvals_nil : cvals [] = [] := by simp [cvals]
/-- What is read of eight bytes. -/
def digV (l : List UInt8) : Nat := if okW bitsN l = true then numW l else 0
theorem digV_yes {l : List UInt8} (h : okW bitsN l = true) : digV l = numW l := if_pos h
theorem digV_no {l : List UInt8} (h : okW bitsN l = false) : digV l = 0 := by unfold digV; rw [h]; rfl

theorem okC_two {p : ByteArray} (h : p.size = 16) : okC 2 p = (okW bitsN (ck p.data.toList 0) && okW bitsN (ck p.data.toList 1)) ∧ numC 2 p = [numW (ck p.data.toList 0), numW (ck p.data.toList 1)] := by
  unfold okC numC
  have e : chunks 2 p.data.toList = [ck p.data.toList 0, ck p.data.toList 1] := by simp [chunks, ck]
  rw [e, decide_eq_true (show p.size = 8 * 2 by omega)]
  simp
/-- What a reader of complex numbers hands back. -/
def readsC (s : ByteArray) (w w' : World) (e : Ending) : Prop := ∃ (a : Option Addr) (cap : Nat), e = .returned (.tuple #[.slice a ((numS 2 s).length / 2) cap, .bool (okS 2 s)]) ∧ Below w.heap.size w w' ∧ rowV w' 24 w.heap.size a (cvals (numS 2 s))
theorem readsC.mk {s : ByteArray} {w w' : World} {v : Value} {xs : List Nat} {b : Bool} (hb : Below w.heap.size w w') (ho : okS 2 s = b) (hz : numS 2 s = xs) (hown : ownV w' 24 w.heap.size v (cvals xs)) : readsC s w w' (.returned (.tuple #[v, .bool b])) := by
  subst ho hz
  obtain ⟨a, cap, rfl, hr⟩ := hown.row
  exact ⟨a, cap, by rw [cvals_len], hb, hr⟩

end Go.Proofs.YtmiajfdhdpmeoaaGreatDoor

namespace Go.Proofs.YtmiajfdhdpmeoaaGreatDoor
open Go.RowKit Go.Lib Go.Joins

theorem okS_not {tg : Nat} {s : ByteArray} (h : okS tg s = false) : numS tg s = [] := by
  unfold okS at h
  unfold numS
  by_cases hn : isNone s
  · rw [if_pos hn] at h; cases h
  · rw [if_neg hn] at h ⊢; exact numF_not h
theorem numS_even (s : ByteArray) : ∃ m, (numS 2 s).length = 2 * m ∧ m ≤ 256 := by
  have h := numS_len 2 s
  unfold numS at h ⊢
  by_cases hn : isNone s
  · rw [if_pos hn]; exact ⟨0, rfl, by omega⟩
  · rw [if_neg hn] at h ⊢
    unfold numF at h ⊢
    split
    · rw [numG_len _ (Nat.le_refl _)]
      rename_i h1
      rw [if_pos h1, numG_len _ (Nat.le_refl _)] at h
      exact ⟨_, rfl, by omega⟩
    · exact ⟨0, rfl, by omega⟩
theorem fval_cell {xs : List Nat} {i : Nat} (h : i < xs.length) : (fvals xs).getD i undef = .float .f32 (xs.getD i 0) := by
  unfold fvals
  rw [List.getD_eq_getElem?_getD, List.getElem?_map, List.getElem?_eq_getElem h, List.getD_eq_getElem?_getD, List.getElem?_eq_getElem h]; rfl
theorem take_two {xs : List Nat} {j m : Nat} (hl : xs.length = 2 * m) (hj : j < m) : xs.take (2 * (j + 1)) = xs.take (2 * j) ++ [xs.getD (2 * j) 0, xs.getD (2 * j + 1) 0] := by
  rw [show 2 * (j + 1) = 2 * j + 1 + 1 by omega, List.take_add_one, List.take_add_one, List.getElem?_eq_getElem (by omega), List.getElem?_eq_getElem (by omega), List.getD_eq_getElem?_getD, List.getD_eq_getElem?_getD, List.getElem?_eq_getElem (by omega), List.getElem?_eq_getElem (by omega)]
  simp only [Option.toList_some, Option.getD_some, List.append_assoc, List.cons_append, List.nil_append]

theorem rowV.ne {w : World} {e e' : TypeId} {B B' g : Nat} {us : List Value} {v : Value} {vs : List Value} (h : rowV w e B (some ⟨g, 0, none⟩) us) (hown : ownV w e' B' v vs) (hne : (e == e') = false) : v.ownBlock ≠ some g := by
  rcases h with ⟨h, _⟩ | ⟨g1, hg1, hB, n, f, hn, hr, hf⟩
  · cases h
  · cases hg1
    intro hg
    obtain ⟨c, hc, _⟩ := hr
    rcases hown.2 with ⟨rfl, _⟩ | ⟨g', cap, cur, rfl, _, hg', _⟩
    · cases hg
    · cases hg
      rw [hc] at hg'
      injection hg' with h1
      injection h1 with _ h2 _
      rw [h2] at hne
      simp at hne

set_option maxRecDepth 10000 in
set_option maxHeartbeats 1000000 in
theorem impl_ReadComplex (s : ByteArray) (w : World) (hs : s.size ≤ 1048576) (hm : Hid (MaxLenIs w)) (hd : Hid (Bru w)) (he : Hid (ErrS w)) :
    Calls Tryz.prog 17 #[.string s] w fun e w' => readsC s w w' e := by
  have C := Lib.hid (impl_readNumbers s 2 (by decide) (by decide) w hs hm hd he)
  obtain ⟨m, hev, hm256⟩ := numS_even s
  cases hok : okS 2 s
  · have HO := Lib.hid hok
    have HZ := Lib.hid (okS_not hok)
    clear hok hev
    go_enter Tryz.func17, Tryz.ntmps17
    go_wp2_with fail
    refine C.out.mono ?_
    rintro e w1 ⟨a, cap, rfl, b1, hr⟩
    rw [HO.out]
    clear hr
    go_wp2
    go_ret2
    exact readsC.mk b1 HO.out HZ.out (by rw [cvals_nil]; exact ownV.nil _ _ _)
  · have HO := Lib.hid hok
    have HE := Lib.hid hev
    clear hok
    go_enter Tryz.func17, Tryz.ntmps17
    go_wp2_with fail
    refine C.out.mono ?_
    rintro e w1 ⟨a, cap, rfl, b1, hr⟩
    rw [HO.out]
    have HB1 := Lib.hid b1
    have HR1 := Lib.hid hr
    clear b1 hr hev
    generalize hxs : numS 2 s = xs at *
    have HXS := Lib.hid hxs
    obtain ⟨n, hn⟩ : ∃ n, xs.length = n := ⟨_, rfl⟩
    rw [hn] at HE ⊢
    have HN := Lib.hid hn
    have hn512 : n ≤ 512 := by have := HE.out; omega
    clear hxs hn
    go_wp2_with fail
    go_loopg [6, 7] m (fun g o i wr => ∃ (j z : Nat) (a2 : Option Addr) (cap2 : Nat), g + j = m ∧ o = .slice a2 j cap2 ∧ i = .int .i64 z ∧ z ≤ 512 ∧ Hid (z = 2 * j) ∧ Hid (ownV wr 24 w.heap.size (.slice a2 j cap2) (cvals (xs.take (2 * j)))) ∧ Hid (Below w.heap.size w wr) ∧ Hid (∃ B, rowV wr 28 B a (fvals xs)))
    case atStart => exact ⟨0, 0, _, _, by omega, rfl, rfl, by omega, rfl, by rw [Nat.mul_zero, List.take_zero, cvals_nil]; exact ownV.nil _ _ _, HB1.out, ⟨_, HR1.out⟩⟩
    case round =>
      obtain ⟨j, z, a2, cap2, hj, rfl, rfl, hz512, hz, hown, hb, hrow⟩ := hrel
      obtain ⟨B, hrow⟩ := hrow.out
      have HROW := Lib.hid hrow
      by_cases hlt : j < m
      · have hz1 : z + 1 < n := by have := hz.out; have := HE.out; omega
        obtain ⟨ga, rfl, _, hca⟩ := hrow.cell (i := z) (by rw [fvals_len, HN.out]; omega)
        obtain ⟨gb, hgb, _, hcb⟩ := hrow.cell (i := z + 1) (by rw [fvals_len, HN.out]; omega)
        cases hgb
        rw [fval_cell (by rw [HN.out]; omega)] at hca hcb
        have HT := Lib.hid (take_two (xs := xs) (j := j) (m := m) (HN.out.trans HE.out) hlt)
        rw [← hz.out] at HT
        generalize xs.getD z 0 = x at hca HT
        generalize xs.getD (z + 1) 0 = y at hcb HT
        have hzn : z < n := by omega
        have hsz := hb.out.size
        clear hrow
        obtain ⟨i0, hi0, hz0, hz1', hz2⟩ := info_parts info_c64
        have hlj : (cvals (xs.take (2 * j))).length = j := by rw [cvals_len, List.length_take, HN.out]; have := HE.out; omega
        have hown1 : wr.ownsRow w.heap.size 24 1 (.slice a2 j cap2) j (cvals (xs.take (2 * j))) := by
          have := hown.out
          unfold ownV at this
          rw [hlj] at this
          exact this
        have ag := HROW.out.ne hown.out (by decide)
        have lg : ga < wr.heap.size := World.block_lt_of_cell? wr _ hca
        have iz0 : (0 : Int) ≤ (z : Int) := by omega
        have iz1 : (z : Int) < (n : Int) := by omega
        have iz2 : (0 : Int) ≤ (z : Int) + 1 := by omega
        have iz3 : (z : Int) + 1 < (n : Int) := by omega
        have HLJ := Lib.hid hlj
        have hc2 : cvals (xs.take (2 * (j + 1))) = cvals (xs.take (2 * j)) ++ [.complex .f32 x y] := by
          rw [HT.out, hz.out]
          have hlt2 : (xs.take (2 * j)).length = 2 * j := by rw [List.length_take, HN.out, HE.out]; omega
          exact cvals_snoc (j := j) x y hlt2
        have HC2 := Lib.hid hc2
        clear hc2
        clear hlj
        generalize cvals (xs.take (2 * j)) = vs at *
        have hmax : j ≤ maxLen ∧ j + 1 ≤ maxLen := ⟨Nat.le_trans (show j ≤ 1000 by omega) (by decide +kernel), Nat.le_trans (show j + 1 ≤ 1000 by omega) (by decide +kernel)⟩
        have hby : (j + 1) * 8 ≤ 140737488355328 := by omega
        have hszw : w.heap.size ≤ wr.heap.size + 1 := by omega
        have hfar : ga < wr.heap.size + 1 := by omega
        have iw : IntKind.i64.wrap ((z : Int) + 1) = (z : Int) + 1 := IntWalk.i64_in _ (by omega)
        have it : ((z : Int) + 1).toNat = z + 1 := by omega
        go_wp2_with fail
        go_region_held3 (fun w' => w'.cell? ⟨ga, z, none⟩ = some (.float .f32 x) ∧ w'.cell? ⟨ga, z + 1, none⟩ = some (.float .f32 y))
          (first
            | go_keep
            | (go_split_ands
               refine ⟨?_, ?_⟩
               · (rw [hgrow.cell_far _ (by simp; exact hfar) (Ne.symm ag)]; assumption)
               · (rw [hgrow.cell_far _ (by simp; exact hfar) (Ne.symm ag)]; assumption)))
          ((refine step_append_lies _ (by rfl) _ _ _ (by rfl) w.heap.size 24 i0 _ 1 8 Tryz.underlying25 hi0 hz0 hz1' hz2 rfl (by decide) (.slice a2 j cap2) j vs (by rfl) ((hown1.alloc _).drew)
              ⟨wr.heap.size, 0, none⟩ 1 1 [.complex .f32 x y] (by rfl) (by rfl) (World.news_of_block (cs := #[.complex .f32 x y]) (t := 24) (fr := (0, 0)) (heap_alloc_new wr _)) (by simp [Value.oneCell'])
              (by decide) hmax.2 hby (by simp; exact hszw) (wr.heap.size + 1) (by simp) ?_; intro gg cap3 w3 hown3 hgrow hat hlt3))
        clear iw it
        have B3 : Hid (Below w.heap.size wr w3) := (belowD ((Below.refl w.heap.size wr).alloc hsz _) 1).grown hgrow (by show w.heap.size ≤ (wr.alloc _).heap.size; rw [World.size_alloc]; exact hszw) (fun k hk => (World.ownsRow.lt hown1 k hk).1)
        have R3 : Hid (rowV w3 28 B (some ⟨ga, 0, none⟩) (fvals xs)) := HROW.out.keep hown.out (by decide) (fun k hk hne => (hgrow.block k (by show k < (wr.alloc _).heap.size; rw [World.size_alloc]; omega) hne).trans (((Below.refl wr.heap.size wr).alloc (Nat.le_refl _) _).block k hk))
        have O3 : Hid (ownV w3 24 w.heap.size (.slice (some ⟨gg, 0, none⟩) (j + 1) cap3) (vs ++ [.complex .f32 x y])) := by
          show ownV _ _ _ _ _
          unfold ownV
          rw [List.length_append, HLJ.out]
          exact hown3
        clear hgrow hown3 hat hlt3
        go_wp2_with fail
        go_roundg (gk - 1)
        case measure => omega
        case rel => exact ⟨j + 1, z + 2, _, cap3, by omega, rfl, by go_num, by have := HE.out; have := hz.out; omega, by show _ = _; rw [hz.out]; omega, by rw [HC2.out]; exact O3.out, hb.out.trans B3.out, ⟨_, R3.out⟩⟩
      · obtain rfl : j = m := by omega
        have hzn : ¬ z < n := by have := hz.out; have := HE.out; omega
        have hge : (n : Int) ≤ z := by omega
        have htk : cvals (xs.take (2 * j)) = cvals xs := by rw [List.take_of_length_le (by rw [HN.out, HE.out]; exact Nat.le_refl _)]
        have HTK := Lib.hid htk
        clear htk hrow
        go_wp2_with fail
        go_ret2
        exact readsC.mk hb.out HO.out HXS.out (by rw [← HTK.out]; exact hown.out)
end Go.Proofs.YtmiajfdhdpmeoaaGreatDoor
