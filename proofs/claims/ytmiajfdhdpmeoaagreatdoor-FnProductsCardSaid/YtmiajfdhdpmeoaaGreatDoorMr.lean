/-
  Texts of numbers, piece by piece, in plain Lean: what is read, and that a text that is read is short. No condition.
  ReadNumbers in the reference. Condition: a text of at most 2^20 bytes.
  ReadNumbers and ReadComplex's reader in the program. Condition: the listed variables read as listed, internal/bytealg.MaxLen holds some number; a text of at most 2^20 bytes.
-/
import Derived.Test.YtmiajfdhdpmeoaaGreatDoorPu
import Derived.Test.YtmiajfdhdpmeoaaGreatDoorRc
import Derived.Test.YtmiajfdhdpmeoaaGreatDoorMu
import Derived.Deep.RegionWith
namespace Go.Proofs.YtmiajfdhdpmeoaaGreatDoor
open Go.RowKit Go.Lib Go.Joins

theorem bitsN_idem (n : Nat) : bitsN (bitsN n) = bitsN n := by
  have h : ∀ x, bitsN x = if (fv .f32 x).isNone then 2143289344 else x := by
    intro x; unfold bitsN bitsI; split <;> rfl
  rw [h n]
  by_cases h1 : (fv .f32 n).isNone
  · rw [if_pos h1, h]; split <;> rfl
  · rw [if_neg h1, h, if_neg h1]
def chunks : Nat → List UInt8 → List (List UInt8)
  | 0, _ => []
  | k + 1, l => l.take 8 :: chunks k (l.drop 8)
theorem chunks_len (k : Nat) : ∀ l, (chunks k l).length = k := by
  induction k with
  | zero => intro l; rfl
  | succ k ih => intro l; rw [chunks, List.length_cons, ih]
theorem chunks_one {l : List UInt8} (h : l.length = 8) : chunks 1 l = [l] := by
  rw [chunks, chunks, List.take_of_length_le (by omega)]
/-- A piece that holds tg numbers. -/
def okC (tg : Nat) (p : ByteArray) : Bool := decide (p.size = 8 * tg) && (chunks tg p.data.toList).all (okW bitsN)
def numC (tg : Nat) (p : ByteArray) : List Nat := (chunks tg p.data.toList).map numW
theorem numC_len (tg : Nat) (p : ByteArray) : (numC tg p).length = tg := by unfold numC; rw [List.length_map, chunks_len]
theorem okC_size {tg : Nat} {p : ByteArray} (h : okC tg p = true) : p.size = 8 * tg := by
  unfold okC at h; simp only [Bool.and_eq_true, decide_eq_true_eq] at h; exact h.1
theorem okC_not {tg : Nat} {p : ByteArray} (h : ¬ p.size = 8 * tg) : okC tg p = false := by unfold okC; rw [decide_eq_false h, Bool.false_and]
theorem okC_one {p : ByteArray} (h : p.size = 8) : okC 1 p = okW bitsN p.data.toList ∧ numC 1 p = [numW p.data.toList] := by
  have hl : p.data.toList.length = 8 := by simpa using h
  unfold okC numC
  rw [chunks_one hl, decide_eq_true (by omega)]
  simp
/-- The first j pieces are good; their numbers. -/
def okG (tg : Nat) (Ps : List ByteArray) : Nat → Bool
  | 0 => true
  | j + 1 => okG tg Ps j && okC tg (Ps.getD j ⟨#[]⟩)
theorem okG_false {tg : Nat} {Ps : List ByteArray} {j n : Nat} (hj : j < n) (h : okC tg (Ps.getD j ⟨#[]⟩) = false) : okG tg Ps n = false := by
  induction n with
  | zero => omega
  | succ k ih =>
    by_cases hk : j = k
    · subst hk; unfold okG; rw [h, Bool.and_false]
    · unfold okG; rw [ih (by omega), Bool.false_and]
def numG (tg : Nat) (Ps : List ByteArray) (j : Nat) : List Nat := (Ps.take j).flatMap (numC tg)
theorem numG_step {tg : Nat} {Ps : List ByteArray} {j : Nat} (h : j < Ps.length) : numG tg Ps (j + 1) = numG tg Ps j ++ numC tg (Ps.getD j ⟨#[]⟩) := by
  unfold numG
  rw [List.take_add_one, List.getElem?_eq_getElem h, List.flatMap_append, List.getD_eq_getElem?_getD, List.getElem?_eq_getElem h]
  simp
theorem numG_len {tg : Nat} {Ps : List ByteArray} (j : Nat) (h : j ≤ Ps.length) : (numG tg Ps j).length = tg * j := by
  induction j with
  | zero => rfl
  | succ j ih => rw [numG_step (by omega), List.length_append, ih (by omega), numC_len, Nat.mul_succ]
def okF (tg : Nat) (Ps : List ByteArray) : Bool := decide (Ps.length ≤ 256) && okG tg Ps Ps.length
def numF (tg : Nat) (Ps : List ByteArray) : List Nat := if okF tg Ps = true then numG tg Ps Ps.length else []
theorem okF_short {tg : Nat} {Ps : List ByteArray} (h : 256 < Ps.length) : okF tg Ps = false := by unfold okF; rw [decide_eq_false (by omega), Bool.false_and]
theorem numF_not {tg : Nat} {Ps : List ByteArray} (h : okF tg Ps = false) : numF tg Ps = [] := by unfold numF; rw [h]; rfl
theorem okF_all {tg : Nat} {Ps : List ByteArray} (h : Ps.length ≤ 256) (ha : okG tg Ps Ps.length = true) : okF tg Ps = true ∧ numF tg Ps = numG tg Ps Ps.length := by
  have h1 : okF tg Ps = true := by unfold okF; rw [decide_eq_true h, ha]; rfl
  exact ⟨h1, by unfold numF; rw [h1]; rfl⟩
theorem okF_bad {tg : Nat} {Ps : List ByteArray} {j : Nat} (hj : j < Ps.length) (h : okC tg (Ps.getD j ⟨#[]⟩) = false) : okF tg Ps = false := by unfold okF; rw [okG_false hj h, Bool.and_false]

/-! ### A text that is read is short -/
theorem cutL_ne (l : List UInt8) : cutL l ≠ [] := by
  cases l with
  | nil => rw [cutL.eq_1]; simp
  | cons c r =>
    rw [cutL.eq_2]
    split
    · simp
    · cases cutL r <;> simp [onto]
theorem cutL_sum (l : List UInt8) : ((cutL l).map List.length).sum + (cutL l).length = l.length + 1 := by
  induction l with
  | nil => rfl
  | cons c r ih =>
    rw [cutL.eq_2]
    split
    · simp only [List.map_cons, List.sum_cons, List.length_cons, List.length_nil]; omega
    · have hne := cutL_ne r
      cases hc : cutL r with
      | nil => exact absurd hc hne
      | cons x xs =>
        rw [hc] at ih
        simp only [onto, List.map_cons, List.sum_cons, List.length_cons] at ih ⊢
        omega
theorem sum_same {m : Nat} {Ps : List ByteArray} (h : ∀ p ∈ Ps, p.size = m) : ((Ps.map (·.data.toList)).map List.length).sum = m * Ps.length := by
  induction Ps with
  | nil => simp
  | cons p r ih =>
    have h1 := h p (by simp)
    have h2 := ih (fun q hq => h q (by simp [hq]))
    simp only [List.map_cons, List.sum_cons, List.length_cons, h2, Nat.mul_succ]
    have : p.data.toList.length = m := by simpa using h1
    omega
theorem okG_at {tg : Nat} {Ps : List ByteArray} {n : Nat} (h : okG tg Ps n = true) {j : Nat} (hj : j < n) : okC tg (Ps.getD j ⟨#[]⟩) = true := by
  cases hb : okC tg (Ps.getD j ⟨#[]⟩)
  · rw [okG_false hj hb] at h; cases h
  · rfl
theorem okF_size {tg : Nat} {s : ByteArray} (h : okF tg (pcs s) = true) : s.size + 1 ≤ (8 * tg + 1) * 256 := by
  unfold okF at h
  simp only [Bool.and_eq_true, decide_eq_true_eq] at h
  have h1 : ∀ p ∈ pcs s, p.size = 8 * tg := by
    intro p hp
    obtain ⟨i, hi, rfl⟩ := List.getElem_of_mem hp
    have := okC_size (okG_at h.2 hi)
    rwa [List.getD_eq_getElem?_getD, List.getElem?_eq_getElem hi] at this
  have h2 := sum_same h1
  have h3 := cutL_sum s.data.toList
  have h4 : (pcs s).map (·.data.toList) = cutL s.data.toList := splitB_cut s
  rw [← h4, h2, List.length_map] at h3
  have h5 : s.data.toList.length = s.size := by simp
  rw [h5] at h3
  have h6 := Nat.mul_le_mul_left (8 * tg + 1) h.1
  rw [Nat.succ_mul] at h6
  omega

noncomputable def okS (tg : Nat) (s : ByteArray) : Bool := by classical exact if isNone s then true else okF tg (pcs s)
noncomputable def numS (tg : Nat) (s : ByteArray) : List Nat := by classical exact if isNone s then [] else numF tg (pcs s)
theorem numF_len (tg : Nat) (Ps : List ByteArray) : (numF tg Ps).length ≤ tg * 256 := by
  unfold numF
  split
  · rename_i h
    unfold okF at h
    simp only [Bool.and_eq_true, decide_eq_true_eq] at h
    rw [numG_len _ (Nat.le_refl _)]
    exact Nat.mul_le_mul_left _ h.1
  · simp
theorem numS_len (tg : Nat) (s : ByteArray) : (numS tg s).length ≤ tg * 256 := by
  unfold numS
  split
  · simp
  · exact numF_len _ _
def fvals (xs : List Nat) : List Value := xs.map (Value.float .f32)
theorem fvals_len (xs : List Nat) : (fvals xs).length = xs.length := by simp [fvals]
/-- What a reader of numbers hands back. -/
def readsF (tg : Nat) (s : ByteArray) (w w' : World) (e : Ending) : Prop := ∃ (a : Option Addr) (cap : Nat), e = .returned (.tuple #[.slice a (numS tg s).length cap, .bool (okS tg s)]) ∧ Below w.heap.size w w' ∧ rowV w' 28 w.heap.size a (fvals (numS tg s))
theorem readsF.mk {tg : Nat} {s : ByteArray} {w w' : World} {v : Value} {xs : List Nat} {b : Bool} (hb : Below w.heap.size w w') (ho : okS tg s = b) (hz : numS tg s = xs) (hown : ownV w' 28 w.heap.size v (fvals xs)) : readsF tg s w w' (.returned (.tuple #[v, .bool b])) := by
  subst ho hz
  obtain ⟨a, cap, rfl, hr⟩ := hown.row
  exact ⟨a, cap, by rw [fvals_len], hb, hr⟩
end Go.Proofs.YtmiajfdhdpmeoaaGreatDoor

namespace Go.Proofs.YtmiajfdhdpmeoaaGreatDoor
open Go.RowKit Go.Lib Go.Joins

theorem hexC_byte (p : ByteArray) (i : Nat) : hexC (p.data.toList.getD i 0) = if 48 ≤ byteAt p i ∧ byteAt p i ≤ 57 then some (byteAt p i - 48) else if 97 ≤ byteAt p i ∧ byteAt p i ≤ 102 then some (byteAt p i - 87) else none := rfl
theorem readF_byte (f : UInt8 → Option Nat) (l : List UInt8) (acc i : Nat) (h : i < l.length) : readF f acc (l.drop i) = match f (l.getD i 0) with
    | some d => readF f (16 * acc + d) (l.drop (i + 1))
    | none => none := by
  rw [List.drop_eq_getElem_cons h, readF, List.getD_eq_getElem?_getD, List.getElem?_eq_getElem h]; rfl
theorem okW_none {l : List UInt8} (h : readF hexC 0 l = none) : okW bitsN l = false := by unfold okW; rw [h]; simp
theorem okW_some {l : List UInt8} {n : Nat} (hl : l.length = 8) (h : readF hexC 0 l = some n) : okW bitsN l = decide (bitsN n = n) ∧ numW l = n := by
  unfold okW numW; rw [h, hl]; simp

end Go.Proofs.YtmiajfdhdpmeoaaGreatDoor

namespace Go.Proofs.YtmiajfdhdpmeoaaGreatDoor
open Go.RowKit Go.Lib Go.Joins

/-- The i-th eight bytes. -/
def ck (l : List UInt8) (i : Nat) : List UInt8 := (l.drop (8 * i)).take 8
theorem chunks_get (k : Nat) : ∀ (l : List UInt8) (i : Nat), i < k → (chunks k l)[i]? = some (ck l i) := by
  induction k with
  | zero => intro l i h; omega
  | succ k ih =>
    intro l i h
    rw [chunks]
    cases i with
    | zero => simp [ck]
    | succ i =>
      rw [List.getElem?_cons_succ, ih _ i (by omega)]
      unfold ck
      rw [List.drop_drop, show 8 + 8 * i = 8 * (i + 1) by omega]
theorem okC_badchunk {tg i : Nat} {p : ByteArray} (hi : i < tg) (h : okW bitsN (ck p.data.toList i) = false) : okC tg p = false := by
  unfold okC
  rw [Bool.and_eq_false_iff]
  right
  rw [List.all_eq_false]
  exact ⟨_, List.mem_of_getElem? (chunks_get tg _ i hi), by rw [h]; decide⟩
theorem okC_good {tg : Nat} {p : ByteArray} (h8 : p.size = 8 * tg) (h : ∀ i, i < tg → okW bitsN (ck p.data.toList i) = true) : okC tg p = true := by
  unfold okC
  rw [decide_eq_true h8, Bool.true_and, List.all_eq_true]
  intro x hx
  obtain ⟨i, hi, rfl⟩ := List.getElem_of_mem hx
  have hi' : i < tg := by rwa [chunks_len] at hi
  have := chunks_get tg p.data.toList i hi'
  rw [List.getElem?_eq_getElem hi, Option.some.injEq] at this
  rw [this]; exact h i hi'
theorem numC_step {tg i : Nat} {p : ByteArray} (hi : i < tg) : (numC tg p).take (i + 1) = (numC tg p).take i ++ [numW (ck p.data.toList i)] := by
  rw [List.take_add_one]
  unfold numC
  rw [List.getElem?_map, chunks_get tg _ i hi]; rfl
theorem hexU_of {l : List UInt8} (h : okW bitsN l = true) : readF hexU 0 l = some (numW l) := readF_le hexC_hexU _ _ _ (okW_read h).1
theorem okW_noU {l : List UInt8} (h : readF hexU 0 l = none) : okW bitsN l = false := by
  cases hb : okW bitsN l
  · rfl
  · rw [hexU_of hb] at h; cases h
theorem bitsN_lt {n : Nat} (h : n < 4294967296) : bitsN n < 4294967296 := (bitsN_eq h).2
/-- The text of what was read is the word: it is good, and what was read is its number. -/
theorem okW_same {l : List UInt8} {n : Nat} (hn : n < 4294967296) (h : readF hexU 0 l = some n) (he : hexL 8 (bitsN n) = l) : okW bitsN l = true ∧ numW l = n := by
  obtain ⟨h1, h2⟩ := okW_of_text (canon := bitsN) (bitsN_lt hn) (bitsN_idem n) he
  have h3 := hexU_of h1
  rw [h] at h3
  exact ⟨h1, (Option.some.inj h3).symm⟩
theorem okW_other {l : List UInt8} {n : Nat} (h : readF hexU 0 l = some n) (he : ¬ hexL 8 (bitsN n) = l) : okW bitsN l = false := by
  cases hb : okW bitsN l
  · rfl
  · have h1 := hexU_of hb
    rw [h] at h1
    have h2 : n = numW l := Option.some.inj h1
    have h3 := (okW_read hb).2
    rw [← h2] at h3
    exact absurd (by rw [h3, h2]; exact text_of_okW hb) he

set_option maxRecDepth 10000 in
set_option maxHeartbeats 2000000 in
theorem impl_readNumbers (s : ByteArray) (tg : Nat) (ht1 : 1 ≤ tg) (ht2 : tg ≤ 2) (w : World) (hs : s.size ≤ 1048576) (hm : Hid (MaxLenIs w)) (hd : Hid (Bru w)) (he : Hid (ErrS w)) :
    Calls Tryz.prog 37 #[.string s, .int .i64 tg] w fun e w' => readsF tg s w w' e := by
  by_cases hn : isNone s
  · have ho : okS tg s = true ∧ numS tg s = [] := ⟨if_pos hn, if_pos hn⟩
    have HO := Lib.hid ho
    have e := isNone_eq hn
    clear hn ho
    subst e
    go_enter Tryz.func37, Tryz.ntmps37
    go_wp2
    go_ret2
    exact readsF.mk (Below.refl _ _) HO.out.1 HO.out.2 (ownV.nil _ _ _)
  · have ho : okS tg s = okF tg (pcs s) ∧ numS tg s = numF tg (pcs s) := ⟨if_neg hn, if_neg hn⟩
    have HO := Lib.hid ho
    have hne : (s.toList == [110, 111, 110, 101]) = false := by
      rw [ByteArray.toList_eq, beq_eq_false_iff_ne]; exact hn
    have hpz : ∀ i, i < (pcs s).length → ((pcs s).getD i ⟨#[]⟩).size ≤ 1048576 := fun i hi => Nat.le_trans (pcs_size hi) hs
    have HPZ := Lib.hid hpz
    clear hn ho hpz
    by_cases hbig : (256 : Int) * (8 * (tg : Int) + 1) < (s.size : Int)
    · have hq : okF tg (pcs s) = false := by
        cases h : okF tg (pcs s)
        · rfl
        · have := okF_size h
          omega
      have HQ := Lib.hid hq
      clear hq
      go_enter Tryz.func37, Tryz.ntmps37
      go_wp2
      go_ret2
      exact readsF.mk (Below.refl _ _) (HO.out.1.trans HQ.out) (HO.out.2.trans (numF_not HQ.out)) (ownV.nil _ _ _)
    go_enter Tryz.func37, Tryz.ntmps37
    go_wp2_with fail
    refine (split_pcs s _ hs hm).mono ?_
    rintro e w1 ⟨g0, rfl, b1, HR1, hlen⟩
    have HB1 := Lib.hid b1
    generalize hPs : pcs s = Ps at *
    have HPs := Lib.hid hPs
    have hlen2 : Ps.length ≤ 1048577 := by have := hlen.out; omega
    clear hPs b1 hbig hne
    go_wp2_with fail
    go_loopg [6, 24] Ps.length (fun g o i wr => ∃ (j ln : Nat) (a : Option Addr) (cap : Nat), g + j = Ps.length ∧ o = .slice a ln cap ∧ i = .int .i64 j ∧ j ≤ 256 ∧ ln ≤ 512 ∧ Hid (ln = tg * j) ∧ Hid (okG tg Ps j = true) ∧ Hid (ownV wr 28 w.heap.size (.slice a ln cap) (fvals (numG tg Ps j))) ∧ Hid (Below w.heap.size w wr) ∧ Hid (∃ B, rowV wr 9 B (some ⟨g0, 0, none⟩) (Ps.map Value.string)))
    case atStart => exact ⟨0, 0, _, _, by omega, rfl, rfl, by omega, by omega, rfl, rfl, ownV.nil _ _ _, HB1.out, ⟨_, HR1.out⟩⟩
    case round =>
      obtain ⟨j, ln, a, cap, hj, rfl, rfl, hj256, hln512, hln, hok, hown, hb, hrow⟩ := hrel
      obtain ⟨B, hrow⟩ := hrow.out
      have HROW := Lib.hid hrow
      by_cases hlt : j < Ps.length
      · obtain ⟨gp, hgp, _, hcell⟩ := hrow.cell (i := j) (by simpa using hlt)
        cases hgp
        rw [str_cell hlt] at hcell
        have hbad := Lib.hid (okF_bad (tg := tg) (Ps := Ps) hlt)
        have hgood : okC tg (Ps.getD j ⟨#[]⟩) = true → okG tg Ps (j + 1) = true := fun h => by unfold okG; rw [hok.out, h]; rfl
        have HG := Lib.hid hgood
        have HN := Lib.hid (numG_step (tg := tg) hlt)
        have HLN := Lib.hid (numG_len (tg := tg) j (Nat.le_of_lt hlt))
        have HPJ := Lib.hid (HPZ.out j hlt)
        generalize Ps.getD j ⟨#[]⟩ = p at *
        clear hgood hrow
        by_cases h8 : p.size = 8 * tg
        · by_cases h256 : j = 256
          · have hq := okF_short (tg := tg) (Ps := Ps) (by omega)
            have HQ := Lib.hid hq
            have hpne : ((p.size : Int) != 8 * (tg : Int)) = false := by rw [bne_eq_false_iff_eq]; omega
            have hlne : ((ln : Int) == 256 * (tg : Int)) = true := by rw [beq_iff_eq]; have := hln.out; rw [h256] at this; rw [Nat.mul_comm] at this; omega
            clear hq h8 h256
            go_wp2_with fail
            go_ret2
            exact readsF.mk hb.out (HO.out.1.trans HQ.out) (HO.out.2.trans (numF_not HQ.out)) (ownV.nil _ _ _)
          · have hpne : ((p.size : Int) != 8 * (tg : Int)) = false := by rw [bne_eq_false_iff_eq]; omega
            have hlne : ((ln : Int) == 256 * (tg : Int)) = false := by
              rw [beq_eq_false_iff_ne]
              have h5 := hln.out
              have h6 := Nat.mul_le_mul_left tg (show j ≤ 255 by omega)
              omega
            have H8 := Lib.hid h8
            clear h8
            go_wp2_with fail
            clear hpne hlne
            go_loopg [6, 8] tg (fun g o wd w2 => ∃ (i ln2 : Nat) (a2 : Option Addr) (cap2 : Nat) (q : ByteArray), g + i = tg ∧ o = .slice a2 ln2 cap2 ∧ wd = .string q ∧ q.size ≤ 16 ∧ Hid (ln2 = ln + i) ∧ Hid (q.data.toList = p.data.toList.drop (8 * i)) ∧ Hid (q.size = 8 * tg - 8 * i) ∧ Hid (∀ m, m < i → okW bitsN (ck p.data.toList m) = true) ∧
              Hid (ownV w2 28 w.heap.size (.slice a2 ln2 cap2) (fvals (numG tg Ps j ++ (numC tg p).take i))) ∧ Hid (Below w.heap.size w w2) ∧ Hid (∃ B, rowV w2 9 B (some ⟨g0, 0, none⟩) (Ps.map Value.string)))
            case atStart => exact ⟨0, ln, a, cap, p, by omega, rfl, rfl, by have := H8.out; omega, rfl, rfl, by show _ = _; have := H8.out; omega, fun m hm => absurd hm (by omega), by rw [List.take_zero, List.append_nil]; exact hown.out, hb.out, ⟨_, HROW.out⟩⟩
            case round =>
              obtain ⟨i, ln2, a2, cap2, q, hi, rfl, rfl, hq16, hln2, hqd, hqs, hall, hown2, hb2, hrow2⟩ := hrel
              obtain ⟨B2, hrow2⟩ := hrow2.out
              have HROW2 := Lib.hid hrow2
              clear hrow2
              by_cases hlti : i < tg
              · have hq8 : 8 ≤ q.size := by have := hqs.out; omega
                have hemp : q.toList.isEmpty = false := by
                  rw [← decide_eq_emptyBytes]
                  exact decide_eq_false (fun h => by rw [h] at hq8; exact absurd hq8 (by decide))
                obtain ⟨t, ht⟩ : ∃ t, q.extract 0 8 = t := ⟨_, rfl⟩
                have hts : t.size = 8 := by rw [← ht, ByteArray.size_extract]; omega
                have htd : t.data.toList = ck p.data.toList i := by
                  rw [← ht]
                  unfold ck
                  rw [← hqd.out, extract_data]
                  simp
                have HTD := Lib.hid htd
                have HTS := Lib.hid hts
                have HE := Lib.hid (he.out.on hb2.out (Nat.le_refl _))
                have hszb := hb2.out.size
                have HFL : Hid ((fvals (numG tg Ps j ++ (numC tg p).take i)).length = ln2) := by
                  show _ = _
                  rw [fvals_len, List.length_append, HLN.out, List.length_take, numC_len, hln2.out, hln.out]; omega
                clear htd hts
                rcases hr : readF hexU 0 t.data.toList with _ | n
                · have hR := okW_noU hr
                  rw [HTD.out] at hR
                  have HQ := Lib.hid (hbad.out (okC_badchunk hlti hR))
                  have HR := Lib.hid hr
                  clear hR hr
                  go_wp2_with (go_at_call 59; refine (parse_not t HTS.out HR _ HE).mono ?_; rintro e w3 ⟨⟨tt, pp, rfl⟩, b3⟩)
                  have B3 := Lib.hid (hb2.out.trans (b3.mono hszb))
                  clear b3
                  go_region
                  all_goals
                    go_wp2_with fail
                    go_ret2
                    exact readsF.mk (belowD B3.out _) (HO.out.1.trans HQ.out) (HO.out.2.trans (numF_not HQ.out)) (ownV.nil _ _ _)
                · have hr2 := hr
                  rw [HTD.out] at hr2
                  have hn32 : n < 4294967296 := by
                    have h1 := readF_lt hexU_lt _ _ _ hr
                    have h2 : t.data.toList.length = 8 := by have := HTS.out; simpa using this
                    rw [h2] at h1
                    exact h1
                  have HR := Lib.hid hr
                  have HR2 := Lib.hid hr2
                  clear hr hr2
                  by_cases heq : hexT n = t
                  · have htl : hexL 8 (bitsN n) = ck p.data.toList i := by
                      rw [← HTD.out, ← heq]; unfold hexT; simp
                    have hok2 := okW_same hn32 HR2.out htl
                    have HK2 := Lib.hid hok2
                    have HST := Lib.hid (numC_step (p := p) hlti)
                    have HEQ := Lib.hid heq
                    have HX : Hid (∀ W, Hid (Bru W) → Calls Tryz.prog 35 #[.float .f32 n] W fun e w' => e = .returned (.string t) ∧ Below W.heap.size W w') := fun W h => by
                      have := impl_hexText n W hn32 h
                      rw [heq] at this
                      exact this
                    clear htl hok2 heq
                    go_wp2_with (go_at_call 59; refine (parse_yes t HTS.out n HR _).mono ?_; rintro e w3 ⟨rfl, b3⟩)
                    have B3 := Lib.hid (hb2.out.trans (b3.mono hszb))
                    have O3 := Lib.hid (hown2.out.on b3 (Nat.le_refl _))
                    have R3 := Lib.hid (HROW2.out.stays b3)
                    have D3 := Lib.hid (hd.out.on B3.out (Nat.le_refl _))
                    clear b3
                    go_region_with (go_at_call 35; refine (HX.out _ (by exact Lib.hid D3.out)).mono ?_; rintro e w4 ⟨rfl, b4⟩)
                    all_goals
                      have B4 := Lib.hid ((belowD B3.out 1).trans (b4.mono B3.out.size))
                      have O4 := Lib.hid ((O3.out.drewN 1).on b4 (Nat.le_refl _))
                      have R4 := Lib.hid ((show rowV w3.drew _ _ _ _ from R3.out).stays b4)
                      have hsz4 := B4.out.size
                      have hln514 : ln2 ≤ 514 := by have := hln2.out; omega
                      clear b4
                      go_wp2_with (at_builtin; (refine wpList_append_keep 63 28 (.float .f32 0) 4 Tryz.underlying63 info_f32 rfl (by decide) (.float .f32 n) rfl rfl (.tmp 62) (.tmp 64) rfl w.heap.size (.slice a2 ln2 cap2) (fvals (numG tg Ps j ++ (numC tg p).take i)) w4 _ (by rfl) (by rfl) (by rfl) O4.out hsz4 (by rw [HFL.out]; omega) ?_); intro ad cap' w' hown' hbel' hkeep; have R5 := Lib.hid (R4.out.keep O4.out (by decide) hkeep); have O5 := Lib.hid hown'; have B5 := Lib.hid (B4.out.trans hbel'); clear hown' hbel' hkeep)
                      go_roundg (tg - (i + 1))
                      case measure => omega
                      case rel =>
                        have O6 := O5.out
                        rw [HFL.out] at O6
                        have e1 : fvals (numG tg Ps j ++ (numC tg p).take (i + 1)) = fvals (numG tg Ps j ++ (numC tg p).take i) ++ [.float .f32 n] := by rw [HST.out, HK2.out.2]; simp [fvals]
                        refine ⟨i + 1, ln2 + 1, ad, cap', q.extract 8 q.size, by omega, by rw [HFL.out], rfl, by rw [ByteArray.size_extract]; omega, ?_, ?_, ?_, ?_, by rw [e1]; exact O6, B5.out, ⟨_, R5.out⟩⟩
                        · show _ = _; rw [hln2.out]; omega
                        · show _ = _; rw [show 8 * (i + 1) = 8 * i + 8 by omega, ← List.drop_drop, ← hqd.out, extract_data]; rw [List.take_of_length_le (by simp)]
                        · show _ = _; rw [ByteArray.size_extract, hqs.out]; omega
                        · intro m hm
                          by_cases hmi : m = i
                          · subst hmi; exact HK2.out.1
                          · exact hall.out m (by omega)
                  · have htl : ¬ hexL 8 (bitsN n) = ck p.data.toList i := by
                      rw [← HTD.out]
                      exact fun h => heq ((text_eq t (hexL 8 (bitsN n))).2 h)
                    have HQ := Lib.hid (hbad.out (okC_badchunk hlti (okW_other HR2.out htl)))
                    have hneq : ((hexT n).toList == t.toList) = false := by
                      rw [ByteArray.toList_eq, ByteArray.toList_eq, beq_eq_false_iff_ne]
                      exact fun h => heq (ByteArray.ext (Array.ext' h))
                    clear htl heq
                    have HX : Hid (∀ W, Hid (Bru W) → Calls Tryz.prog 35 #[.float .f32 n] W fun e w' => e = .returned (.string (hexT n)) ∧ Below W.heap.size W w') := fun W h => impl_hexText n W hn32 h
                    generalize hexT n = u at hneq HX
                    go_wp2_with (go_at_call 59; refine (parse_yes t HTS.out n HR _).mono ?_; rintro e w3 ⟨rfl, b3⟩)
                    have B3 := Lib.hid (hb2.out.trans (b3.mono hszb))
                    have D3 := Lib.hid (hd.out.on B3.out (Nat.le_refl _))
                    clear b3
                    go_region_with (go_at_call 35; refine (HX.out _ (by exact Lib.hid D3.out)).mono ?_; rintro e w4 ⟨rfl, b4⟩)
                    all_goals
                      have B4 := Lib.hid ((belowD B3.out 1).trans (b4.mono B3.out.size))
                      clear b4
                      go_wp2_with fail
                      go_ret2
                      exact readsF.mk B4.out (HO.out.1.trans HQ.out) (HO.out.2.trans (numF_not HQ.out)) (ownV.nil _ _ _)
              · obtain rfl : i = tg := by omega
                have hq0 : q.size = 0 := by have := hqs.out; omega
                have hq1 : q = ⟨#[]⟩ := by
                  apply ByteArray.ext
                  exact Array.eq_empty_of_size_eq_zero hq0
                have hgo := HG.out (okC_good H8.out hall.out)
                have HGO := Lib.hid hgo
                have htk : (numC i p).take i = numC i p := by rw [List.take_of_length_le (by rw [numC_len]; exact Nat.le_refl _)]
                have HTK := Lib.hid htk
                subst hq1
                clear hq0 hgo htk hqd hqs
                go_wp2_with fail
                go_roundg (Ps.length - (j + 1))
                case measure => omega
                case rel =>
                  refine ⟨j + 1, ln2, a2, cap2, by omega, rfl, by go_num, ?_, ?_, ?_, HGO.out, ?_, hb2.out, ⟨_, HROW2.out⟩⟩
                  · omega
                  · have h5 := hln2.out
                    have h6 := hln.out
                    have h7 := Nat.mul_le_mul_left i (show j ≤ 255 by omega)
                    omega
                  · show _ = _; rw [hln2.out, hln.out, Nat.mul_succ]
                  · rw [HN.out, ← HTK.out]; exact hown2.out
        · have HQ := Lib.hid (hbad.out (okC_not (tg := tg) (p := p) h8))
          have hpne : ((p.size : Int) != 8 * (tg : Int)) = true := by rw [bne_iff_ne]; omega
          have h8'' : ¬ (p.size : Int) = 8 * (tg : Int) := by omega
          clear h8
          go_wp2_with fail
          go_ret2
          exact readsF.mk hb.out (HO.out.1.trans HQ.out) (HO.out.2.trans (numF_not HQ.out)) (ownV.nil _ _ _)
      · have hjn : j = Ps.length := by omega
        have hq := okF_all (tg := tg) (Ps := Ps) (by omega) (by rw [← hjn]; exact hok.out)
        have HQ := Lib.hid hq
        have HJ := Lib.hid hjn
        clear hq hrow
        go_wp2
        go_ret2
        exact readsF.mk hb.out (HO.out.1.trans HQ.out.1) (HO.out.2.trans (HQ.out.2.trans (by rw [← HJ.out]))) hown.out
end Go.Proofs.YtmiajfdhdpmeoaaGreatDoor
