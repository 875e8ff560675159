/-
  ListText in the reference. Condition: lengths below 2^31.
-/
import Derived.Test.YthegbaaelccekaaDoorIa
import Derived.Lib.Join
namespace Go.Proofs.YthegbaaelccekaaDoor
open Go.RowKit Go.Lib Go.Joins

def inV (z : Int) : Bool := decide (-1000000000000000 ≤ z) && decide (z ≤ 1000000000000000)
/-- The first j are not too great. -/
def allV (zs : List Int) : Nat → Bool
  | 0 => true
  | j + 1 => allV zs j && inV (zs.getD j 0)
theorem allV_false {zs : List Int} {j n : Nat} (hj : j < n) (h : inV (zs.getD j 0) = false) : allV zs n = false := by
  induction n with
  | zero => omega
  | succ k ih =>
    by_cases hk : j = k
    · subst hk; unfold allV; rw [h, Bool.and_false]
    · unfold allV; rw [ih (by omega), Bool.false_and]
theorem allV_at {zs : List Int} {n : Nat} (h : allV zs n = true) {j : Nat} (hj : j < n) : -1000000000000000 ≤ zs.getD j 0 ∧ zs.getD j 0 ≤ 1000000000000000 := by
  cases hb : inV (zs.getD j 0)
  · rw [allV_false hj hb] at h; cases h
  · simpa [inV] using hb
def okT (zs : List Int) (n : Nat) : Bool := allV zs n && decide (n ≤ 64)
def noneL : List UInt8 := [110, 111, 110, 101]
def textL (zs : List Int) : List UInt8 := if zs = [] then noneL else join (zs.map itoa) [44]
def outT (zs : List Int) (n : Nat) : List UInt8 := if okT zs n = true then textL zs else []
/-- The text of the first j. -/
def textN (zs : List Int) (j : Nat) : List UInt8 := join ((zs.take j).map itoa) [44]
theorem textN_step {zs : List Int} {j : Nat} (h0 : 1 ≤ j) (h : j < zs.length) : textN zs (j + 1) = textN zs j ++ (44 :: itoa (zs.getD j 0)) := by
  unfold textN
  rcases zs with _ | ⟨z, r⟩
  · simp at h
  · obtain ⟨k, rfl⟩ : ∃ k, j = k + 1 := ⟨j - 1, by omega⟩
    have hk : k < r.length := by simpa using h
    rw [List.take_succ_cons, List.take_succ_cons, List.map_cons, List.map_cons, join_cons, join_cons, List.map_take, List.map_take,
      joinTail_take_succ [44] (r.map itoa) k (itoa (r.getD k 0)) (by rw [List.getElem?_map, List.getElem?_eq_getElem hk, List.getD_eq_getElem?_getD, List.getElem?_eq_getElem hk]; rfl)]
    simp
theorem textN_one {zs : List Int} (h : 1 ≤ zs.length) : textN zs 1 = itoa (zs.getD 0 0) := by
  rcases zs with _ | ⟨z, r⟩
  · simp at h
  · unfold textN; rw [List.take_succ_cons, List.take_zero, List.map_cons, List.map_nil, join_one]; rfl
theorem textN_all {zs : List Int} (h : 1 ≤ zs.length) : textN zs zs.length = textL zs := by
  unfold textN textL
  rw [List.take_length, if_neg (by intro e; rw [e] at h; simp at h)]

theorem cat3 (l m : List UInt8) : (⟨l.toArray⟩ ++ (⟨#[44]⟩ ++ ⟨m.toArray⟩) : ByteArray) = ⟨(l ++ 44 :: m).toArray⟩ := by apply ByteArray.ext; simp

theorem spec_l01List (a : Option Addr) (n c : Nat) (zs : List Int) (w : World) (hn : zs.length = n) (ha : Hid (ils w a zs)) (hx : n < 2147483648) :
    Calls Tryd.prog 55 #[.slice a n c] w fun e w' => e = .returned (.bool (okT zs n)) ∧ w' = w := by
  have HN := Lib.hid hn
  clear hn
  go_enter Tryd.func55, Tryd.ntmps55
  go_wp2
  go_loopg [3] n (fun g i wr => ∃ j : Nat, g + j = n ∧ i = .int .i64 j ∧ Hid (allV zs j = true) ∧ wr = w)
  case atStart => exact ⟨0, by omega, rfl, rfl, rfl⟩
  case round =>
    obtain ⟨j, hj, rfl, hall, rfl⟩ := hrel
    by_cases hlt : j < n
    · obtain ⟨ba, oa, rfl, hca⟩ := ha.out j (by rw [HN.out]; exact hlt)
      cases hb : inV (zs.getD j 0)
      · have HF : Hid (okT zs n = false) := by show _ = _; unfold okT; rw [allV_false hlt hb, Bool.false_and]
        generalize zs.getD j 0 = x at hca hb
        have HB := Lib.hid (show (decide (-1000000000000000 ≤ x) && decide (x ≤ 1000000000000000)) = false from hb)
        clear hb
        go_wp2_with (go_at_call 85; refine (spec_l00InD _ _ _ _).mono ?_; rintro e w' ⟨he, rfl⟩; rw [HB.out] at he; subst he)
        go_ret
        exact ⟨by rw [HF.out]; rfl, rfl⟩
      · have HJ : Hid (allV zs (j + 1) = true) := by show _ = _; unfold allV; rw [hall.out, hb]; rfl
        generalize zs.getD j 0 = x at hca hb
        have HB := Lib.hid (show (decide (-1000000000000000 ≤ x) && decide (x ≤ 1000000000000000)) = true from hb)
        clear hb
        go_wp2_with (go_at_call 85; refine (spec_l00InD _ _ _ _).mono ?_; rintro e w' ⟨he, rfl⟩; rw [HB.out] at he; subst he)
        go_roundg (gk - 1)
        case measure => omega
        case rel => exact ⟨j + 1, by omega, by go_num, HJ, rfl⟩
    · have hjn : j = n := by omega
      subst hjn
      have HF : Hid (okT zs j = decide (j ≤ 64)) := by show _ = _; unfold okT; rw [hall.out, Bool.true_and]
      by_cases h64 : (j : Int) ≤ 64
      · have h9 : decide (j ≤ 64) = true := by simp; omega
        have H9 := Lib.hid h9
        clear h9
        go_wp2
        go_ret
        exact ⟨by rw [HF.out, H9.out]; first | rfl | (simp; omega), rfl⟩
      · have h9 : decide (j ≤ 64) = false := by simp; omega
        have H9 := Lib.hid h9
        clear h9
        go_wp2
        go_ret
        exact ⟨by rw [HF.out, H9.out]; first | rfl | (simp; omega), rfl⟩

set_option maxRecDepth 10000 in
theorem spec_l01Text (a : Option Addr) (n c : Nat) (zs : List Int) (w : World) (hn : zs.length = n) (ha : Hid (ils w a zs)) (hx : n < 2147483648) (hv : Hid (allV zs n = true)) :
    Calls Tryd.prog 56 #[.slice a n c] w fun e w' => e = .returned (.string ⟨(textL zs).toArray⟩) ∧ Below w.heap.size w w' := by
  have HN := Lib.hid hn
  clear hn
  by_cases h0 : n = 0
  · have hz : zs = [] := List.eq_nil_of_length_eq_zero (HN.out.trans h0)
    have HZ := Lib.hid hz
    subst h0
    clear hz
    go_enter Tryd.func56, Tryd.ntmps56
    go_wp2
    go_ret
    exact ⟨by rw [HZ.out]; rfl, Below.refl _ _⟩
  · have h0' : ((n : Int) == 0) = false := by rw [beq_eq_false_iff_ne]; omega
    have h1 := allV_at hv.out (show 0 < n by omega)
    obtain ⟨ba, oa, rfl, hca⟩ := ha.out 0 (by rw [HN.out]; omega)
    have H1 := Lib.hid (textN_one (zs := zs) (by rw [HN.out]; omega))
    have HT := Lib.hid (textN_all (zs := zs) (by rw [HN.out]; omega))
    generalize zs.getD 0 0 = z0 at hca h1 H1
    rw [Nat.add_zero] at hca
    go_enter Tryd.func56, Tryd.ntmps56
    go_wp2_with (go_at_call 50; refine (spec_l01Dec z0 _ (by omega) (by omega)).mono ?_; rintro e w1 ⟨rfl, b1⟩)
    have hz21 := Lib.hid (itoa_length_le z0 (by omega) (by omega))
    clear hca h1
    go_loopg [3, 4] (n - 1) (fun g o i wr => ∃ (j : Nat) (l : List UInt8), g + j = n ∧ 1 ≤ j ∧ o = .string ⟨l.toArray⟩ ∧ i = .int .i64 j ∧ l.length ≤ 22 * j ∧ Hid (l = textN zs j) ∧ Hid (Below w.heap.size w wr))
    case atStart => exact ⟨1, itoa z0, by omega, by omega, rfl, rfl, by have := hz21.out; omega, H1.out.symm, b1⟩
    case round =>
      obtain ⟨j, l, hj, hj1, rfl, rfl, hll, hl, hb⟩ := hrel
      by_cases hlt : j < n
      · have hl2 := Lib.hid (textN_step hj1 (show j < zs.length by rw [HN.out]; exact hlt))
        have h2 := allV_at hv.out hlt
        obtain ⟨ba', oa', e, hca⟩ := (ha.out.on hb.out (Nat.le_refl _)) j (by rw [HN.out]; exact hlt)
        cases e
        generalize zs.getD j 0 = z at hca h2 hl2
        have hzl := itoa_length_le z (by omega) (by omega)
        go_wp2_with (go_at_call 50; refine (spec_l01Dec z _ (by omega) (by omega)).mono ?_; rintro e w2 ⟨rfl, b2⟩)
        go_roundg (gk - 1)
        case measure => omega
        case rel => exact ⟨j + 1, l ++ (44 :: itoa z), by omega, by omega, congrArg Value.string (cat3 l (itoa z)), by go_num, by simp; omega, by show _ = _; rw [hl2.out, ← hl.out], onB hb.out b2⟩
      · have hjn : j = n := by omega
        subst hjn
        go_wp2
        go_ret
        exact ⟨by rw [← HT.out, HN.out, ← hl.out]; rfl, hb.out⟩

theorem spec_ListText (a : Option Addr) (n c : Nat) (zs : List Int) (w : World) (hn : zs.length = n) (ha : Hid (ils w a zs)) (hx : n < 2147483648) :
    Calls Tryd.prog 15 #[.slice a n c] w fun e w' => e = .returned (.tuple #[.string ⟨(outT zs n).toArray⟩, .bool (okT zs n)]) ∧ Below w.heap.size w w' := by
  have HL := Lib.hid (spec_l01List a n c zs w hn ha hx)
  cases ho : okT zs n
  · rw [ho] at HL
    have HO : Hid (outT zs n = []) := by show _ = _; unfold outT; rw [ho]; rfl
    clear ho hn
    go_enter Tryd.func15, Tryd.ntmps15
    go_wp2_with (go_at_call 55; refine HL.out.mono ?_; rintro e w' ⟨rfl, rfl⟩)
    go_ret2
    exact ⟨by rw [HO.out]; rfl, Below.refl _ _⟩
  · rw [ho] at HL
    have HO : Hid (outT zs n = textL zs) := by show _ = _; unfold outT; rw [ho]; rfl
    have hv : allV zs n = true := by unfold okT at ho; simp only [Bool.and_eq_true] at ho; exact ho.1
    have HV := Lib.hid hv
    have HN := Lib.hid hn
    clear ho hn hv
    go_enter Tryd.func15, Tryd.ntmps15
    go_wp2_with (go_at_call 55; refine HL.out.mono ?_; rintro e w' ⟨rfl, rfl⟩)
    refine (spec_l01Text a n c zs _ HN.out ha hx HV).mono ?_
    rintro e w1 ⟨rfl, b1⟩
    go_wp2
    go_ret2
    exact ⟨by rw [HO.out]; rfl, b1⟩
end Go.Proofs.YthegbaaelccekaaDoor
