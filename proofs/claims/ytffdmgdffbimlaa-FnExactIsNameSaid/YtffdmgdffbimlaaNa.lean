/-
  IsName and CheckOf, in the program and in the reference, byte by byte; the walks of their laws. Condition: a text longer than 2^20 bytes is not asked.
-/
import Derived.Test.YtffdmgdffbimlaaRows
import Derived.WalkKit
import Derived.RowKit3
import Derived.Lib.Hide
import Derived.Deep.LoopGhost
namespace Go.Proofs.Ytffdmgdffbimlaa
open Go.RowKit

/-- The byte at i (0 behind the end). -/
def byteAt (s : ByteArray) (i : Nat) : Nat := (s.data.toList.getD i 0).toNat
theorem byteAt_lt (s : ByteArray) (i : Nat) : byteAt s i < 256 := (s.data.toList.getD i 0).toNat_lt
theorem byteAt_eq {s : ByteArray} {i : Nat} (h : i < s.size) : (s[i]'h).toNat = byteAt s i := by
  unfold byteAt
  have h2 : i < s.data.toList.length := by simpa using h
  rw [List.getD_eq_getElem?_getD, List.getElem?_eq_getElem h2]
  rfl

def lowB (x : Nat) : Bool := decide (97 ≤ x) && decide (x ≤ 122)
/-- The first j bytes are small letters. -/
def lowU (s : ByteArray) : Nat → Bool
  | 0 => true
  | j + 1 => lowU s j && lowB (byteAt s j)
theorem lowU_false {s : ByteArray} {j n : Nat} (hj : j < n) (h : lowB (byteAt s j) = false) : lowU s n = false := by
  induction n with
  | zero => omega
  | succ k ih =>
    by_cases hk : j = k
    · subst hk; unfold lowU; rw [h, Bool.and_false]
    · unfold lowU; rw [ih (by omega), Bool.false_and]
def nameS (s : ByteArray) : Bool := lowU s s.size && (decide (1 ≤ s.size) && decide (s.size ≤ 8))

theorem impl_within (n l h : Int) (w : World) : Calls Try.prog 19 #[.int .i64 n, .int .i64 l, .int .i64 h] w fun e w' => e = .returned (.bool (decide (l ≤ n) && decide (n ≤ h))) ∧ w = w' := by
  by_cases h1 : l ≤ n
  · by_cases h2 : n ≤ h
    · go_enter Try.func19, Try.ntmps19
      go_wp2
      go_ret
      exact ⟨by simp [h1, h2], rfl⟩
    · go_enter Try.func19, Try.ntmps19
      go_wp2
      go_ret
      exact ⟨by simp [h1, h2], rfl⟩
  · go_enter Try.func19, Try.ntmps19
    go_wp2
    go_ret
    exact ⟨by simp; omega, rfl⟩

theorem spec_l00In (n l h : Int) (w : World) : Calls Try.prog 20 #[.int .i64 n, .int .i64 l, .int .i64 h] w fun e w' => e = .returned (.bool (decide (l ≤ n) && decide (n ≤ h))) ∧ w = w' := by
  by_cases h1 : l ≤ n
  · by_cases h2 : n ≤ h
    · go_enter Try.func20, Try.ntmps20
      go_wp2
      go_ret
      exact ⟨by simp [h1, h2], rfl⟩
    · go_enter Try.func20, Try.ntmps20
      go_wp2
      go_ret
      exact ⟨by simp [h1, h2], rfl⟩
  · go_enter Try.func20, Try.ntmps20
    go_wp2
    go_ret
    exact ⟨by simp; omega, rfl⟩

theorem spec_IsName (s : ByteArray) (w : World) (hs : s.size ≤ 1048576) : Calls Try.prog 7 #[.string s] w fun e w' => e = .returned (.bool (nameS s)) ∧ w = w' := by
  go_enter Try.func7, Try.ntmps7
  go_wp2
  go_loopg [3] s.size (fun g i wr => ∃ j : Nat, g + j = s.size ∧ i = .int .i64 j ∧ Hid (lowU s j = true) ∧ w = wr)
  case atStart => exact ⟨0, by omega, rfl, rfl, rfl⟩
  case round =>
    obtain ⟨j, hj, rfl, hall, rfl⟩ := hrel
    by_cases hlt : j < s.size
    · have hx := byteAt_eq hlt
      have hx2 := byteAt_lt s j
      cases hb : lowB (byteAt s j)
      · have HF : Hid (nameS s = false) := by show _ = _; unfold nameS; rw [lowU_false hlt hb, Bool.false_and]
        generalize byteAt s j = x at hx hx2 hb
        have hb2 : x < 97 ∨ 122 < x := by simp [lowB] at hb; omega
        clear hb
        rcases hb2 with h1 | h2
        · go_wp2
          go_ret
          exact ⟨by rw [HF.out]; rfl, rfl⟩
        · go_wp2
          go_ret
          exact ⟨by rw [HF.out]; rfl, rfl⟩
      · have HJ : Hid (lowU s (j + 1) = true) := by show _ = _; unfold lowU; rw [hall.out, hb]; rfl
        generalize byteAt s j = x at hx hx2 hb
        have h1 : 97 ≤ x := by simp [lowB] at hb; omega
        have h2 : x ≤ 122 := by simp [lowB] at hb; omega
        clear hb
        go_wp2
        go_roundg (gk - 1)
        case measure => omega
        case rel => exact ⟨j + 1, by omega, by go_num, HJ, rfl⟩
    · have hjn : j = s.size := by omega
      have HF : Hid (nameS s = (decide (1 ≤ s.size) && decide (s.size ≤ 8))) := by show _ = _; unfold nameS; rw [← hjn, hall.out, Bool.true_and]
      clear hlt
      subst hjn
      by_cases h1 : 1 ≤ s.size
      · by_cases h2 : s.size ≤ 8
        · rw [decide_eq_true h1, decide_eq_true h2] at HF
          go_wp2
          go_ret
          exact ⟨by rw [HF.out]; first | rfl | (simp; omega), rfl⟩
        · rw [decide_eq_true h1, decide_eq_false h2] at HF
          go_wp2
          go_ret
          exact ⟨by rw [HF.out]; first | rfl | (simp; omega), rfl⟩
      · rw [decide_eq_false h1] at HF
        go_wp2
        go_ret
        exact ⟨by rw [HF.out]; rfl, rfl⟩

theorem impl_IsName (s : ByteArray) (w : World) (hs : s.size ≤ 1048576) : Calls Try.prog 8 #[.string s] w fun e w' => e = .returned (.bool (nameS s)) ∧ w = w' := by
  go_enter Try.func8, Try.ntmps8
  go_wp2
  go_loopg [3] s.size (fun g i wr => ∃ j : Nat, g + j = s.size ∧ i = .int .i64 j ∧ Hid (lowU s j = true) ∧ w = wr)
  case atStart => exact ⟨0, by omega, rfl, rfl, rfl⟩
  case round =>
    obtain ⟨j, hj, rfl, hall, rfl⟩ := hrel
    by_cases hlt : j < s.size
    · have hx := byteAt_eq hlt
      have hx2 := byteAt_lt s j
      cases hb : lowB (byteAt s j)
      · have HF : Hid (nameS s = false) := by show _ = _; unfold nameS; rw [lowU_false hlt hb, Bool.false_and]
        generalize byteAt s j = x at hx hx2 hb
        have hb2 : x < 97 ∨ 122 < x := by simp [lowB] at hb; omega
        clear hb
        rcases hb2 with h1 | h2
        · go_wp2
          go_ret
          exact ⟨by rw [HF.out]; rfl, rfl⟩
        · go_wp2
          go_ret
          exact ⟨by rw [HF.out]; rfl, rfl⟩
      · have HJ : Hid (lowU s (j + 1) = true) := by show _ = _; unfold lowU; rw [hall.out, hb]; rfl
        generalize byteAt s j = x at hx hx2 hb
        have h1 : 97 ≤ x := by simp [lowB] at hb; omega
        have h2 : x ≤ 122 := by simp [lowB] at hb; omega
        clear hb
        go_wp2
        go_roundg (gk - 1)
        case measure => omega
        case rel => exact ⟨j + 1, by omega, by go_num, HJ, rfl⟩
    · have hjn : j = s.size := by omega
      have HF : Hid (nameS s = (decide (1 ≤ s.size) && decide (s.size ≤ 8))) := by show _ = _; unfold nameS; rw [← hjn, hall.out, Bool.true_and]
      clear hlt
      subst hjn
      have hW : (decide ((1 : Int) ≤ (s.size : Int)) && decide ((s.size : Int) ≤ 8)) = (decide (1 ≤ s.size) && decide (s.size ≤ 8)) := by
        rw [show decide ((1 : Int) ≤ (s.size : Int)) = decide (1 ≤ s.size) from by simp; omega, show decide ((s.size : Int) ≤ 8) = decide (s.size ≤ 8) from by simp; omega]
      have HW := Lib.hid hW
      clear hW
      go_wp2_with (go_at_call 19; refine (impl_within _ _ _ _).mono ?_; rw [HW.out]; rintro e w' ⟨rfl, rfl⟩)
      go_ret
      exact ⟨by rw [HF.out]; rfl, rfl⟩

theorem law_FnExactIsName (s : ByteArray) (w : World) (_ : s.size ≤ maxLen) : Calls Try.prog 3 #[.string s] w fun e w' => e = .returned (.bool true) ∧ Grown w w' := by
  by_cases h : s.size ≤ 1048576
  · have C1 := Lib.hid (fun w => spec_IsName s w h)
    have C2 := Lib.hid (fun w => impl_IsName s w h)
    generalize nameS s = b at C1 C2
    cases b <;>
    · go_enter Try.func3, Try.ntmps3
      go_wp2_with (first
        | (go_at_call 7; refine (C1.out _).mono ?_; rintro e w' ⟨rfl, rfl⟩)
        | (go_at_call 8; refine (C2.out _).mono ?_; rintro e w' ⟨rfl, rfl⟩))
      go_ret
      exact ⟨rfl, Grown.refl _⟩
  · go_enter Try.func3, Try.ntmps3
    go_wp2
    go_ret
    exact ⟨rfl, Grown.refl _⟩

/-- The check of the first j bytes. -/
def chkN (s : ByteArray) (n : Nat) : Nat → Nat
  | 0 => n
  | j + 1 => (797 * chkN s n j + byteAt s j + 101) % 65003
theorem chkN_lt (s : ByteArray) (n : Nat) (h : n < 65003) : ∀ j, chkN s n j < 65003
  | 0 => h
  | _ + 1 => Nat.mod_lt _ (by decide)
theorem chk_mod (a b : Nat) : (797 * (a : Int) + (b : Int) + 101).tmod 65003 = (((797 * a + b + 101) % 65003 : Nat) : Int) := by
  rw [show (797 * (a : Int) + (b : Int) + 101) = ((797 * a + b + 101 : Nat) : Int) by omega]
  rfl

theorem spec_l01Check (n : Nat) (s : ByteArray) (w : World) (hn : n < 65003) (hs : s.size ≤ 1048576) : Calls Try.prog 21 #[.int .i64 n, .string s] w fun e w' => e = .returned (.int .i64 (chkN s n s.size : Nat)) ∧ w = w' := by
  have hn2 : (n : Int) ≤ 65002 := by omega
  go_enter Try.func21, Try.ntmps21
  go_wp2
  go_loopg [0, 5] s.size (fun g v i wr => ∃ j : Nat, g + j = s.size ∧ v = .int .i64 (chkN s n j : Nat) ∧ i = .int .i64 j ∧ w = wr)
  case atStart => exact ⟨0, by omega, rfl, rfl, rfl⟩
  case round =>
    obtain ⟨j, hj, rfl, rfl, rfl⟩ := hrel
    by_cases hlt : j < s.size
    · have hx := byteAt_eq hlt
      have hx2 := byteAt_lt s j
      have hz := chkN_lt s n hn j
      have HJ : Hid (chkN s n (j + 1) = (797 * chkN s n j + byteAt s j + 101) % 65003) := rfl
      generalize byteAt s j = x at hx hx2 HJ
      generalize chkN s n j = z at hz HJ ⊢
      have hm := chk_mod z x
      go_wp2
      go_roundg (gk - 1)
      case measure => omega
      case rel => exact ⟨j + 1, by omega, by rw [HJ.out]; congr 1, by go_num, rfl⟩
    · have hjn : j = s.size := by omega
      subst hjn
      go_wp2
      go_ret
      exact ⟨rfl, rfl⟩

theorem impl_CheckOf (n : Nat) (s : ByteArray) (w : World) (hn : n < 65003) (hs : s.size ≤ 1048576) : Calls Try.prog 10 #[.int .i64 n, .string s] w fun e w' => e = .returned (.tuple #[.int .i64 (chkN s n s.size : Nat), .bool true]) ∧ w = w' := by
  have hn2 : (n : Int) ≤ 65002 := by omega
  go_enter Try.func10, Try.ntmps10
  go_wp2_with (go_at_call 19; refine (impl_within _ _ _ _).mono ?_; rw [show (decide ((0 : Int) ≤ (n : Int)) && decide ((n : Int) ≤ 65002)) = true from by simp; omega]; rintro e w' ⟨rfl, rfl⟩)
  go_loopg [0, 6] s.size (fun g v i wr => ∃ j : Nat, g + j = s.size ∧ v = .int .i64 (chkN s n j : Nat) ∧ i = .int .i64 j ∧ w = wr)
  case atStart => exact ⟨0, by omega, rfl, rfl, rfl⟩
  case round =>
    obtain ⟨j, hj, rfl, rfl, rfl⟩ := hrel
    by_cases hlt : j < s.size
    · have hx := byteAt_eq hlt
      have hx2 := byteAt_lt s j
      have hz := chkN_lt s n hn j
      have HJ : Hid (chkN s n (j + 1) = (797 * chkN s n j + byteAt s j + 101) % 65003) := rfl
      generalize byteAt s j = x at hx hx2 HJ
      generalize chkN s n j = z at hz HJ ⊢
      have hm := chk_mod z x
      go_wp2
      go_roundg (gk - 1)
      case measure => omega
      case rel => exact ⟨j + 1, by omega, by rw [HJ.out]; congr 1, by go_num, rfl⟩
    · have hjn : j = s.size := by omega
      subst hjn
      go_wp2
      go_ret2
      exact ⟨rfl, rfl⟩

def checkV (n : Int) (s : ByteArray) : Value := if 0 ≤ n ∧ n ≤ 65002 then .tuple #[.int .i64 (chkN s n.toNat s.size : Nat), .bool true] else .tuple #[.int .i64 0, .bool false]

theorem spec_CheckOf (n : Int) (s : ByteArray) (w : World) (hs : s.size ≤ 1048576) : Calls Try.prog 9 #[.int .i64 n, .string s] w fun e w' => e = .returned (checkV n s) ∧ w = w' := by
  by_cases h : 0 ≤ n ∧ n ≤ 65002
  · have hv : checkV n s = .tuple #[.int .i64 (chkN s n.toNat s.size : Nat), .bool true] := if_pos h
    rw [hv]
    obtain ⟨m, rfl⟩ := Int.eq_ofNat_of_zero_le h.1
    rw [Int.toNat_natCast]
    have hm : m < 65003 := by omega
    have hd : (decide ((0 : Int) ≤ (m : Int)) && decide ((m : Int) ≤ 65002)) = true := by simp; omega
    have HD := Lib.hid hd
    clear hd hv h
    go_enter Try.func9, Try.ntmps9
    go_wp2_with (first
      | (go_at_call 20; refine (spec_l00In _ _ _ _).mono ?_; rw [HD.out]; rintro e w' ⟨rfl, rfl⟩)
      | (go_at_call 21; refine (spec_l01Check m s _ hm hs).mono ?_; rintro e w' ⟨rfl, rfl⟩))
    go_ret2
    exact ⟨rfl, rfl⟩
  · have hv : checkV n s = .tuple #[.int .i64 0, .bool false] := if_neg h
    rw [hv]
    have hd : (decide ((0 : Int) ≤ n) && decide (n ≤ 65002)) = false := by simp; omega
    have HD := Lib.hid hd
    clear hd hv h
    go_enter Try.func9, Try.ntmps9
    go_wp2_with (go_at_call 20; refine (spec_l00In _ _ _ _).mono ?_; rw [HD.out]; rintro e w' ⟨rfl, rfl⟩)
    go_ret2
    exact ⟨rfl, rfl⟩

theorem impl_CheckOf' (n : Int) (s : ByteArray) (w : World) (hs : s.size ≤ 1048576) : Calls Try.prog 10 #[.int .i64 n, .string s] w fun e w' => e = .returned (checkV n s) ∧ w = w' := by
  by_cases h : 0 ≤ n ∧ n ≤ 65002
  · have hv : checkV n s = .tuple #[.int .i64 (chkN s n.toNat s.size : Nat), .bool true] := if_pos h
    rw [hv]
    obtain ⟨m, rfl⟩ := Int.eq_ofNat_of_zero_le h.1
    rw [Int.toNat_natCast]
    exact impl_CheckOf m s w (by omega) hs
  · have hv : checkV n s = .tuple #[.int .i64 0, .bool false] := if_neg h
    rw [hv]
    have hd : (decide ((0 : Int) ≤ n) && decide (n ≤ 65002)) = false := by simp; omega
    have HD := Lib.hid hd
    clear hd hv h
    go_enter Try.func10, Try.ntmps10
    go_wp2_with (go_at_call 19; refine (impl_within _ _ _ _).mono ?_; rw [HD.out]; rintro e w' ⟨rfl, rfl⟩)
    go_ret2
    exact ⟨rfl, rfl⟩

theorem law_FnExactCheckOf (n : Int) (s : ByteArray) (w : World) (_ : (Lit.int .i64 n).wf = true) (_ : s.size ≤ maxLen) : Calls Try.prog 4 #[.int .i64 n, .string s] w fun e w' => e = .returned (.bool true) ∧ Grown w w' := by
  by_cases h : s.size ≤ 1048576
  · obtain ⟨a, b, hab⟩ : ∃ (a : Int) (b : Bool), checkV n s = .tuple #[.int .i64 a, .bool b] := by unfold checkV; split <;> exact ⟨_, _, rfl⟩
    have C1 := Lib.hid (fun w => spec_CheckOf n s w h)
    have C2 := Lib.hid (fun w => impl_CheckOf' n s w h)
    rw [hab] at C1 C2
    clear hab
    cases b <;>
    · go_enter Try.func4, Try.ntmps4
      go_wp2_with (first
        | (go_at_call 9; refine (C1.out _).mono ?_; rintro e w' ⟨rfl, rfl⟩)
        | (go_at_call 10; refine (C2.out _).mono ?_; rintro e w' ⟨rfl, rfl⟩))
      go_ret
      exact ⟨rfl, Grown.refl _⟩
  · go_enter Try.func4, Try.ntmps4
    go_wp2
    go_ret
    exact ⟨rfl, Grown.refl _⟩
end Go.Proofs.Ytffdmgdffbimlaa
