/-
  The eight hexadecimal digits of a float32's bits: in the reference byte by byte, in the program by strconv.FormatInt at base 16. Condition: the table math/bits.deBruijn64tab reads as listed (for the program's).
-/
import Derived.Test.YtmiajfdhdpmeoaaGreatDoorHx
import Derived.Test.YtmiajfdhdpmeoaaGreatDoorDb
import Derived.Test.YtmiajfdhdpmeoaaGreatDoorCc
namespace Go.Proofs.YtmiajfdhdpmeoaaGreatDoor
open Go.RowKit Go.Lib Go.Joins

def dbTab : List Int := [0, 1, 56, 2, 57, 49, 28, 3, 61, 58, 42, 50, 38, 29, 17, 4, 62, 47, 59, 36, 45, 43, 51, 22, 53, 39, 33, 30, 24, 18, 12, 5, 63, 55, 48, 27, 60, 41, 37, 16, 46, 35, 44, 21, 52, 32, 23, 11, 54, 26, 40, 15, 34, 20, 31, 10, 25, 14, 19, 9, 13, 8, 7, 6]
def Bru (w : World) : Prop := TabIs Tryz.prog w "math/bits.deBruijn64tab" .u8 dbTab
theorem Bru.on {B : Nat} {w w' : World} (h : Bru w) (hb : Below B w w') (hB : w.heap.size ≤ B) : Bru w' :=
  tab_stays (g := 6) (by kernel_rfl) h hb hB
theorem Bru.cell {w : World} (h : Bru w) : w.cell? ⟨6, 15, none⟩ = some (.int .u8 4) :=
  TabIs.cell h (by kernel_rfl) 15 (by decide)

theorem bits_zeros16 (w : World) (h : Hid (Bru w)) : Calls Tryz.prog 99 #[.int .u64 16] w fun e w' => e = .returned (.int .i64 4) ∧ w = w' := by
  have hc := h.out.cell
  have h15 : IntKind.u64.wrap (bits BinOp.and IntKind.u64 16 (IntKind.u64.wrap (-16)) * 285870213051353865) / 288230376151711744 = 15 := by decide +kernel
  go_enter Tryz.func99, Tryz.ntmps99
  go_wp2
  go_ret
  exact ⟨rfl, rfl⟩
theorem bits_zeros (w : World) (h : Hid (Bru w)) : Calls Tryz.prog 90 #[.int .u64 16] w fun e w' => e = .returned (.int .i64 4) ∧ w = w' := by
  go_enter Tryz.func90, Tryz.ntmps90
  go_wp2_with (go_at_call 99; refine (bits_zeros16 _ h).mono ?_; rintro e w' ⟨rfl, rfl⟩)
  go_ret
  exact ⟨rfl, rfl⟩
theorem power16 (w : World) : Calls Tryz.prog 89 #[.int .i64 16] w fun e w' => e = .returned (.bool true) ∧ w = w' := by
  go_enter Tryz.func89, Tryz.ntmps89
  go_wp2
  go_ret
  exact ⟨rfl, rfl⟩

/-- Behind j rounds: the last j digits stand at the end of a row of 65 bytes. -/
def digRow (N j : Nat) (i : Nat) : Value := if i < 65 - j then .int .u8 0 else .int .u8 ((hexL j N).getD (i - (65 - j)) 0).toNat
theorem u64_and_nat (a b : Nat) (ha : a < 18446744073709551616) (hb : b < 18446744073709551616) : bits .and .u64 (a : Int) (b : Int) = ((a &&& b : Nat) : Int) := by
  have hx : a &&& b < 2 ^ 64 := Nat.and_lt_two_pow _ (by omega)
  show IntKind.u64.wrap ((BitVec.ofInt 64 (a : Int) &&& BitVec.ofInt 64 (b : Int)).toNat : Int) = _
  rw [BitVec.toNat_and, ofInt_u64 a (by omega), ofInt_u64 b (by omega), IntKind.wrap_u64]
  omega
theorem and15 (x : Nat) (hx : x < 18446744073709551616) : bits .and .u64 (x : Int) 15 = ((x % 16 : Nat) : Int) := by
  have := u64_and_nat x 15 hx (by decide)
  rw [show (15 : Nat) = 2 ^ 4 - 1 by decide, Nat.and_two_pow_sub_one_eq_mod] at this
  exact this
theorem dig36 (m : Nat) (h : m < 16) (h2 : m < (⟨#[48, 49, 50, 51, 52, 53, 54, 55, 56, 57, 97, 98, 99, 100, 101, 102, 103, 104, 105, 106, 107, 108, 109, 110, 111, 112, 113, 114, 115, 116, 117, 118, 119, 120, 121, 122]⟩ : ByteArray).size) :
    (⟨#[48, 49, 50, 51, 52, 53, 54, 55, 56, 57, 97, 98, 99, 100, 101, 102, 103, 104, 105, 106, 107, 108, 109, 110, 111, 112, 113, 114, 115, 116, 117, 118, 119, 120, 121, 122]⟩ : ByteArray)[m]'h2 = hexD m := by
  obtain rfl | rfl | rfl | rfl | rfl | rfl | rfl | rfl | rfl | rfl | rfl | rfl | rfl | rfl | rfl | rfl : m = 0 ∨ m = 1 ∨ m = 2 ∨ m = 3 ∨ m = 4 ∨ m = 5 ∨ m = 6 ∨ m = 7 ∨ m = 8 ∨ m = 9 ∨ m = 10 ∨ m = 11 ∨ m = 12 ∨ m = 13 ∨ m = 14 ∨ m = 15 := by omega
  all_goals rfl
theorem digRow_step {N j k i : Nat} {v : Value} (hk : k + j = 65) (hj : j < 65) (hv : v = .int .u8 ((hexD (N / 16 ^ j % 16)).toNat : Nat)) : (if i = k - 1 then v else digRow N j i) = digRow N (j + 1) i := by
  unfold digRow
  have e1 : 65 - (j + 1) = k - 1 := by omega
  have e2 : 65 - j = k := by omega
  rw [e1, e2, hexL_cons]
  by_cases h : i = k - 1
  · subst h
    rw [if_pos rfl, if_neg (by omega), Nat.sub_self, hv]; rfl
  · rw [if_neg h]
    by_cases h2 : i < k - 1
    · rw [if_pos (by omega), if_pos h2]
    · rw [if_neg (by omega), if_neg h2, show i - (k - 1) = (i - k) + 1 by omega, List.getD_cons_succ]
theorem digRow_zero (N i : Nat) (h : i < 65) : digRow N 0 i = .int .u8 0 := by unfold digRow; rw [if_pos (by omega)]
theorem getD_at {l : List UInt8} {j : Nat} (hj : j < l.length) : l.getD j 0 = l[j] := by rw [List.getD_eq_getElem?_getD, List.getElem?_eq_getElem hj]; rfl

set_option maxRecDepth 10000 in
theorem format_bits16 (N : Nat) (w : World) (h0 : 4294967296 ≤ N) (h1 : N < 8589934592) (h : Hid (Bru w)) :
    Calls Tryz.prog 74 #[.slice none 0 0, .int .u64 N, .int .i64 16, .bool false, .bool false] w fun e w' => e = .returned (.tuple #[.slice none 0 0, .string ⟨(hexL 9 N).toArray⟩]) ∧ Below w.heap.size w w' := by
  go_enter Tryz.func74, Tryz.ntmps74
  go_wp2_with (first | (go_at_call 89; refine (power16 _).mono ?_; rintro e w' ⟨rfl, rfl⟩) | (go_at_call 90; refine (bits_zeros _ (Lib.hid (h.out.on ((Below.refl _ _).alloc (Nat.le_refl _) _) (Nat.le_refl _)))).mono ?_; rintro e w' ⟨rfl, rfl⟩))
  go_loopg [1, 13] 8 (fun g u i wr => ∃ (j x k : Nat), g + j = 8 ∧ k + j = 65 ∧ u = .int .u64 x ∧ i = .int .i64 k ∧ Hid (x = N / 16 ^ j) ∧ Hid (wr.rowIs w.heap.size 120 65 (digRow N j)) ∧ Hid (Below w.heap.size w wr))
  case atStart =>
    refine ⟨0, N, 65, by omega, by omega, rfl, rfl, by show _ = _; simp, ?_, (Below.refl _ _).alloc (Nat.le_refl _) _⟩
    have e : Tryz.zeroCells120 = madeCells #[.int .u8 0] 65 := by kernel_rfl
    rw [e]
    exact (World.rowIs_made w (.int .u8 0) 65 120).congr (fun i hi => (digRow_zero N i hi).symm)
  case round =>
    obtain ⟨j, x, k, hj, hk, rfl, rfl, hx, hrow, hbel⟩ := hrel
    have hxN : x ≤ N := by rw [hx.out]; exact Nat.div_le_self _ _
    by_cases hlt : 16 ≤ x
    · have hdst : ∃ v, wr.cell? ⟨w.heap.size, k - 1, none⟩ = some v := ⟨_, hrow.out.cell (by omega)⟩
      obtain ⟨v, hdst⟩ := hdst
      have hfr := hrow.out.frozen (k - 1)
      have hand := and15 x (by omega)
      have hm := Nat.mod_lt x (show 0 < 16 by decide)
      have hj8 : j < 8 := by
        apply Nat.lt_of_not_le; intro hle
        have : j = 8 := by omega
        subst this
        have := hx.out
        rw [show 16 ^ 8 = 4294967296 by decide] at this
        omega
      go_wp2_with fail
      go_roundg (gk - 1)
      case measure => omega
      case rel =>
        refine ⟨j + 1, x / 16, k - 1, by omega, by omega, by go_num, by go_num, ?_, (hrow.out.set (k - 1) _).congr fun i hi => digRow_step hk (by omega) ?_, hbel.out.setCell (Nat.le_refl _) _⟩
        · show _ = _
          rw [hx.out, Nat.div_div_eq_div_mul, Nat.pow_succ]
        · rw [dig36 (x % 16) hm, hx.out]
    · have hj8 : j = 8 := by
        apply Classical.byContradiction; intro hne
        have hj7 : j ≤ 7 := by omega
        have h3 : 16 ^ j * 16 ≤ 4294967296 := by
          have := Nat.pow_le_pow_right (show 0 < 16 by decide) (show j + 1 ≤ 8 by omega)
          rw [Nat.pow_succ] at this
          exact Nat.le_trans this (by decide)
        have h4 : 16 ≤ N / 16 ^ j := by
          rw [Nat.le_div_iff_mul_le (Nat.pow_pos (by decide))]
          omega
        rw [← hx.out] at h4
        omega
      subst hj8
      have hx1 : x = 1 := by
        have := hx.out
        rw [show 16 ^ 8 = 4294967296 by decide] at this
        omega
      subst hx1
      obtain rfl : k = 57 := by omega
      have hr9 : (wr.setCell ⟨w.heap.size, 56, none⟩ (.int .u8 ((⟨#[48, 49, 50, 51, 52, 53, 54, 55, 56, 57, 97, 98, 99, 100, 101, 102, 103, 104, 105, 106, 107, 108, 109, 110, 111, 112, 113, 114, 115, 116, 117, 118, 119, 120, 121, 122]⟩ : ByteArray)[1]'(by decide)).toNat)).rowIs w.heap.size 120 65 (digRow N 9) := (hrow.out.set 56 _).congr fun i hi => digRow_step (k := 57) (by omega) (by omega) (by rw [← hx.out]; rfl)
      have hcv := run_convert_bytes_back (P := Tryz.prog) (wr.setCell ⟨w.heap.size, 56, none⟩ (.int .u8 ((⟨#[48, 49, 50, 51, 52, 53, 54, 55, 56, 57, 97, 98, 99, 100, 101, 102, 103, 104, 105, 106, 107, 108, 109, 110, 111, 112, 113, 114, 115, 116, 117, 118, 119, 120, 121, 122]⟩ : ByteArray)[1]'(by decide)).toNat)) 22 9 5 ⟨w.heap.size, 56, none⟩ 9 (hexL 9 N) Tryz.underlying22 Tryz.underlying5 Tryz.underlying9 (fun j hj => by
        have hj9 : j < 9 := by rwa [hexL_len] at hj
        have := hr9.cell (i := 56 + j) (by omega)
        unfold digRow at this
        rw [if_neg (by omega), show 56 + j - (65 - 9) = j by omega, getD_at hj] at this
        simpa [Addr.add_lit] using this)
      rw [hexL_len] at hcv
      obtain ⟨v, hdst⟩ : ∃ v, wr.cell? ⟨w.heap.size, 56, none⟩ = some v := ⟨_, hrow.out.cell (by omega)⟩
      have hfr := hrow.out.frozen 56
      clear hr9 hlt
      go_wp2_with fail
      go_ret2
      exact ⟨rfl, hbel.out.setCell (Nat.le_refl _) _⟩
end Go.Proofs.YtmiajfdhdpmeoaaGreatDoor
