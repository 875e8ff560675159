/-
  The text of a float32: the eight hexadecimal digits of its bits, in the program (strconv.FormatInt at base 16) and in the reference. Condition: the table math/bits.deBruijn64tab reads as listed (for the program's).
-/
import Derived.Test.YtmiajfdhdpmeoaaGreatDoorHw
import Derived.Test.YtmiajfdhdpmeoaaGreatDoorMa
namespace Go.Proofs.YtmiajfdhdpmeoaaGreatDoor
open Go.RowKit Go.Lib Go.Joins

theorem hexL_add (k n : Nat) : hexL k (n + 16 ^ k) = hexL k n := by
  induction k generalizing n with
  | zero => rfl
  | succ k ih =>
    rw [hexL, hexL, Nat.pow_succ, show (n + 16 ^ k * 16) / 16 = n / 16 + 16 ^ k by omega, ih, show (n + 16 ^ k * 16) % 16 = n % 16 by omega]
/-- The bits that are kept, and their text. -/
def bitsN (x : Nat) : Nat := (bitsI x).toNat
theorem bitsN_eq {x : Nat} (hx : x < 4294967296) : bitsI x = (bitsN x : Int) ∧ bitsN x < 4294967296 := by
  have := bitsI_bounds hx
  unfold bitsN; omega
def hexT (x : Nat) : ByteArray := ⟨(hexL 8 (bitsN x)).toArray⟩
theorem hexT_size (x : Nat) : (hexT x).size = 8 := by show (hexL 8 (bitsN x)).toArray.size = 8; rw [List.size_toArray, hexL_len]

theorem format_int16 (N : Nat) (w : World) (h0 : 4294967296 ≤ N) (h1 : N < 8589934592) (h : Hid (Bru w)) :
    Calls Tryz.prog 64 #[.int .i64 N, .int .i64 16] w fun e w' => e = .returned (.string ⟨(hexL 9 N).toArray⟩) ∧ Below w.heap.size w w' := by
  go_enter Tryz.func64, Tryz.ntmps64
  go_wp2_with (go_at_call 74; refine (format_bits16 N _ h0 h1 h).mono ?_; rintro e w1 ⟨rfl, b1⟩)
  go_ret
  exact ⟨rfl, b1⟩
theorem public_int16 (N : Nat) (w : World) (h0 : 4294967296 ≤ N) (h1 : N < 8589934592) (h : Hid (Bru w)) :
    Calls Tryz.prog 54 #[.int .i64 N, .int .i64 16] w fun e w' => e = .returned (.string ⟨(hexL 9 N).toArray⟩) ∧ Below w.heap.size w w' := by
  go_enter Tryz.func54, Tryz.ntmps54
  go_wp2_with (go_at_call 64; refine (format_int16 N _ h0 h1 h).mono ?_; rintro e w1 ⟨rfl, b1⟩)
  go_ret
  exact ⟨rfl, b1⟩
theorem hex_cut (n : Nat) : (⟨(hexL 9 (n + 4294967296)).toArray⟩ : ByteArray).extract 1 9 = ⟨(hexL 8 n).toArray⟩ := by
  have e : hexL 9 (n + 4294967296) = hexD ((n + 4294967296) / 16 ^ 8 % 16) :: hexL 8 n := by
    rw [hexL_cons, show (4294967296 : Nat) = 16 ^ 8 by decide, hexL_add]
  apply ByteArray.ext
  rw [e]
  have hl := hexL_len 8 n
  apply Array.ext'
  simp [ByteArray.data_extract]
  rw [List.take_of_length_le (by rw [hl]; decide)]
theorem impl_hexText (x : Nat) (w : World) (hx : x < 4294967296) (h : Hid (Bru w)) :
    Calls Tryz.prog 35 #[.float .f32 x] w fun e w' => e = .returned (.string (hexT x)) ∧ Below w.heap.size w w' := by
  obtain ⟨hb, hn⟩ := bitsN_eq hx
  have HB := Lib.hid hb
  have hc := Lib.hid (hex_cut (bitsN x))
  have hT : Hid (hexT x = ⟨(hexL 8 (bitsN x)).toArray⟩) := rfl
  have hl := hexL_len 9 (bitsN x + 4294967296)
  generalize bitsN x = n at *
  clear hb
  go_enter Tryz.func35, Tryz.ntmps35
  go_wp2_with fail
  refine (impl_BitsOf x _ hx).mono ?_
  rintro e w' ⟨he, rfl⟩
  rw [HB.out] at he
  subst he
  go_wp2_with fail
  refine (public_int16 (n + 4294967296) _ (by omega) (by omega) h).mono ?_
  rintro e w1 ⟨rfl, b1⟩
  go_wp2_with fail
  go_ret
  exact ⟨by rw [hT.out, ← hc.out]; rfl, b1⟩

theorem dig16 (m : Nat) (h : m < 16) (h2 : m < (⟨#[48, 49, 50, 51, 52, 53, 54, 55, 56, 57, 97, 98, 99, 100, 101, 102]⟩ : ByteArray).size) :
    (⟨#[48, 49, 50, 51, 52, 53, 54, 55, 56, 57, 97, 98, 99, 100, 101, 102]⟩ : ByteArray)[m]'h2 = hexD m := by
  obtain rfl | rfl | rfl | rfl | rfl | rfl | rfl | rfl | rfl | rfl | rfl | rfl | rfl | rfl | rfl | rfl : m = 0 ∨ m = 1 ∨ m = 2 ∨ m = 3 ∨ m = 4 ∨ m = 5 ∨ m = 6 ∨ m = 7 ∨ m = 8 ∨ m = 9 ∨ m = 10 ∨ m = 11 ∨ m = 12 ∨ m = 13 ∨ m = 14 ∨ m = 15 := by omega
  all_goals rfl
theorem shr_and15 (n j : Nat) (hn : n < 4294967296) (_ : j < 8) : bits BinOp.and IntKind.i64 ((n : Int) / 2 ^ (4 * (7 - j))) 15 = ((n / 16 ^ (7 - j) % 16 : Nat) : Int) := by
  have e : ((n : Int) / 2 ^ (4 * (7 - j))) = ((n / 16 ^ (7 - j) : Nat) : Int) := by
    have h1 : ((2 : Int) ^ (4 * (7 - j))) = ((2 ^ (4 * (7 - j)) : Nat) : Int) := by simp
    rw [h1, Nat.pow_mul, show (2 : Nat) ^ 4 = 16 by decide]
    rfl
  have hle : n / 16 ^ (7 - j) ≤ n := Nat.div_le_self _ _
  have := i64_and_nat (n / 16 ^ (7 - j)) 15 (by omega) (by decide)
  rw [show (15 : Nat) = 2 ^ 4 - 1 by decide, Nat.and_two_pow_sub_one_eq_mod] at this
  rw [e]
  exact this
theorem hexL_step (j n : Nat) (hj : j < 8) : hexL (j + 1) (n / 16 ^ (8 - (j + 1))) = hexL j (n / 16 ^ (8 - j)) ++ [hexD (n / 16 ^ (7 - j) % 16)] := by
  rw [hexL, Nat.div_div_eq_div_mul, show 8 - (j + 1) = 7 - j by omega, show 8 - j = 7 - j + 1 by omega, Nat.pow_succ]
theorem bytes_len (l : List UInt8) : (byteCells l).length = l.length := by simp [byteCells]

end Go.Proofs.YtmiajfdhdpmeoaaGreatDoor
