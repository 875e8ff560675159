/-
  Decimal numerals, in plain Lean: a numeral is read back, by the reference's reader and by strconv.ParseInt's. No program, no condition.
  Bytes of a text; bounds, in the program and in the reference. No condition.
-/
import Derived.Lib.ItoaNum
import Derived.Lib.ItoaMem
import Derived.Lib.ItoaLen
import Derived.Lib.ParseIntB
import Derived.Lib.ParseIntBTie
import Derived.Test.YtmiajfdhdpmeoaaGreatDoorRows
import Derived.WalkKit
import Derived.RowKit3
import Derived.Lib.Hide
import Derived.Deep.LoopGhost
namespace Go.Proofs.YtmiajfdhdpmeoaaGreatDoor
open Go.Lib

def isD (c : UInt8) : Bool := decide (48 ≤ c.toNat) && decide (c.toNat ≤ 57)
theorem dig_toNat {d : Nat} (h : d < 10) : (UInt8.ofNat (48 + d)).toNat = 48 + d := by rw [UInt8.toNat_ofNat']; omega
theorem decDigits_small {u : Nat} (h : u < 10) : decDigits u = [UInt8.ofNat (48 + u)] := by rw [decDigits.eq_1, dif_pos h]
theorem decDigits_big {u : Nat} (h : ¬ u < 10) : decDigits u = decDigits (u / 10) ++ [UInt8.ofNat (48 + u % 10)] := by rw [decDigits.eq_1, dif_neg h]
theorem decDigits_all (u : Nat) : ∀ c ∈ decDigits u, isD c = true := by
  induction u using Nat.strongRecOn with
  | _ u ih =>
    by_cases h : u < 10
    · rw [decDigits_small h]
      intro c hc
      obtain rfl := List.mem_singleton.1 hc
      unfold isD; rw [dig_toNat h]; simp; omega
    · rw [decDigits_big h]
      intro c hc
      rcases List.mem_append.1 hc with hc | hc
      · exact ih (u / 10) (by omega) c hc
      · obtain rfl := List.mem_singleton.1 hc
        unfold isD; rw [dig_toNat (Nat.mod_lt _ (by omega))]; simp; omega
theorem decDigits_ne (u : Nat) : decDigits u ≠ [] := by
  by_cases h : u < 10
  · rw [decDigits_small h]; simp
  · rw [decDigits_big h]; simp

/-- What the reference reads: digits alone count. -/
def digF (acc : Nat) : List UInt8 → Nat
  | [] => acc
  | c :: r => digF (if isD c = true then 10 * acc + (c.toNat - 48) else acc) r
theorem digF_append (a b : List UInt8) : ∀ acc, digF acc (a ++ b) = digF (digF acc a) b := by
  induction a with
  | nil => intro acc; rfl
  | cons c a ih => intro acc; exact ih _
theorem digF_dec (u : Nat) : digF 0 (decDigits u) = u := by
  induction u using Nat.strongRecOn with
  | _ u ih =>
    by_cases h : u < 10
    · rw [decDigits_small h]
      unfold digF digF isD
      rw [dig_toNat h, if_pos (by simp; omega)]; omega
    · rw [decDigits_big h, digF_append, ih (u / 10) (by omega)]
      unfold digF digF isD
      rw [dig_toNat (Nat.mod_lt _ (by omega)), if_pos (by simp; omega)]; omega
theorem decDigits_len (k : Nat) : ∀ u, u < 10 ^ (k + 1) → (decDigits u).length ≤ k + 1 := by
  induction k with
  | zero => intro u hu; rw [decDigits_small (by omega)]; simp
  | succ k ih =>
    intro u hu
    by_cases h : u < 10
    · rw [decDigits_small h]; simp
    · rw [decDigits_big h, List.length_append]
      have := ih (u / 10) (by rw [Nat.pow_succ] at hu; omega)
      simp; omega

def valL (l : List UInt8) : Int := if l.head? = some 45 then -(digF 0 l : Int) else digF 0 l
theorem head_dec (u : Nat) : ∃ c r, decDigits u = c :: r ∧ 48 ≤ c.toNat ∧ c.toNat ≤ 57 := by
  rcases h : decDigits u with _ | ⟨c, r⟩
  · exact absurd h (decDigits_ne u)
  · have := decDigits_all u c (by rw [h]; simp)
    exact ⟨c, r, rfl, by simpa [isD] using this⟩
theorem valL_itoa (n : Int) : valL (itoa n) = n := by
  unfold itoa
  by_cases h : n < 0
  · rw [if_pos h]
    unfold valL digF
    rw [if_pos (show (45 :: decDigits n.natAbs).head? = some 45 from rfl), if_neg (show ¬ isD 45 = true by decide), digF_dec]; omega
  · rw [if_neg h]
    obtain ⟨c, r, e, h1, h2⟩ := head_dec n.toNat
    unfold valL
    rw [if_neg, digF_dec]
    · omega
    · rw [e]; simp; rintro rfl; simp at h1
theorem itoa_len {n : Int} (h1 : -1000000000000000 ≤ n) (h2 : n ≤ 1000000000000000) : 1 ≤ (itoa n).length ∧ (itoa n).length ≤ 17 := by
  unfold itoa
  by_cases h : n < 0
  · rw [if_pos h, List.length_cons]
    have := decDigits_len 15 n.natAbs (by have : (10 : Nat) ^ 16 = 10000000000000000 := by decide
                                          omega)
    omega
  · rw [if_neg h]
    have := decDigits_len 15 n.toNat (by have : (10 : Nat) ^ 16 = 10000000000000000 := by decide
                                         omega)
    have := List.length_pos_iff.2 (decDigits_ne n.toNat)
    omega

/-- The texts of the numbers that are not too great. -/
def okL (l : List UInt8) : Bool := decide (-1000000000000000 ≤ valL l) && decide (valL l ≤ 1000000000000000) && decide (itoa (valL l) = l)
theorem okL_len {l : List UInt8} (h : okL l = true) : 1 ≤ l.length ∧ l.length ≤ 17 := by
  simp only [okL, Bool.and_eq_true, decide_eq_true_eq] at h
  have := itoa_len h.1.1 h.1.2
  rwa [h.2] at this

theorem parseM_append (M : Nat) (b : List UInt8) : ∀ (a : List UInt8) (acc x : Nat), parseUintM M acc a = .ok x → parseUintM M acc (a ++ b) = parseUintM M x b := by
  intro a
  induction a with
  | nil => intro acc x h; unfold parseUintM at h; cases h; rfl
  | cons c a ih =>
    intro acc x h
    rw [List.cons_append]
    rw [parseUintM.eq_2] at h ⊢
    split at h
    · split at h
      · cases h
      · split at h
        · cases h
        · rename_i h1 h2 h3
          rw [if_pos h1, if_neg h2, if_neg h3]
          exact ih _ _ h
    · cases h
theorem parseM_dec {M : Nat} (hM : 18446744073709551610 ≤ M) (u : Nat) : u < 18446744073709551610 → parseUintM M 0 (decDigits u) = .ok u := by
  induction u using Nat.strongRecOn with
  | _ u ih =>
    intro hu
    by_cases h : u < 10
    · rw [decDigits_small h]
      unfold parseUintM parseUintM
      rw [dig_toNat h, if_pos (by omega), if_neg (by omega), if_neg (by omega)]
      congr 1; omega
    · rw [decDigits_big h, parseM_append _ _ _ _ _ (ih (u / 10) (by omega) (by omega))]
      unfold parseUintM parseUintM
      rw [dig_toNat (Nat.mod_lt _ (by omega)), if_pos (by omega), if_neg (by omega), if_neg (by omega)]
      congr 1; omega
theorem parse_itoa {n : Int} (h1 : -1000000000000000 ≤ n) (h2 : n ≤ 1000000000000000) : parseIntB 64 (itoa n) = .ok n := by
  have e64 : (2 : Nat) ^ 64 - 1 = 18446744073709551615 := by decide
  have e63 : (2 : Nat) ^ (64 - 1) = 9223372036854775808 := by decide
  unfold itoa
  by_cases h : n < 0
  · rw [if_pos h]
    unfold parseIntB
    have := parseM_dec (M := 2 ^ 64 - 1) (by rw [e64]; omega) n.natAbs (by omega)
    have hp : parseUintB 64 (decDigits n.natAbs) = .ok n.natAbs := by unfold parseUintB; rw [if_neg (decDigits_ne _), this]
    simp only [show ((45 : UInt8).toNat = 43 ∨ (45 : UInt8).toNat = 45) from Or.inr rfl, if_true, hp]
    rw [if_neg (by simp), if_neg (by rw [e63]; omega), if_pos (show (45 : UInt8).toNat = 45 from rfl)]
    congr 1; omega
  · rw [if_neg h]
    obtain ⟨c, r, e, h3, h4⟩ := head_dec n.toNat
    have := parseM_dec (M := 2 ^ 64 - 1) (by rw [e64]; omega) n.toNat (by omega)
    have hp : parseUintB 64 (c :: r) = .ok n.toNat := by rw [← e]; unfold parseUintB; rw [if_neg (decDigits_ne _), this]
    rw [e]
    unfold parseIntB
    have hc : ¬ (c.toNat = 43 ∨ c.toNat = 45) := by omega
    simp only [if_neg hc, hp]
    rw [if_neg (by rw [e63]; omega), if_neg (by omega), if_neg (by omega)]
    congr 1; omega
/-- ParseInt and the reference agree: a text is read just where it is the text of its own number. -/
theorem parse_okL {l : List UInt8} (h : okL l = true) : parseIntB 64 l = .ok (valL l) := by
  simp only [okL, Bool.and_eq_true, decide_eq_true_eq] at h
  have := parse_itoa h.1.1 h.1.2
  rwa [h.2] at this
theorem okL_of_parse {l : List UInt8} {n : Int} (h1 : -1000000000000000 ≤ n) (h2 : n ≤ 1000000000000000) (h : itoa n = l) : okL l = true ∧ valL l = n := by
  subst h
  rw [valL_itoa]
  refine ⟨?_, rfl⟩
  unfold okL
  rw [valL_itoa]
  simp; omega
end Go.Proofs.YtmiajfdhdpmeoaaGreatDoor

namespace Go.Proofs.YtmiajfdhdpmeoaaGreatDoor
open Go.RowKit

/-- The byte at i (0 behind the end). -/
def byteAt (s : ByteArray) (i : Nat) : Nat := (s.data.toList.getD i 0).toNat
theorem byteAt_lt (s : ByteArray) (i : Nat) : byteAt s i < 256 := (s.data.toList.getD i 0).toNat_lt
theorem byteAt_eq {s : ByteArray} {i : Nat} (h : i < s.size) : (s[i]'h).toNat = byteAt s i := by
  unfold byteAt
  have h2 : i < s.data.toList.length := by simpa using h
  rw [List.getD_eq_getElem?_getD, List.getElem?_eq_getElem h2]
  rfl

theorem impl_withinD (n l h : Int) (w : World) : Calls Tryz.prog 41 #[.int .i64 n, .int .i64 l, .int .i64 h] w fun e w' => e = .returned (.bool (decide (l ≤ n) && decide (n ≤ h))) ∧ w = w' := by
  by_cases h1 : l ≤ n
  · by_cases h2 : n ≤ h
    · go_enter Tryz.func41, Tryz.ntmps41
      go_wp2
      go_ret
      exact ⟨by simp [h1, h2], rfl⟩
    · go_enter Tryz.func41, Tryz.ntmps41
      go_wp2
      go_ret
      exact ⟨by simp [h2], rfl⟩
  · go_enter Tryz.func41, Tryz.ntmps41
    go_wp2
    go_ret
    exact ⟨by simp; omega, rfl⟩

end Go.Proofs.YtmiajfdhdpmeoaaGreatDoor
