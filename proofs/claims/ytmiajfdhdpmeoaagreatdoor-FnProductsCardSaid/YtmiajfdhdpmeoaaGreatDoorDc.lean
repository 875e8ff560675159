/-
  ReadDecimal, in the program and in the reference; its law's walk. Condition: the listed variables (the table, the two errors) read as listed; a text longer than 2^20 bytes is not asked.
-/
import Derived.Test.YtmiajfdhdpmeoaaGreatDoorDb
import Derived.Test.YtmiajfdhdpmeoaaGreatDoorMp
namespace Go.Proofs.YtmiajfdhdpmeoaaGreatDoor
open Go.RowKit Go.Lib Go.Joins

def Errs (w : World) : Prop := (∃ tp p, w.var? Tryz.prog "strconv.ErrSyntax" = some #[.iface tp p]) ∧ ∃ tp p, w.var? Tryz.prog "strconv.ErrRange" = some #[.iface tp p]
theorem Errs.on {B : Nat} {w w' : World} (h : Errs w) (hb : Below B w w') (hB : w.heap.size ≤ B) : Errs w' := by
  obtain ⟨⟨t1, p1, h1⟩, t2, p2, h2⟩ := h
  exact ⟨⟨t1, p1, var_stays (g := 3) (by kernel_rfl) h1 hb hB⟩, t2, p2, var_stays (g := 4) (by kernel_rfl) h2 hb hB⟩

theorem digF_lt (l : List UInt8) : ∀ acc k, acc < 10 ^ k → digF acc l < 10 ^ (k + l.length) := by
  induction l with
  | nil => intro acc k h; exact h
  | cons c r ih =>
    intro acc k h
    unfold digF
    rw [List.length_cons, show k + (r.length + 1) = (k + 1) + r.length by omega]
    refine ih _ _ ?_
    rw [Nat.pow_succ]
    split
    · rename_i hd
      simp only [isD, Bool.and_eq_true, decide_eq_true_eq] at hd
      omega
    · omega
/-- What the reader of the reference has read of the first j bytes. -/
def readN (s : ByteArray) (j : Nat) : Nat := digF 0 (s.data.toList.take j)
theorem readN_lt (s : ByteArray) {j : Nat} (h : j ≤ 16) : readN s j < 10000000000000000 := by
  have h1 := digF_lt (s.data.toList.take j) 0 0 (by decide)
  have h2 : (s.data.toList.take j).length ≤ 16 := by rw [List.length_take]; omega
  have h3 : (10 : Nat) ^ (0 + (s.data.toList.take j).length) ≤ 10 ^ 16 := Nat.pow_le_pow_right (by decide) (by omega)
  have h4 : (10 : Nat) ^ 16 = 10000000000000000 := by decide
  unfold readN; omega
theorem readN_lt2 (s : ByteArray) (h : s.size ≤ 17) : readN s s.size < 100000000000000000 := by
  have h1 := digF_lt (s.data.toList.take s.size) 0 0 (by decide)
  have h2 : (s.data.toList.take s.size).length ≤ 17 := by rw [List.length_take]; omega
  have h3 : (10 : Nat) ^ (0 + (s.data.toList.take s.size).length) ≤ 10 ^ 17 := Nat.pow_le_pow_right (by decide) (by omega)
  have h4 : (10 : Nat) ^ 17 = 100000000000000000 := by decide
  unfold readN; omega
theorem digF_one (acc : Nat) (c : UInt8) : digF acc [c] = if 48 ≤ c.toNat ∧ c.toNat ≤ 57 then 10 * acc + (c.toNat - 48) else acc := by
  show (if isD c = true then 10 * acc + (c.toNat - 48) else acc) = _
  simp [isD]
theorem readN_step {s : ByteArray} {j : Nat} (h : j < s.size) : readN s (j + 1) = if 48 ≤ byteAt s j ∧ byteAt s j ≤ 57 then 10 * readN s j + (byteAt s j - 48) else readN s j := by
  unfold readN
  have h2 : j < s.data.toList.length := by simpa using h
  rw [List.take_add_one, digF_append, List.getElem?_eq_getElem h2]
  have hb : byteAt s j = s.data.toList[j].toNat := by unfold byteAt; rw [List.getD_eq_getElem?_getD, List.getElem?_eq_getElem h2]; rfl
  rw [hb]
  exact digF_one _ _
theorem readN_all (s : ByteArray) : readN s s.size = digF 0 s.data.toList := by
  unfold readN
  rw [List.take_of_length_le (by simp)]
theorem head_byte {s : ByteArray} (h : 1 ≤ s.size) : s.data.toList.head? = some 45 ↔ byteAt s 0 = 45 := by
  unfold byteAt
  rcases e : s.data.toList with _ | ⟨c, r⟩
  · have h3 : s.data.toList.length = s.size := by simp
    rw [e, List.length_nil] at h3; omega
  · simp only [List.head?_cons, Option.some.injEq, List.getD_cons_zero]
    exact ⟨fun h => by rw [h]; rfl, fun h => UInt8.toNat_inj.1 h⟩
theorem text_eq (s : ByteArray) (l : List UInt8) : (⟨l.toArray⟩ : ByteArray) = s ↔ l = s.data.toList := by
  constructor
  · rintro rfl; simp
  · rintro rfl; simp

theorem text_ne {s : ByteArray} {l : List UInt8} (h : ¬ (⟨l.toArray⟩ : ByteArray) = s) : (l == s.toList) = false := by
  rw [ByteArray.toList_eq, beq_eq_false_iff_ne]
  exact fun e => h ((text_eq s _).2 e)

/-- What both readers answer. -/
def okD (s : ByteArray) : Bool := okL s.data.toList
def numDv (s : ByteArray) : Int := if okD s = true then valL s.data.toList else 0

theorem not_okD {s : ByteArray} (h : ∀ v, parseIntB 64 s.data.toList ≠ .ok v) : okD s = false ∧ numDv s = 0 := by
  have h9 : okD s = false := by
    cases h8 : okD s
    · rfl
    · exact absurd (parse_okL h8) (h _)
  exact ⟨h9, by unfold numDv; rw [h9]; rfl⟩
theorem below_bytes (w : World) (e : TypeId) (t : ByteArray) : Below w.heap.size w (bytesWorld w e t) :=
  ⟨rfl, rfl, rfl, by rw [bytesWorld_size]; omega, fun j hj => bytesWorld_at_old w e t j hj⟩
end Go.Proofs.YtmiajfdhdpmeoaaGreatDoor
