/-
  Lists of int64: arguments opened; the laws' own copies and comparisons of them. Condition: lengths below 2^31.
  ListText in the reference. Condition: lengths below 2^31.
  ListText in the program; its law's walk. Condition: the table reads as listed; a list longer than 2^20 is not asked.
-/
import Derived.Test.YtmiajfdhdpmeoaaGreatDoorDc
import Derived.Deep.OwnRows
import Derived.Deep.Slices
import Derived.Laws.Cover2
import Derived.Below
import Derived.Lib.Join
namespace Go.Proofs.YtmiajfdhdpmeoaaGreatDoor
open Go.RowKit Go.ChangeShapes Go.WideShapes Go.Deep Go.Joins

/-- The cells from a on hold these integers. -/
def ils (w : World) (a : Option Addr) (zs : List Int) : Prop := ∀ i, i < zs.length → ∃ b off, a = some ⟨b, off, none⟩ ∧ w.cell? ⟨b, off + i, none⟩ = some (.int .i64 (zs.getD i 0))
theorem ils.on {B : Nat} {w w' : World} {a : Option Addr} {zs : List Int} (h : ils w a zs) (hb : Below B w w') (hB : w.heap.size ≤ B) : ils w' a zs := by
  intro i hi
  obtain ⟨b, off, e, hc⟩ := h i hi
  refine ⟨b, off, e, ?_⟩
  have := lt_cell hc
  rw [hb.cell (p := ⟨b, off + i, none⟩) (show b < B from Nat.lt_of_lt_of_le this hB)]
  exact hc

section
variable {H : Type} {enc : TypeId × Value → H} {w : World} {base b0 : Nat} {spare : Nat → Bool} {held : Bool}
set_option maxRecDepth 10000 in
theorem open_ints64 {v : Value} {d : DataW H} {ps : List MemPlace} (hv : Value.okWide Tryz.prog w .any b0 93 v) (h : DataW.Trod enc Tryz.prog w base spare held 93 v d ps) :
    ∃ (a : Option Addr) (n c : Nat) (zs : List Int), v = .slice a n c ∧ zs.length = n ∧ ils w a zs ∧ (∀ i, i < n → -9223372036854775808 ≤ zs.getD i 0 ∧ zs.getD i 0 ≤ 9223372036854775807) ∧ n < 9223372036854775808 := by
  obtain ⟨a, len, cap, rfl⟩ := okWide_slice Tryz.underlying93 hv
  obtain ⟨fuel, hf⟩ := h
  rcases open_slice1 Tryz.underlying93 (by kernel_rfl) hf with ⟨hc, _⟩ | ⟨a, len, cap, m, n, V, D, Pl, hc, _, hl, hmx, hm, _, hall⟩
  · simp only [Value.cells, List.cons.injEq, and_true] at hc
    cases hc
    exact ⟨none, 0, 0, [], rfl, rfl, fun i hi => absurd hi (Nat.not_lt_zero _), fun i hi => absurd hi (Nat.not_lt_zero _), by omega⟩
  · simp only [Value.cells, List.cons.injEq, and_true] at hc
    cases hc
    have hlm : len ≤ m := by rw [hm]; split <;> omega
    have hB : ∀ i, i < len → ∃ b : Int, V i = .int .i64 b ∧ (-9223372036854775808 ≤ b ∧ b ≤ 9223372036854775807) := fun i hi => by
      obtain ⟨b, hb, _, hw⟩ := DataW.trod_int Tryz.underlying2 (hall i (by omega)).2
      simp only [List.cons.injEq, and_true] at hb
      have h3 : IntKind.i64.min ≤ b ∧ b ≤ IntKind.i64.max := by simpa [Lit.wf] using hw
      rw [show IntKind.i64.min = -9223372036854775808 from by kernel_rfl, show IntKind.i64.max = 9223372036854775807 from by kernel_rfl] at h3
      exact ⟨b, hb, h3⟩
    obtain ⟨X, hX⟩ := choose_lt hB
    obtain ⟨b, off, spot⟩ := a
    refine ⟨some ⟨b, off, spot⟩, len, cap, (List.range len).map X, rfl, by simp, fun i hi => ?_, fun i hi => ?_, Nat.lt_of_le_of_lt (Nat.le_trans hl hmx) (by decide +kernel)⟩
    · have hi' : i < len := by simpa using hi
      have hc := (hall i (by omega)).1
      have hspot : spot = none := by simpa [Addr.add] using World.cell?_spot (hall 0 (by omega)).1
      subst hspot
      refine ⟨b, off, rfl, ?_⟩
      rw [(hX i hi').1] at hc
      have e : ((List.range len).map X).getD i 0 = X i := by simp [List.getD, hi']
      rw [e]
      simpa [Addr.add_lit] using hc
    · have e : ((List.range len).map X).getD i 0 = X i := by simp [List.getD, hi]
      rw [e]
      exact (hX i hi).2
end

theorem info_i64 : (Tryz.prog.info? 2).map (fun i => (i.zero, i.size, i.bytes)) = some (some (.int .i64 0), 1, 8) := by kernel_rfl
/-- Row b holds these integers. -/
def ilr (w : World) (b : Nat) (zs : List Int) : Prop := w.rowIs b 2 zs.length (fun i => .int .i64 (zs.getD i 0))
theorem ilr.ils {w : World} {b : Nat} {zs : List Int} (h : ilr w b zs) : ils w (some ⟨b, 0, none⟩) zs := fun i hi => ⟨b, 0, rfl, by rw [Nat.zero_add]; exact h.cell hi⟩

end Go.Proofs.YtmiajfdhdpmeoaaGreatDoor

namespace Go.Proofs.YtmiajfdhdpmeoaaGreatDoor
open Go.RowKit Go.Lib Go.Joins

def inV (z : Int) : Bool := decide (-1000000000000000 ≤ z) && decide (z ≤ 1000000000000000)
/-- The first j are not too great. -/
def allV (zs : List Int) : Nat → Bool
  | 0 => true
  | j + 1 => allV zs j && inV (zs.getD j 0)
theorem allV_false {zs : List Int} {j n : Nat} (hj : j < n) (h : inV (zs.getD j 0) = false) : allV zs n = false := by
  induction n with
  | zero => omega
  | succ k ih =>
    by_cases hk : j = k
    · subst hk; unfold allV; rw [h, Bool.and_false]
    · unfold allV; rw [ih (by omega), Bool.false_and]
theorem allV_at {zs : List Int} {n : Nat} (h : allV zs n = true) {j : Nat} (hj : j < n) : -1000000000000000 ≤ zs.getD j 0 ∧ zs.getD j 0 ≤ 1000000000000000 := by
  cases hb : inV (zs.getD j 0)
  · rw [allV_false hj hb] at h; cases h
  · simpa [inV] using hb
def okT (zs : List Int) (n : Nat) : Bool := allV zs n && decide (n ≤ 64)
def noneL : List UInt8 := [110, 111, 110, 101]
def textL (zs : List Int) : List UInt8 := if zs = [] then noneL else join (zs.map itoa) [44]
def outT (zs : List Int) (n : Nat) : List UInt8 := if okT zs n = true then textL zs else []
/-- The text of the first j. -/
def textN (zs : List Int) (j : Nat) : List UInt8 := join ((zs.take j).map itoa) [44]
theorem textN_step {zs : List Int} {j : Nat} (h0 : 1 ≤ j) (h : j < zs.length) : textN zs (j + 1) = textN zs j ++ (44 :: itoa (zs.getD j 0)) := by
  unfold textN
  rcases zs with _ | ⟨z, r⟩
  · simp at h
  · obtain ⟨k, rfl⟩ : ∃ k, j = k + 1 := ⟨j - 1, by omega⟩
    have hk : k < r.length := by simpa using h
    rw [List.take_succ_cons, List.take_succ_cons, List.map_cons, List.map_cons, join_cons, join_cons, List.map_take, List.map_take,
      joinTail_take_succ [44] (r.map itoa) k (itoa (r.getD k 0)) (by rw [List.getElem?_map, List.getElem?_eq_getElem hk, List.getD_eq_getElem?_getD, List.getElem?_eq_getElem hk]; rfl)]
    simp
theorem textN_one {zs : List Int} (h : 1 ≤ zs.length) : textN zs 1 = itoa (zs.getD 0 0) := by
  rcases zs with _ | ⟨z, r⟩
  · simp at h
  · unfold textN; rw [List.take_succ_cons, List.take_zero, List.map_cons, List.map_nil, join_one]; rfl
theorem textN_all {zs : List Int} (h : 1 ≤ zs.length) : textN zs zs.length = textL zs := by
  unfold textN textL
  rw [List.take_length, if_neg (by intro e; rw [e] at h; simp at h)]

theorem cat3 (l m : List UInt8) : (⟨l.toArray⟩ ++ (⟨#[44]⟩ ++ ⟨m.toArray⟩) : ByteArray) = ⟨(l ++ 44 :: m).toArray⟩ := by apply ByteArray.ext; simp

end Go.Proofs.YtmiajfdhdpmeoaaGreatDoor

namespace Go.Proofs.YtmiajfdhdpmeoaaGreatDoor
open Go.RowKit Go.Lib Go.Joins

theorem belowD {B : Nat} {a w : World} (h : Below B a w) (n : Nat) : Below B a (w.drewN n) := h.trans ⟨rfl, rfl, rfl, Nat.le_refl _, fun _ _ => rfl⟩

theorem info_str : (Tryz.prog.info? 9).map (fun i => (i.zero, i.size, i.bytes)) = some (some (.string ⟨#[]⟩), 1, 16) := by kernel_rfl
theorem lens_le {L : List (List UInt8)} (h : ∀ l ∈ L, l.length ≤ 21) : lens L ≤ 21 * L.length := by
  induction L with
  | nil => simp [lens]
  | cons x r ih =>
    have h1 := h x (by simp)
    have h2 := ih (fun l hl => h l (by simp [hl]))
    simp only [lens, List.map_cons, List.sum_cons, List.length_cons] at h2 ⊢
    omega
theorem join_le {L : List (List UInt8)} (h : ∀ l ∈ L, l.length ≤ 21) : (join L [44]).length ≤ 22 * L.length := by
  rcases L with _ | ⟨x, r⟩
  · simp [join_nil]
  · have h1 := h x (by simp)
    have h2 := lens_le (fun l hl => h l (by simp [hl]) : ∀ l ∈ r, l.length ≤ 21)
    rw [join_cons, List.length_append, joinTail_length, List.length_cons]
    simp only [List.length_cons, List.length_nil]
    omega
/-- strings.Join of decimals that lie in a row. -/
theorem join_row (g n : Nat) (zs : List Int) (W : World) (hn : zs.length = n) (h0 : 0 < n) (hx : n ≤ 64) (hv : Hid (allV zs n = true)) (hr : Hid (W.rowIs g 9 n (fun i => .string ⟨(itoa (zs.getD i 0)).toArray⟩))) :
    Calls Tryz.prog 36 #[.slice (some ⟨g, 0, none⟩) n n, .string ⟨#[44]⟩] W fun e w' => e = .returned (.string ⟨(textL zs).toArray⟩) ∧ Below W.heap.size W w' := by
  have e1 : (zs.map (fun z => (⟨(itoa z).toArray⟩ : ByteArray))).length = n := by simp [hn]
  have e2 : ((zs.map (fun z => (⟨(itoa z).toArray⟩ : ByteArray))).map (·.data.toList)) = zs.map itoa := by
    rw [List.map_map]
    exact List.map_congr_left (fun z _ => by simp)
  have hz : zs ≠ [] := by rintro rfl; simp at hn; omega
  have hlen : (join (zs.map itoa) [44]).length ≤ 22 * n := by
    have := join_le (L := zs.map itoa) (fun l hl => by
      obtain ⟨z, hz, rfl⟩ := List.mem_map.1 hl
      obtain ⟨i, hi, rfl⟩ := List.getElem_of_mem hz
      have hb := allV_at hv.out (show i < n by omega)
      rw [List.getD_eq_getElem?_getD, List.getElem?_eq_getElem hi] at hb
      simp only [Option.getD_some] at hb
      exact itoa_length_le _ (by omega) (by omega))
    simpa [hn] using this
  have := Tryz.strings_Join g 0 n (zs.map (fun z => (⟨(itoa z).toArray⟩ : ByteArray))) ⟨#[44]⟩ W (fun j x hj => by
      have hj2 : j < n := by
        apply Nat.lt_of_not_le; intro hle
        rw [List.getElem?_eq_none (by rw [e1]; exact hle)] at hj; cases hj
      rw [Nat.zero_add, hr.out.cell hj2]
      rw [List.getElem?_map, List.getElem?_eq_getElem (by omega)] at hj
      rw [List.getD_eq_getElem?_getD, List.getElem?_eq_getElem (by omega)]
      simp only [Option.map_some, Option.some.injEq, Option.getD_some] at hj ⊢
      rw [hj]) hr.out.lt (by rw [e1]; omega) (by rw [e1]; exact Nat.le_refl _) (by rw [e2]; show (join (zs.map itoa) [44]).length ≤ _; omega)
  rw [e1, e2] at this
  have ht : textL zs = join (zs.map itoa) [44] := if_neg hz
  rw [ht]
  exact this

end Go.Proofs.YtmiajfdhdpmeoaaGreatDoor
