/-
  What the law writes into a list of int64 and looks for again: marks, whole numbers from k on. Condition: lengths below 2^31, marks below 2^33.
-/
import Derived.Test.YthegbaaelccekaaDoorRb
namespace Go.Proofs.YthegbaaelccekaaDoor
open Go.RowKit Go.Lib Go.Joins

theorem lt_of_rowIs {w : World} {g : Nat} {e : TypeId} {n : Nat} {f : Nat → Value} (h : w.rowIs g e n f) : g < w.heap.size := World.rowIs.lt h
/-- Of what stood, only the list at a has turned. -/
def TurnedV (a : Option Addr) (w w' : World) : Prop := ∀ j, j < w.heap.size → (∀ x, a = some x → x.block ≠ j) → w'.heap[j]? = w.heap[j]?
theorem rowV.lt {w : World} {e : TypeId} {B : Nat} {a : Option Addr} {us : List Value} (h : rowV w e B a us) (x : Addr) (hx : a = some x) : B ≤ x.block ∧ x.block < w.heap.size := by
  rcases h with ⟨rfl, _⟩ | ⟨g, rfl, hB, n, f, hn, hr, hf⟩
  · cases hx
  · cases hx; exact ⟨hB, lt_of_rowIs hr⟩
theorem rowV.stays {w w' : World} {e : TypeId} {B : Nat} {a : Option Addr} {us : List Value} (h : rowV w e B a us) (hb : Below w.heap.size w w') : rowV w' e B a us := by
  rcases h with h | ⟨g, rfl, hB, n, f, hn, hr, hf⟩
  · exact Or.inl h
  · exact Or.inr ⟨g, rfl, hB, n, f, hn, World.rowIs.of_block hr (hb.block _ (lt_of_rowIs hr)), hf⟩
theorem rowV.turned {w w' : World} {e : TypeId} {B : Nat} {a a' : Option Addr} {us : List Value} (h : rowV w e B a us) (ht : TurnedV a' w w') (hd : ∀ x y, a = some x → a' = some y → y.block ≠ x.block) : rowV w' e B a us := by
  rcases h with h | ⟨g, rfl, hB, n, f, hn, hr, hf⟩
  · exact Or.inl h
  · exact Or.inr ⟨g, rfl, hB, n, f, hn, World.rowIs.of_block hr (ht _ (lt_of_rowIs hr) fun y hy => hd _ y rfl hy), hf⟩
/-- n marks from k on. -/
def mvals (m : Nat → Value) (k n : Nat) : List Value := (List.range n).map fun i => m (k + i)
theorem mvals_len (m : Nat → Value) (k n : Nat) : (mvals m k n).length = n := by simp [mvals]
theorem mvals_get (m : Nat → Value) (k n i : Nat) (h : i < n) : (mvals m k n).getD i undef = m (k + i) := by
  unfold mvals
  rw [List.getD_eq_getElem?_getD, List.getElem?_map, List.getElem?_eq_getElem (by simpa using h)]
  simp
def markI (k : Nat) : Value := .int .i64 k

theorem laws_markInt64S (a : Option Addr) (n c k B : Nat) (us : List Value) (w : World) (hn : us.length = n) (hr : Hid (rowV w 2 B a us)) (hx : n < 2147483648) (hk : k < 8589934592) :
    Calls Tryd.prog 21 #[.slice a n c, .int .i64 k] w fun e w' => e = .returned (.int .i64 (k + n : Nat)) ∧ (∀ B', B' ≤ B → B' ≤ w.heap.size → Below B' w w') ∧ TurnedV a w w' ∧ Hid (rowV w' 2 B a (mvals markI k n)) := by
  rcases hr.out with ⟨rfl, rfl⟩ | ⟨b, rfl, hB, N, f, hN, h2, h3⟩
  · simp at hn
    subst hn
    go_enter Tryd.func21, Tryd.ntmps21
    go_wp2
    go_loopg [5, 1] 0 (fun g i k' wr => g = 0 ∧ i = .int .i64 0 ∧ k' = .int .i64 k ∧ wr = w)
    case atStart => exact ⟨rfl, rfl, rfl, rfl⟩
    case round =>
      obtain ⟨rfl, rfl, rfl, rfl⟩ := hrel
      go_wp2
      go_ret
      exact ⟨rfl, fun B' _ _ => Below.refl _ _, fun _ _ _ => rfl, Or.inl ⟨rfl, rfl⟩⟩
  · have HN := Lib.hid hn
    have HB := Lib.hid hB
    rw [hn] at h3 hN
    have hbl := lt_of_rowIs h2
    have H := Lib.hid h2
    have F := Lib.hid h3
    clear hr hn hB h2 h3
    go_enter Tryd.func21, Tryd.ntmps21
    go_wp2
    go_loopg [5, 1] n (fun g i k' wr => ∃ j : Nat, g + j = n ∧ i = .int .i64 j ∧ k' = .int .i64 (k + j : Nat) ∧ Below b w wr ∧ TurnedV (some ⟨b, 0, none⟩) w wr ∧ wr.rowIs b 2 N (fun i => if i < j then markI (k + i) else f i))
    case atStart => exact ⟨0, by omega, rfl, rfl, Below.refl _ _, fun _ _ _ => rfl, World.rowIs.congr H.out (fun i _ => by rw [if_neg (by omega)])⟩
    case round =>
      obtain ⟨j, hj, rfl, rfl, hbel, htu, hrow⟩ := hrel
      have HT := Lib.hid htu
      have HL := Lib.hid hbel
      have HR := Lib.hid hrow
      by_cases hlt : j < n
      · have hdst : wr.cell? ⟨b, j, none⟩ = some (f j) := (hrow.cell (Nat.lt_of_lt_of_le hlt hN)).trans (by rw [if_neg (by omega)])
        have hfr := hrow.frozen j
        generalize f j = x at hdst
        clear hrow htu hbel
        go_wp2
        go_roundg (gk - 1)
        case measure => omega
        case rel =>
          refine ⟨j + 1, by omega, by go_num, by go_num, HL.out.setCell (Nat.le_refl _) _, fun i hi hne => ?_, (HR.out.set j _).congr fun i hi => ?_⟩
          · rw [Below.heap_setCell wr ⟨b, j, none⟩ _ i (fun hh => hne ⟨b, 0, none⟩ rfl hh.symm)]
            exact HT.out i hi hne
          · by_cases h1 : i = j
            · subst h1
              rw [if_pos (show i < i + 1 by omega), if_pos rfl]
              simp [markI]
            · rw [if_neg h1]
              by_cases h2 : i < j
              · rw [if_pos h2, if_pos (by omega)]
              · rw [if_neg h2, if_neg (by omega)]
      · have hjn : j = n := by omega
        subst hjn
        clear hrow htu hbel
        go_wp2
        go_ret
        exact ⟨rfl, fun B' h1 _ => HL.out.mono (Nat.le_trans h1 HB.out), HT.out, Or.inr ⟨b, rfl, HB.out, N, _, by rw [mvals_len]; exact hN, HR.out, fun i hi => by rw [mvals_len] at hi; rw [if_pos hi, mvals_get _ _ _ _ hi]⟩⟩

theorem laws_heldInt64S (a : Option Addr) (n c k B : Nat) (w : World) (hr : Hid (rowV w 2 B a (mvals markI k n))) (hx : n < 2147483648) (hk : k < 8589934592) :
    Calls Tryd.prog 22 #[.slice a n c, .int .i64 k] w fun e w' => e = .returned (.int .i64 (k + n : Nat)) ∧ w' = w := by
  rcases hr.out with ⟨rfl, h0⟩ | ⟨b, rfl, hB, N, f, hN, h2, h3⟩
  · have hn := mvals_len markI k n
    rw [h0] at hn
    simp at hn
    subst hn
    clear h0 hr
    go_enter Tryd.func22, Tryd.ntmps22
    go_wp2
    go_loopg [5, 1] 0 (fun g i k' wr => g = 0 ∧ i = .int .i64 0 ∧ k' = .int .i64 k ∧ wr = w)
    case atStart => exact ⟨rfl, rfl, rfl, rfl⟩
    case round =>
      obtain ⟨rfl, rfl, rfl, rfl⟩ := hrel
      go_wp2
      go_ret
      exact ⟨rfl, rfl⟩
  · have H : Hid (∀ i, i < n → w.cell? ⟨b, i, none⟩ = some (.int .i64 (k + i : Nat))) := fun i hi => by
      rw [mvals_len] at hN h3
      rw [h2.cell (Nat.lt_of_lt_of_le hi hN), h3 i hi, mvals_get _ _ _ _ hi]; rfl
    clear hr h2 h3 hB hN
    go_enter Tryd.func22, Tryd.ntmps22
    go_wp2
    go_loopg [5, 1] n (fun g i k' wr => ∃ j : Nat, g + j = n ∧ i = .int .i64 j ∧ k' = .int .i64 (k + j : Nat) ∧ wr = w)
    case atStart => exact ⟨0, by omega, rfl, rfl, rfl⟩
    case round =>
      obtain ⟨j, hj, rfl, rfl, rfl⟩ := hrel
      by_cases hlt : j < n
      · have hsrc : wr.cell? ⟨b, j, none⟩ = some (.int .i64 (k + j : Nat)) := H.out j hlt
        have hself : (((k + j : Nat) : Int) != (k : Int) + (j : Int)) = false := by rw [bne_eq_false_iff_eq]; omega
        go_wp2
        go_roundg (gk - 1)
        case measure => omega
        case rel => exact ⟨j + 1, by omega, by go_num, by go_num, rfl⟩
      · have hjn : j = n := by omega
        subst hjn
        go_wp2
        go_ret
        exact ⟨rfl, rfl⟩

/-- A list of the call's own, for the laws that only read it. -/
theorem rowV.ils {w : World} {B : Nat} {a : Option Addr} {zs : List Int} (h : rowV w 2 B a (zs.map (Value.int .i64))) : ils w a zs := by
  intro i hi
  obtain ⟨g, rfl, _, hc⟩ := h.cell (i := i) (by simpa using hi)
  refine ⟨g, 0, rfl, ?_⟩
  rw [Nat.zero_add, hc, List.getD_eq_getElem?_getD, List.getElem?_map, List.getElem?_eq_getElem hi, List.getD_eq_getElem?_getD, List.getElem?_eq_getElem hi]
  rfl
end Go.Proofs.YthegbaaelccekaaDoor
