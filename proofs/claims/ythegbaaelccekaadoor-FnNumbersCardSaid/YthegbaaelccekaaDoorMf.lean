/-
  What the law writes into a list of float32 and looks for again: marks, whole numbers from k on. Condition: lengths below 2^31, marks below 2^33.
-/
import Derived.Test.YthegbaaelccekaaDoorMk
import Derived.Test.YthegbaaelccekaaDoorFu
namespace Go.Proofs.YthegbaaelccekaaDoor
open Go.RowKit Go.Lib Go.Joins Ieee

/-- The mark k. -/
def mk32 (k : Nat) : Nat := floatOfInt .f32 k
theorem mk32_self (k : Nat) : FloatKind.f32.format.order (mk32 k) (mk32 k) = some .eq := order_self _ _ (read_write_notNaN single (.number (decide ((k : Int) < 0)) (k : Int).natAbs 0) rfl)
def markF (k : Nat) : Value := .float .f32 (mk32 k)

theorem laws_markFloat32S (a : Option Addr) (n c k B : Nat) (us : List Value) (w : World) (hn : us.length = n) (hr : Hid (rowV w 51 B a us)) (hx : n < 2147483648) (hk : k < 8589934592) :
    Calls Tryd.prog 29 #[.slice a n c, .int .i64 k] w fun e w' => e = .returned (.int .i64 (k + n : Nat)) ∧ (∀ B', B' ≤ B → B' ≤ w.heap.size → Below B' w w') ∧ TurnedV a w w' ∧ Hid (rowV w' 51 B a (mvals markF k n)) := by
  rcases hr.out with ⟨rfl, rfl⟩ | ⟨b, rfl, hB, N, f, hN, h2, h3⟩
  · simp at hn
    subst hn
    go_enter Tryd.func29, Tryd.ntmps29
    go_wp2
    go_loopg [5, 1] 0 (fun g i k' wr => g = 0 ∧ i = .int .i64 0 ∧ k' = .int .i64 k ∧ wr = w)
    case atStart => exact ⟨rfl, rfl, rfl, rfl⟩
    case round =>
      obtain ⟨rfl, rfl, rfl, rfl⟩ := hrel
      go_wp2
      go_ret
      exact ⟨rfl, fun B' _ _ => Below.refl _ _, fun _ _ _ => rfl, Or.inl ⟨rfl, rfl⟩⟩
  · have HN := Lib.hid hn
    have HB := Lib.hid hB
    rw [hn] at h3 hN
    have hbl := lt_of_rowIs h2
    have H := Lib.hid h2
    have F := Lib.hid h3
    clear hr hn hB h2 h3
    go_enter Tryd.func29, Tryd.ntmps29
    go_wp2
    go_loopg [5, 1] n (fun g i k' wr => ∃ j : Nat, g + j = n ∧ i = .int .i64 j ∧ k' = .int .i64 (k + j : Nat) ∧ Below b w wr ∧ TurnedV (some ⟨b, 0, none⟩) w wr ∧ wr.rowIs b 51 N (fun i => if i < j then markF (k + i) else f i))
    case atStart => exact ⟨0, by omega, rfl, rfl, Below.refl _ _, fun _ _ _ => rfl, World.rowIs.congr H.out (fun i _ => by rw [if_neg (by omega)])⟩
    case round =>
      obtain ⟨j, hj, rfl, rfl, hbel, htu, hrow⟩ := hrel
      have HT := Lib.hid htu
      have HL := Lib.hid hbel
      have HR := Lib.hid hrow
      by_cases hlt : j < n
      · have hdst : wr.cell? ⟨b, j, none⟩ = some (f j) := (hrow.cell (Nat.lt_of_lt_of_le hlt hN)).trans (by rw [if_neg (by omega)])
        have hfr := hrow.frozen j
        generalize f j = x at hdst
        clear hrow htu hbel
        go_wp2
        go_roundg (gk - 1)
        case measure => omega
        case rel =>
          refine ⟨j + 1, by omega, by go_num, by go_num, HL.out.setCell (Nat.le_refl _) _, fun i hi hne => ?_, (HR.out.set j _).congr fun i hi => ?_⟩
          · rw [Below.heap_setCell wr ⟨b, j, none⟩ _ i (fun hh => hne ⟨b, 0, none⟩ rfl hh.symm)]
            exact HT.out i hi hne
          · by_cases h1 : i = j
            · subst h1
              rw [if_pos (show i < i + 1 by omega), if_pos rfl]
              simp [markF, mk32]
            · rw [if_neg h1]
              by_cases h2 : i < j
              · rw [if_pos h2, if_pos (by omega)]
              · rw [if_neg h2, if_neg (by omega)]
      · have hjn : j = n := by omega
        subst hjn
        clear hrow htu hbel
        go_wp2
        go_ret
        exact ⟨rfl, fun B' h1 _ => HL.out.mono (Nat.le_trans h1 HB.out), HT.out, Or.inr ⟨b, rfl, HB.out, N, _, by rw [mvals_len]; exact hN, HR.out, fun i hi => by rw [mvals_len] at hi; rw [if_pos hi, mvals_get _ _ _ _ hi]⟩⟩

theorem laws_heldFloat32S (a : Option Addr) (n c k B : Nat) (w : World) (hr : Hid (rowV w 51 B a (mvals markF k n))) (hx : n < 2147483648) (hk : k < 8589934592) :
    Calls Tryd.prog 30 #[.slice a n c, .int .i64 k] w fun e w' => e = .returned (.int .i64 (k + n : Nat)) ∧ w' = w := by
  rcases hr.out with ⟨rfl, h0⟩ | ⟨b, rfl, hB, N, f, hN, h2, h3⟩
  · have hn := mvals_len markF k n
    rw [h0] at hn
    simp at hn
    subst hn
    clear h0 hr
    go_enter Tryd.func30, Tryd.ntmps30
    go_wp2
    go_loopg [5, 1] 0 (fun g i k' wr => g = 0 ∧ i = .int .i64 0 ∧ k' = .int .i64 k ∧ wr = w)
    case atStart => exact ⟨rfl, rfl, rfl, rfl⟩
    case round =>
      obtain ⟨rfl, rfl, rfl, rfl⟩ := hrel
      go_wp2
      go_ret
      exact ⟨rfl, rfl⟩
  · have H : Hid (∀ i, i < n → w.cell? ⟨b, i, none⟩ = some (.float .f32 (mk32 (k + i)))) := fun i hi => by
      rw [mvals_len] at hN h3
      rw [h2.cell (Nat.lt_of_lt_of_le hi hN), h3 i hi, mvals_get _ _ _ _ hi]; rfl
    clear hr h2 h3 hB hN
    go_enter Tryd.func30, Tryd.ntmps30
    go_wp2
    go_loopg [5, 1] n (fun g i k' wr => ∃ j : Nat, g + j = n ∧ i = .int .i64 j ∧ k' = .int .i64 (k + j : Nat) ∧ wr = w)
    case atStart => exact ⟨0, by omega, rfl, rfl, rfl⟩
    case round =>
      obtain ⟨j, hj, rfl, rfl, rfl⟩ := hrel
      by_cases hlt : j < n
      · have hsrc : wr.cell? ⟨b, j, none⟩ = some (.float .f32 (mk32 (k + j))) := H.out j hlt
        have hself := mk32_self (k + j)
        have hconv : floatOfInt .f32 ((k : Int) + (j : Int)) = mk32 (k + j) := by unfold mk32; rw [Int.natCast_add]
        generalize mk32 (k + j) = x at hsrc hself hconv
        go_wp2
        go_roundg (gk - 1)
        case measure => omega
        case rel => exact ⟨j + 1, by omega, by go_num, by go_num, rfl⟩
      · have hjn : j = n := by omega
        subst hjn
        go_wp2
        go_ret
        exact ⟨rfl, rfl⟩

theorem rowV.fls {w : World} {B : Nat} {a : Option Addr} {xs : List Nat} (h : rowV w 51 B a (xs.map (Value.float .f32))) : fls w a xs := by
  intro i hi
  obtain ⟨g, rfl, _, hc⟩ := h.cell (i := i) (by simpa using hi)
  refine ⟨g, 0, rfl, ?_⟩
  rw [Nat.zero_add, hc, List.getD_eq_getElem?_getD, List.getElem?_map, List.getElem?_eq_getElem hi, List.getD_eq_getElem?_getD, List.getElem?_eq_getElem hi]
  rfl
end Go.Proofs.YthegbaaelccekaaDoor
