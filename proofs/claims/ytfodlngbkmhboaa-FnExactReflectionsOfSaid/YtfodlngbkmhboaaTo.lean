/-
  What the laws write into a list and look for again: marks, whole numbers from k on. Condition: lengths below 2^31, marks below 2^33.
-/
import Derived.Test.YtfodlngbkmhboaaTj
namespace Go.Proofs.Ytfodlngbkmhboaa
open Go.RowKit Ieee

/-- The mark k. -/
def mk32 (k : Nat) : Nat := floatOfInt .f32 k
theorem mk32_self (k : Nat) : FloatKind.f32.format.order (mk32 k) (mk32 k) = some .eq := order_self _ _ (read_write_notNaN single (.number (decide ((k : Int) < 0)) (k : Int).natAbs 0) rfl)

/-- Block b is a row, whose first n cells hold these values. -/
def prow (w : World) (b n : Nat) (v : Nat → Value) : Prop := ∃ N f, n ≤ N ∧ w.rowIs b 23 N f ∧ ∀ i, i < n → f i = v i
theorem prow.lt {w : World} {b n : Nat} {v : Nat → Value} (h : prow w b n v) : b < w.heap.size := by
  obtain ⟨N, f, _, h, _⟩ := h; exact World.rowIs.lt h
theorem prow.of_block {w w' : World} {b n : Nat} {v : Nat → Value} (h : prow w b n v) (e : w'.heap[b]? = w.heap[b]?) : prow w' b n v := by
  obtain ⟨N, f, h1, h2, h3⟩ := h; exact ⟨N, f, h1, World.rowIs.of_block h2 e, h3⟩

/-- A list of the call's own: nil, or at the head of a row in a block from B on. -/
def rowA (w : World) (B : Nat) (a : Option Addr) (xs : List Nat) : Prop := (a = none ∧ xs = []) ∨ ∃ b, a = some ⟨b, 0, none⟩ ∧ B ≤ b ∧ prow w b xs.length (fun i => .float .f32 (xs.getD i 0))
/-- The same, n marks from k on. -/
def mrowA (w : World) (B : Nat) (a : Option Addr) (k n : Nat) : Prop := (a = none ∧ n = 0) ∨ ∃ b, a = some ⟨b, 0, none⟩ ∧ B ≤ b ∧ prow w b n (fun i => .float .f32 (mk32 (k + i)))
/-- Of what stood, only the list at a has turned. -/
def TurnedA (a : Option Addr) (w w' : World) : Prop := ∀ j, j < w.heap.size → (∀ x, a = some x → x.block ≠ j) → w'.heap[j]? = w.heap[j]?

theorem rowA.fls {w : World} {B : Nat} {a : Option Addr} {xs : List Nat} (h : rowA w B a xs) : fls w a xs := by
  rcases h with ⟨rfl, rfl⟩ | ⟨b, rfl, _, h⟩
  · intro i hi; exact absurd hi (by simp)
  · intro i hi
    obtain ⟨N, f, h1, h2, h3⟩ := h
    exact ⟨b, 0, rfl, by rw [Nat.zero_add, h2.cell (Nat.lt_of_lt_of_le hi h1), h3 i hi]⟩
theorem flr.rowA {w : World} {B b : Nat} {xs : List Nat} (h : flr w b xs) (hB : B ≤ b) : rowA w B (some ⟨b, 0, none⟩) xs := Or.inr ⟨b, rfl, hB, xs.length, _, Nat.le_refl _, h, fun _ _ => rfl⟩
theorem rowA.lt {w : World} {B : Nat} {a : Option Addr} {xs : List Nat} (h : rowA w B a xs) (x : Addr) (hx : a = some x) : B ≤ x.block ∧ x.block < w.heap.size := by
  rcases h with ⟨rfl, rfl⟩ | ⟨b, rfl, hB, h⟩
  · cases hx
  · cases hx; exact ⟨hB, h.lt⟩
theorem rowA.stays {w w' : World} {B : Nat} {a : Option Addr} {xs : List Nat} (h : rowA w B a xs) (hb : Below w.heap.size w w') : rowA w' B a xs := by
  rcases h with h | ⟨b, rfl, hB, h⟩
  · exact Or.inl h
  · exact Or.inr ⟨b, rfl, hB, h.of_block (hb.block _ h.lt)⟩
theorem rowA.turned {w w' : World} {B : Nat} {a a' : Option Addr} {xs : List Nat} (h : rowA w B a xs) (ht : TurnedA a' w w') (hd : ∀ x y, a = some x → a' = some y → y.block ≠ x.block) : rowA w' B a xs := by
  rcases h with h | ⟨b, rfl, hB, h⟩
  · exact Or.inl h
  · exact Or.inr ⟨b, rfl, hB, h.of_block (ht _ h.lt fun y hy => hd _ y rfl hy)⟩
theorem rowA.mono {w : World} {B B' : Nat} {a : Option Addr} {xs : List Nat} (h : rowA w B a xs) (hb : B' ≤ B) : rowA w B' a xs := by
  rcases h with h | ⟨b, rfl, hB, h⟩
  · exact Or.inl h
  · exact Or.inr ⟨b, rfl, Nat.le_trans hb hB, h⟩
theorem mrowA.stays {w w' : World} {B : Nat} {a : Option Addr} {k n : Nat} (h : mrowA w B a k n) (hb : Below w.heap.size w w') : mrowA w' B a k n := by
  rcases h with h | ⟨b, rfl, hB, h⟩
  · exact Or.inl h
  · exact Or.inr ⟨b, rfl, hB, h.of_block (hb.block _ h.lt)⟩
theorem mrowA.turned {w w' : World} {B : Nat} {a a' : Option Addr} {k n : Nat} (h : mrowA w B a k n) (ht : TurnedA a' w w') (hd : ∀ x y, a = some x → a' = some y → y.block ≠ x.block) : mrowA w' B a k n := by
  rcases h with h | ⟨b, rfl, hB, h⟩
  · exact Or.inl h
  · exact Or.inr ⟨b, rfl, hB, h.of_block (ht _ h.lt fun y hy => hd _ y rfl hy)⟩

theorem laws_markFloat32S (a : Option Addr) (n c k B : Nat) (xs : List Nat) (w : World) (hn : xs.length = n) (hr : Hid (rowA w B a xs)) (hx : n < 2147483648) (hk : k < 8589934592) :
    Calls Try.prog 26 #[.slice a n c, .int .i64 k] w fun e w' => e = .returned (.int .i64 (k + n : Nat)) ∧ (∀ B', B' ≤ B → B' ≤ w.heap.size → Below B' w w') ∧ TurnedA a w w' ∧ Hid (mrowA w' B a k n) := by
  rcases hr.out with ⟨rfl, rfl⟩ | ⟨b, rfl, hB, h⟩
  · simp at hn
    subst hn
    go_enter Try.func26, Try.ntmps26
    go_wp2
    go_loopg [5, 1] 0 (fun g i k' wr => g = 0 ∧ i = .int .i64 0 ∧ k' = .int .i64 k ∧ wr = w)
    case atStart => exact ⟨rfl, rfl, rfl, rfl⟩
    case round =>
      obtain ⟨rfl, rfl, rfl, rfl⟩ := hrel
      go_wp2
      go_ret
      exact ⟨rfl, fun B' _ _ => Below.refl _ _, fun _ _ _ => rfl, Or.inl ⟨rfl, rfl⟩⟩
  · have HN := Lib.hid hn
    have HB := Lib.hid hB
    rw [hn] at h
    have hbl := h.lt
    obtain ⟨N, f, hN, h2, h3⟩ := h
    have H := Lib.hid h2
    have F := Lib.hid h3
    clear hr hn hB h2 h3
    go_enter Try.func26, Try.ntmps26
    go_wp2
    go_loopg [5, 1] n (fun g i k' wr => ∃ j : Nat, g + j = n ∧ i = .int .i64 j ∧ k' = .int .i64 (k + j : Nat) ∧ Below b w wr ∧ TurnedA (some ⟨b, 0, none⟩) w wr ∧ wr.rowIs b 23 N (fun i => if i < j then .float .f32 (mk32 (k + i)) else f i))
    case atStart => exact ⟨0, by omega, rfl, rfl, Below.refl _ _, fun _ _ _ => rfl, World.rowIs.congr H.out (fun i _ => by rw [if_neg (by omega)])⟩
    case round =>
      obtain ⟨j, hj, rfl, rfl, hbel, htu, hrow⟩ := hrel
      have HT := Lib.hid htu
      have HL := Lib.hid hbel
      have HR := Lib.hid hrow
      by_cases hlt : j < n
      · have hdst : wr.cell? ⟨b, j, none⟩ = some (.float .f32 (xs.getD j 0)) := (hrow.cell (Nat.lt_of_lt_of_le hlt hN)).trans (by rw [if_neg (by omega), F.out j hlt])
        have hfr := hrow.frozen j
        generalize xs.getD j 0 = x at hdst
        clear hrow htu hbel
        go_wp2
        go_roundg (gk - 1)
        case measure => omega
        case rel =>
          refine ⟨j + 1, by omega, by go_num, by go_num, HL.out.setCell (Nat.le_refl _) _, fun i hi hne => ?_, (HR.out.set j _).congr fun i hi => ?_⟩
          · rw [Below.heap_setCell wr ⟨b, j, none⟩ _ i (fun hh => hne ⟨b, 0, none⟩ rfl hh.symm)]
            exact HT.out i hi hne
          · by_cases h1 : i = j
            · subst h1
              rw [if_pos (show i < i + 1 by omega), if_pos rfl]
              simp [mk32]
            · rw [if_neg h1]
              by_cases h2 : i < j
              · rw [if_pos h2, if_pos (by omega)]
              · rw [if_neg h2, if_neg (by omega)]
      · have hjn : j = n := by omega
        subst hjn
        clear hrow htu hbel
        go_wp2
        go_ret
        exact ⟨rfl, fun B' h1 _ => HL.out.mono (Nat.le_trans h1 HB.out), HT.out, Or.inr ⟨b, rfl, HB.out, N, _, hN, HR.out, fun i hi => if_pos hi⟩⟩

theorem laws_heldFloat32S (a : Option Addr) (n c k B : Nat) (w : World) (hr : Hid (mrowA w B a k n)) (hx : n < 2147483648) (hk : k < 8589934592) :
    Calls Try.prog 27 #[.slice a n c, .int .i64 k] w fun e w' => e = .returned (.int .i64 (k + n : Nat)) ∧ w' = w := by
  rcases hr.out with ⟨rfl, rfl⟩ | ⟨b, rfl, hB, h⟩
  · go_enter Try.func27, Try.ntmps27
    go_wp2
    go_loopg [5, 1] 0 (fun g i k' wr => g = 0 ∧ i = .int .i64 0 ∧ k' = .int .i64 k ∧ wr = w)
    case atStart => exact ⟨rfl, rfl, rfl, rfl⟩
    case round =>
      obtain ⟨rfl, rfl, rfl, rfl⟩ := hrel
      go_wp2
      go_ret
      exact ⟨rfl, rfl⟩
  · obtain ⟨N, f, hN, h2, h3⟩ := h
    have H : Hid (∀ i, i < n → w.cell? ⟨b, i, none⟩ = some (.float .f32 (mk32 (k + i)))) := fun i hi => by rw [h2.cell (Nat.lt_of_lt_of_le hi hN), h3 i hi]
    clear hr h2 h3 hB hN
    go_enter Try.func27, Try.ntmps27
    go_wp2
    go_loopg [5, 1] n (fun g i k' wr => ∃ j : Nat, g + j = n ∧ i = .int .i64 j ∧ k' = .int .i64 (k + j : Nat) ∧ wr = w)
    case atStart => exact ⟨0, by omega, rfl, rfl, rfl⟩
    case round =>
      obtain ⟨j, hj, rfl, rfl, rfl⟩ := hrel
      by_cases hlt : j < n
      · have hsrc : wr.cell? ⟨b, j, none⟩ = some (.float .f32 (mk32 (k + j))) := H.out j hlt
        have hself := mk32_self (k + j)
        have hconv : floatOfInt .f32 ((k : Int) + (j : Int)) = mk32 (k + j) := by unfold mk32; rw [Int.natCast_add]
        generalize mk32 (k + j) = x at hsrc hself hconv
        go_wp2
        go_roundg (gk - 1)
        case measure => omega
        case rel => exact ⟨j + 1, by omega, by go_num, by go_num, rfl⟩
      · have hjn : j = n := by omega
        subst hjn
        go_wp2
        go_ret
        exact ⟨rfl, rfl⟩
end Go.Proofs.Ytfodlngbkmhboaa
