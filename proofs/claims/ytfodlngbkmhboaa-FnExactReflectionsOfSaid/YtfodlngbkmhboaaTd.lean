/-
  Lists compared and looked through: the same numbers, all finite. Condition: the numbers are read off memory; lengths below 2^31.
-/
import Derived.Test.YtfodlngbkmhboaaTc
namespace Go.Proofs.Ytfodlngbkmhboaa
open Go.RowKit Ieee

/-- The first j are the same numbers. -/
def sameU (xs ys : List Nat) : Nat → Bool
  | 0 => true
  | j + 1 => sameU xs ys j && (bitsI (xs.getD j 0) == bitsI (ys.getD j 0))
theorem sameU_false {xs ys : List Nat} {j n : Nat} (hj : j < n) (h : (bitsI (xs.getD j 0) == bitsI (ys.getD j 0)) = false) : sameU xs ys n = false := by
  induction n with
  | zero => omega
  | succ k ih =>
    by_cases hk : j = k
    · subst hk; unfold sameU; rw [h, Bool.and_false]
    · unfold sameU; rw [ih (by omega), Bool.false_and]
def sameL (xs ys : List Nat) (n k : Nat) : Bool := decide (n = k) && sameU xs ys n

theorem impl_sameNumbers (a b : Option Addr) (n c k d : Nat) (xs ys : List Nat) (w : World) (hn : xs.length = n) (hk : ys.length = k) (ha : Hid (fls w a xs)) (hb : Hid (fls w b ys)) (hx : n < 2147483648) (hy : k < 2147483648)
    (ux : Hid (∀ i, i < n → xs.getD i 0 < 4294967296)) (uy : Hid (∀ i, i < k → ys.getD i 0 < 4294967296)) :
    Calls Try.prog 71 #[.slice a n c, .slice b k d] w fun e w' => e = .returned (.bool (sameL xs ys n k)) ∧ ∃ m, w' = w.drewN m := by
  have HN := Lib.hid hn
  have HK := Lib.hid hk
  clear hn hk
  by_cases h2 : n = k
  · subst h2
    have HS : Hid (sameL xs ys n n = sameU xs ys n) := by show _ = _; unfold sameL; rw [decide_eq_true rfl, Bool.true_and]
    go_enter Try.func71, Try.ntmps71
    go_wp2
    go_loopg [14] n (fun g i wr => ∃ j m : Nat, g + j = n ∧ i = .int .i64 j ∧ Hid (sameU xs ys j = true) ∧ wr = w.drewN m)
    case atStart => exact ⟨0, 0, by omega, rfl, rfl, rfl⟩
    case round =>
      obtain ⟨j, m, hj, rfl, hall, rfl⟩ := hrel
      by_cases hlt : j < n
      · obtain ⟨ba, oa, rfl, hca⟩ := ha.out j (by rw [HN.out]; exact hlt)
        obtain ⟨bb, ob, rfl, hcb⟩ := hb.out j (by rw [HK.out]; exact hlt)
        have hxu := ux.out j hlt
        have hyu := uy.out j hlt
        cases hs : (bitsI (xs.getD j 0) == bitsI (ys.getD j 0))
        · have HF : Hid (sameL xs ys n n = false) := by show _ = _; rw [HS.out]; exact sameU_false hlt hs
          generalize xs.getD j 0 = x at hca hs hxu
          generalize ys.getD j 0 = y at hcb hs hyu
          have HO := Lib.hid hs
          clear hs
          go_wp2_with (go_at_call 73; refine (impl_SameNumber _ _ _ hxu hyu).mono ?_; rw [HO.out]; rintro e w' ⟨rfl, q, rfl⟩)
          go_ret
          exact ⟨by rw [HF.out]; rfl, _, rfl⟩
        · have HJ : Hid (sameU xs ys (j + 1) = true) := by show _ = _; unfold sameU; rw [hall.out, hs]; rfl
          generalize xs.getD j 0 = x at hca hs hxu
          generalize ys.getD j 0 = y at hcb hs hyu
          have HO := Lib.hid hs
          clear hs
          go_wp2_with (go_at_call 73; refine (impl_SameNumber _ _ _ hxu hyu).mono ?_; rw [HO.out]; rintro e w' ⟨rfl, q, rfl⟩)
          go_roundg (gk - 1)
          case measure => omega
          case rel => exact ⟨j + 1, _, by omega, by go_num, HJ, rfl⟩
      · have hjn : j = n := by omega
        subst hjn
        go_wp2
        go_ret
        exact ⟨by rw [HS.out, hall.out]; rfl, _, rfl⟩
  · have HF : Hid (sameL xs ys n k = false) := by show _ = _; unfold sameL; rw [decide_eq_false h2, Bool.false_and]
    have h3 : ((n : Int) != (k : Int)) = true := by simp; omega
    go_enter Try.func71, Try.ntmps71
    go_wp2
    go_ret
    exact ⟨by rw [HF.out]; rfl, 0, rfl⟩

theorem spec_l01SameAll (a b : Option Addr) (n c k d : Nat) (xs ys : List Nat) (w : World) (hn : xs.length = n) (hk : ys.length = k) (ha : Hid (fls w a xs)) (hb : Hid (fls w b ys)) (hx : n < 2147483648) (hy : k < 2147483648)
    (ux : Hid (∀ i, i < n → xs.getD i 0 < 4294967296)) (uy : Hid (∀ i, i < k → ys.getD i 0 < 4294967296)) :
    Calls Try.prog 70 #[.slice a n c, .slice b k d] w fun e w' => e = .returned (.bool (sameL xs ys n k)) ∧ ∃ m, w' = w.drewN m := by
  have HN := Lib.hid hn
  have HK := Lib.hid hk
  clear hn hk
  by_cases h2 : n = k
  · subst h2
    have HS : Hid (sameL xs ys n n = sameU xs ys n) := by show _ = _; unfold sameL; rw [decide_eq_true rfl, Bool.true_and]
    go_enter Try.func70, Try.ntmps70
    go_wp2
    go_loopg [5] n (fun g i wr => ∃ j m : Nat, g + j = n ∧ i = .int .i64 j ∧ Hid (sameU xs ys j = true) ∧ wr = w.drewN m)
    case atStart => exact ⟨0, 0, by omega, rfl, rfl, rfl⟩
    case round =>
      obtain ⟨j, m, hj, rfl, hall, rfl⟩ := hrel
      by_cases hlt : j < n
      · obtain ⟨ba, oa, rfl, hca⟩ := ha.out j (by rw [HN.out]; exact hlt)
        obtain ⟨bb, ob, rfl, hcb⟩ := hb.out j (by rw [HK.out]; exact hlt)
        have hxu := ux.out j hlt
        have hyu := uy.out j hlt
        cases hs : (bitsI (xs.getD j 0) == bitsI (ys.getD j 0))
        · have HF : Hid (sameL xs ys n n = false) := by show _ = _; rw [HS.out]; exact sameU_false hlt hs
          generalize xs.getD j 0 = x at hca hs hxu
          generalize ys.getD j 0 = y at hcb hs hyu
          have HO := Lib.hid hs
          clear hs
          go_wp2
          go_region_with (go_at_call 91; refine (spec_l01Same _ _ _ hxu hyu).mono ?_; rw [HO.out]; rintro e w' ⟨rfl, rfl⟩)
          all_goals
            go_wp2
            go_ret
            exact ⟨by rw [HF.out]; rfl, _, rfl⟩
        · have HJ : Hid (sameU xs ys (j + 1) = true) := by show _ = _; unfold sameU; rw [hall.out, hs]; rfl
          generalize xs.getD j 0 = x at hca hs hxu
          generalize ys.getD j 0 = y at hcb hs hyu
          have HO := Lib.hid hs
          clear hs
          go_wp2
          go_region_with (go_at_call 91; refine (spec_l01Same _ _ _ hxu hyu).mono ?_; rw [HO.out]; rintro e w' ⟨rfl, rfl⟩)
          all_goals
            go_wp2
            go_roundg (gk - 1)
            case measure => omega
            case rel => exact ⟨j + 1, _, by omega, by go_num, HJ, rfl⟩
      · have hjn : j = n := by omega
        subst hjn
        go_wp2
        go_ret
        exact ⟨by rw [HS.out, hall.out]; rfl, _, rfl⟩
  · have HF : Hid (sameL xs ys n k = false) := by show _ = _; unfold sameL; rw [decide_eq_false h2, Bool.false_and]
    have h3 : ((n : Int) != (k : Int)) = true := by simp; omega
    go_enter Try.func70, Try.ntmps70
    go_wp2
    go_ret
    exact ⟨by rw [HF.out]; rfl, 0, rfl⟩
def finU (x : Nat) : Bool := finB (fv .f32 x)

theorem impl_areFinite (a : Option Addr) (n c : Nat) (xs : List Nat) (w : World) (hn : xs.length = n) (ha : Hid (fls w a xs)) (hx : n < 2147483648) :
    Calls Try.prog 80 #[.slice a n c] w fun e w' => e = .returned (.bool (allU finU xs n)) ∧ ∃ m, w' = w.drewN m := by
  have HN := Lib.hid hn
  clear hn
  go_enter Try.func80, Try.ntmps80
  go_wp2
  go_loopg [7] n (fun g i wr => ∃ j m : Nat, g + j = n ∧ i = .int .i64 j ∧ Hid (allU finU xs j = true) ∧ wr = w.drewN m)
  case atStart => exact ⟨0, 0, by omega, rfl, rfl, rfl⟩
  case round =>
    obtain ⟨j, m, hj, rfl, hall, rfl⟩ := hrel
    by_cases hlt : j < n
    · obtain ⟨ba, oa, rfl, hca⟩ := ha.out j (by rw [HN.out]; exact hlt)
      cases hs : finU (xs.getD j 0)
      · have HF : Hid (allU finU xs n = false) := allU_false hlt hs
        have HO : Hid (finB (fv .f32 (xs.getD j 0)) = false) := hs
        clear hs
        generalize xs.getD j 0 = x at hca HO
        go_wp2_with (go_at_call 65; refine (impl_IsFinite _ _).mono ?_; rw [HO.out]; rintro e w' ⟨rfl, q, rfl⟩)
        go_ret
        exact ⟨by rw [HF.out]; rfl, _, rfl⟩
      · have HJ : Hid (allU finU xs (j + 1) = true) := by show _ = _; unfold allU; rw [hall.out, hs]; rfl
        have HO : Hid (finB (fv .f32 (xs.getD j 0)) = true) := hs
        clear hs
        generalize xs.getD j 0 = x at hca HO
        go_wp2_with (go_at_call 65; refine (impl_IsFinite _ _).mono ?_; rw [HO.out]; rintro e w' ⟨rfl, q, rfl⟩)
        go_roundg (gk - 1)
        case measure => omega
        case rel => exact ⟨j + 1, _, by omega, by go_num, HJ, rfl⟩
    · have hjn : j = n := by omega
      subst hjn
      go_wp2
      go_ret
      exact ⟨by rw [hall.out]; rfl, _, rfl⟩

theorem spec_l02Finite (a : Option Addr) (n c : Nat) (xs : List Nat) (w : World) (hn : xs.length = n) (ha : Hid (fls w a xs)) (hx : n < 2147483648) :
    Calls Try.prog 93 #[.slice a n c] w fun e w' => e = .returned (.bool (allU finU xs n)) ∧ ∃ m, w' = w.drewN m := by
  have HN := Lib.hid hn
  clear hn
  go_enter Try.func93, Try.ntmps93
  go_wp2
  go_loopg [3] n (fun g i wr => ∃ j m : Nat, g + j = n ∧ i = .int .i64 j ∧ Hid (allU finU xs j = true) ∧ wr = w.drewN m)
  case atStart => exact ⟨0, 0, by omega, rfl, rfl, rfl⟩
  case round =>
    obtain ⟨j, m, hj, rfl, hall, rfl⟩ := hrel
    by_cases hlt : j < n
    · obtain ⟨ba, oa, rfl, hca⟩ := ha.out j (by rw [HN.out]; exact hlt)
      cases hs : finU (xs.getD j 0)
      · have HF : Hid (allU finU xs n = false) := allU_false hlt hs
        have HO : Hid (finB (fv .f32 (xs.getD j 0)) = false) := hs
        clear hs
        generalize xs.getD j 0 = x at hca HO
        go_wp2_with (go_at_call 77; refine (spec_l01Finite _ _).mono ?_; rw [HO.out]; rintro e w' ⟨rfl, q, rfl⟩)
        go_ret
        exact ⟨by rw [HF.out]; rfl, _, rfl⟩
      · have HJ : Hid (allU finU xs (j + 1) = true) := by show _ = _; unfold allU; rw [hall.out, hs]; rfl
        have HO : Hid (finB (fv .f32 (xs.getD j 0)) = true) := hs
        clear hs
        generalize xs.getD j 0 = x at hca HO
        go_wp2_with (go_at_call 77; refine (spec_l01Finite _ _).mono ?_; rw [HO.out]; rintro e w' ⟨rfl, q, rfl⟩)
        go_roundg (gk - 1)
        case measure => omega
        case rel => exact ⟨j + 1, _, by omega, by go_num, HJ, rfl⟩
    · have hjn : j = n := by omega
      subst hjn
      go_wp2
      go_ret
      exact ⟨by rw [hall.out]; rfl, _, rfl⟩
end Go.Proofs.Ytfodlngbkmhboaa
