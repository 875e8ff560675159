/-
  Waves in the laws: their sizes, copies, comparisons. Condition: lengths below 2^31 for copies.
-/
import Derived.Test.YtfodlngbkmhboaaTh
namespace Go.Proofs.Ytfodlngbkmhboaa
open Go.RowKit Ieee

def leftW (n m : Nat) (k : Int) : Int := if leftI n k < 0 then -1 else leftI m (leftI n k)
theorem leftW_ok {n m : Nat} {k : Int} (hk : k ≤ 1048576) (h : ¬ leftW n m k < 0) : n ≤ 1048576 ∧ m ≤ 1048576 := by
  unfold leftW at h
  split at h
  · omega
  · rename_i h1
    exact ⟨leftI_ok hk h1, leftI_ok (leftI_bounds hk).2 h⟩
theorem leftW_bounds {n m : Nat} {k : Int} (hk : k ≤ 1048576) : -1 ≤ leftW n m k ∧ leftW n m k ≤ 1048576 := by
  unfold leftW
  split
  · omega
  · exact leftI_bounds (leftI_bounds hk).2

theorem laws_szWaves (a b : Option Addr) (n c m d : Nat) (k : Int) (w : World) (hn : n ≤ 9223372036854775807) (hm : m ≤ 9223372036854775807) (hk : 0 ≤ k) (hk2 : k ≤ 1048576) :
    Calls Try.prog 33 #[.agg #[.slice a n c, .slice b m d], .int .i64 k] w fun e w' => e = .returned (.int .i64 (leftW n m k)) ∧ Below w.heap.size w w' := by
  have B := leftI_bounds (n := n) hk2
  have S : Hid (∀ w, Calls Try.prog 66 #[.slice a n c, .int .i64 k] w fun e w' => e = .returned (.int .i64 (leftI n k)) ∧ w = w') := fun w => laws_szFloat32S a n c k w hn hk hk2
  by_cases h : leftI n k < 0
  · have H : Hid (leftW n m k = -1) := by show _ = _; unfold leftW; rw [if_pos h]
    go_enter Try.func33, Try.ntmps33
    go_wp2_with (go_at_call 66; refine (S.out _).mono ?_; rintro e w' ⟨rfl, rfl⟩)
    go_ret
    exact ⟨by rw [H.out]; rfl, (Below.refl _ _).alloc (Nat.le_refl _) _⟩
  · have h0 : 0 ≤ leftI n k := by omega
    have h1 : Hid (leftW n m k = leftI m (leftI n k)) := by show _ = _; unfold leftW; rw [if_neg h]
    have B2 := leftI_bounds (n := m) (k := leftI n k) B.2
    have S2 : Hid (∀ w, Calls Try.prog 66 #[.slice b m d, .int .i64 (leftI n k)] w fun e w' => e = .returned (.int .i64 (leftI m (leftI n k))) ∧ w = w') := fun w => laws_szFloat32S b m d _ w hm h0 B.2
    generalize leftI n k = k1 at B h h0 h1 B2 S S2
    generalize leftI m k1 = k2 at h1 B2 S2
    by_cases h2 : k2 < 0
    · have H : Hid (leftW n m k = -1) := by show _ = _; rw [h1.out]; omega
      go_enter Try.func33, Try.ntmps33
      go_wp2_with fail
      refine (S.out _).mono ?_
      rintro e w' ⟨rfl, rfl⟩
      go_wp2_with fail
      refine (S2.out _).mono ?_
      rintro e w' ⟨rfl, rfl⟩
      go_wp2_with fail
      go_ret
      exact ⟨by rw [H.out]; rfl, (Below.refl _ _).alloc (Nat.le_refl _) _⟩
    · go_enter Try.func33, Try.ntmps33
      go_wp2_with fail
      refine (S.out _).mono ?_
      rintro e w' ⟨rfl, rfl⟩
      go_wp2_with fail
      refine (S2.out _).mono ?_
      rintro e w' ⟨rfl, rfl⟩
      go_wp2_with fail
      go_ret
      exact ⟨by rw [h1.out]; rfl, (Below.refl _ _).alloc (Nat.le_refl _) _⟩

/-- Two pairs of waves of the same numbers. -/
theorem laws_eqWaves (a b a' b' : Option Addr) (n m c d e f : Nat) (xs ys us vs : List Nat) (w : World) (hn : xs.length = n) (hm : ys.length = m) (ha : Hid (fls w a xs)) (hb : Hid (fls w b ys)) (ha' : Hid (fls w a' us)) (hb' : Hid (fls w b' vs))
    (hx : n < 2147483648) (hy : m < 2147483648) (h : xs.map (fv .f32) = us.map (fv .f32)) (h' : ys.map (fv .f32) = vs.map (fv .f32)) :
    Calls Try.prog 37 #[.agg #[.slice a n c, .slice b m d], .agg #[.slice a' n e, .slice b' m f]] w fun r w' => r = .returned (.bool true) ∧ Below w.heap.size w w' := by
  have HN := Lib.hid hn
  have HM := Lib.hid hm
  have H1 := Lib.hid h
  have H2 := Lib.hid h'
  clear hn hm h h'
  have B2 := alloc2_belowH w (.cells #[.slice a n c, .slice b m d] 48) (.cells #[.slice a' n e, .slice b' m f] 48)
  go_enter Try.func37, Try.ntmps37
  go_wp2_with fail
  refine (laws_eqs a a' c e n xs us _ HN.out (ha.out.stays B2) (ha'.out.stays B2) hx H1.out).mono ?_
  rintro r w' ⟨rfl, q, rfl⟩
  go_wp2_with fail
  refine (laws_eqs b b' d f m ys vs _ HM.out ((hb.out.stays B2).drewN _) ((hb'.out.stays B2).drewN _) hy H2.out).mono ?_
  rintro r w' ⟨rfl, q', rfl⟩
  go_wp2_with fail
  go_ret
  exact ⟨rfl, below_drewN B2 _⟩
end Go.Proofs.Ytfodlngbkmhboaa
