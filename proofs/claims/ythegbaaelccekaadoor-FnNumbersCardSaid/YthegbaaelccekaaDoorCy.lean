/-
  Lists of complex numbers, two float32 each; the laws' comparisons of them and marks in them. Condition: lengths below 512.
-/
import Derived.Test.YthegbaaelccekaaDoorMf
import Derived.Test.YthegbaaelccekaaDoorFu
namespace Go.Proofs.YthegbaaelccekaaDoor
open Go.RowKit Go.Lib Go.Joins Ieee

theorem info_c64 : (Tryd.prog.info? 64).map (fun i => (i.zero, i.size, i.bytes)) = some (some (.complex .f32 0 0), 1, 8) := by kernel_rfl
/-- Numbers, two by two. -/
def cvals (xs : List Nat) : List Value := (List.range (xs.length / 2)).map fun i => .complex .f32 (xs.getD (2 * i) 0) (xs.getD (2 * i + 1) 0)
theorem cvals_len (xs : List Nat) : (cvals xs).length = xs.length / 2 := by simp [cvals]
theorem cvals_get (xs : List Nat) (i : Nat) (h : i < xs.length / 2) : (cvals xs).getD i undef = .complex .f32 (xs.getD (2 * i) 0) (xs.getD (2 * i + 1) 0) := by
  unfold cvals
  rw [List.getD_eq_getElem?_getD, List.getElem?_map, List.getElem?_eq_getElem (by simpa using h)]
  simp
theorem getD_left {xs ys : List Nat} {i : Nat} (h : i < xs.length) : (xs ++ ys).getD i 0 = xs.getD i 0 := by
  rw [List.getD_eq_getElem?_getD, List.getD_eq_getElem?_getD, List.getElem?_append_left h]
theorem cvals_snoc {xs : List Nat} {j : Nat} (a b : Nat) (h : xs.length = 2 * j) : cvals (xs ++ [a, b]) = cvals xs ++ [.complex .f32 a b] := by
  unfold cvals
  rw [List.length_append, h, show (2 * j + [a, b].length) / 2 = j + 1 by simp only [List.length_cons, List.length_nil]; omega, show 2 * j / 2 = j by omega, List.range_succ, List.map_append]
  congr 1
  · apply List.map_congr_left
    intro i hi
    have hi' : i < j := by simpa using hi
    rw [getD_left (by omega), getD_left (by omega)]
  · have h1 : (xs ++ [a, b]).getD (2 * j) 0 = a := by
      rw [List.getD_eq_getElem?_getD, List.getElem?_append_right (by omega), h, Nat.sub_self]; rfl
    have h2 : (xs ++ [a, b]).getD (2 * j + 1) 0 = b := by
      rw [List.getD_eq_getElem?_getD, List.getElem?_append_right (by omega), h, show 2 * j + 1 - 2 * j = 1 by omega]; rfl
    show [Value.complex .f32 ((xs ++ [a, b]).getD (2 * j) 0) ((xs ++ [a, b]).getD (2 * j + 1) 0)] = _
    rw [h1, h2]

/-! ### Conversions -/
theorem wide_cc {P : Program} (w : World) (src dst : TypeId) (a b : Nat) (hs : (P.underlying src).isSome = true) (hd : P.underlying dst = some (.complex .f64)) :
    (convert src dst (.complex .f32 a b)).run P w = .ok (.complex .f64 (wval a w) (wval b (w.drewN (wdr a)))) (w.drewN (wdr a + wdr b)) := by
  obtain ⟨u, hs'⟩ := Option.isSome_iff_exists.1 hs
  cases u <;> simp [convert, run_underlying hs', run_underlying hd, Conv.complexToComplex, run_wide_any]
theorem narrow_cc {P : Program} (w : World) (src dst : TypeId) (a b : Nat) (hs : (P.underlying src).isSome = true) (hd : P.underlying dst = some (.complex .f32)) :
    (convert src dst (.complex .f64 a b)).run P w = .ok (.complex .f32 (nval a w) (nval b (w.drewN (ndr a)))) (w.drewN (ndr a + ndr b)) := by
  obtain ⟨u, hs'⟩ := Option.isSome_iff_exists.1 hs
  cases u <;> simp [convert, run_underlying hs', run_underlying hd, Conv.complexToComplex, run_narrow_any]
/-- The mark k. -/
def mkC (k : Nat) : Nat := single.write (double.read (floatOfInt .f64 k))
def mkOk (k : Nat) : Bool := !(double.read (floatOfInt .f64 k)).isNaN && !bigB (floatOfInt .f64 k) && !(single.read (mkC k)).isNaN
theorem mkOk_all : ∀ k, k < 520 → mkOk k = true := by decide +kernel
theorem mkC_one : nval 4607182418800017408 = fun _ => 1065353216 := by
  funext w
  unfold nval
  rw [if_neg (by decide +kernel), if_neg (by decide +kernel)]
  decide +kernel
theorem mkC_run (w : World) (k : Nat) (hk : k < 520) : (convert 82 64 (.complex .f64 (floatOfInt .f64 k) 4607182418800017408)).run Tryd.prog w = .ok (.complex .f32 (mkC k) 1065353216) w := by
  have h := mkOk_all k hk
  unfold mkOk at h
  simp only [Bool.and_eq_true, Bool.not_eq_true'] at h
  rw [narrow_cc w 82 64 _ _ (by kernel_rfl) (by kernel_rfl), mkC_one]
  have h1 : ndr (floatOfInt .f64 k) = 0 := by unfold ndr; rw [h.1.1, h.1.2]; rfl
  have h2 : ndr 4607182418800017408 = 0 := by decide +kernel
  have h3 : nval (floatOfInt .f64 k) w = mkC k := by unfold nval; rw [h.1.1, h.1.2]; rfl
  rw [h1, h2, h3]; rfl
theorem mkC_self (k : Nat) (hk : k < 520) : FloatKind.f32.format.order (mkC k) (mkC k) = some .eq := by
  have h := mkOk_all k hk
  unfold mkOk at h
  simp only [Bool.and_eq_true, Bool.not_eq_true'] at h
  exact order_self _ _ h.2
def markC (k : Nat) : Value := .complex .f32 (mkC k) 1065353216

/-! ### Comparisons -/
theorem laws_sameC (a b c d : Nat) (w : World) (h : fv .f64 a = fv .f64 c) (h' : fv .f64 b = fv .f64 d) : Calls Tryd.prog 68 #[.complex .f64 a b, .complex .f64 c d] w fun e w' => e = .returned (.bool true) ∧ ∃ n, w' = w.drewN n := by
  have H1 := Lib.hid h
  have H2 := Lib.hid h'
  clear h h'
  go_enter Tryd.func68, Tryd.ntmps68
  go_wp2_with fail
  refine (laws_sameFloat a c _ H1.out).mono ?_
  rintro e w' ⟨rfl, n1, rfl⟩
  go_wp2_with fail
  refine (laws_sameFloat b d _ H2.out).mono ?_
  rintro e w' ⟨rfl, n2, rfl⟩
  go_wp2_with fail
  go_ret
  exact ⟨rfl, _, rfl⟩

set_option maxHeartbeats 4000000 in
theorem laws_eqComplex64S (a b : Option Addr) (n c1 c2 Ba Bb : Nat) (xs : List Nat) (w : World) (hn : xs.length / 2 = n) (ha : Hid (rowV w 64 Ba a (cvals xs))) (hb : Hid (rowV w 64 Bb b (cvals xs))) (hx : n < 512) :
    Calls Tryd.prog 33 #[.slice a n c1, .slice b n c2] w fun e w' => e = .returned (.bool true) ∧ ∃ m, w' = w.drewN m := by
  have HN := Lib.hid hn
  have hcc := fun a b w => wide_cc (P := Tryd.prog) w 64 82 a b (by kernel_rfl) (by kernel_rfl)
  clear hn
  go_enter Tryd.func33, Tryd.ntmps33
  go_wp2
  go_loopg [5] n (fun g i wr => ∃ (j : Nat) (m : Nat), g + j = n ∧ i = .int .i64 j ∧ wr = w.drewN m)
  case atStart => exact ⟨0, 0, by omega, rfl, rfl⟩
  case round =>
    obtain ⟨j, m, hj, rfl, rfl⟩ := hrel
    by_cases hlt : j < n
    · obtain ⟨ga, rfl, _, hca⟩ := ha.out.cell (i := j) (by rw [cvals_len, HN.out]; exact hlt)
      obtain ⟨gb, rfl, _, hcb⟩ := hb.out.cell (i := j) (by rw [cvals_len, HN.out]; exact hlt)
      rw [cvals_get xs j (by rw [HN.out]; exact hlt)] at hca hcb
      generalize xs.getD (2 * j) 0 = x at hca hcb
      generalize xs.getD (2 * j + 1) 0 = y at hca hcb
      have hv : ∀ z w1 w2, fv .f64 (wval z w1) = fv .f64 (wval z w2) := fun z w1 w2 => by rw [fv_wval, fv_wval]
      have HV := Lib.hid hv
      clear hv
      go_wp2
      go_region_with (go_at_call 68; refine (laws_sameC _ _ _ _ _ (HV.out _ _ _) (HV.out _ _ _)).mono ?_; rintro e w' ⟨rfl, q, rfl⟩)
      all_goals
        go_wp2
        go_roundg (gk - 1)
        case measure => omega
        case rel => exact ⟨j + 1, _, by omega, by go_num, rfl⟩
    · have hjn : j = n := by omega
      subst hjn
      go_wp2
      go_ret
      exact ⟨rfl, _, rfl⟩
theorem laws_markComplex64S (a : Option Addr) (n c k B : Nat) (us : List Value) (w : World) (hn : us.length = n) (hr : Hid (rowV w 64 B a us)) (hx : n < 260) (hk : k < 256) :
    Calls Tryd.prog 34 #[.slice a n c, .int .i64 k] w fun e w' => e = .returned (.int .i64 (k + n : Nat)) ∧ (∀ B', B' ≤ B → B' ≤ w.heap.size → Below B' w w') ∧ TurnedV a w w' ∧ Hid (rowV w' 64 B a (mvals markC k n)) := by
  rcases hr.out with ⟨rfl, rfl⟩ | ⟨b, rfl, hB, N, f, hN, h2, h3⟩
  · simp at hn
    subst hn
    go_enter Tryd.func34, Tryd.ntmps34
    go_wp2
    go_loopg [5, 1] 0 (fun g i k' wr => g = 0 ∧ i = .int .i64 0 ∧ k' = .int .i64 k ∧ wr = w)
    case atStart => exact ⟨rfl, rfl, rfl, rfl⟩
    case round =>
      obtain ⟨rfl, rfl, rfl, rfl⟩ := hrel
      go_wp2
      go_ret
      exact ⟨rfl, fun B' _ _ => Below.refl _ _, fun _ _ _ => rfl, Or.inl ⟨rfl, rfl⟩⟩
  · have HN := Lib.hid hn
    have HB := Lib.hid hB
    rw [hn] at h3 hN
    have hbl := lt_of_rowIs h2
    have H := Lib.hid h2
    have F := Lib.hid h3
    clear hr hn hB h2 h3
    go_enter Tryd.func34, Tryd.ntmps34
    go_wp2
    go_loopg [5, 1] n (fun g i k' wr => ∃ j : Nat, g + j = n ∧ i = .int .i64 j ∧ k' = .int .i64 (k + j : Nat) ∧ Below b w wr ∧ TurnedV (some ⟨b, 0, none⟩) w wr ∧ wr.rowIs b 64 N (fun i => if i < j then markC (k + i) else f i))
    case atStart => exact ⟨0, by omega, rfl, rfl, Below.refl _ _, fun _ _ _ => rfl, World.rowIs.congr H.out (fun i _ => by rw [if_neg (by omega)])⟩
    case round =>
      obtain ⟨j, hj, rfl, rfl, hbel, htu, hrow⟩ := hrel
      have HT := Lib.hid htu
      have HL := Lib.hid hbel
      have HR := Lib.hid hrow
      by_cases hlt : j < n
      · have hdst : wr.cell? ⟨b, j, none⟩ = some (f j) := (hrow.cell (Nat.lt_of_lt_of_le hlt hN)).trans (by rw [if_neg (by omega)])
        have hfr := hrow.frozen j
        have hcv : ∀ w, (convert 82 64 (.complex .f64 (floatOfInt .f64 ((k : Int) + (j : Int))) 4607182418800017408)).run Tryd.prog w = .ok (.complex .f32 (mkC (k + j)) 1065353216) w := fun w => by
          have := mkC_run w (k + j) (by omega)
          rwa [Int.natCast_add] at this
        generalize f j = x at hdst
        clear hrow htu hbel
        go_wp2
        go_roundg (gk - 1)
        case measure => omega
        case rel =>
          refine ⟨j + 1, by omega, by go_num, by go_num, HL.out.setCell (Nat.le_refl _) _, fun i hi hne => ?_, (HR.out.set j _).congr fun i hi => ?_⟩
          · rw [Below.heap_setCell wr ⟨b, j, none⟩ _ i (fun hh => hne ⟨b, 0, none⟩ rfl hh.symm)]
            exact HT.out i hi hne
          · by_cases h1 : i = j
            · subst h1
              rw [if_pos (show i < i + 1 by omega), if_pos rfl]
              simp [markC]
            · rw [if_neg h1]
              by_cases h2 : i < j
              · rw [if_pos h2, if_pos (by omega)]
              · rw [if_neg h2, if_neg (by omega)]
      · have hjn : j = n := by omega
        subst hjn
        clear hrow htu hbel
        go_wp2
        go_ret
        exact ⟨rfl, fun B' h1 _ => HL.out.mono (Nat.le_trans h1 HB.out), HT.out, Or.inr ⟨b, rfl, HB.out, N, _, by rw [mvals_len]; exact hN, HR.out, fun i hi => by rw [mvals_len] at hi; rw [if_pos hi, mvals_get _ _ _ _ hi]⟩⟩

theorem laws_heldComplex64S (a : Option Addr) (n c k B : Nat) (w : World) (hr : Hid (rowV w 64 B a (mvals markC k n))) (hx : n < 260) (hk : k < 256) :
    Calls Tryd.prog 35 #[.slice a n c, .int .i64 k] w fun e w' => e = .returned (.int .i64 (k + n : Nat)) ∧ w' = w := by
  rcases hr.out with ⟨rfl, h0⟩ | ⟨b, rfl, hB, N, f, hN, h2, h3⟩
  · have hn := mvals_len markC k n
    rw [h0] at hn
    simp at hn
    subst hn
    clear h0 hr
    go_enter Tryd.func35, Tryd.ntmps35
    go_wp2
    go_loopg [5, 1] 0 (fun g i k' wr => g = 0 ∧ i = .int .i64 0 ∧ k' = .int .i64 k ∧ wr = w)
    case atStart => exact ⟨rfl, rfl, rfl, rfl⟩
    case round =>
      obtain ⟨rfl, rfl, rfl, rfl⟩ := hrel
      go_wp2
      go_ret
      exact ⟨rfl, rfl⟩
  · have H : Hid (∀ i, i < n → w.cell? ⟨b, i, none⟩ = some (.complex .f32 (mkC (k + i)) 1065353216)) := fun i hi => by
      rw [mvals_len] at hN h3
      rw [h2.cell (Nat.lt_of_lt_of_le hi hN), h3 i hi, mvals_get _ _ _ _ hi]; rfl
    clear hr h2 h3 hB hN
    go_enter Tryd.func35, Tryd.ntmps35
    go_wp2
    go_loopg [5, 1] n (fun g i k' wr => ∃ j : Nat, g + j = n ∧ i = .int .i64 j ∧ k' = .int .i64 (k + j : Nat) ∧ wr = w)
    case atStart => exact ⟨0, by omega, rfl, rfl, rfl⟩
    case round =>
      obtain ⟨j, hj, rfl, rfl, rfl⟩ := hrel
      by_cases hlt : j < n
      · have hsrc : wr.cell? ⟨b, j, none⟩ = some (.complex .f32 (mkC (k + j)) 1065353216) := H.out j hlt
        have hself := mkC_self (k + j) (by omega)
        have hone : FloatKind.f32.format.order 1065353216 1065353216 = some .eq := by decide +kernel
        have hcv : ∀ w, (convert 82 64 (.complex .f64 (floatOfInt .f64 ((k : Int) + (j : Int))) 4607182418800017408)).run Tryd.prog w = .ok (.complex .f32 (mkC (k + j)) 1065353216) w := fun w => by
          have := mkC_run w (k + j) (by omega)
          rwa [Int.natCast_add] at this
        generalize mkC (k + j) = x at hsrc hself hcv
        go_wp2
        go_roundg (gk - 1)
        case measure => omega
        case rel => exact ⟨j + 1, by omega, by go_num, by go_num, rfl⟩
      · have hjn : j = n := by omega
        subst hjn
        go_wp2
        go_ret
        exact ⟨rfl, rfl⟩

end Go.Proofs.YthegbaaelccekaaDoor
