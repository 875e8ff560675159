/-
  ReflectionsOf, in the program and in the reference. Condition: the tube is read off memory; lengths below 2^31.
-/
import Derived.Test.YtfodlngbkmhboaaRf
import Derived.Test.YtfodlngbkmhboaaYb
namespace Go.Proofs.Ytfodlngbkmhboaa
open Go.RowKit Ieee
attribute [local irreducible] wpAnyH

def refF (xs : List Nat) (k : Nat) : Option Nat := fop .quo .f32 (fop .sub .f32 (fv .f32 (xs.getD k 0)) (fv .f32 (xs.getD (k + 1) 0))) (fop .add .f32 (fv .f32 (xs.getD k 0)) (fv .f32 (xs.getD (k + 1) 0)))
theorem allU_get {p : Nat → Bool} {xs : List Nat} {n k : Nat} (h : allU p xs n = true) (hk : k < n) : p (xs.getD k 0) = true := by
  cases hp : p (xs.getD k 0)
  · rw [allU_false hk hp] at h; cases h
  · rfl
theorem posS_of {x : Nat} (h : okA x = true) : PosS (fv .f32 x) := by
  unfold okA at h
  rw [Bool.and_eq_true] at h
  obtain ⟨h1, h2⟩ := h
  rcases fv_cases .f32 x with ⟨e, _⟩ | ⟨e, en, _⟩
  · rw [e] at h1; cases h1
  · rw [e] at h1 ⊢
    have en' : (single.read x).isNaN = false := en
    rw [finB_some x en'] at h1
    cases hr : single.read x with
    | nan => rw [hr] at h1; cases h1
    | infinity => rw [hr] at h1; cases h1
    | number s m p =>
      have bx := read_single hr
      have r0 : single.read 0 = .number false 0 (-149) := by decide +kernel
      unfold gtS at h2
      have o1 : FloatKind.f32.format.order x 0 = some (compare (sv s m p) (sv false 0 (-149))) := order_mg single hr r0 (by omega) (by decide)
      rw [o1, compare_int] at h2
      unfold sv at h2
      rw [mg_zero] at h2
      cases s
      · simp only [Bool.false_eq_true, if_false] at h2
        refine ⟨x, m, p, rfl, hr, ?_⟩
        rcases Nat.eq_zero_or_pos m with rfl | h0
        · rw [mg_zero] at h2; exact absurd h2 (by decide)
        · exact h0
      · exfalso
        simp only [if_true, Bool.false_eq_true, if_false] at h2
        generalize mg m p = M at h2
        by_cases hM : M = 0
        · subst hM; exact absurd h2 (by decide)
        · rw [if_pos (by omega)] at h2; exact absurd h2 (by decide)
theorem refF_fin {xs : List Nat} {n l t p k : Nat} (h : validT xs n l t p = true) (hk : k + 1 < n) : finB (refF xs k) = true := by
  unfold validT areasOk at h
  simp only [Bool.and_eq_true] at h
  exact refl_fin (posS_of (allU_get h.1.1.1.1.2 (by omega))) (posS_of (allU_get h.1.1.1.1.2 hk))
theorem valid_pos {xs : List Nat} {n l t p k : Nat} (h : validT xs n l t p = true) (hk : k < n) : PosS (fv .f32 (xs.getD k 0)) := by
  unfold validT areasOk at h
  simp only [Bool.and_eq_true] at h
  exact posS_of (allU_get h.1.1.1.1.2 hk)
theorem fdr_of {op : BinOp} {x y z : Nat} (h : floatBits op .f32 x y = some z) : fdr op .f32 x y = 0 := by unfold fdr; rw [h]; rfl
theorem fval_of {op : BinOp} {x y z : Nat} (h : floatBits op .f32 x y = some z) : ∀ w, fval op .f32 x y w = z := by intro w; unfold fval; rw [h]; rfl
/-- The bits of a reflection. -/
theorem refl_bits {x y : Nat} (hx : PosS (fv .f32 x)) (hy : PosS (fv .f32 y)) : ∃ z1 z2 z3, floatBits .sub .f32 x y = some z1 ∧ floatBits .add .f32 x y = some z2 ∧ floatBits .quo .f32 z1 z2 = some z3 ∧
    fv .f32 z3 = fop .quo .f32 (fop .sub .f32 (fv .f32 x) (fv .f32 y)) (fop .add .f32 (fv .f32 x) (fv .f32 y)) := by
  have hf := refl_fin hx hy
  obtain ⟨b, m, i, ex, rx, _⟩ := hx
  obtain ⟨c, n, j, ey, ry, _⟩ := hy
  have bx : b = x := by
    unfold fv at ex
    split at ex
    · cases ex
    · exact (Option.some.inj ex).symm
  have by' : c = y := by
    unfold fv at ey
    split at ey
    · cases ey
    · exact (Option.some.inj ey).symm
  subst bx by'
  rw [ex, ey] at hf
  obtain ⟨z1, q1⟩ : ∃ z1, fop .sub .f32 (some b) (some c) = some z1 := by rw [fopS_sub, rx, ry]; exact ⟨_, rfl⟩
  obtain ⟨z2, q2⟩ : ∃ z2, fop .add .f32 (some b) (some c) = some z2 := by rw [fopS_add, rx, ry]; exact ⟨_, rfl⟩
  rw [q1, q2] at hf
  obtain ⟨z3, q3⟩ : ∃ z3, fop .quo .f32 (some z1) (some z2) = some z3 := by
    cases h : fop .quo .f32 (some z1) (some z2) with
    | none => rw [h] at hf; cases hf
    | some z => exact ⟨z, rfl⟩
  have w0 : ∀ w : World, fv .f32 z3 = fop .quo .f32 (fop .sub .f32 (fv .f32 b) (fv .f32 c)) (fop .add .f32 (fv .f32 b) (fv .f32 c)) := by
    intro w
    rw [← fval_of (show floatBits .quo .f32 z1 z2 = some z3 from q3) w, fv_fval, ← fval_of (show floatBits .sub .f32 b c = some z1 from q1) w, fv_fval, ← fval_of (show floatBits .add .f32 b c = some z2 from q2) w, fv_fval]
  exact ⟨z1, z2, z3, q1, q2, q3, w0 default⟩
theorem Yf.fin {F : Nat → Option Nat} {ys : List Nat} {n : Nat} (h : Yf F ys n) (hF : ∀ k, k < n → finB (F k) = true) : ∀ j, j ≤ n → allU finU ys j = true := by
  intro j
  induction j with
  | zero => intro _; rfl
  | succ j ih => intro hj; unfold allU finU; rw [h.2 j (by omega), hF j (by omega), Bool.and_true]; exact ih (by omega)

def refL (v : Bool) (xs : List Nat) (n : Nat) : List (Option Nat) := if v = true then (List.range (n - 1)).map (refF xs) else []
/-- What a maker of lists hands back. -/
def listP (w : World) (v : Bool) (L : List (Option Nat)) (e : Ending) (w' : World) : Prop :=
  ∃ A ys cap, e = .returned (.tuple #[.slice A ys.length cap, .bool v]) ∧ ys.map (fv .f32) = L ∧ ys.length ≤ 16 ∧ Below w.heap.size w w' ∧ Hid (rowA w' w.heap.size A ys)

set_option maxHeartbeats 1000000 in
theorem impl_reflectionsOf (ba oa n l t p : Nat) (xs : List Nat) (w : World) (hn : xs.length = n) (ha : Hid (fls w (some ⟨ba, oa, none⟩) xs)) (hv : Hid (validT xs n l t p = true)) :
    Calls Try.prog 87 #[.agg #[.slice (some ⟨ba, oa, none⟩) n n, .float .f32 l, .float .f32 t, .float .f32 p]] w (listP w true (refL true xs n)) := by
  obtain ⟨v1, v16⟩ := valid_len hv.out
  have HN := Lib.hid hn
  clear hn
  have R1 := tubeF_row w 40 (some ⟨ba, oa, none⟩) n n l t p
  have A1 := alloc_belowP w (.cells #[.slice (some ⟨ba, oa, none⟩) n n, .float .f32 l, .float .f32 t, .float .f32 p] 40)
  have S1 : (w.alloc (.cells #[.slice (some ⟨ba, oa, none⟩) n n, .float .f32 l, .float .f32 t, .float .f32 p] 40)).heap.size = w.heap.size + 1 := World.size_alloc _ _
  obtain ⟨m, rfl⟩ : ∃ m, n = m + 1 := ⟨n - 1, by omega⟩
  obtain ⟨ba', oa', hba', hca0⟩ := ha.out 0 (by rw [HN.out]; omega)
  cases hba'
  have hba := lt_of_cell hca0
  clear hca0
  have HA := Lib.hid (ha.out.stays A1)
  have R1' := R1
  have HS1 := Lib.hid S1
  rcases Nat.eq_zero_or_pos m with rfl | hm
  · go_enter Try.func87, Try.ntmps87
    go_wp2_with fail
    generalize w.alloc (.cells #[.slice (some ⟨ba, oa, none⟩) 1 1, .float .f32 l, .float .f32 t, .float .f32 p] 40) = W1 at A1 HA R1' HS1 ⊢
    go_loopg [4, 12] 0 (fun g v i wr => g = 0 ∧ v = .slice none 0 0 ∧ i = .int .i64 0 ∧ wr = W1)
    case atStart => exact ⟨rfl, rfl, rfl, rfl⟩
    case round =>
      obtain ⟨rfl, rfl, rfl, rfl⟩ := hrel
      go_wp2_with (go_at_call 80; refine (impl_areFinite none 0 0 [] _ rfl (fun i hi => absurd hi (by simp)) (by decide)).mono ?_; rintro e w' ⟨rfl, q, rfl⟩)
      go_ret2
      exact ⟨none, [], 0, rfl, rfl, by simp, below_drewN A1 _, Or.inl ⟨rfl, rfl⟩⟩
  · have hm0 : ¬ m = 0 := by omega
    go_enter Try.func87, Try.ntmps87
    go_wp2_with fail
    generalize w.alloc (.cells #[.slice (some ⟨ba, oa, none⟩) (m + 1) (m + 1), .float .f32 l, .float .f32 t, .float .f32 p] 40) = W1 at R1 A1 HA R1' HS1 ⊢
    go_loopg [4, 12] m (fun g v i wr => ∃ (j : Nat) (ys : List Nat) (ao : Option Addr) (cap : Nat), g + j = m ∧ i = .int .i64 j ∧ v = .slice ao j cap ∧ Hid (Yf (refF xs) ys j) ∧ Hid (own wr (w.heap.size + 1) (.slice ao j cap) ys) ∧ Hid (Below (w.heap.size + 1) W1 wr))
    case atStart => exact ⟨0, [], none, 0, by omega, rfl, rfl, ⟨rfl, fun i hi => by omega⟩, World.ownsRow_nil _ _ _ _, Below.refl _ _⟩
    case round =>
      obtain ⟨j, ys, ao, cap, hj, rfl, rfl, hys, OW, hbel⟩ := hrel
      have HL := Lib.hid hys.out.1
      by_cases hlt : j < m
      · obtain ⟨b1, o1, hb1, hc1⟩ := HA.out j (by rw [HN.out]; omega)
        cases hb1
        obtain ⟨b2, o2, hb2, hc2⟩ := HA.out (j + 1) (by rw [HN.out]; omega)
        cases hb2
        have s1 : wr.cell? ⟨ba, oa + j, none⟩ = some (.float .f32 (xs.getD j 0)) := by rw [hbel.out.cell (p := ⟨ba, oa + j, none⟩) (by show ba < _; omega)]; exact hc1
        have s2 : wr.cell? ⟨ba, oa + 1 + j, none⟩ = some (.float .f32 (xs.getD (j + 1) 0)) := by rw [show oa + 1 + j = oa + (j + 1) by omega, hbel.out.cell (p := ⟨ba, oa + (j + 1), none⟩) (by show ba < _; omega)]; exact hc2
        have c0 : wr.cell? ⟨w.heap.size, 0, none⟩ = some (.slice (some ⟨ba, oa, none⟩) (m + 1) (m + 1)) := by rw [hbel.out.cell (p := ⟨w.heap.size, 0, none⟩) (by show w.heap.size < _; omega)]; exact (tube_stays R1' (Below.refl _ _)).1
        have hF : refF xs j = fop .quo .f32 (fop .sub .f32 (fv .f32 (xs.getD j 0)) (fv .f32 (xs.getD (j + 1) 0))) (fop .add .f32 (fv .f32 (xs.getD j 0)) (fv .f32 (xs.getD (j + 1) 0))) := rfl
        generalize xs.getD j 0 = x at s1 hF
        generalize xs.getD (j + 1) 0 = y at s2 hF
        have HF := Lib.hid hF
        have hsz : w.heap.size + 1 ≤ wr.heap.size := by have := hbel.out.size; have := HS1.out; omega
        clear hc1 hc2 hF
        go_wp2_with (at_builtin; refine wpList_append_one rfl _ _ rfl (w.heap.size + 1) _ ys (wr.drewN _) _ _ rfl rfl (by simp) (OW.out.dr _) hsz (by have := HL.out; omega) ?_; intro v' w1 hown' hb'; obtain ⟨a', cap', hv', _⟩ := hown'.row; rw [len_add ys _ j HL.out] at hv'; subst hv')
        have HO' := Lib.hid hown'
        have HB' := Lib.hid hb'
        clear hown' hb'
        go_wp2_with fail
        go_roundg (gk - 1)
        case measure => omega
        case rel =>
          refine ⟨j + 1, _, _, _, by omega, by go_num, rfl, hys.out.add ?_, HO'.out, (below_drewN hbel.out _).trans HB'.out⟩
          simp only [fv_fval, HF.out]
      · have hjn : j = m := by omega
        subst hjn
        obtain ⟨A, cap', hv', hrow⟩ := OW.out.row
        rw [HL.out] at hv'
        injection hv' with hv1 hv2 hv3
        subst hv1
        have HFIN : Hid (allU finU ys j = true) := hys.out.fin (fun k hk => refF_fin hv.out (by omega)) j (Nat.le_refl _)
        have HRW := Lib.hid hrow
        have HFL := Lib.hid hrow.fls
        clear hrow hv2 hv3
        go_wp2_with (go_at_call 80; refine (impl_areFinite ao j cap ys _ HL.out HFL (by omega)).mono ?_; rw [HFIN.out]; rintro e w' ⟨rfl, q, rfl⟩)
        go_ret2
        have hl := HL.out
        exact ⟨ao, ys, cap, by rw [hl]; rfl, by unfold refL; rw [if_pos rfl]; exact hys.out.list, by omega, below_drewN (A1.trans (hbel.out.mono (by omega))) _, HRW.out.mono (by omega)⟩

theorem impl_ReflectionsOf (a : Option Addr) (n l t p : Nat) (xs : List Nat) (w : World) (hn : xs.length = n) (ha : Hid (fls w a xs)) (hx : n < 2147483648) :
    Calls Try.prog 57 #[.agg #[.slice a n n, .float .f32 l, .float .f32 t, .float .f32 p]] w (listP w (validT xs n l t p) (refL (validT xs n l t p) xs n)) := by
  have HN := Lib.hid hn
  clear hn
  have R1 := tubeF_row w 40 a n n l t p
  have A1 := alloc_belowP w (.cells #[.slice a n n, .float .f32 l, .float .f32 t, .float .f32 p] 40)
  have HA := Lib.hid (ha.out.stays A1)
  cases hV : validT xs n l t p
  · have HV := Lib.hid hV
    clear hV
    go_enter Try.func57, Try.ntmps57
    go_wp2_with fail
    refine (impl_ValidTube a n n l t p xs _ HN.out HA hx).mono ?_
    rw [HV.out]
    rintro r w2 ⟨rfl, B2⟩
    go_wp2_with fail
    go_ret2
    exact ⟨none, [], 0, rfl, rfl, by simp, Below.on A1 B2, Or.inl ⟨rfl, rfl⟩⟩
  · have HV := Lib.hid hV
    obtain ⟨v1, v16⟩ := valid_len hV
    obtain ⟨ba, oa, rfl, _⟩ := ha.out 0 (by rw [HN.out]; exact v1)
    clear hV
    go_enter Try.func57, Try.ntmps57
    go_wp2_with fail
    generalize w.alloc (.cells #[.slice (some ⟨ba, oa, none⟩) n n, .float .f32 l, .float .f32 t, .float .f32 p] 40) = W1 at R1 A1 HA ⊢
    refine (impl_ValidTube (some ⟨ba, oa, none⟩) n n l t p xs W1 HN.out HA hx).mono ?_
    rw [HV.out]
    rintro r w2 ⟨rfl, B2⟩
    obtain ⟨c0, c1, c2, c3⟩ := tube_stays R1 B2
    go_wp2_with fail
    refine (impl_reflectionsOf ba oa n l t p xs w2 HN.out (HA.out.stays B2) HV).mono ?_
    rintro r w3 ⟨A, ys, cap, rfl, h1, h2, B3, h4⟩
    have H1 := Lib.hid h1
    clear h1
    go_wp2_with fail
    go_ret2
    have hs : w.heap.size ≤ w2.heap.size := Nat.le_trans A1.size B2.size
    exact ⟨A, ys, cap, rfl, H1.out, h2, Below.on A1 (Below.on B2 B3), h4.out.mono hs⟩

set_option maxHeartbeats 1000000 in
theorem spec_l02Reflections (A : Nat) (ba oa n l t p : Nat) (xs : List Nat) (w : World) (hn : xs.length = n) (ha : Hid (fls w (some ⟨ba, oa, none⟩) xs)) (h1 : 0 < n) (hx : n ≤ 16) (TA : tubeAt w A 0 (some ⟨ba, oa, none⟩) n n l t p) (hA : A < w.heap.size) (hval : Hid (validT xs n l t p = true)) :
    Calls Try.prog 86 #[.pointer (some ⟨A, 0, none⟩)] w fun e w' => ∃ G ys cap, e = .returned (.slice G ys.length cap) ∧ Yf (refF xs) ys (n - 1) ∧ Below w.heap.size w w' ∧ Hid (rowA w' w.heap.size G ys) := by
  have HN := Lib.hid hn
  clear hn
  obtain ⟨m, rfl⟩ : ∃ m, n = m + 1 := ⟨n - 1, by omega⟩
  obtain ⟨ba', oa', hba', hca0⟩ := ha.out 0 (by rw [HN.out]; omega)
  cases hba'
  have hba := lt_of_cell hca0
  clear hca0
  obtain ⟨t0, t1, t2, t3⟩ := TA
  clear t1 t2 t3
  have O1 := own.empty w w.heap.size (Nat.le_refl _)
  have A1 := alloc_belowP w (.cells #[] 23)
  go_enter Try.func86, Try.ntmps86
  go_wp2_with fail
  go_loopg [3, 4] m (fun g v i wr => ∃ (j : Nat) (ys : List Nat) (gb cap : Nat), g + j = m ∧ i = .int .i64 j ∧ v = .slice (some ⟨gb, 0, none⟩) j cap ∧ Hid (Yf (refF xs) ys j) ∧ Hid (own wr w.heap.size (.slice (some ⟨gb, 0, none⟩) j cap) ys) ∧ Hid (Below w.heap.size w wr))
  case atStart => exact ⟨0, [], w.heap.size, 0, by omega, rfl, rfl, ⟨rfl, fun i hi => by omega⟩, O1, A1⟩
  case round =>
    obtain ⟨j, ys, gb, cap, hj, rfl, rfl, hys, OW, hbel⟩ := hrel
    have HL := Lib.hid hys.out.1
    have c0 : wr.cell? ⟨A, 0, none⟩ = some (.slice (some ⟨ba, oa, none⟩) (m + 1) (m + 1)) := by rw [hbel.out.cell (p := ⟨A, 0, none⟩) hA]; exact t0
    by_cases hlt : j < m
    · obtain ⟨b1, o1, hb1, hc1⟩ := ha.out j (by rw [HN.out]; omega)
      cases hb1
      obtain ⟨b2, o2, hb2, hc2⟩ := ha.out (j + 1) (by rw [HN.out]; omega)
      cases hb2
      have s1 : wr.cell? ⟨ba, oa + j, none⟩ = some (.float .f32 (xs.getD j 0)) := by rw [hbel.out.cell (p := ⟨ba, oa + j, none⟩) hba]; exact hc1
      have s2 : wr.cell? ⟨ba, oa + (j + 1), none⟩ = some (.float .f32 (xs.getD (j + 1) 0)) := by rw [hbel.out.cell (p := ⟨ba, oa + (j + 1), none⟩) hba]; exact hc2
      have hF : refF xs j = fop .quo .f32 (fop .sub .f32 (fv .f32 (xs.getD j 0)) (fv .f32 (xs.getD (j + 1) 0))) (fop .add .f32 (fv .f32 (xs.getD j 0)) (fv .f32 (xs.getD (j + 1) 0))) := rfl
      have hpx : PosS (fv .f32 (xs.getD j 0)) := valid_pos hval.out (by omega)
      have hpy : PosS (fv .f32 (xs.getD (j + 1) 0)) := valid_pos hval.out (by omega)
      generalize xs.getD j 0 = x at s1 hF hpx
      generalize xs.getD (j + 1) 0 = y at s2 hF hpy
      have HF := Lib.hid hF
      have hsz := hbel.out.size
      have j1 : (j : Int) < (m : Int) + 1 := by omega
      have j2 : (j : Int) < (m : Int) := by omega
      have j3 : (0 : Int) ≤ (j : Int) + 1 := by omega
      have jw : IntKind.i64.wrap ((j : Int) + 1) = (j : Int) + 1 := by rw [IntKind.wrap_i64]; omega
      obtain ⟨z1, z2, z3, q1, q2, q3, hz⟩ := refl_bits hpx hpy
      rw [← hF] at hz
      have D1 := fdr_of q1
      have D2 := fdr_of q2
      have D3 := fdr_of q3
      have V1 := fval_of q1
      have V2 := fval_of q2
      have V3 := fval_of q3
      have HZ3 := Lib.hid hz
      have N0 : ∀ W : World, W.drewN 0 = W := fun W => rfl
      have al := alloc_belowP wr (.cells #[.float .f32 z3] 23)
      have ODW : Hid (own (wr.alloc (.cells #[.float .f32 z3] 23)).drew w.heap.size (.slice (some ⟨gb, 0, none⟩) j cap) ys) := World.ownsRow.alloc OW.out _
      have HH : Hid (wr.heap.size < (wr.alloc (.cells #[.float .f32 z3] 23)).drew.heap.size) := by show _ < (wr.alloc _).heap.size; rw [World.size_alloc]; omega
      have HW : Hid ((wr.alloc (.cells #[.float .f32 z3] 23)).drew.heap.size = wr.heap.size + 1) := World.size_alloc _ _
      have HZ : Hid ((wr.alloc (.cells #[.float .f32 z3] 23)).drew.cell? ⟨wr.heap.size, 0, none⟩ = some (.float .f32 z3)) := by show (wr.alloc _).cell? _ = _; simp [World.cell?_alloc_new]
      have kA : ∀ i, (wr.alloc (.cells #[.float .f32 z3] 23)).cell? ⟨A, i, none⟩ = wr.cell? ⟨A, i, none⟩ := fun i => al.cell (p := ⟨A, i, none⟩) (by show A < _; omega)
      have kB : ∀ i, (wr.alloc (.cells #[.float .f32 z3] 23)).cell? ⟨ba, i, none⟩ = wr.cell? ⟨ba, i, none⟩ := fun i => al.cell (p := ⟨ba, i, none⟩) (by show ba < _; omega)
      clear hc1 hc2 hF t0 hz q1 q2 q3 hpx hpy
      go_wp2_with fail
      go_region_held3 (fun W => W.cell? ⟨A, 0, none⟩ = some (.slice (some ⟨ba, oa, none⟩) (m + 1) (m + 1)) ∧ W.cell? ⟨ba, oa + j, none⟩ = some (.float .f32 x) ∧ W.cell? ⟨ba, oa + (j + 1), none⟩ = some (.float .f32 y)) (go_keep) (first
        | (refine step_append_one rfl (.tmp 16) (.tmp 50) rfl w.heap.size gb j cap ys _ z3 wr.heap.size rfl rfl HL.out HH.out HZ.out ODW.out (by have := HW.out; omega) (by omega) ?_; intro g' cap' w1 hown' hb' hg' hk'; have f0 : w1.cell? ⟨A, 0, none⟩ = some (.slice (some ⟨ba, oa, none⟩) (m + 1) (m + 1)) := (hb'.cell (p := ⟨A, 0, none⟩) (by show A < _; omega)).trans ((kA 0).trans c0); have f1 : w1.cell? ⟨ba, oa + j, none⟩ = some (.float .f32 x) := (hb'.cell (p := ⟨ba, oa + j, none⟩) (by show ba < _; omega)).trans ((kB _).trans s1); have f2 : w1.cell? ⟨ba, oa + (j + 1), none⟩ = some (.float .f32 y) := (hb'.cell (p := ⟨ba, oa + (j + 1), none⟩) (by show ba < _; omega)).trans ((kB _).trans s2); have HO' := Lib.hid hown'; have HB' := Lib.hid hb'; clear hown' hb' hg' hk'))
      all_goals
        go_wp2_with fail
        go_roundg (gk - 1)
        case measure => omega
        case rel => exact ⟨j + 1, ys ++ [z3], g', cap', by omega, by go_num, rfl, hys.out.add HZ3.out, HO'.out, (hbel.out.trans (al.mono hsz)).drew.trans HB'.out⟩
    · have hjn : j = m := by omega
      subst hjn
      obtain ⟨A', cap', hv', hrow⟩ := OW.out.row
      rw [HL.out] at hv'
      injection hv' with hv1 hv2 hv3
      subst hv1
      have HRW := Lib.hid hrow
      clear hrow hv2 hv3
      go_wp2_with fail
      go_ret
      have hl := HL.out
      exact ⟨some ⟨gb, 0, none⟩, ys, cap, by rw [hl]; rfl, hys.out, hbel.out, HRW.out⟩
end Go.Proofs.Ytfodlngbkmhboaa
