/-
  HornTube, in the program and in the reference. Condition: none but that bits fit the kind.
-/
import Derived.Test.YtfodlngbkmhboaaVa
namespace Go.Proofs.Ytfodlngbkmhboaa
open Go.RowKit Ieee

/-! ### Lists after a rule -/
def Yf (F : Nat → Option Nat) (ys : List Nat) (j : Nat) : Prop := ys.length = j ∧ ∀ i, i < j → fv .f32 (ys.getD i 0) = F i
def allG (F : Nat → Option Nat) : Nat → Bool
  | 0 => true
  | j + 1 => allG F j && okO (F j)
theorem Yf.all {F : Nat → Option Nat} {ys : List Nat} {n : Nat} (h : Yf F ys n) : ∀ j, j ≤ n → allU okA ys j = allG F j := by
  intro j
  induction j with
  | zero => intro _; rfl
  | succ j ih => intro hj; unfold allU allG; rw [ih (by omega), okA_okO, h.2 j (by omega)]
theorem Yf.add {F : Nat → Option Nat} {ys : List Nat} {j x : Nat} (h : Yf F ys j) (hx : fv .f32 x = F j) : Yf F (ys ++ [x]) (j + 1) := by
  refine ⟨by simp [h.1], fun i hi => ?_⟩
  by_cases h1 : i < j
  · rw [List.getD_eq_getElem?_getD, List.getElem?_append_left (by rw [h.1]; exact h1), ← List.getD_eq_getElem?_getD]; exact h.2 i h1
  · have : i = j := by omega
    subst this
    rw [List.getD_eq_getElem?_getD, List.getElem?_append_right (by rw [h.1]; exact Nat.le_refl _), h.1, Nat.sub_self]
    exact hx
theorem Yf.list {F : Nat → Option Nat} {ys : List Nat} {n : Nat} (h : Yf F ys n) : ys.map (fv .f32) = (List.range n).map F := by
  apply List.ext_getElem
  · simp [h.1]
  · intro i h1 h2
    have hi : i < n := by simpa [h.1] using h1
    rw [List.getElem_map, List.getElem_map, List.getElem_range, ← h.2 i hi, List.getD_eq_getElem?_getD, List.getElem?_eq_getElem (by rw [h.1]; exact hi)]; rfl
theorem len_add (ys : List Nat) (z j : Nat) (h : ys.length = j) : (ys ++ [z]).length = j + 1 := by simp [h]

/-! ### Horns -/
def cL : Nat := 1065353216
def cT : Nat := 1061158912
def cP : Nat := 3210739712
def hornF (A B : Option Nat) (n k : Nat) : Option Nat := fop .add .f32 A (fop .mul .f32 (fop .sub .f32 B A) (fop .quo .f32 (fv .f32 (floatOfInt .f32 (k : Int))) (fv .f32 (floatOfInt .f32 ((n : Int) - 1)))))
/-- Whether there is such a horn. -/
def hornV (A B : Option Nat) (n : Nat) : Bool := decide (2 ≤ n) && decide (n ≤ 16) && finB A && finB B && allG (hornF A B n) n
theorem horn_valid {A B : Option Nat} {ys : List Nat} {n : Nat} (h : Yf (hornF A B n) ys n) (h2 : 2 ≤ n) (h16 : n ≤ 16) (hA : finB A = true) (hB : finB B = true) : validT ys n cL cT cP = hornV A B n := by
  unfold validT areasOk hornV
  rw [h.all n (Nat.le_refl _), hA, hB, decide_eq_true h2, decide_eq_true h16, decide_eq_true (show 1 ≤ n by omega)]
  have e1 : gtS cL 0 = true := by decide +kernel
  have e2 : leS cL 1065353216 = true := by decide +kernel
  have e3 : btw cT 3212836864 1065353216 = true := by decide +kernel
  have e4 : btw cP 3212836864 1065353216 = true := by decide +kernel
  rw [e1, e2, e3, e4]
  simp
theorem tubeR_true (a : Option Addr) (n c l t p : Nat) : tubeR true a n c l t p = .tuple #[.agg #[.slice a n c, .float .f32 l, .float .f32 t, .float .f32 p], .bool true] := rfl
theorem tubeR_false (a : Option Addr) (n c l t p : Nat) : tubeR false a n c l t p = .tuple #[.agg #[.slice none 0 0, .float .f32 0, .float .f32 0, .float .f32 0], .bool false] := rfl
/-- What a maker of tubes hands back. -/
def tubeP (w : World) (v : Bool) (L : List (Option Nat)) (l t p : Nat) (e : Ending) (w' : World) : Prop :=
  ∃ A ys cap, e = .returned (tubeR v A ys.length cap l t p) ∧ (v = true → ys.map (fv .f32) = L ∧ ys.length ≤ 16 ∧ rowA w' w.heap.size A ys) ∧ Below w.heap.size w w'
theorem tubeP.no {w w' : World} {L : List (Option Nat)} {l t p : Nat} (h : Below w.heap.size w w') : tubeP w false L l t p (.returned (.tuple #[.agg #[.slice none 0 0, .float .f32 0, .float .f32 0, .float .f32 0], .bool false])) w' :=
  ⟨none, [], 0, rfl, (fun h => by cases h), h⟩
theorem own.empty (w : World) (B : Nat) (hb : B ≤ w.heap.size) : own (w.alloc (.cells #[] 23)) B (.slice (some ⟨w.heap.size, 0, Option.none⟩) 0 0) [] :=
  World.ownsRow_lit w #[] 0 hb (by decide) (Nat.zero_mul _).symm
theorem rowA.set4 {w : World} {B b : Nat} {a : Option Addr} {xs : List Nat} (h : rowA w B a xs) (hb : ∀ x, a = some x → x.block ≠ b) (v0 v1 v2 v3 : Value) :
    rowA ((((w.setCell ⟨b, 0, Option.none⟩ v0).setCell ⟨b, 1, Option.none⟩ v1).setCell ⟨b, 2, Option.none⟩ v2).setCell ⟨b, 3, Option.none⟩ v3) B a xs := by
  rcases h with h | ⟨g, rfl, hB, h⟩
  · exact Or.inl h
  · have hg := hb _ rfl
    refine Or.inr ⟨g, rfl, hB, h.of_block ?_⟩
    rw [Below.heap_setCell _ _ _ _ (by simpa using hg), Below.heap_setCell _ _ _ _ (by simpa using hg), Below.heap_setCell _ _ _ _ (by simpa using hg), Below.heap_setCell _ _ _ _ (by simpa using hg)]
theorem tubeF_set {w : World} {b : Nat} {T : TypeId} {a a' : Option Addr} {n c l t p n' c' : Nat} (h : w.rowIs b T 4 (tubeF a n c l t p)) : (w.setCell ⟨b, 0, none⟩ (.slice a' n' c')).rowIs b T 4 (tubeF a' n' c' l t p) :=
  (h.set 0 (.slice a' n' c')).congr fun i hi => by
    have : i = 0 ∨ i = 1 ∨ i = 2 ∨ i = 3 := by omega
    rcases this with rfl | rfl | rfl | rfl <;> rfl

theorem spec_l02New (a : Option Addr) (n c : Nat) (w : World) : Calls Try.prog 79 #[.slice a n c] w fun e w' => e = .returned (.agg #[.slice a n c, .float .f32 cL, .float .f32 cT, .float .f32 cP]) ∧ Below w.heap.size w w' := by
  have R1 := tubeF_row w 40 none 0 0 0 0 0
  have A1 := alloc_belowP w (.cells #[.slice none 0 0, .float .f32 0, .float .f32 0, .float .f32 0] 40)
  go_enter Try.func79, Try.ntmps79
  go_wp2_with fail
  refine bodyPost_ret (results_tube Try.results79 _ _ w.heap.size rfl (v0 := .slice a n c) (v1 := .float .f32 cL) (v2 := .float .f32 cT) (v3 := .float .f32 cP) (by simp [go_sem, World.cell?_alloc_new, cL, cT, cP]) (by simp [go_sem, World.cell?_alloc_new, cL, cT, cP]) (by simp [go_sem, World.cell?_alloc_new, cL, cT, cP]) (by simp [go_sem, World.cell?_alloc_new, cL, cT, cP])) rfl ?_
  exact ⟨rfl, alloc_belowP _ _⟩

set_option maxHeartbeats 1000000 in
theorem spec_HornTube (n f0 f1 : Nat) (w : World) (h2 : 2 ≤ n) (h16 : n ≤ 16) (hA : Hid (finB (fv .f32 f0) = true)) (hB : Hid (finB (fv .f32 f1) = true)) :
    Calls Try.prog 44 #[.int .i64 n, .float .f32 f0, .float .f32 f1] w (tubeP w (hornV (fv .f32 f0) (fv .f32 f1) n) ((List.range n).map (hornF (fv .f32 f0) (fv .f32 f1) n)) cL cT cP) := by
  have R1 := tubeF_row w 40 none 0 0 0 0 0
  have A1 := alloc_belowP w (.cells #[.slice none 0 0, .float .f32 0, .float .f32 0, .float .f32 0] 40)
  have hw : (decide ((2 : Int) ≤ n) && decide ((n : Int) ≤ 16)) = true := by simp; omega
  have HW := Lib.hid hw
  clear hw
  go_enter Try.func44, Try.ntmps44
  go_wp2_with (first
    | (go_at_call 76; refine (spec_l00In _ _ _ _).mono ?_; rw [HW.out]; rintro e w' ⟨rfl, rfl⟩)
    | (go_at_call_of 77 (Value.float .f32 f0); refine (spec_l01Finite _ _).mono ?_; rw [hA.out]; rintro e w' ⟨rfl, q1, rfl⟩)
    | (go_at_call_of 77 (Value.float .f32 f1); refine (spec_l01Finite _ _).mono ?_; rw [hB.out]; rintro e w' ⟨rfl, q2, rfl⟩))
  have R2 : ((w.alloc (.cells #[.slice none 0 0, .float .f32 0, .float .f32 0, .float .f32 0] 40)).drewN (q1 + q2)).rowIs w.heap.size 40 4 (tubeF none 0 0 0 0 0) := R1
  have A2 : Below w.heap.size w ((w.alloc (.cells #[.slice none 0 0, .float .f32 0, .float .f32 0, .float .f32 0] 40)).drewN (q1 + q2)) := below_drewN A1 _
  have S2 : ((w.alloc (.cells #[.slice none 0 0, .float .f32 0, .float .f32 0, .float .f32 0] 40)).drewN (q1 + q2)).heap.size = w.heap.size + 1 := World.size_alloc _ _
  generalize (w.alloc (.cells #[.slice none 0 0, .float .f32 0, .float .f32 0, .float .f32 0] 40)).drewN (q1 + q2) = W2 at R2 A2 S2 ⊢
  have O2 := own.empty W2 (w.heap.size + 1) (by omega)
  rw [S2] at O2
  have R3 := R2.alloc (.cells #[] 23)
  have A3 := A2.alloc (by omega) (.cells #[] 23)
  have HS3 : Hid (w.heap.size + 1 ≤ (W2.alloc (.cells #[] 23)).heap.size) := by show _ ≤ _; rw [World.size_alloc]; omega
  clear R1 A1 R2 A2
  go_loopg [8, 9] n (fun g v i wr => ∃ (j : Nat) (ys : List Nat) (ao : Option Addr) (cap : Nat), g + j = n ∧ i = .int .i64 j ∧ v = .slice ao j cap ∧ Hid (Yf (hornF (fv .f32 f0) (fv .f32 f1) n) ys j) ∧ Hid (own wr (w.heap.size + 1) (.slice ao j cap) ys) ∧ Hid (wr.rowIs w.heap.size 40 4 (tubeF none 0 0 0 0 0)) ∧ Hid (Below w.heap.size w wr) ∧ Hid (w.heap.size + 1 ≤ wr.heap.size))
  case atStart => exact ⟨0, [], _, 0, by omega, rfl, rfl, ⟨rfl, fun i hi => by omega⟩, O2, R3, A3, HS3⟩
  case round =>
    obtain ⟨j, ys, ao, cap, hj, rfl, rfl, hys, OW, HR, hbel, hsz⟩ := hrel
    by_cases hlt : j < n
    · go_wp2_with (at_builtin; refine wpList_append_one rfl _ _ rfl (w.heap.size + 1) _ ys (wr.drewN _) _ _ rfl rfl (by simp) (OW.out.dr _) hsz.out (by have := hys.out.1; omega) ?_; intro v' w1 hown' hb'; obtain ⟨a', cap', hv', _⟩ := hown'.row; rw [len_add ys _ j hys.out.1] at hv'; subst hv')
      have HO' := Lib.hid hown'
      have HB' := Lib.hid hb'
      clear hown' hb'
      go_wp2_with fail
      go_roundg (gk - 1)
      case measure => omega
      case rel =>
        refine ⟨j + 1, _, _, _, by omega, by go_num, rfl, hys.out.add ?_, HO'.out, HR.out.of_block (HB'.out.block _ (by omega)), (below_drewN hbel.out _).trans (HB'.out.mono (by omega)), Nat.le_trans hsz.out HB'.out.size⟩
        simp only [fv_fval, hornF]
    · have hjn : j = n := by omega
      subst hjn
      obtain ⟨A, cap', hv, hrow⟩ := OW.out.row
      have HL := Lib.hid hys.out.1
      rw [HL.out] at hv
      injection hv with hv1 hv2 hv3
      subst hv1
      have HV := Lib.hid (horn_valid hys.out h2 h16 hA.out hB.out)
      have HRW := Lib.hid hrow
      clear hrow hv2 hv3
      go_wp2_with fail
      refine (spec_l02New ao j cap wr).mono ?_
      rintro e w3 ⟨rfl, B3⟩
      go_wp2_with fail
      refine (spec_l02Give ao j cap cL cT cP ys w3 HL.out (HRW.out.stays B3).fls (by omega)).mono ?_
      rw [HV.out]
      rintro e w4 ⟨rfl, B4⟩
      have R4 := HR.out.of_block ((Below.on B3 B4).block _ (World.rowIs.lt HR.out))
      obtain ⟨d0, d1, d2, d3⟩ := tube_stays HR.out (Below.on B3 B4)
      simp only [Nat.zero_add] at d1 d2 d3
      have g0 := R4.frozen 0
      have g1 := R4.frozen 1
      have g2 := R4.frozen 2
      have g3 := R4.frozen 3
      clear R4
      have HRW4 := Lib.hid (HRW.out.stays (Below.on B3 B4))
      have HB4 := Lib.hid (Below.on hbel.out (Below.on B3 B4))
      cases hvv : hornV (fv .f32 f0) (fv .f32 f1) j
      · have HVV := Lib.hid hvv
        rw [tubeR_false]
        clear hvv
        go_wp2_with fail
        refine bodyPost_ret (results_tubeB Try.results44 _ _ w.heap.size rfl (by simp [go_sem, d0]; rfl) (by simp [go_sem, d1]; rfl) (by simp [go_sem, d2]; rfl) (by simp [go_sem, d3]; rfl)) rfl ?_
        rw [HVV.out]
        refine tubeP.no ?_
        iterate 4 refine Below.setCell ?_ (by exact Nat.le_refl _) _
        exact HB4.out
      · have HVV := Lib.hid hvv
        rw [tubeR_true]
        clear hvv
        go_wp2_with fail
        refine bodyPost_ret (results_tubeB Try.results44 _ _ w.heap.size rfl (by simp [go_sem, d0]; rfl) (by simp [go_sem, d1]; rfl) (by simp [go_sem, d2]; rfl) (by simp [go_sem, d3]; rfl)) rfl ?_
        rw [HVV.out]
        have hl := HL.out
        refine ⟨ao, ys, cap, by rw [tubeR_true, hl]; rfl, fun _ => ⟨hys.out.list, by omega, ?_⟩, ?_⟩
        · refine rowA.set4 (HRW4.out.mono (Nat.le_succ _)) (fun x hx => ?_) _ _ _ _
          have := (HRW4.out.lt x hx).1
          omega
        · iterate 4 refine Below.setCell ?_ (by exact Nat.le_refl _) _
          exact HB4.out

theorem two_fls (W : World) (g f0 f1 : Nat) (hg : W.heap.size = g) : fls (W.alloc (.cells #[.float .f32 f0, .float .f32 f1] 23)) (some ⟨g, 0, none⟩) [f0, f1] := by
  subst hg
  intro i hi
  refine ⟨_, 0, rfl, ?_⟩
  have : i = 0 ∨ i = 1 := by simp at hi; omega
  rcases this with rfl | rfl <;> simp [World.cell?_alloc_new]

set_option maxHeartbeats 1000000 in
theorem impl_HornTube (n f0 f1 : Nat) (w : World) (h2 : 2 ≤ n) (h16 : n ≤ 16) (hA : Hid (finB (fv .f32 f0) = true)) (hB : Hid (finB (fv .f32 f1) = true)) :
    Calls Try.prog 45 #[.int .i64 n, .float .f32 f0, .float .f32 f1] w (tubeP w (hornV (fv .f32 f0) (fv .f32 f1) n) ((List.range n).map (hornF (fv .f32 f0) (fv .f32 f1) n)) cL cT cP) := by
  have R1 := tubeF_row w 40 none 0 0 0 0 0
  have A1 := alloc_belowP w (.cells #[.slice none 0 0, .float .f32 0, .float .f32 0, .float .f32 0] 40)
  have S1 : (w.alloc (.cells #[.slice none 0 0, .float .f32 0, .float .f32 0, .float .f32 0] 40)).heap.size = w.heap.size + 1 := World.size_alloc _ _
  have hw : (decide ((2 : Int) ≤ n) && decide ((n : Int) ≤ 16)) = true := by simp; omega
  have HW := Lib.hid hw
  have FL := Lib.hid (two_fls (w.alloc (.cells #[.slice none 0 0, .float .f32 0, .float .f32 0, .float .f32 0] 40)) (w.heap.size + 1) f0 f1 S1)
  have HF : Hid (allU finU [f0, f1] 2 = true) := by
    show _ = _
    have a := hA.out
    have b := hB.out
    simp [allU, finU, a, b]
  have R2 := R1.alloc (.cells #[.float .f32 f0, .float .f32 f1] 23)
  have A2 := A1.alloc (by rw [S1]; omega) (.cells #[.float .f32 f0, .float .f32 f1] 23)
  have S2 : ((w.alloc (.cells #[.slice none 0 0, .float .f32 0, .float .f32 0, .float .f32 0] 40)).alloc (.cells #[.float .f32 f0, .float .f32 f1] 23)).heap.size = w.heap.size + 2 := by rw [World.size_alloc, S1]
  clear hw R1 A1 S1
  go_enter Try.func45, Try.ntmps45
  go_wp2_with (first
    | (go_at_call 68; refine (impl_within _ _ _ _).mono ?_; rw [HW.out]; rintro e w' ⟨rfl, rfl⟩)
    | (go_at_call 80; refine (impl_areFinite (some ⟨w.heap.size + 1, 0, none⟩) 2 2 [f0, f1] _ rfl FL (by decide)).mono ?_; rw [HF.out]; rintro e w' ⟨rfl, q1, rfl⟩))
  have R3 : (((w.alloc (.cells #[.slice none 0 0, .float .f32 0, .float .f32 0, .float .f32 0] 40)).alloc (.cells #[.float .f32 f0, .float .f32 f1] 23)).drewN q1).rowIs w.heap.size 40 4 (tubeF none 0 0 0 0 0) := R2
  have A3 : Below w.heap.size w (((w.alloc (.cells #[.slice none 0 0, .float .f32 0, .float .f32 0, .float .f32 0] 40)).alloc (.cells #[.float .f32 f0, .float .f32 f1] 23)).drewN q1) := below_drewN A2 _
  have S3 : (((w.alloc (.cells #[.slice none 0 0, .float .f32 0, .float .f32 0, .float .f32 0] 40)).alloc (.cells #[.float .f32 f0, .float .f32 f1] 23)).drewN q1).heap.size = w.heap.size + 2 := S2
  clear R2 A2 S2 FL
  generalize (((w.alloc (.cells #[.slice none 0 0, .float .f32 0, .float .f32 0, .float .f32 0] 40)).alloc (.cells #[.float .f32 f0, .float .f32 f1] 23)).drewN q1) = W3 at R3 A3 S3 ⊢
  have R4 := R3.alloc (.cells #[.slice none 0 0, .float .f32 1065353216, .float .f32 1061158912, .float .f32 3210739712] 40)
  have T4 := tubeF_row W3 40 none 0 0 1065353216 1061158912 3210739712
  rw [S3] at T4
  have A4 := A3.alloc (by omega) (.cells #[.slice none 0 0, .float .f32 1065353216, .float .f32 1061158912, .float .f32 3210739712] 40)
  have HS4 : Hid (w.heap.size + 3 ≤ (W3.alloc (.cells #[.slice none 0 0, .float .f32 1065353216, .float .f32 1061158912, .float .f32 3210739712] 40)).heap.size) := by show _ ≤ _; rw [World.size_alloc]; omega
  clear R3 A3 S3
  go_loopg [23] n (fun g i wr => ∃ (j : Nat) (ys : List Nat) (ao : Option Addr) (cap : Nat), g + j = n ∧ i = .int .i64 j ∧ Hid (Yf (hornF (fv .f32 f0) (fv .f32 f1) n) ys j) ∧ Hid (own wr (w.heap.size + 3) (.slice ao j cap) ys) ∧ Hid (wr.rowIs w.heap.size 40 4 (tubeF none 0 0 0 0 0)) ∧ Hid (wr.rowIs (w.heap.size + 2) 40 4 (tubeF ao j cap 1065353216 1061158912 3210739712)) ∧ Hid (Below w.heap.size w wr) ∧ Hid (w.heap.size + 3 ≤ wr.heap.size))
  case atStart => exact ⟨0, [], none, 0, by omega, rfl, ⟨rfl, fun i hi => by omega⟩, World.ownsRow_nil _ _ _ _, R4, T4, A4, HS4⟩
  case round =>
    obtain ⟨j, ys, ao, cap, hj, rfl, hys, OW, HR, HT, hbel, hsz⟩ := hrel
    obtain ⟨t0, t1, t2, t3⟩ := tube_stays HT.out (Below.refl _ _)
    simp only [Nat.zero_add] at t1 t2 t3
    by_cases hlt : j < n
    · clear t1 t2 t3
      go_wp2_with (at_builtin; refine wpList_append_one rfl _ _ rfl (w.heap.size + 3) _ ys (wr.drewN _) _ _ rfl rfl (by simp) (OW.out.dr _) hsz.out (by have := hys.out.1; omega) ?_; intro v' w1 hown' hb'; obtain ⟨a', cap', hv', hrow'⟩ := hown'.row; rw [len_add ys _ j hys.out.1] at hv'; subst hv'; have HT1 := World.rowIs.of_block HT.out (hb'.block _ (by omega)); have u0 := HT1.cell (i := 0) (by decide); have uf := HT1.frozen 0; have HT1' := Lib.hid HT1; clear HT1 hrow' t0; simp only [tubeF] at u0)
      have HO' := Lib.hid hown'
      have HB' := Lib.hid hb'
      clear hown' hb'
      go_wp2_with fail
      go_roundg (gk - 1)
      case measure => omega
      case rel =>
        refine ⟨j + 1, _, _, _, by omega, by go_num, hys.out.add ?_, ownsRow_setCell_below HO'.out (by show w.heap.size + 2 < _; omega) _, World.rowIs.setOther (HR.out.of_block (HB'.out.block _ (by omega))) (by show w.heap.size ≠ w.heap.size + 2; omega) _, tubeF_set HT1'.out, ((below_drewN hbel.out _).trans (HB'.out.mono (by omega))).setCell (by show w.heap.size ≤ w.heap.size + 2; omega) _, Nat.le_trans (Nat.le_trans hsz.out HB'.out.size) (by simp [World.setCell])⟩
        simp only [fv_fval, hornF]
    · have hjn : j = n := by omega
      subst hjn
      obtain ⟨A, cap', hv, hrow⟩ := OW.out.row
      have HL := Lib.hid hys.out.1
      rw [HL.out] at hv
      injection hv with hv1 hv2 hv3
      subst hv1
      have HV := Lib.hid (horn_valid hys.out h2 h16 hA.out hB.out)
      have HRW := Lib.hid hrow
      clear hrow hv2 hv3
      go_wp2_with fail
      refine (impl_checkedTube ao j cap cL cT cP ys wr HL.out HRW.out.fls (by omega)).mono ?_
      rw [HV.out]
      rintro e w4 ⟨rfl, B4⟩
      have R4 := HR.out.of_block (B4.block _ (World.rowIs.lt HR.out))
      obtain ⟨d0, d1, d2, d3⟩ := tube_stays HR.out B4
      simp only [Nat.zero_add] at d1 d2 d3
      have g0 := R4.frozen 0
      have g1 := R4.frozen 1
      have g2 := R4.frozen 2
      have g3 := R4.frozen 3
      clear R4 t0 t1 t2 t3
      have HRW4 := Lib.hid (HRW.out.stays B4)
      have HB4 := Lib.hid (Below.on hbel.out B4)
      cases hvv : hornV (fv .f32 f0) (fv .f32 f1) j
      · have HVV := Lib.hid hvv
        rw [tubeR_false]
        clear hvv
        go_wp2_with fail
        refine bodyPost_ret (results_tubeB Try.results45 _ _ w.heap.size rfl (by simp [go_sem, d0]; rfl) (by simp [go_sem, d1]; rfl) (by simp [go_sem, d2]; rfl) (by simp [go_sem, d3]; rfl)) rfl ?_
        rw [HVV.out]
        refine tubeP.no ?_
        iterate 4 refine Below.setCell ?_ (by exact Nat.le_refl _) _
        exact HB4.out
      · have HVV := Lib.hid hvv
        rw [tubeR_true]
        clear hvv
        go_wp2_with fail
        refine bodyPost_ret (results_tubeB Try.results45 _ _ w.heap.size rfl (by simp [go_sem, d0]; rfl) (by simp [go_sem, d1]; rfl) (by simp [go_sem, d2]; rfl) (by simp [go_sem, d3]; rfl)) rfl ?_
        rw [HVV.out]
        have hl := HL.out
        refine ⟨ao, ys, cap, by rw [tubeR_true, hl]; rfl, fun _ => ⟨hys.out.list, by omega, ?_⟩, ?_⟩
        · refine rowA.set4 (HRW4.out.mono (by omega)) (fun x hx => ?_) _ _ _ _
          have := (HRW4.out.lt x hx).1
          omega
        · iterate 4 refine Below.setCell ?_ (by exact Nat.le_refl _) _
          exact HB4.out

set_option maxHeartbeats 2000000 in
theorem spec_HornNo (cnt : Int) (f0 f1 : Nat) (bw ba bb : Bool) (w : World) (L : List (Option Nat)) (hw : Hid ((decide ((2 : Int) ≤ cnt) && decide (cnt ≤ 16)) = bw)) (ha : Hid (finB (fv .f32 f0) = ba)) (hb : Hid (finB (fv .f32 f1) = bb)) (hno : (bw && ba && bb) = false) :
    Calls Try.prog 44 #[.int .i64 cnt, .float .f32 f0, .float .f32 f1] w (tubeP w false L cL cT cP) := by
  have A1 := alloc_belowP w (.cells #[.slice none 0 0, .float .f32 0, .float .f32 0, .float .f32 0] 40)
  have R1 := tubeF_row w 40 none 0 0 0 0 0
  obtain ⟨d0, d1, d2, d3⟩ := tube_stays R1 (Below.refl _ _)
  have g0 := R1.frozen 0
  have g1 := R1.frozen 1
  have g2 := R1.frozen 2
  have g3 := R1.frozen 3
  simp only [Nat.zero_add] at d1 d2 d3
  clear R1
  cases bw <;> cases ba <;> cases bb <;> first | (exfalso; revert hno; decide) | skip
  all_goals
    clear hno
    go_enter Try.func44, Try.ntmps44
    go_wp2_with (first
      | (go_at_call 76; refine (spec_l00In _ _ _ _).mono ?_; rw [hw.out]; rintro e w' ⟨rfl, rfl⟩)
      | (go_at_call_of 77 (Value.float .f32 f0); refine (spec_l01Finite _ _).mono ?_; rw [ha.out]; rintro e w' ⟨rfl, q1, rfl⟩)
      | (go_at_call_of 77 (Value.float .f32 f1); refine (spec_l01Finite _ _).mono ?_; rw [hb.out]; rintro e w' ⟨rfl, q2, rfl⟩))
    refine bodyPost_ret (results_tubeB Try.results44 _ _ w.heap.size rfl (by simp [go_sem, d0]; rfl) (by simp [go_sem, d1]; rfl) (by simp [go_sem, d2]; rfl) (by simp [go_sem, d3]; rfl)) rfl ?_
    refine tubeP.no ?_
    first | with_reducible exact A1 | with_reducible exact below_drewN A1 _ | ((iterate 4 (refine Below.setCell ?_ (by exact Nat.le_refl _) _)); first | with_reducible exact A1 | exact below_drewN A1 _)

set_option maxHeartbeats 2000000 in
theorem impl_HornNo (cnt : Int) (f0 f1 : Nat) (bw bf : Bool) (w : World) (L : List (Option Nat)) (hw : Hid ((decide ((2 : Int) ≤ cnt) && decide (cnt ≤ 16)) = bw)) (hf : Hid (allU finU [f0, f1] 2 = bf)) (hno : (bw && bf) = false) :
    Calls Try.prog 45 #[.int .i64 cnt, .float .f32 f0, .float .f32 f1] w (tubeP w false L cL cT cP) := by
  have A1 := alloc_belowP w (.cells #[.slice none 0 0, .float .f32 0, .float .f32 0, .float .f32 0] 40)
  have S1 : (w.alloc (.cells #[.slice none 0 0, .float .f32 0, .float .f32 0, .float .f32 0] 40)).heap.size = w.heap.size + 1 := World.size_alloc _ _
  have FL := Lib.hid (two_fls (w.alloc (.cells #[.slice none 0 0, .float .f32 0, .float .f32 0, .float .f32 0] 40)) (w.heap.size + 1) f0 f1 S1)
  have A2 := A1.alloc (by rw [S1]; omega) (.cells #[.float .f32 f0, .float .f32 f1] 23)
  have R1 := tubeF_row w 40 none 0 0 0 0 0
  have R2 := R1.alloc (.cells #[.float .f32 f0, .float .f32 f1] 23)
  obtain ⟨d0, d1, d2, d3⟩ := tube_stays R2 (Below.refl _ _)
  have g0 := R2.frozen 0
  have g1 := R2.frozen 1
  have g2 := R2.frozen 2
  have g3 := R2.frozen 3
  obtain ⟨e0, e1, e2, e3⟩ := tube_stays R1 (Below.refl _ _)
  simp only [Nat.zero_add] at d1 d2 d3 e1 e2 e3
  have HS1 := Lib.hid S1
  clear R1 R2 S1
  cases bw
  · clear hno hf
    go_enter Try.func45, Try.ntmps45
    go_wp2_with (go_at_call 68; refine (impl_within _ _ _ _).mono ?_; rw [hw.out]; rintro e w' ⟨rfl, rfl⟩)
    refine bodyPost_ret (results_tubeB Try.results45 _ _ w.heap.size rfl (by simp [go_sem, e0]; rfl) (by simp [go_sem, e1]; rfl) (by simp [go_sem, e2]; rfl) (by simp [go_sem, e3]; rfl)) rfl ?_
    exact tubeP.no A1
  · cases bf
    · clear hno
      go_enter Try.func45, Try.ntmps45
      go_wp2_with (first
        | (go_at_call 68; refine (impl_within _ _ _ _).mono ?_; rw [hw.out]; rintro e w' ⟨rfl, rfl⟩)
        | (go_at_call 80; refine (impl_areFinite (some ⟨w.heap.size + 1, 0, none⟩) 2 2 [f0, f1] _ rfl FL (by decide)).mono ?_; rw [hf.out]; rintro e w' ⟨rfl, q1, rfl⟩))
      refine bodyPost_ret (results_tubeB Try.results45 _ _ w.heap.size rfl (by simp [go_sem, d0]; rfl) (by simp [go_sem, d1]; rfl) (by simp [go_sem, d2]; rfl) (by simp [go_sem, d3]; rfl)) rfl ?_
      refine tubeP.no ?_
      first | with_reducible exact A2 | with_reducible exact below_drewN A2 _ | ((iterate 4 (refine Below.setCell ?_ (by exact Nat.le_refl _) _)); exact below_drewN A2 _)
    · exact absurd hno (by decide)

/-- Whether there is such a horn; its areas. -/
def hornI (A B : Option Nat) (cnt : Int) : Bool := (decide ((2 : Int) ≤ cnt) && decide (cnt ≤ 16)) && finB A && finB B && hornV A B cnt.toNat
def hornL (A B : Option Nat) (cnt : Int) : List (Option Nat) := (List.range cnt.toNat).map (hornF A B cnt.toNat)

theorem spec_HornAll (cnt : Int) (f0 f1 : Nat) (w : World) :
    Calls Try.prog 44 #[.int .i64 cnt, .float .f32 f0, .float .f32 f1] w (tubeP w (hornI (fv .f32 f0) (fv .f32 f1) cnt) (hornL (fv .f32 f0) (fv .f32 f1) cnt) cL cT cP) := by
  cases h : ((decide ((2 : Int) ≤ cnt) && decide (cnt ≤ 16)) && finB (fv .f32 f0) && finB (fv .f32 f1))
  · have hi : hornI (fv .f32 f0) (fv .f32 f1) cnt = false := by unfold hornI; rw [h]; rfl
    rw [hi]
    exact spec_HornNo cnt f0 f1 _ _ _ w _ rfl rfl rfl h
  · have hi : hornI (fv .f32 f0) (fv .f32 f1) cnt = hornV (fv .f32 f0) (fv .f32 f1) cnt.toNat := by unfold hornI; rw [h]; rfl
    rw [Bool.and_eq_true, Bool.and_eq_true, Bool.and_eq_true, decide_eq_true_eq, decide_eq_true_eq] at h
    rw [hi]
    unfold hornL
    obtain ⟨n, rfl⟩ := Int.eq_ofNat_of_zero_le (show 0 ≤ cnt by omega)
    rw [Int.toNat_natCast]
    exact spec_HornTube n f0 f1 w (by omega) (by omega) h.1.2 h.2

theorem impl_HornAll (cnt : Int) (f0 f1 : Nat) (w : World) :
    Calls Try.prog 45 #[.int .i64 cnt, .float .f32 f0, .float .f32 f1] w (tubeP w (hornI (fv .f32 f0) (fv .f32 f1) cnt) (hornL (fv .f32 f0) (fv .f32 f1) cnt) cL cT cP) := by
  have hf : allU finU [f0, f1] 2 = (finB (fv .f32 f0) && finB (fv .f32 f1)) := by simp [allU, finU]
  cases h : ((decide ((2 : Int) ≤ cnt) && decide (cnt ≤ 16)) && finB (fv .f32 f0) && finB (fv .f32 f1))
  · have hi : hornI (fv .f32 f0) (fv .f32 f1) cnt = false := by unfold hornI; rw [h]; rfl
    rw [hi]
    exact impl_HornNo cnt f0 f1 _ _ w _ rfl hf (by rw [← Bool.and_assoc]; exact h)
  · have hi : hornI (fv .f32 f0) (fv .f32 f1) cnt = hornV (fv .f32 f0) (fv .f32 f1) cnt.toNat := by unfold hornI; rw [h]; rfl
    rw [Bool.and_eq_true, Bool.and_eq_true, Bool.and_eq_true, decide_eq_true_eq, decide_eq_true_eq] at h
    rw [hi]
    unfold hornL
    obtain ⟨n, rfl⟩ := Int.eq_ofNat_of_zero_le (show 0 ≤ cnt by omega)
    rw [Int.toNat_natCast]
    exact impl_HornTube n f0 f1 w (by omega) (by omega) h.1.2 h.2
end Go.Proofs.Ytfodlngbkmhboaa
