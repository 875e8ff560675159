/-
  AreasFrom, in the program and in the reference: areas from reflections. Condition: the reflections are read off memory; lengths below 2^31.
-/
import Derived.Test.YtfodlngbkmhboaaTp
import Derived.OwnWalk
import Derived.Deep.AppendLies
namespace Go.Proofs.Ytfodlngbkmhboaa
open Go.RowKit Ieee

/-! ### Lists that grow -/
def vals (ys : List Nat) : List Value := ys.map (Value.float .f32)
theorem vals_len (ys : List Nat) : (vals ys).length = ys.length := by simp [vals]
theorem vals_get (ys : List Nat) (i : Nat) (h : i < ys.length) : (vals ys)[i]? = some (.float .f32 (ys.getD i 0)) := by
  unfold vals
  rw [List.getElem?_map, List.getElem?_eq_getElem h, List.getD_eq_getElem?_getD, List.getElem?_eq_getElem h]; rfl
/-- The value v is a list of the call's own that holds ys. -/
def own (w : World) (B : Nat) (v : Value) (ys : List Nat) : Prop := w.ownsRow B 23 1 v ys.length (vals ys)
theorem own.form {w : World} {B : Nat} {v : Value} {ys : List Nat} (h : own w B v ys) (hn : 0 < ys.length) : ∃ g cap, v = .slice (some ⟨g, 0, none⟩) ys.length cap ∧ B ≤ g ∧ g < w.heap.size ∧ (∀ i, i < ys.length → w.cell? ⟨g, i, none⟩ = some (.float .f32 (ys.getD i 0))) := by
  obtain ⟨g, cap, rfl, h1, h2⟩ := World.ownsRow.form h hn
  exact ⟨g, cap, rfl, h1, h2, fun i hi => by rw [World.ownsRow.cellAt h i (by omega), vals_get ys i hi]⟩
/-- What it is good for, once it has grown. -/
theorem own.row {w : World} {B : Nat} {v : Value} {ys : List Nat} (h : own w B v ys) : ∃ a cap, v = .slice a ys.length cap ∧ rowA w B a ys := by
  unfold own at h
  rcases h.2 with ⟨rfl, h0⟩ | ⟨g, cap, cur, rfl, hb, hg, hn, _, hs, ht⟩
  · have : ys = [] := List.eq_nil_of_length_eq_zero h0
    subst this
    exact ⟨none, 0, rfl, Or.inl ⟨rfl, rfl⟩⟩
  · refine ⟨some ⟨g, 0, none⟩, cap, rfl, Or.inr ⟨g, rfl, hb, cur.size, fun i => cur.getD i undef, by omega, ⟨cur, hg, rfl, fun i hi => ?_⟩, fun i hi => ?_⟩⟩
    · show cur[i]? = some (cur.getD i undef)
      rw [Array.getD_eq_getD_getElem?, Array.getElem?_eq_getElem hi]; rfl
    · have h1 := vals_get ys i hi
      rw [← ht, List.getElem?_take, if_pos (by omega), Array.getElem?_toList] at h1
      show cur.getD i undef = _
      rw [Array.getD_eq_getD_getElem?, h1]; rfl
theorem own.one (w : World) (B x : Nat) (hb : B ≤ w.heap.size) : own (w.alloc (.cells #[.float .f32 x] 23)) B (.slice (some ⟨w.heap.size, 0, none⟩) 1 1) [x] :=
  World.ownsRow_lit w #[.float .f32 x] 1 hb (by decide) rfl
theorem own.none (w : World) (B : Nat) : own w B (.slice none 0 0) [] := World.ownsRow_nil _ _ _ _
theorem own.added {w : World} {B x : Nat} {v : Value} {ys : List Nat} (h : w.ownsRow B 23 1 v (ys.length + 1) (vals ys ++ [.float .f32 x])) : own w B v (ys ++ [x]) := by
  unfold own vals
  rw [List.map_append, List.length_append]
  exact h

theorem own.dr {w : World} {B : Nat} {v : Value} {ys : List Nat} (h : own w B v ys) (k : Nat) : own (w.drewN k) B v ys := h

/-- One number added. -/
theorem wpList_append_one {ops : Array Oper} {rest : List Oper} {o : Oper} {a : Act} {Q : Exit → Act → World → Prop} (hgd : o.guard = none) (s x : Operand)
    (ho : o.op = .call { callee := .builtin .append, args := #[s, x], argTypes := #[22, 22] }) (B : Nat) (v : Value) (ys : List Nat) (W : World) (z g : Nat)
    (hs : a.eval s = v) (hx : a.eval x = .slice (some ⟨g, 0, none⟩) 1 1) (hg : W.heap.size = g) (hown : own W B v ys) (hB : B ≤ W.heap.size) (hl : ys.length ≤ 1000000)
    (h : ∀ v' w', own w' B v' (ys ++ [z]) → Below B W w' → wpList Try.prog ops Q rest (a.put o.dst v') w') :
    wpList Try.prog ops Q (o :: rest) a (W.alloc (.cells #[.float .f32 z] 23)) := by
  subst hg
  obtain ⟨i0, hi, hz0, hz1, hz2⟩ := info_parts info_f32
  refine wpList_append_own _ hgd s x 22 ho B 23 i0 (.float .f32 0) 1 4 Try.underlying22 hi hz0 hz1 hz2 rfl (by decide) v ys.length (vals ys) hs (World.ownsRow.alloc hown _) ⟨W.heap.size, 0, none⟩ 1 1 [.float .f32 z] hx rfl ?_ ?_ (by unfold maxLen; omega) (by omega) (by rw [World.size_alloc]; omega) ?_
  · intro j u hj
    match j, hj with
    | 0, hj => simp at hj; subst hj; simp [Addr.add]
  · intro u hu; simp at hu; subst hu; rfl
  · intro v' w' h1 h2 _
    refine h v' w' (own.added h1) ?_
    exact ((Below.refl B W).alloc hB _).grown h2 (by rw [World.size_alloc]; omega) (fun k hk => (World.ownsRow.lt hown k hk).1)

/-! ### The plain functions -/
def oneS : Option Nat := fv .f32 1065353216
def areaF (A : Option Nat) (xs : List Nat) : Nat → Option Nat
  | 0 => A
  | j + 1 => fop .mul .f32 (areaF A xs j) (fop .quo .f32 (fop .sub .f32 oneS (fv .f32 (xs.getD j 0))) (fop .add .f32 oneS (fv .f32 (xs.getD j 0))))
/-- A step: between -1 and 1. -/
def stepF (x : Nat) : Bool := gtS x 3212836864 && (FloatKind.f32.format.order x 1065353216 == some .lt)
def okO (o : Option Nat) : Bool := finB o && (ford .f32 o (fv .f32 0) == some .gt)
theorem okA_okO (x : Nat) : okA x = okO (fv .f32 x) := by unfold okA okO gtS; rw [order_ford]
def allF (A : Option Nat) (xs : List Nat) : Nat → Bool
  | 0 => true
  | j + 1 => allF A xs j && okO (areaF A xs j)
/-- These bits are the first areas. -/
def Ys (A : Option Nat) (xs ys : List Nat) (j : Nat) : Prop := ys.length = j ∧ ∀ i, i < j → fv .f32 (ys.getD i 0) = areaF A xs i
theorem Ys.all {A : Option Nat} {xs ys : List Nat} {n : Nat} (h : Ys A xs ys n) : ∀ j, j ≤ n → allU okA ys j = allF A xs j := by
  intro j
  induction j with
  | zero => intro _; rfl
  | succ j ih => intro hj; unfold allU allF; rw [ih (by omega), okA_okO, h.2 j (by omega)]
theorem Ys.add {A : Option Nat} {xs ys : List Nat} {j x : Nat} (h : Ys A xs ys j) (hx : fv .f32 x = areaF A xs j) : Ys A xs (ys ++ [x]) (j + 1) := by
  refine ⟨by simp [h.1], fun i hi => ?_⟩
  by_cases h1 : i < j
  · rw [List.getD_eq_getElem?_getD, List.getElem?_append_left (by rw [h.1]; exact h1), ← List.getD_eq_getElem?_getD]; exact h.2 i h1
  · have : i = j := by omega
    subst this
    rw [List.getD_eq_getElem?_getD, List.getElem?_append_right (by rw [h.1]; exact Nat.le_refl _), h.1, Nat.sub_self]
    exact hx
def arOk (A : Option Nat) (xs : List Nat) (n : Nat) : Bool := decide (n < 16) && allU stepF xs n && allF A xs (n + 1)
def arL (A : Option Nat) (xs : List Nat) (n : Nat) : List (Option Nat) := if arOk A xs n = true then (List.range (n + 1)).map (areaF A xs) else []
theorem Ys.list {A : Option Nat} {xs ys : List Nat} {n : Nat} (h : Ys A xs ys (n + 1)) (ho : arOk A xs n = true) : ys.map (fv .f32) = arL A xs n := by
  unfold arL
  rw [if_pos ho]
  apply List.ext_getElem
  · simp [h.1]
  · intro i h1 h2
    have hi : i < n + 1 := by simpa [h.1] using h1
    rw [List.getElem_map, List.getElem_map, List.getElem_range, ← h.2 i hi, List.getD_eq_getElem?_getD, List.getElem?_eq_getElem (by rw [h.1]; exact hi)]; rfl
theorem arL_nil {A : Option Nat} {xs : List Nat} {n : Nat} (ho : arOk A xs n = false) : ([] : List Nat).map (fv .f32) = arL A xs n := by unfold arL; rw [if_neg (by rw [ho]; decide)]; rfl

/-! ### The walks -/
theorem impl_isStep (x : Nat) (w : World) : Calls Try.prog 64 #[.float .f32 x] w fun e w' => e = .returned (.bool (stepF x)) ∧ w = w' := by
  go_enter Try.func64, Try.ntmps64
  go_wp2_with fail
  all_goals
    go_ret
    exact ⟨by simp_all [stepF, gtS], rfl⟩

set_option maxHeartbeats 1000000 in
theorem impl_AreasFrom (a : Option Addr) (n c x0 : Nat) (xs : List Nat) (w : World) (hn : xs.length = n) (ha : Hid (fls w a xs)) (hx : n < 2147483648) :
    Calls Try.prog 25 #[.slice a n c, .float .f32 x0] w fun e w' => ∃ A ys cap, e = .returned (.tuple #[.slice A ys.length cap, .bool (arOk (fv .f32 x0) xs n)]) ∧ ys.map (fv .f32) = arL (fv .f32 x0) xs n ∧ ys.length ≤ 16 ∧ Below w.heap.size w w' ∧ Hid (rowA w' w.heap.size A ys) := by
  have HN := Lib.hid hn
  clear hn
  by_cases h16 : n < 16
  · obtain ⟨i0, hi, hz0, hz1, hz2⟩ := info_parts info_f32
    have hown0 := own.one w w.heap.size x0 (Nat.le_refl _)
    go_enter Try.func25, Try.ntmps25
    go_wp2_with fail
    go_loopg [6, 18] n (fun g v i wr => ∃ (j : Nat) (ys : List Nat), g + j = n ∧ i = .int .i64 j ∧ Hid (Ys (fv .f32 x0) xs ys (j + 1)) ∧ Hid (own wr w.heap.size v ys) ∧ Hid (Below w.heap.size w wr) ∧ Hid (allU stepF xs j = true))
    case atStart => exact ⟨0, [x0], by omega, rfl, ⟨rfl, fun i hi => by have : i = 0 := by omega
                                                                        subst this; rfl⟩, hown0, (Below.refl _ _).alloc (Nat.le_refl _) _, rfl⟩
    case round =>
      obtain ⟨j, ys, hj, rfl, hys, hown, hbel, hst⟩ := hrel
      have hl := hys.out.1
      obtain ⟨g, cap, hv, hBg, hgl, hcells⟩ := hown.out.form (by omega)
      rw [hl] at hv hcells
      subst hv
      have OW := Lib.hid hown.out
      have HL := Lib.hid hl
      clear hown hl
      by_cases hlt : j < n
      · obtain ⟨ba, oa, rfl, hca⟩ := ha.out j (by rw [HN.out]; exact hlt)
        have hsrc : wr.cell? ⟨ba, oa + j, none⟩ = some (.float .f32 (xs.getD j 0)) := by rw [hbel.out.cell (p := ⟨ba, oa + j, none⟩) (lt_of_cell hca)]; exact hca
        have hlast := hcells j (by omega)
        have hfy := hys.out.2 j (by omega)
        clear hcells hca
        generalize hxj : xs.getD j 0 = x at hsrc
        generalize ys.getD j 0 = y at hlast hfy
        have HX := Lib.hid hxj
        have HY := Lib.hid hfy
        clear hxj hfy
        cases hok : stepF x
        · have HO : Hid (arOk (fv .f32 x0) xs n = false) := by show _ = _; unfold arOk; rw [allU_false hlt (by rw [HX.out]; exact hok), Bool.and_false, Bool.false_and]
          have HS := Lib.hid hok
          clear hok
          go_wp2_with (go_at_call 64; refine (impl_isStep _ _).mono ?_; rw [HS.out]; rintro e w' ⟨rfl, rfl⟩)
          go_ret2
          exact ⟨none, [], 0, by rw [HO.out]; rfl, arL_nil HO.out, by simp, hbel.out, Or.inl ⟨rfl, rfl⟩⟩
        · have HS := Lib.hid hok
          clear hok
          have hsz := hbel.out.size
          go_wp2_with (first
            | (go_at_call 64; refine (impl_isStep _ _).mono ?_; rw [HS.out]; rintro e w' ⟨rfl, rfl⟩)
            | (at_builtin; refine wpList_append_one rfl _ _ rfl w.heap.size _ ys (wr.drewN _) _ _ rfl rfl (by simp) (OW.out.dr _) hsz (by have := HL.out; omega) ?_; intro v' w1 hown' hb'))
          have HO' := Lib.hid hown'
          have HB' := Lib.hid hb'
          clear hown' hb'
          go_wp2_with fail
          go_roundg (gk - 1)
          case measure => omega
          case rel =>
            refine ⟨j + 1, _, by omega, by go_num, hys.out.add ?_, HO'.out, (below_drewN hbel.out _).trans HB'.out, by show _ = _; rw [allU, hst.out, HX.out, HS.out]; rfl⟩
            simp only [fv_fval, HY.out, areaF, HX.out]
            rfl
      · have hjn : j = n := by omega
        subst hjn
        have HC := Lib.hid hcells
        have hbw := hbel.out.size
        clear hcells
        go_wp2_with fail
        go_loopg [42] (j + 1) (fun g' i' w2 => ∃ k m : Nat, g' + k = j + 1 ∧ i' = .int .i64 k ∧ Hid (allU okA ys k = true) ∧ w2 = wr.drewN m)
        case atStart => exact ⟨0, 0, by omega, rfl, rfl, rfl⟩
        case round =>
          obtain ⟨k, m, hk, rfl, hall, rfl⟩ := hrel
          by_cases hlt : k < j + 1
          · have hca := HC.out k (by omega)
            generalize hxj : ys.getD k 0 = x at hca
            have HX := Lib.hid hxj
            clear hxj
            have hfalse : okA x = false → arOk (fv .f32 x0) xs j = false := by
              intro hx
              unfold arOk
              rw [← hys.out.all (j + 1) (Nat.le_refl _), allU_false hlt (by rw [HX.out]; exact hx), Bool.and_false]
            have HFL := Lib.hid hfalse
            clear hfalse
            cases hfin : finB (fv .f32 x)
            · have HF : Hid (arOk (fv .f32 x0) xs j = false) := HFL.out (by unfold okA; rw [hfin]; rfl)
              have HO := Lib.hid hfin
              clear hfin
              go_wp2_with (go_at_call 65; refine (impl_IsFinite _ _).mono ?_; rw [HO.out]; rintro e w' ⟨rfl, q, rfl⟩)
              go_ret2
              exact ⟨none, [], 0, by rw [HF.out]; rfl, arL_nil HF.out, by simp, below_drewN hbel.out _, Or.inl ⟨rfl, rfl⟩⟩
            · have hle := fin_le x hfin
              cases hgt : gtS x 0
              · have HF : Hid (arOk (fv .f32 x0) xs j = false) := HFL.out (by unfold okA; rw [hgt, Bool.and_false])
                have hle' : (FloatKind.f32.format.order x 0 == some .lt || FloatKind.f32.format.order x 0 == some .eq) = true := by
                  have := hle; unfold leS at this; rw [this, hgt]; rfl
                have HO := Lib.hid hfin
                clear hfin hgt hle
                go_wp2_with (go_at_call 65; refine (impl_IsFinite _ _).mono ?_; rw [HO.out]; rintro e w' ⟨rfl, q, rfl⟩)
                go_ret2
                exact ⟨none, [], 0, by rw [HF.out]; rfl, arL_nil HF.out, by simp, below_drewN hbel.out _, Or.inl ⟨rfl, rfl⟩⟩
              · have hle' : (FloatKind.f32.format.order x 0 == some .lt || FloatKind.f32.format.order x 0 == some .eq) = false := by
                  have := hle; unfold leS at this; rw [this, hgt]; rfl
                have HO := Lib.hid hfin
                have HG := Lib.hid hgt
                clear hfin hgt hle
                go_wp2_with (go_at_call 65; refine (impl_IsFinite _ _).mono ?_; rw [HO.out]; rintro e w' ⟨rfl, q, rfl⟩)
                go_roundg (gk - 1)
                case measure => omega
                case rel => exact ⟨k + 1, _, by omega, by go_num, by show _ = _; rw [allU, hall.out, HX.out, okA, HO.out, HG.out]; rfl, rfl⟩
          · have hkn : k = j + 1 := by omega
            subst hkn
            have HT : Hid (arOk (fv .f32 x0) xs j = true) := by
              show _ = _
              unfold arOk
              rw [decide_eq_true h16, hst.out, ← hys.out.all (j + 1) (Nat.le_refl _), hall.out]; rfl
            go_wp2_with fail
            go_ret2
            obtain ⟨A, cap', hv, hrow⟩ := (OW.out.dr m).row
            have hl := HL.out
            injection hv with hv1 hv2 hv3
            subst hv1
            exact ⟨_, ys, cap, by rw [HT.out, hl]; rfl, hys.out.list HT.out, by omega, below_drewN hbel.out _, hrow⟩
  · have HO : Hid (arOk (fv .f32 x0) xs n = false) := by show _ = _; unfold arOk; rw [decide_eq_false h16, Bool.false_and, Bool.false_and]
    go_enter Try.func25, Try.ntmps25
    go_wp2_with fail
    go_ret2
    exact ⟨none, [], 0, by rw [HO.out]; rfl, arL_nil HO.out, by simp, Below.refl _ _, Or.inl ⟨rfl, rfl⟩⟩

set_option maxHeartbeats 1000000 in
theorem spec_l02From (a : Option Addr) (n c x0 : Nat) (xs : List Nat) (w : World) (hn : xs.length = n) (ha : Hid (fls w a xs)) (hx : n < 2147483648) :
    Calls Try.prog 63 #[.slice a n c, .float .f32 x0] w fun e w' => ∃ A ys cap, e = .returned (.tuple #[.slice A ys.length cap, .bool (arOk (fv .f32 x0) xs n)]) ∧ (arOk (fv .f32 x0) xs n = true → ys.map (fv .f32) = arL (fv .f32 x0) xs n ∧ ys.length ≤ 16) ∧ Below w.heap.size w w' ∧ Hid (rowA w' w.heap.size A ys) := by
  have HN := Lib.hid hn
  clear hn
  by_cases h16 : n < 16
  · have hown0 := own.one w w.heap.size x0 (Nat.le_refl _)
    go_enter Try.func63, Try.ntmps63
    go_wp2_with fail
    go_loopg [1, 6, 7] n (fun g z v i wr => ∃ (j : Nat) (ys : List Nat) (zb : Nat), g + j = n ∧ i = .int .i64 j ∧ z = .float .f32 zb ∧ Hid (fv .f32 zb = areaF (fv .f32 x0) xs j) ∧ Hid (Ys (fv .f32 x0) xs ys (j + 1)) ∧ Hid (own wr w.heap.size v ys) ∧ Hid (Below w.heap.size w wr) ∧ Hid (allU stepF xs j = true))
    case atStart => exact ⟨0, [x0], x0, by omega, rfl, rfl, rfl, ⟨rfl, fun i hi => by have : i = 0 := by omega
                                                                                      subst this; rfl⟩, hown0, (Below.refl _ _).alloc (Nat.le_refl _) _, rfl⟩
    case round =>
      obtain ⟨j, ys, zb, hj, rfl, rfl, hz, hys, hown, hbel, hst⟩ := hrel
      have hl := hys.out.1
      obtain ⟨g, cap, hv, hBg, hgl, hcells⟩ := hown.out.form (by omega)
      rw [hl] at hv hcells
      subst hv
      have OW := Lib.hid hown.out
      have HL := Lib.hid hl
      have HC := Lib.hid hcells
      clear hown hl hcells
      by_cases hlt : j < n
      · obtain ⟨ba, oa, rfl, hca⟩ := ha.out j (by rw [HN.out]; exact hlt)
        have hsrc : wr.cell? ⟨ba, oa + j, none⟩ = some (.float .f32 (xs.getD j 0)) := by rw [hbel.out.cell (p := ⟨ba, oa + j, none⟩) (lt_of_cell hca)]; exact hca
        clear hca
        generalize hxj : xs.getD j 0 = x at hsrc
        have HX := Lib.hid hxj
        clear hxj
        have hsz := hbel.out.size
        have hstop : stepF x = false → arOk (fv .f32 x0) xs n = false := fun h => by unfold arOk; rw [allU_false hlt (by rw [HX.out]; exact h), Bool.and_false, Bool.false_and]
        have HSTOP := Lib.hid hstop
        clear hstop
        cases hg : gtS x 3212836864
        · have HO : Hid (arOk (fv .f32 x0) xs n = false) := HSTOP.out (by unfold stepF; rw [hg]; rfl)
          have hg' : (FloatKind.f32.format.order x 3212836864 == some .gt) = false := hg
          clear hg
          go_wp2_with fail
          go_ret2
          exact ⟨none, [], 0, by rw [HO.out]; rfl, fun h => absurd h (by rw [HO.out]; decide), hbel.out, Or.inl ⟨rfl, rfl⟩⟩
        · have hg' : (FloatKind.f32.format.order x 3212836864 == some .gt) = true := hg
          cases hk : (FloatKind.f32.format.order x 1065353216 == some .lt)
          · have HO : Hid (arOk (fv .f32 x0) xs n = false) := HSTOP.out (by unfold stepF; rw [hg, hk]; rfl)
            clear hg
            go_wp2_with fail
            go_ret2
            exact ⟨none, [], 0, by rw [HO.out]; rfl, fun h => absurd h (by rw [HO.out]; decide), hbel.out, Or.inl ⟨rfl, rfl⟩⟩
          · have HS : Hid (stepF x = true) := by show _ = _; unfold stepF; rw [hg, hk]; rfl
            clear hg
            go_wp2_with (at_builtin; refine wpList_append_one rfl _ _ rfl w.heap.size _ ys (wr.drewN _) _ _ rfl rfl (by simp) (OW.out.dr _) hsz (by have := HL.out; omega) ?_; intro v' w1 hown' hb')
            have HO' := Lib.hid hown'
            have HB' := Lib.hid hb'
            clear hown' hb'
            go_wp2_with fail
            go_roundg (gk - 1)
            case measure => omega
            case rel =>
              have hf : ∀ w1 w2 w3 w4, fv .f32 (fval .mul .f32 zb (fval .quo .f32 (fval .sub .f32 1065353216 x w1) (fval .add .f32 1065353216 x w2) w3) w4) = areaF (fv .f32 x0) xs (j + 1) := by
                intro w1 w2 w3 w4
                simp only [fv_fval, hz.out, areaF, HX.out]
                rfl
              exact ⟨j + 1, _, _, by omega, by go_num, rfl, hf _ _ _ _, hys.out.add (hf _ _ _ _), HO'.out, (below_drewN hbel.out _).trans HB'.out, by show _ = _; rw [allU, hst.out, HX.out, HS.out]; rfl⟩
      · have hjn : j = n := by omega
        subst hjn
        have FL : Hid (fls wr (some ⟨g, 0, none⟩) ys) := fun i hi => ⟨g, 0, rfl, by rw [Nat.zero_add]; exact HC.out i (by have := HL.out; omega)⟩
        have HA : Hid (areasOk ys (j + 1) = arOk (fv .f32 x0) xs j) := by
          show _ = _
          unfold areasOk arOk
          rw [hys.out.all (j + 1) (Nat.le_refl _), hst.out, decide_eq_true h16, decide_eq_true (show 1 ≤ j + 1 by omega), decide_eq_true (show j + 1 ≤ 16 by omega)]
        go_wp2_with (go_at_call 89; refine (spec_l02Areas (some ⟨g, 0, none⟩) (j + 1) cap ys _ HL.out FL (by omega)).mono ?_; rw [HA.out]; rintro e w' ⟨rfl, q, rfl⟩)
        go_ret2
        obtain ⟨A, cap', hv, hrow⟩ := (OW.out.dr q).row
        have hl := HL.out
        injection hv with hv1 hv2 hv3
        subst hv1
        exact ⟨_, ys, cap, by rw [hl]; rfl, fun h => ⟨hys.out.list h, by omega⟩, below_drewN hbel.out _, hrow⟩
  · have HO : Hid (arOk (fv .f32 x0) xs n = false) := by show _ = _; unfold arOk; rw [decide_eq_false h16, Bool.false_and, Bool.false_and]
    have hown0 := own.one w w.heap.size x0 (Nat.le_refl _)
    go_enter Try.func63, Try.ntmps63
    go_wp2_with fail
    go_loopg [6, 7] 0 (fun g v i wr => g = 0 ∧ v = .slice (some ⟨w.heap.size, 0, none⟩) 1 1 ∧ i = .int .i64 0 ∧ wr = w.alloc (.cells #[.float .f32 x0] 23))
    case atStart => exact ⟨rfl, rfl, rfl, rfl⟩
    case round =>
      obtain ⟨rfl, rfl, rfl, rfl⟩ := hrel
      go_wp2_with fail
      go_ret2
      obtain ⟨A, cap', hv, hrow⟩ := hown0.row
      injection hv with hv1 hv2 hv3
      subst hv1
      exact ⟨_, [x0], ⟨1, by rw [HO.out]; rfl⟩, fun h => absurd h (by rw [HO.out]; decide), (Below.refl _ _).alloc (Nat.le_refl _) _, hrow⟩

theorem spec_AreasFrom (a : Option Addr) (n c x0 : Nat) (xs : List Nat) (w : World) (hn : xs.length = n) (ha : Hid (fls w a xs)) (hx : n < 2147483648) :
    Calls Try.prog 24 #[.slice a n c, .float .f32 x0] w fun e w' => ∃ A ys cap, e = .returned (.tuple #[.slice A ys.length cap, .bool (arOk (fv .f32 x0) xs n)]) ∧ ys.map (fv .f32) = arL (fv .f32 x0) xs n ∧ ys.length ≤ 16 ∧ Below w.heap.size w w' ∧ Hid (rowA w' w.heap.size A ys) := by
  have C := Lib.hid (spec_l02From a n c x0 xs w hn ha hx)
  clear hn
  cases ho : arOk (fv .f32 x0) xs n
  · have HO := Lib.hid ho
    go_enter Try.func24, Try.ntmps24
    go_wp2_with fail
    refine C.out.mono ?_
    rintro e w' ⟨A, ys, cap, rfl, _, hb, _⟩
    rw [HO.out]
    clear ho
    go_wp2_with fail
    go_ret2
    exact ⟨none, [], 0, rfl, arL_nil HO.out, by simp, hb, Or.inl ⟨rfl, rfl⟩⟩
  · have HO := Lib.hid ho
    go_enter Try.func24, Try.ntmps24
    go_wp2_with fail
    refine C.out.mono ?_
    rintro e w' ⟨A, ys, cap, rfl, hy, hb, hr⟩
    have HY := Lib.hid hy
    rw [HO.out]
    clear ho hy
    go_wp2_with fail
    go_ret2
    exact ⟨A, ys, cap, rfl, (HY.out HO.out).1, (HY.out HO.out).2, hb, hr⟩
end Go.Proofs.Ytfodlngbkmhboaa
