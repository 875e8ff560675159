/-
  A tube if it is valid: checkedTube, l02Give. Condition: the tube is read off memory; lengths below 2^31.
-/
import Derived.Test.YtfodlngbkmhboaaUa
namespace Go.Proofs.Ytfodlngbkmhboaa
open Go.RowKit Ieee

theorem results_tubeB {fn : Func} {q u : Tmp} (h : fn.results = #[.cell q 40, .tmp u]) (tmps : Array Value) (w : World) (g : Nat) (hp : tmps.getD q undef = .pointer (some ⟨g, 0, none⟩)) {v0 v1 v2 v3 : Value}
    (c0 : w.cell? ⟨g, 0, none⟩ = some v0) (c1 : w.cell? ⟨g, 1, none⟩ = some v1) (c2 : w.cell? ⟨g, 2, none⟩ = some v2) (c3 : w.cell? ⟨g, 3, none⟩ = some v3) : (results fn tmps).run Try.prog w = .ok (.tuple #[.agg #[v0, v1, v2, v3], tmps.getD u undef]) w := by
  have hp' : tmps[q]?.getD undef = .pointer (some ⟨g, 0, none⟩) := by simpa using hp
  simp [results, h, hp', go_sem, c0, c1, c2, c3]

theorem allU_congr {xs ys : List Nat} (h : xs.map (fv .f32) = ys.map (fv .f32)) : ∀ n, n ≤ xs.length → allU okA xs n = allU okA ys n := by
  have hl : xs.length = ys.length := by simpa using congrArg List.length h
  intro n
  induction n with
  | zero => intro _; rfl
  | succ j ih =>
    intro hj
    unfold allU
    rw [ih (by omega), okA_okO, okA_okO]
    have e := congrArg (fun l => l[j]?) h
    simp only [List.getElem?_map] at e
    rw [List.getElem?_eq_getElem (by omega), List.getElem?_eq_getElem (by omega)] at e
    simp only [Option.map_some, Option.some.injEq] at e
    rw [List.getD_eq_getElem?_getD, List.getD_eq_getElem?_getD, List.getElem?_eq_getElem (show j < xs.length by omega), List.getElem?_eq_getElem (show j < ys.length by omega)]
    simp only [Option.getD_some]
    rw [e]
theorem validT_congr {xs ys : List Nat} (h : xs.map (fv .f32) = ys.map (fv .f32)) (n l t p : Nat) (hn : xs.length = n) : validT xs n l t p = validT ys n l t p := by
  unfold validT areasOk
  rw [allU_congr h n (by omega)]

def pickN (v : Bool) (x : Nat) : Nat := if v = true then x else 0
def pickA (v : Bool) (a : Option Addr) : Option Addr := if v = true then a else none
/-- A tube, or none, and whether. -/
def tubeR (v : Bool) (a : Option Addr) (n c l t p : Nat) : Value := .tuple #[.agg #[.slice (pickA v a) (pickN v n) (pickN v c), .float .f32 (pickN v l), .float .f32 (pickN v t), .float .f32 (pickN v p)], .bool v]

theorem impl_checkedTube (a : Option Addr) (n c l t p : Nat) (xs : List Nat) (w : World) (hn : xs.length = n) (ha : Hid (fls w a xs)) (hx : n < 2147483648) :
    Calls Try.prog 81 #[.agg #[.slice a n c, .float .f32 l, .float .f32 t, .float .f32 p]] w fun e w' => e = .returned (tubeR (validT xs n l t p) a n c l t p) ∧ Below w.heap.size w w' := by
  have HN := Lib.hid hn
  clear hn
  have R1 := (tubeF_row w 40 a n c l t p).alloc (.cells #[.slice none 0 0, .float .f32 0, .float .f32 0, .float .f32 0] 40)
  have R2 := tubeF_row (w.alloc (.cells #[.slice a n c, .float .f32 l, .float .f32 t, .float .f32 p] 40)) 40 none 0 0 0 0 0
  rw [World.size_alloc] at R2
  have A0 := alloc2_belowH w (.cells #[.slice a n c, .float .f32 l, .float .f32 t, .float .f32 p] 40) (.cells #[.slice none 0 0, .float .f32 0, .float .f32 0, .float .f32 0] 40)
  have HA := Lib.hid (ha.out.stays A0)
  generalize hV : validT xs n l t p = v
  have HV := Lib.hid hV
  clear hV
  cases v <;>
  · go_enter Try.func81, Try.ntmps81
    go_wp2_with fail
    generalize ((w.alloc (.cells #[.slice a n c, .float .f32 l, .float .f32 t, .float .f32 p] 40)).alloc (.cells #[.slice none 0 0, .float .f32 0, .float .f32 0, .float .f32 0] 40)) = Wa at R1 R2 A0 HA
    refine (impl_ValidTube a n c l t p xs Wa HN.out HA hx).mono ?_
    rw [HV.out]
    rintro r w2 ⟨rfl, B2⟩
    obtain ⟨c0, c1, c2, c3⟩ := tube_stays R1 B2
    obtain ⟨d0, d1, d2, d3⟩ := tube_stays R2 B2
    have R3 := R2.of_block (B2.block _ (World.rowIs.lt R2))
    have f0 := R3.frozen 0
    have f1 := R3.frozen 1
    have f2 := R3.frozen 2
    have f3 := R3.frozen 3
    simp only [Nat.zero_add] at c1 c2 c3 d1 d2 d3
    clear R3
    go_wp2_with fail
    refine bodyPost_ret (results_tubeB Try.results81 _ _ (w.heap.size + 1) rfl (by simp [go_sem, d0]; rfl) (by simp [go_sem, d1]; rfl) (by simp [go_sem, d2]; rfl) (by simp [go_sem, d3]; rfl)) rfl ?_
    refine ⟨rfl, ?_⟩
    iterate 4 refine Below.setCell ?_ (by show w.heap.size ≤ _; simp only []; omega) _
    exact Below.on A0 B2

theorem spec_l02Give (a : Option Addr) (n c l t p : Nat) (xs : List Nat) (w : World) (hn : xs.length = n) (ha : Hid (fls w a xs)) (hx : n < 2147483648) :
    Calls Try.prog 78 #[.agg #[.slice a n c, .float .f32 l, .float .f32 t, .float .f32 p]] w fun e w' => e = .returned (tubeR (validT xs n l t p) a n c l t p) ∧ Below w.heap.size w w' := by
  have HN := Lib.hid hn
  clear hn
  have R1 := (tubeF_row w 40 a n c l t p).alloc (.cells #[.slice none 0 0, .float .f32 0, .float .f32 0, .float .f32 0] 40)
  have R2 := tubeF_row (w.alloc (.cells #[.slice a n c, .float .f32 l, .float .f32 t, .float .f32 p] 40)) 40 none 0 0 0 0 0
  rw [World.size_alloc] at R2
  have A0 := alloc2_belowH w (.cells #[.slice a n c, .float .f32 l, .float .f32 t, .float .f32 p] 40) (.cells #[.slice none 0 0, .float .f32 0, .float .f32 0, .float .f32 0] 40)
  have HA := Lib.hid (ha.out.stays A0)
  generalize hV : validT xs n l t p = v
  have HV := Lib.hid hV
  clear hV
  cases v <;>
  · go_enter Try.func78, Try.ntmps78
    go_wp2_with fail
    generalize ((w.alloc (.cells #[.slice a n c, .float .f32 l, .float .f32 t, .float .f32 p] 40)).alloc (.cells #[.slice none 0 0, .float .f32 0, .float .f32 0, .float .f32 0] 40)) = Wa at R1 R2 A0 HA
    refine (spec_l02Is _ 0 a n c l t p xs Wa HN.out HA hx (tube_stays R1 (Below.refl _ _))).mono ?_
    rw [HV.out]
    rintro r w2 ⟨rfl, m, hw2⟩
    have B2 : Below Wa.heap.size Wa w2 := by rw [hw2]; exact below_drewN (Below.refl _ _) m
    clear hw2
    obtain ⟨c0, c1, c2, c3⟩ := tube_stays R1 B2
    obtain ⟨d0, d1, d2, d3⟩ := tube_stays R2 B2
    have R3 := R2.of_block (B2.block _ (World.rowIs.lt R2))
    have f0 := R3.frozen 0
    have f1 := R3.frozen 1
    have f2 := R3.frozen 2
    have f3 := R3.frozen 3
    simp only [Nat.zero_add] at c1 c2 c3 d1 d2 d3
    clear R3
    go_wp2_with fail
    refine bodyPost_ret (results_tubeB Try.results78 _ _ (w.heap.size + 1) rfl (by simp [go_sem, d0]; rfl) (by simp [go_sem, d1]; rfl) (by simp [go_sem, d2]; rfl) (by simp [go_sem, d3]; rfl)) rfl ?_
    refine ⟨rfl, ?_⟩
    iterate 4 refine Below.setCell ?_ (by show w.heap.size ≤ _; simp only []; omega) _
    exact Below.on A0 B2
end Go.Proofs.Ytfodlngbkmhboaa
