/-
  A list turned round: slices.Reverse; BackTube, in the program and in the reference. Condition: the tube is read off memory; lengths below 2^31.
-/
import Derived.Test.YtfodlngbkmhboaaWb
import Derived.BigRegion
namespace Go.Proofs.Ytfodlngbkmhboaa
open Go.RowKit Ieee
attribute [local irreducible] wpAnyH

/-- What stands at k when i from each end have been exchanged. -/
def rvN (xs : List Nat) (n i k : Nat) : Nat := if k < i ∨ n ≤ k + i then xs.getD (n - 1 - k) 0 else xs.getD k 0
theorem rev_getD (xs : List Nat) (n k : Nat) (hn : xs.length = n) (hk : k < n) : xs.reverse.getD k 0 = xs.getD (n - 1 - k) 0 := by
  rw [List.getD_eq_getElem?_getD, List.getD_eq_getElem?_getD, List.getElem?_reverse (by omega), hn]

set_option maxHeartbeats 1000000 in
theorem slices_Reverse (b n c B : Nat) (xs : List Nat) (w : World) (hn : xs.length = n) (hr : Hid (rowA w B (some ⟨b, 0, none⟩) xs)) (hx : n ≤ 16) (h1 : 0 < n) :
    Calls Try.prog 84 #[.slice (some ⟨b, 0, none⟩) n c] w fun e w' => e = .returned (.tuple #[]) ∧ (∀ B', B' ≤ B → Below B' w w') ∧ TurnedA (some ⟨b, 0, none⟩) w w' ∧ Hid (rowA w' B (some ⟨b, 0, none⟩) xs.reverse) := by
  rcases hr.out with ⟨h, _⟩ | ⟨b', hb', hB, N, f, hN, h2, h3⟩
  · cases h
  cases hb'
  have HB := Lib.hid hB
  have HN := Lib.hid hn
  rw [hn] at hN h3
  have H := Lib.hid h2
  have F := Lib.hid h3
  clear hr hn hB h2 h3
  obtain ⟨m, rfl⟩ : ∃ m, n = m + 1 := ⟨n - 1, by omega⟩
  go_enter Try.func84, Try.ntmps84
  go_wp2_with fail
  go_loopg [2, 3] (m + 1) (fun g iv jv wr => ∃ i j : Nat, g + i = m + 1 ∧ i + j = m ∧ i ≤ j + 1 ∧ iv = .int .i64 i ∧ jv = .int .i64 j ∧ Hid (Below b w wr) ∧ Hid (TurnedA (some ⟨b, 0, none⟩) w wr) ∧ Hid (wr.rowIs b 23 N (fun k => if k < m + 1 then .float .f32 (rvN xs (m + 1) i k) else f k)))
  case atStart =>
    refine ⟨0, m, by omega, by omega, by omega, rfl, by go_num, Below.refl _ _, fun _ _ _ => rfl, World.rowIs.congr H.out (fun k hk => ?_)⟩
    by_cases hk' : k < m + 1
    · rw [if_pos hk', F.out k hk']
      unfold rvN
      rw [if_neg (by omega)]
    · rw [if_neg hk']
  case round =>
    obtain ⟨i, j, hg, hij, hle, rfl, rfl, HBl, HTu, HR⟩ := hrel
    by_cases hlt : i < j
    · have ci : wr.cell? ⟨b, i, none⟩ = some (.float .f32 (xs.getD i 0)) := (HR.out.cell (i := i) (by omega)).trans (by rw [if_pos (by omega)]; unfold rvN; rw [if_neg (by omega)])
      have cj : wr.cell? ⟨b, j, none⟩ = some (.float .f32 (xs.getD j 0)) := (HR.out.cell (i := j) (by omega)).trans (by rw [if_pos (by omega)]; unfold rvN; rw [if_neg (by omega)])
      have fi := HR.out.frozen i
      have fj := HR.out.frozen j
      generalize hxi : xs.getD i 0 = x at ci
      generalize hyj : xs.getD j 0 = y at cj
      have HX := Lib.hid hxi
      have HY := Lib.hid hyj
      have hij' : i ≠ j := by omega
      have i1 : (i : Int) < (m : Int) + 1 := by omega
      have j1 : (j : Int) < (m : Int) + 1 := by omega
      have hji : ¬ j = i := by omega
      clear hxi hyj
      go_wp2_with fail
      go_region
      go_wp2_with fail
      go_roundg (gk - 1)
      case measure => omega
      case rel =>
        refine ⟨i + 1, j - 1, by omega, by omega, by omega, by go_num, by congr 1; omega, ((HBl.out.setCell (Nat.le_refl _) _).setCell (Nat.le_refl _) _).drew, fun q hq hne => ?_, World.rowIs.drew (((HR.out.set i (.float .f32 y)).set j (.float .f32 x)).congr fun k hk => ?_)⟩
        · show ((wr.setCell ⟨b, i, none⟩ (.float .f32 y)).setCell ⟨b, j, none⟩ (.float .f32 x)).heap[q]? = _
          have hqb : q ≠ b := fun h => hne ⟨b, 0, none⟩ rfl h.symm
          rw [Below.heap_setCell _ _ _ _ hqb, Below.heap_setCell _ _ _ _ hqb]
          exact HTu.out q hq hne
        by_cases e1 : k = j
        · subst e1
          rw [if_pos rfl, if_pos (by omega), ← HX.out]
          unfold rvN
          rw [if_pos (by omega), show m + 1 - 1 - k = i by omega]
        · rw [if_neg e1]
          by_cases e2 : k = i
          · subst e2
            rw [if_pos rfl, if_pos (by omega), ← HY.out]
            unfold rvN
            rw [if_pos (by omega), show m + 1 - 1 - k = j by omega]
          · rw [if_neg e2]
            by_cases e3 : k < m + 1
            · rw [if_pos e3, if_pos e3]
              unfold rvN
              by_cases e4 : k < i ∨ m + 1 ≤ k + i
              · rw [if_pos e4, if_pos (by omega)]
              · rw [if_neg e4, if_neg (by omega)]
            · rw [if_neg e3, if_neg e3]
    · go_wp2_with fail
      refine bodyPost_end (results_none rfl _ _ _) rfl ?_
      refine ⟨rfl, fun B' hB' => HBl.out.mono (Nat.le_trans hB' HB.out), HTu.out, Or.inr ⟨b, rfl, HB.out, N, _, by rw [List.length_reverse, HN.out]; exact hN, HR.out, fun k hk => ?_⟩⟩
      have hk' : k < m + 1 := by rw [List.length_reverse, HN.out] at hk; exact hk
      show (if k < m + 1 then Value.float .f32 (rvN xs (m + 1) i k) else f k) = .float .f32 (xs.reverse.getD k 0)
      rw [if_pos hk', rev_getD xs (m + 1) k HN.out hk']
      unfold rvN
      by_cases e4 : k < i ∨ m + 1 ≤ k + i
      · rw [if_pos e4]
      · rw [if_neg e4, show m + 1 - 1 - k = k by omega]
end Go.Proofs.Ytfodlngbkmhboaa
