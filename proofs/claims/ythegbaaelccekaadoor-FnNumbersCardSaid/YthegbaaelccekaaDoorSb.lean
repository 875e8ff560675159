/-
  Choices out of the source: a number below another, yes or no, one of some numbers. Condition: few choices (fewer than 2^20).
-/
import Derived.Test.YthegbaaelccekaaDoorSa
namespace Go.Proofs.YthegbaaelccekaaDoor
open Go.RowKit

theorem src_pick (b A n : Nat) (bs : List Nat) (w : World) (hs : Hid (SrcAt w b bs A)) (hA : A < 1000000) (h1 : 1 < n) (h2 : n ≤ 70000) :
    Calls Tryd.prog 71 #[.pointer (some ⟨b, 0, none⟩), .int .i64 n] w fun e w' => (∃ v : Nat, v < n ∧ e = .returned (.int .i64 v)) ∧ SrcAt w' b bs (A + 2) ∧ Only b w w' := by
  have H1 := Lib.hid (src_next b A bs w hs (by omega))
  by_cases h200 : (200 : Int) < n
  · go_enter Tryd.func71, Tryd.ntmps71
    go_wp2_with fail
    refine H1.out.mono ?_
    rintro e w1 ⟨⟨v, hv, rfl⟩, s1, o1⟩
    go_wp2_with fail
    refine (src_next b (A + 1) bs w1 (Lib.hid s1) (by omega)).mono ?_
    rintro e w2 ⟨⟨u, hu, rfl⟩, s2, o2⟩
    have O := Lib.hid (o1.trans o2)
    have S := Lib.hid s2
    clear s1 o1 s2 o2
    have hmod := Nat.mod_lt (v * 256 + u) (show 0 < n by omega)
    go_wp2_with fail
    go_ret
    exact ⟨⟨(v * 256 + u) % n, hmod, by simp⟩, S.out, O.out⟩
  · go_enter Tryd.func71, Tryd.ntmps71
    go_wp2_with fail
    refine H1.out.mono ?_
    rintro e w1 ⟨⟨v, hv, rfl⟩, s1, o1⟩
    have O := Lib.hid o1
    have S := Lib.hid (s1.mono (show A + 1 ≤ A + 2 by omega))
    clear s1 o1
    have hmod := Nat.mod_lt v (show 0 < n by omega)
    go_wp2_with fail
    go_ret
    exact ⟨⟨v % n, hmod, by simp⟩, S.out, O.out⟩
theorem src_one (b A n : Nat) (bs : List Nat) (w : World) (hs : Hid (SrcAt w b bs A)) (hA : A < 1000000) (h1 : 1 < n) (h2 : n ≤ 70000) :
    Calls Tryd.prog 70 #[.pointer (some ⟨b, 0, none⟩), .int .i64 n] w fun e w' => (∃ t : Bool, e = .returned (.bool t)) ∧ SrcAt w' b bs (A + 2) ∧ Only b w w' := by
  have H1 := Lib.hid (src_pick b A n bs w hs hA h1 h2)
  go_enter Tryd.func70, Tryd.ntmps70
  go_wp2_with fail
  refine H1.out.mono ?_
  rintro e w1 ⟨⟨v, hv, rfl⟩, s1, o1⟩
  have O := Lib.hid o1
  have S := Lib.hid s1
  clear s1 o1
  go_wp2_with fail
  go_ret
  exact ⟨⟨_, rfl⟩, S.out, O.out⟩
theorem src_among (b A g m c : Nat) (f : Nat → Int) (bs : List Nat) (w : World) (hs : Hid (SrcAt w b bs A)) (hA : A < 1000000) (h1 : 1 < m) (h2 : m ≤ 200) (hf : Hid (∀ i, i < m → w.cell? ⟨g, i, none⟩ = some (.int .i64 (f i)) ∧ 0 ≤ f i ∧ f i < 4294967296)) (hg : g ≠ b) :
    Calls Tryd.prog 98 #[.pointer (some ⟨b, 0, none⟩), .slice (some ⟨g, 0, none⟩) m c] w fun e w' => (∃ v : Nat, v < 4294967296 ∧ e = .returned (.int .i64 v)) ∧ SrcAt w' b bs (A + 2) ∧ Only b w w' := by
  have H1 := Lib.hid (src_pick b A m bs w hs hA h1 (by omega))
  have HG := Lib.hid hg
  go_enter Tryd.func98, Tryd.ntmps98
  go_wp2_with fail
  refine H1.out.mono ?_
  rintro e w1 ⟨⟨v, hv, rfl⟩, s1, o1⟩
  obtain ⟨hc, hz0, hz1⟩ := hf.out v hv
  have hc1 : w1.cell? ⟨g, v, none⟩ = some (.int .i64 (f v)) := by
    rw [World.cell?_of_block (w := w) (a := ⟨g, v, none⟩) (o1.2 g (World.block_lt_of_cell? w ⟨g, v, none⟩ hc) HG.out)]
    exact hc
  have O := Lib.hid o1
  have S := Lib.hid s1
  clear s1 o1 hc hg
  obtain ⟨z, hz⟩ : ∃ z : Nat, f v = z := ⟨(f v).toNat, by omega⟩
  rw [hz] at hc1 hz1
  have hzz : z < 4294967296 := by omega
  clear hz hz0 hz1
  go_wp2_with fail
  go_ret
  exact ⟨⟨z, hzz, rfl⟩, S.out, O.out⟩
end Go.Proofs.YthegbaaelccekaaDoor
