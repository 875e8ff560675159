/-
  The law FnPowers: its walk. No condition: what it reads of its input are two numbers below 65.
-/
import Derived.Test.YtffdmgdffbimlaaPwb
import Derived.Test.YtffdmgdffbimlaaBys
import Derived.Below
import Derived.WalkLawsBesides
namespace Go.Proofs.Ytffdmgdffbimlaa
open Go.RowKit Ieee

theorem fv_bits {k : FloatKind} {b z : Nat} (h : fv k b = some z) : b = z := by
  unfold fv at h; split at h <;> simp_all
theorem fval_is {op : BinOp} {k : FloatKind} {x y z : Nat} (h : floatBits op k x y = some z) : ∀ w, fval op k x y w = z := by intro w; unfold fval; rw [h]; rfl
theorem fdr_is {op : BinOp} {k : FloatKind} {x y z : Nat} (h : floatBits op k x y = some z) : fdr op k x y = 0 := by unfold fdr; rw [h]; rfl

theorem exp_at {s : Nat} (h : s < 129) (w : World) : Calls Try.prog 16 #[.float .f32 (yT s)] w fun e w' => e = .returned (.float .f32 (eT s)) ∧ ∃ m, w' = w.drewN m :=
  (impl_ExpNumber (yT s) w (y_lim h).1 (y_lim h).2 (Lib.hid (e_tab h).1)).mono (by rintro e w' ⟨r, m, rfl, hr, rfl⟩; exact ⟨by rw [fv_bits (hr.trans (e_tab h).2)], m, rfl⟩)
theorem log_at {i : Nat} (h : i < 65) (w : World) : Calls Try.prog 18 #[.float .f32 (eT (i + 32))] w fun e w' => e = .returned (.float .f32 (lT i)) ∧ ∃ m, w' = w.drewN m :=
  (impl_LogNumber (eT (i + 32)) w (e_lim (by omega))).mono (by rintro e w' ⟨r, m, rfl, hr, rfl⟩; exact ⟨by rw [fv_bits (hr.trans (l_tab h))], m, rfl⟩)
theorem exp_zero (w : World) : Calls Try.prog 16 #[.float .f32 0] w fun e w' => e = .returned (.float .f32 1065353216) ∧ ∃ m, w' = w.drewN m := by
  have := exp_at (s := 64) (by omega) w
  rw [e_zero.1, e_zero.2] at this
  exact this
theorem log_one (w : World) : Calls Try.prog 18 #[.float .f32 1065353216] w fun e w' => e = .returned (.float .f32 0) ∧ ∃ m, w' = w.drewN m :=
  (impl_LogNumber 1065353216 w (by omega)).mono (by rintro e w' ⟨r, m, rfl, hr, rfl⟩; exact ⟨by rw [fv_bits (hr.trans l_one)], m, rfl⟩)

attribute [local irreducible] yT eT lT atB gapF
set_option maxHeartbeats 2000000 in
theorem law_FnPowers (w : World) (a : Option Addr) (n c : Nat) (bs : List Nat) (hn : bs.length = n) (ha : bys w a bs) (hb : ∀ i, i < n → bs.getD i 0 < 256) (hnl : n < 9223372036854775808)
    (a' : Option Addr) (k d : Nat) (cs : List Nat) (hk : cs.length = k) (ha' : bys w a' cs) (hb' : ∀ i, i < k → cs.getD i 0 < 256) (hkl : k < 9223372036854775808) :
    Calls Try.prog 6 #[.slice a n c, .slice a' k d] w fun e w' => e = .returned (.bool true) ∧ Below w.heap.size w w' := by
  by_cases hL : (decide (1048576 < n) || decide (1048576 < k)) = true
  · have L := laws_b10Long a a' n c k d w hnl hkl
    rw [hL] at L
    clear ha hb hn ha' hb' hk hL
    go_enter Try.func6, Try.ntmps6
    go_wp2_with (go_at_call 14; refine L.mono ?_; rintro e w' ⟨rfl, rfl⟩)
    go_ret
    exact ⟨rfl, Below.refl _ _⟩
  · have L := laws_b10Long a a' n c k d w hnl hkl
    rw [Bool.not_eq_true] at hL
    rw [hL] at L
    have hn' : n ≤ 1048576 ∧ k ≤ 1048576 := by simpa using hL
    have A1 := laws_b10At a n c bs 0 65 w hn ha hb (by omega) (by omega) (by omega) (by omega)
    have A2 := laws_b10At a' k d cs 0 65 w hk ha' hb' (by omega) (by omega) (by omega) (by omega)
    have l1 := atB_lt bs 0 (m := 65) (by omega)
    have l2 := atB_lt cs 0 (m := 65) (by omega)
    generalize atB bs 0 65 = i at A1 l1
    generalize atB cs 0 65 = j at A2 l2
    clear ha hb hn ha' hb' hk hL
    have V1 := fval_is (y_tab l1)
    have D1 := fdr_is (y_tab l1)
    have V2 := fval_is (y_tab l2)
    have D2 := fdr_is (y_tab l2)
    have V3 := fval_is (s_tab l1 l2)
    have D3 := fdr_is (s_tab l1 l2)
    have N0 : ∀ W : World, W.drewN 0 = W := fun W => rfl
    have P1 := p_tab (s := i + 32) (by omega)
    go_enter Try.func6, Try.ntmps6
    go_wp2_with (go_at_call 14; refine L.mono ?_; rintro e w' ⟨rfl, rfl⟩)
    refine A1.mono ?_
    rintro e w' ⟨rfl, rfl⟩
    go_wp2_with fail
    refine A2.mono ?_
    rintro e w' ⟨rfl, rfl⟩
    go_wp2_with fail
    refine (exp_at (s := i + 32) (by omega) _).mono ?_
    rintro e w' ⟨rfl, m1, rfl⟩
    go_wp2_with fail
    refine (exp_at (s := j + 32) (by omega) _).mono ?_
    rintro e w' ⟨rfl, m2, rfl⟩
    go_wp2_with fail
    refine (exp_at (s := i + j) (by omega) _).mono ?_
    rintro e w' ⟨rfl, m3, rfl⟩
    go_wp2_with fail
    refine (log_at l1 _).mono ?_
    rintro e w' ⟨rfl, m4, rfl⟩
    go_wp2_with fail
    refine (laws_b10Gap _ _ _).mono ?_
    rintro e w' ⟨r1, m5, rfl, h1, rfl⟩
    have t1 : (FloatKind.f64.format.order r1 4562254508917369340 == some .lt) = true := by rw [lt_flt, h1, fv_wval, fv_wval]; exact g_tab l1
    clear h1
    go_wp2_with fail
    refine (laws_b10Gap _ _ _).mono ?_
    rintro e w' ⟨r2, m6, rfl, h2, rfl⟩
    have t2 : ∀ w1 w2, (FloatKind.f64.format.order r2 (fval .mul .f64 4562254508917369340 (wval (eT (i + j)) w1) w2) == some .lt) = true := fun w1 w2 => by
      rw [lt_flt, h2, fv_mul, fv_mul]
      simp only [fv_wval]
      exact m_tab l1 l2
    clear h2
    go_wp2_with fail
    refine (exp_zero _).mono ?_
    rintro e w' ⟨rfl, m7, rfl⟩
    go_wp2_with fail
    refine (log_one _).mono ?_
    rintro e w' ⟨rfl, m8, rfl⟩
    go_wp2_with fail
    go_ret
    refine ⟨?_, ?_⟩
    · have z : (FloatKind.f32.format.order 0 0 == some .eq) = true := by decide +kernel
      rw [z]
      rfl
    · repeat' refine below_drewN ?_ _
      exact Below.refl _ _
end Go.Proofs.Ytffdmgdffbimlaa
