/-
  Products, powers, conjugates, quotients and double of complex numbers with whole parts, in the program. Condition: the parts are small.
-/
import Derived.Test.YtmiajfdhdpmeoaaGreatDoorZn
import Derived.Test.YtmiajfdhdpmeoaaGreatDoorCe
namespace Go.Proofs.YtmiajfdhdpmeoaaGreatDoor
open Go.RowKit Ieee

theorem z_bits {k : FloatKind} {r : Nat} {n : Int} (h : Z k (fv k r) n) : Z k (some r) n := by
  obtain ⟨b, s, m, p, e, h1, h2, h3⟩ := h
  have : r = b := by
    unfold fv at e; split at e <;> simp_all
  subst this
  exact ⟨r, s, m, p, rfl, h1, h2, h3⟩
theorem cap_le {n : Int} {N : Nat} (k : FloatKind) (h : n.natAbs ≤ N) (hN : N ≤ 2 ^ 24) : n.natAbs ≤ cap k := by
  cases k
  · exact Nat.le_trans h hN
  · exact Nat.le_trans h (Nat.le_trans hN (by decide))
theorem abs_mul {x y : Int} {X Y : Nat} (hx : x.natAbs ≤ X) (hy : y.natAbs ≤ Y) : (x * y).natAbs ≤ X * Y := by
  rw [Int.natAbs_mul]
  exact Nat.mul_le_mul hx hy

/-- Parts of a product, before they are narrowed. -/
theorem mulR_whole {a b c d : Nat} {x y u v : Int} (ha : Z .f32 (some a) x) (hb : Z .f32 (some b) y) (hc : Z .f32 (some c) u) (hd : Z .f32 (some d) v) (hx : x.natAbs ≤ 80000) (hy : y.natAbs ≤ 80000) (hu : u.natAbs ≤ 200) (hv : v.natAbs ≤ 200) :
    Z .f64 (mulR (fv .f32 a) (fv .f32 b) (fv .f32 c) (fv .f32 d)) (x * u - y * v) ∧ Z .f64 (mulI (fv .f32 a) (fv .f32 b) (fv .f32 c) (fv .f32 d)) (x * v + y * u) := by
  have m1 := abs_mul hx hu
  have m2 := abs_mul hy hv
  have m3 := abs_mul hx hv
  have m4 := abs_mul hy hu
  have c1 : ∀ n : Int, n.natAbs ≤ 40000000 → n.natAbs ≤ cap .f64 := fun n h => Nat.le_trans h (by decide)
  unfold mulR mulI
  rw [ha.fv, hb.fv, hc.fv, hd.fv]
  exact ⟨(ha.wid.mul hc.wid (c1 _ (by omega))).sub (hb.wid.mul hd.wid (c1 _ (by omega))) (c1 _ (by omega)), (ha.wid.mul hd.wid (c1 _ (by omega))).add (hb.wid.mul hc.wid (c1 _ (by omega))) (c1 _ (by omega))⟩
theorem powF_whole {a b : Nat} {x y : Int} (ha : Z .f32 (some a) x) (hb : Z .f32 (some b) y) (hx : x.natAbs ≤ 200) (hy : y.natAbs ≤ 200) : Z .f64 (powF (fv .f32 a) (fv .f32 b)) (x * x + y * y) := by
  have m1 := abs_mul hx hx
  have m2 := abs_mul hy hy
  have c1 : ∀ n : Int, n.natAbs ≤ 40000000 → n.natAbs ≤ cap .f64 := fun n h => Nat.le_trans h (by decide)
  unfold powF
  rw [ha.fv, hb.fv]
  exact (ha.wid.mul ha.wid (c1 _ (by omega))).add (hb.wid.mul hb.wid (c1 _ (by omega))) (c1 _ (by omega))

theorem mul_at {a b c d : Nat} {x y u v : Int} (w : World) (ha : Z .f32 (some a) x) (hb : Z .f32 (some b) y) (hc : Z .f32 (some c) u) (hd : Z .f32 (some d) v) (hx : x.natAbs ≤ 200) (hy : y.natAbs ≤ 200) (hu : u.natAbs ≤ 200) (hv : v.natAbs ≤ 200) :
    Calls Tryz.prog 6 #[.complex .f32 a b, .complex .f32 c d] w fun e w' => ∃ r s m, e = .returned (.complex .f32 r s) ∧ Z .f32 (some r) (x * u - y * v) ∧ Z .f32 (some s) (x * v + y * u) ∧ w' = w.drewN m := by
  obtain ⟨h1, h2⟩ := mulR_whole ha hb hc hd (by omega) (by omega) hu hv
  have m1 := abs_mul hx hu
  have m2 := abs_mul hy hv
  have m3 := abs_mul hx hv
  have m4 := abs_mul hy hu
  have n1 := h1.nar (Nat.le_trans (m := 80000) (by omega) (by decide))
  have n2 := h2.nar (Nat.le_trans (m := 80000) (by omega) (by decide))
  refine (impl_MulComplex a b c d w (Lib.hid n1.2) (Lib.hid n2.2)).mono ?_
  rintro e w' ⟨r, s, m, rfl, hr, hs, rfl⟩
  exact ⟨r, s, m, rfl, z_bits (by rw [hr]; exact n1.1), z_bits (by rw [hs]; exact n2.1), rfl⟩
theorem power_at {a b : Nat} {x y : Int} (w : World) (ha : Z .f32 (some a) x) (hb : Z .f32 (some b) y) (hx : x.natAbs ≤ 200) (hy : y.natAbs ≤ 200) :
    Calls Tryz.prog 7 #[.complex .f32 a b] w fun e w' => ∃ r m, e = .returned (.float .f32 r) ∧ Z .f32 (some r) (x * x + y * y) ∧ w' = w.drewN m := by
  have h1 := powF_whole ha hb hx hy
  have m1 := abs_mul hx hx
  have m2 := abs_mul hy hy
  have n1 := h1.nar (Nat.le_trans (m := 80000) (by omega) (by decide))
  refine (impl_PowerOf a b w (Lib.hid n1.2)).mono ?_
  rintro e w' ⟨r, m, rfl, hr, _, rfl⟩
  exact ⟨r, m, rfl, z_bits (by rw [hr]; exact n1.1), rfl⟩
theorem impl_ConjugateOf (a b : Nat) (w : World) : Calls Tryz.prog 8 #[.complex .f32 a b] w fun e w' => e = .returned (.complex .f32 a (Op.negFloat .f32 b)) ∧ ∃ m, w' = w.drewN m := by
  go_enter Tryz.func8, Tryz.ntmps8
  go_wp2_with fail
  go_ret
  exact ⟨rfl, 0, rfl⟩
/-- An exact quotient of complex numbers with whole parts. -/
theorem quotient_at {a b c d : Nat} {x y u v : Int} (w : World) (ha : Z .f32 (some a) (x * u - y * v)) (hb : Z .f32 (some b) (x * v + y * u)) (hc : Z .f32 (some c) u) (hd : Z .f32 (some d) v) (hx : x.natAbs ≤ 200) (hy : y.natAbs ≤ 200) (hu : u.natAbs ≤ 200) (hv : v.natAbs ≤ 200) (h0 : u * u + v * v ≠ 0) :
    Calls Tryz.prog 12 #[.complex .f32 a b, .complex .f32 c d] w fun e w' => ∃ r s m, e = .returned (.complex .f32 r s) ∧ Z .f32 (some r) x ∧ Z .f32 (some s) y ∧ w' = w.drewN m := by
  have m1 := abs_mul hx hu
  have m2 := abs_mul hy hv
  have m3 := abs_mul hx hv
  have m4 := abs_mul hy hu
  obtain ⟨p1, p2⟩ := mulR_whole (y := x * v + y * u) ha hb hc hd.neg (by omega) (by omega) hu (by omega)
  have pw := powF_whole hc hd hu hv
  have e1 : (x * u - y * v) * u - (x * v + y * u) * -v = x * (u * u + v * v) := by
    rw [Int.mul_neg, Int.sub_mul, Int.add_mul, Int.mul_add, Int.mul_assoc x u u, Int.mul_assoc x v v, Int.mul_right_comm y v u]
    omega
  have e2 : (x * u - y * v) * -v + (x * v + y * u) * u = y * (u * u + v * v) := by
    rw [Int.mul_neg, Int.sub_mul, Int.add_mul, Int.mul_add, Int.mul_assoc y u u, Int.mul_assoc y v v, Int.mul_right_comm x u v]
    omega
  rw [e1] at p1
  rw [e2] at p2
  have q1 := p1.quo pw h0 (by omega)
  have q2 := p2.quo pw h0 (by omega)
  have n1 := q1.nar (Nat.le_trans hx (by decide))
  have n2 := q2.nar (Nat.le_trans hy (by decide))
  have N1 := Lib.hid n1
  have N2 := Lib.hid n2
  clear n1 n2 q1 q2 p1 p2 pw e1 e2 h0 m1 m2 m3 m4 ha hb hc hd hx hy hu hv
  go_enter Tryz.func12, Tryz.ntmps12
  go_wp2_with fail
  refine (impl_ConjugateOf c d _).mono ?_
  rintro e w' ⟨rfl, m0, rfl⟩
  go_wp2_with fail
  refine (impl_longProduct a b c _ _).mono ?_
  rintro e w' ⟨r, s, m1, rfl, h1, h2, rfl⟩
  have H1 := Lib.hid h1
  have H2 := Lib.hid h2
  clear h1 h2
  go_wp2_with fail
  refine (impl_longPower c d _).mono ?_
  rintro e w' ⟨t, m2, rfl, h3, rfl⟩
  have H3 := Lib.hid h3
  clear h3
  go_wp2_with fail
  go_ret
  have f1 : ∀ w1, fv .f64 (fval .quo .f64 r t w1) = fquo (mulR (fv .f32 a) (fv .f32 b) (fv .f32 c) (fv .f32 (Op.negFloat .f32 d))) (powF (fv .f32 c) (fv .f32 d)) := fun w1 => by rw [fv_quo, H1.out, H3.out]
  have f2 : ∀ w1, fv .f64 (fval .quo .f64 s t w1) = fquo (mulI (fv .f32 a) (fv .f32 b) (fv .f32 c) (fv .f32 (Op.negFloat .f32 d))) (powF (fv .f32 c) (fv .f32 d)) := fun w1 => by rw [fv_quo, H2.out, H3.out]
  exact ⟨_, _, _, rfl, z_bits (by rw [fv_nval _ _ (by rw [f1]; exact N1.out.2), f1]; exact N1.out.1), z_bits (by rw [fv_nval _ _ (by rw [f2]; exact N2.out.2), f2]; exact N2.out.1), rfl⟩
end Go.Proofs.YtmiajfdhdpmeoaaGreatDoor
