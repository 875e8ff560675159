/-
  Tubes and waves compared: SameTube, SameWaves, AreWaves. Condition: what they hold is read off memory; lengths below 2^31.
-/
import Derived.Test.YtfodlngbkmhboaaTd
import Derived.Deep.QuietTactic
namespace Go.Proofs.Ytfodlngbkmhboaa
open Go.RowKit Ieee
attribute [local irreducible] wpQuiet

def sameT (xs ys : List Nat) (n k l t p l' t' p' : Nat) : Bool := sameL xs ys n k && (bitsI l == bitsI l') && (bitsI t == bitsI t') && (bitsI p == bitsI p')

theorem alloc2_below (w : World) (x y : Obj) : Below w.heap.size w ((w.alloc x).alloc y) := ((Below.refl _ _).alloc (Nat.le_refl _) _).alloc (by rw [World.size_alloc]; omega) _

theorem impl_SameTube (a b : Option Addr) (n c k d l t p l' t' p' : Nat) (xs ys : List Nat) (w : World) (hn : xs.length = n) (hk : ys.length = k) (ha : Hid (fls w a xs)) (hb : Hid (fls w b ys)) (hx : n < 2147483648) (hy : k < 2147483648)
    (ux : Hid (∀ i, i < n → xs.getD i 0 < 4294967296)) (uy : Hid (∀ i, i < k → ys.getD i 0 < 4294967296)) (hl : l < 4294967296) (ht : t < 4294967296) (hp : p < 4294967296) (hl' : l' < 4294967296) (ht' : t' < 4294967296) (hp' : p' < 4294967296) :
    Calls Try.prog 39 #[.agg #[.slice a n c, .float .f32 l, .float .f32 t, .float .f32 p], .agg #[.slice b k d, .float .f32 l', .float .f32 t', .float .f32 p']] w fun e w' => e = .returned (.bool (sameT xs ys n k l t p l' t' p')) ∧ Below w.heap.size w w' := by
  have HN := Lib.hid hn
  have HK := Lib.hid hk
  clear hn hk
  unfold sameT
  generalize hs : sameL xs ys n k = s
  generalize e1 : (bitsI l == bitsI l') = b1
  generalize e2 : (bitsI t == bitsI t') = b2
  generalize e3 : (bitsI p == bitsI p') = b3
  have HS := Lib.hid hs
  have E1 := Lib.hid e1
  have E2 := Lib.hid e2
  have E3 := Lib.hid e3
  clear hs e1 e2 e3
  go_enter Try.func39, Try.ntmps39
  have B2 := alloc2_below w (.cells #[.slice a n c, .float .f32 l, .float .f32 t, .float .f32 p] 40) (.cells #[.slice b k d, .float .f32 l', .float .f32 t', .float .f32 p'] 40)
  go_wp2_with (first
    | (go_at_call 71; refine (impl_sameNumbers a b n c k d xs ys _ HN.out HK.out (ha.out.stays B2) (hb.out.stays B2) hx hy ux uy).mono ?_; rw [HS.out]; rintro e w' ⟨rfl, q, rfl⟩)
    | (go_at_call 73; refine (impl_SameNumber _ _ _ (by assumption) (by assumption)).mono ?_; (first | rw [E1.out] | rw [E2.out] | rw [E3.out]); rintro e w' ⟨rfl, q, rfl⟩))
  all_goals
    go_ret
    exact ⟨by simp_all, below_drewN B2 _⟩

set_option maxHeartbeats 4000000 in
theorem spec_l02Same (A B : Nat) (a b : Option Addr) (n c k d l t p l' t' p' : Nat) (xs ys : List Nat) (w : World) (hn : xs.length = n) (hk : ys.length = k) (ha : Hid (fls w a xs)) (hb : Hid (fls w b ys)) (hx : n < 2147483648) (hy : k < 2147483648)
    (ux : Hid (∀ i, i < n → xs.getD i 0 < 4294967296)) (uy : Hid (∀ i, i < k → ys.getD i 0 < 4294967296)) (hl : l < 4294967296) (ht : t < 4294967296) (hp : p < 4294967296) (hl' : l' < 4294967296) (ht' : t' < 4294967296) (hp' : p' < 4294967296)
    (TA : tubeAt w A 0 a n c l t p) (TB : tubeAt w B 0 b k d l' t' p') :
    Calls Try.prog 72 #[.pointer (some ⟨A, 0, none⟩), .pointer (some ⟨B, 0, none⟩)] w fun e w' => e = .returned (.bool (sameT xs ys n k l t p l' t' p')) ∧ ∃ m, w' = w.drewN m := by
  have HN := Lib.hid hn
  have HK := Lib.hid hk
  clear hn hk
  obtain ⟨a0, a1, a2, a3⟩ := TA
  obtain ⟨b0', b1', b2', b3'⟩ := TB
  simp only [Nat.zero_add] at a1 a2 a3 b1' b2' b3'
  unfold sameT
  generalize hs : sameL xs ys n k = s
  generalize e1 : (bitsI l == bitsI l') = b1
  generalize e2 : (bitsI t == bitsI t') = b2
  generalize e3 : (bitsI p == bitsI p') = b3
  have HS := Lib.hid hs
  have E1 := Lib.hid e1
  have E2 := Lib.hid e2
  have E3 := Lib.hid e3
  clear hs e1 e2 e3
  have CS : Hid (∀ i, Calls Try.prog 70 #[.slice a n c, .slice b k d] (w.drewN i) fun e w'' => e = .returned (.bool s) ∧ ∃ m, w'' = w.drewN m) := fun i =>
    Calls.quiet_of ((spec_l01SameAll a b n c k d xs ys _ HN.out HK.out (ha.out.drewN _) (hb.out.drewN _) hx hy ux uy).mono (by rw [HS.out]; exact fun _ _ h => h))
  have C1 : Hid (∀ i, Calls Try.prog 91 #[.float .f32 l, .float .f32 l'] (w.drewN i) fun e w'' => e = .returned (.bool b1) ∧ ∃ m, w'' = w.drewN m) := fun i =>
    Calls.quiet_of_same ((spec_l01Same _ _ _ (by assumption) (by assumption)).mono (by rw [E1.out]; exact fun _ _ h => ⟨h.1, h.2.symm⟩))
  have C2 : Hid (∀ i, Calls Try.prog 91 #[.float .f32 t, .float .f32 t'] (w.drewN i) fun e w'' => e = .returned (.bool b2) ∧ ∃ m, w'' = w.drewN m) := fun i =>
    Calls.quiet_of_same ((spec_l01Same _ _ _ (by assumption) (by assumption)).mono (by rw [E2.out]; exact fun _ _ h => ⟨h.1, h.2.symm⟩))
  have C3 : Hid (∀ i, Calls Try.prog 91 #[.float .f32 p, .float .f32 p'] (w.drewN i) fun e w'' => e = .returned (.bool b3) ∧ ∃ m, w'' = w.drewN m) := fun i =>
    Calls.quiet_of_same ((spec_l01Same _ _ _ (by assumption) (by assumption)).mono (by rw [E3.out]; exact fun _ _ h => ⟨h.1, h.2.symm⟩))
  have four : s = false ∨ (s = true ∧ b1 = false) ∨ (s = true ∧ b1 = true ∧ b2 = false) ∨ (s = true ∧ b1 = true ∧ b2 = true ∧ b3 = false) ∨ (s = true ∧ b1 = true ∧ b2 = true ∧ b3 = true) := by cases s <;> cases b1 <;> cases b2 <;> cases b3 <;> simp
  rcases four with rfl | ⟨rfl, rfl⟩ | ⟨rfl, rfl, rfl⟩ | ⟨rfl, rfl, rfl, rfl⟩ | ⟨rfl, rfl, rfl, rfl⟩
  all_goals
    go_enter Try.func72, Try.ntmps72
    go_wp2
    go_quiet (first | (go_at_call 70; exact CS.out _) | (go_at_call_of 91 (Value.float .f32 l); exact C1.out _) | (go_at_call_of 91 (Value.float .f32 t); exact C2.out _) | (go_at_call_of 91 (Value.float .f32 p); exact C3.out _))
    go_wp2
    go_ret
    exact ⟨by first | rfl | simp_all, _, rfl⟩

theorem spec_SameTube (a b : Option Addr) (n c k d l t p l' t' p' : Nat) (xs ys : List Nat) (w : World) (hn : xs.length = n) (hk : ys.length = k) (ha : Hid (fls w a xs)) (hb : Hid (fls w b ys)) (hx : n < 2147483648) (hy : k < 2147483648)
    (ux : Hid (∀ i, i < n → xs.getD i 0 < 4294967296)) (uy : Hid (∀ i, i < k → ys.getD i 0 < 4294967296)) (hl : l < 4294967296) (ht : t < 4294967296) (hp : p < 4294967296) (hl' : l' < 4294967296) (ht' : t' < 4294967296) (hp' : p' < 4294967296) :
    Calls Try.prog 38 #[.agg #[.slice a n c, .float .f32 l, .float .f32 t, .float .f32 p], .agg #[.slice b k d, .float .f32 l', .float .f32 t', .float .f32 p']] w fun e w' => e = .returned (.bool (sameT xs ys n k l t p l' t' p')) ∧ Below w.heap.size w w' := by
  have HN := Lib.hid hn
  have HK := Lib.hid hk
  clear hn hk
  go_enter Try.func38, Try.ntmps38
  have B2 := alloc2_below w (.cells #[.slice a n c, .float .f32 l, .float .f32 t, .float .f32 p] 40) (.cells #[.slice b k d, .float .f32 l', .float .f32 t', .float .f32 p'] 40)
  have R1 := (tubeF_row w 40 a n c l t p).alloc (.cells #[.slice b k d, .float .f32 l', .float .f32 t', .float .f32 p'] 40)
  have R2 := tubeF_row (w.alloc (.cells #[.slice a n c, .float .f32 l, .float .f32 t, .float .f32 p] 40)) 40 b k d l' t' p'
  rw [World.size_alloc] at R2
  go_wp2_with fail
  refine (spec_l02Same _ _ a b n c k d l t p l' t' p' xs ys _ HN.out HK.out (ha.out.stays B2) (hb.out.stays B2) hx hy ux uy hl ht hp hl' ht' hp' (tube_stays R1 (Below.refl _ _)) (tube_stays R2 (Below.refl _ _))).mono ?_
  rintro e w' ⟨rfl, m, rfl⟩
  go_wp2
  go_ret
  exact ⟨rfl, below_drewN B2 _⟩
end Go.Proofs.Ytfodlngbkmhboaa
