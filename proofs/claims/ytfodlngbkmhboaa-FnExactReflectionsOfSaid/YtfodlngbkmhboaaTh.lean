/-
  Waves: which belong to a tube: AreWaves; the same waves: SameWaves. Condition: what they hold is read off memory; lengths below 2^31.
-/
import Derived.Test.YtfodlngbkmhboaaTd
import Derived.Deep.QuietTactic
namespace Go.Proofs.Ytfodlngbkmhboaa
open Go.RowKit Ieee

theorem alloc2_belowH (w : World) (x y : Obj) : Below w.heap.size w ((w.alloc x).alloc y) := ((Below.refl _ _).alloc (Nat.le_refl _) _).alloc (by rw [World.size_alloc]; omega) _

def sameW (xs ys us vs : List Nat) (n m k o : Nat) : Bool := sameL xs us n k && sameL ys vs m o

theorem impl_SameWaves (a a' b b' : Option Addr) (n c m d k e o f : Nat) (xs ys us vs : List Nat) (w : World) (hn : xs.length = n) (hm : ys.length = m) (hk : us.length = k) (ho : vs.length = o)
    (ha : Hid (fls w a xs)) (ha' : Hid (fls w a' ys)) (hb : Hid (fls w b us)) (hb' : Hid (fls w b' vs)) (hx : n < 2147483648) (hy : m < 2147483648) (hu : k < 2147483648) (hv : o < 2147483648)
    (ux : Hid (∀ i, i < n → xs.getD i 0 < 4294967296)) (uy : Hid (∀ i, i < m → ys.getD i 0 < 4294967296)) (uu : Hid (∀ i, i < k → us.getD i 0 < 4294967296)) (uv : Hid (∀ i, i < o → vs.getD i 0 < 4294967296)) :
    Calls Try.prog 36 #[.agg #[.slice a n c, .slice a' m d], .agg #[.slice b k e, .slice b' o f]] w fun r w' => r = .returned (.bool (sameW xs ys us vs n m k o)) ∧ Below w.heap.size w w' := by
  have HN := Lib.hid hn
  have HM := Lib.hid hm
  have HK := Lib.hid hk
  have HO := Lib.hid ho
  clear hn hm hk ho
  unfold sameW
  generalize hs : sameL xs us n k = s
  generalize ht : sameL ys vs m o = t
  have HS := Lib.hid hs
  have HT := Lib.hid ht
  clear hs ht
  have B2 := alloc2_belowH w (.cells #[.slice a n c, .slice a' m d] 48) (.cells #[.slice b k e, .slice b' o f] 48)
  cases s
  · go_enter Try.func36, Try.ntmps36
    go_wp2_with fail
    refine (impl_sameNumbers a b n c k e xs us _ HN.out HK.out (ha.out.stays B2) (hb.out.stays B2) hx hu ux uu).mono ?_
    rw [HS.out]
    rintro r w' ⟨rfl, q, rfl⟩
    go_wp2_with fail
    go_ret
    exact ⟨rfl, below_drewN B2 _⟩
  · go_enter Try.func36, Try.ntmps36
    go_wp2_with fail
    refine (impl_sameNumbers a b n c k e xs us _ HN.out HK.out (ha.out.stays B2) (hb.out.stays B2) hx hu ux uu).mono ?_
    rw [HS.out]
    rintro r w' ⟨rfl, q, rfl⟩
    go_wp2_with fail
    refine (impl_sameNumbers a' b' m d o f ys vs _ HM.out HO.out ((ha'.out.stays B2).drewN _) ((hb'.out.stays B2).drewN _) hy hv uy uv).mono ?_
    rw [HT.out]
    rintro r w' ⟨rfl, q', rfl⟩
    go_wp2_with fail
    go_ret
    exact ⟨rfl, below_drewN B2 _⟩

theorem spec_SameWaves (a a' b b' : Option Addr) (n c m d k e o f : Nat) (xs ys us vs : List Nat) (w : World) (hn : xs.length = n) (hm : ys.length = m) (hk : us.length = k) (ho : vs.length = o)
    (ha : Hid (fls w a xs)) (ha' : Hid (fls w a' ys)) (hb : Hid (fls w b us)) (hb' : Hid (fls w b' vs)) (hx : n < 2147483648) (hy : m < 2147483648) (hu : k < 2147483648) (hv : o < 2147483648)
    (ux : Hid (∀ i, i < n → xs.getD i 0 < 4294967296)) (uy : Hid (∀ i, i < m → ys.getD i 0 < 4294967296)) (uu : Hid (∀ i, i < k → us.getD i 0 < 4294967296)) (uv : Hid (∀ i, i < o → vs.getD i 0 < 4294967296)) :
    Calls Try.prog 34 #[.agg #[.slice a n c, .slice a' m d], .agg #[.slice b k e, .slice b' o f]] w fun r w' => r = .returned (.bool (sameW xs ys us vs n m k o)) ∧ Below w.heap.size w w' := by
  have HN := Lib.hid hn
  have HM := Lib.hid hm
  have HK := Lib.hid hk
  have HO := Lib.hid ho
  clear hn hm hk ho
  unfold sameW
  generalize hs : sameL xs us n k = s
  generalize ht : sameL ys vs m o = t
  have HS := Lib.hid hs
  have HT := Lib.hid ht
  clear hs ht
  have B2 := alloc2_belowH w (.cells #[.slice a n c, .slice a' m d] 48) (.cells #[.slice b k e, .slice b' o f] 48)
  cases s
  · go_enter Try.func34, Try.ntmps34
    go_wp2_with fail
    refine (spec_l01SameAll a b n c k e xs us _ HN.out HK.out (ha.out.stays B2) (hb.out.stays B2) hx hu ux uu).mono ?_
    rw [HS.out]
    rintro r w' ⟨rfl, q, rfl⟩
    go_wp2_with fail
    go_ret
    exact ⟨rfl, below_drewN B2 _⟩
  · go_enter Try.func34, Try.ntmps34
    go_wp2_with fail
    refine (spec_l01SameAll a b n c k e xs us _ HN.out HK.out (ha.out.stays B2) (hb.out.stays B2) hx hu ux uu).mono ?_
    rw [HS.out]
    rintro r w' ⟨rfl, q, rfl⟩
    go_wp2_with fail
    refine (spec_l01SameAll a' b' m d o f ys vs _ HM.out HO.out ((ha'.out.stays B2).drewN _) ((hb'.out.stays B2).drewN _) hy hv uy uv).mono ?_
    rw [HT.out]
    rintro r w' ⟨rfl, q', rfl⟩
    go_wp2_with fail
    go_ret
    exact ⟨rfl, below_drewN B2 _⟩
end Go.Proofs.Ytfodlngbkmhboaa
