/-
  Numbers and lists of numbers drawn from the source: they are some float32s. Condition: few choices (fewer than 2^20), lists of bytes below 2^31.
-/
import Derived.Test.YtmiajfdhdpmeoaaGreatDoorMs
import Derived.Test.YtmiajfdhdpmeoaaGreatDoorMr
namespace Go.Proofs.YtmiajfdhdpmeoaaGreatDoor
open Go.RowKit Go.Lib Go.Joins

def someF (e : Ending) : Prop := ∃ x : Nat, x < 4294967296 ∧ e = .returned (.float .f32 x)
theorem fval32 (op : BinOp) (x y : Nat) (w : World) : fval op .f32 x y w < 4294967296 := fval_lt op .f32 x y w
theorem new_ints (w : World) (zs : List Int) (T : TypeId) (h : ∀ z ∈ zs, 0 ≤ z ∧ z < 4294967296) : ∀ i, i < zs.length → (w.alloc (.cells (zs.map (Value.int .i64)).toArray T)).cell? ⟨w.heap.size, i, none⟩ = some (.int .i64 (zs.getD i 0)) ∧ 0 ≤ zs.getD i 0 ∧ zs.getD i 0 < 4294967296 := by
  intro i hi
  have hm : zs.getD i 0 ∈ zs := by rw [List.getD_eq_getElem?_getD, List.getElem?_eq_getElem hi]; exact List.getElem_mem hi
  refine ⟨?_, h _ hm⟩
  have := World.rowIs_alloc w (zs.map (Value.int .i64)).toArray T (fun i => .int .i64 (zs.getD i 0)) (fun j hj => by
    have hj' : j < zs.length := by simpa using hj
    rw [List.getD_eq_getElem?_getD, List.getElem?_eq_getElem hj']
    simp [hj'])
  exact this.cell (by simpa using hi)
theorem SrcAt.alloc {w : World} {b : Nat} {bs : List Nat} {A : Nat} (h : SrcAt w b bs A) (o : Obj) : SrcAt (w.alloc o) b bs A := h.below ((Below.refl _ _).alloc (Nat.le_refl _) o)
theorem Only.alloc {b : Nat} (w : World) (o : Obj) (h : b ≤ w.heap.size) : Only b w (w.alloc o) := Only.of_below ((Below.refl _ _).alloc (Nat.le_refl _) o) h

theorem src_plain (b A : Nat) (bs : List Nat) (w : World) (hs : Hid (SrcAt w b bs A)) (hA : A < 900000) :
    Calls Tryz.prog 60 #[.pointer (some ⟨b, 0, none⟩)] w fun e w' => someF e ∧ SrcAt w' b bs (A + 4) ∧ Only b w w' := by
  have H1 := Lib.hid (src_pick b A 129 bs w hs (by omega) (by decide) (by decide))
  go_enter Tryz.func60, Tryz.ntmps60
  go_wp2_with fail
  refine H1.out.mono ?_
  rintro e w1 ⟨⟨v, hv, rfl⟩, s1, o1⟩
  go_wp2_with fail
  refine (src_one b (A + 2) 4 bs w1 (Lib.hid s1) (by omega) (by decide) (by decide)).mono ?_
  rintro e w2 ⟨⟨t, rfl⟩, s2, o2⟩
  have O := Lib.hid (o1.trans o2)
  have S := Lib.hid s2
  clear s1 o1 s2 o2
  cases t
  all_goals
    go_wp2_with fail
    go_ret
    exact ⟨⟨_, fval32 _ _ _ _, rfl⟩, S.out, O.out.trans (Only.drewN _ _ _)⟩

set_option maxHeartbeats 1000000 in
theorem src_float (b A : Nat) (bs : List Nat) (w : World) (hs : Hid (SrcAt w b bs A)) (hA : A < 800000) :
    Calls Tryz.prog 40 #[.pointer (some ⟨b, 0, none⟩)] w fun e w' => someF e ∧ SrcAt w' b bs (A + 12) ∧ Only b w w' := by
  have H1 := Lib.hid (src_one b A 12 bs w hs (by omega) (by decide) (by decide))
  go_enter Tryz.func40, Tryz.ntmps40
  go_wp2_with fail
  refine H1.out.mono ?_
  rintro e w1 ⟨⟨t, rfl⟩, s1, o1⟩
  have O1 := Lib.hid o1
  have S1 := Lib.hid s1
  clear s1 o1
  cases t
  · go_wp2_with fail
    refine (src_plain b (A + 2) bs w1 S1 (by omega)).mono ?_
    rintro e w2 ⟨⟨x, hx, rfl⟩, s2, o2⟩
    have O2 := Lib.hid (O1.out.trans o2)
    have S2 := Lib.hid s2
    clear s2 o2
    go_wp2_with fail
    go_ret
    exact ⟨⟨x, hx, rfl⟩, S2.out.mono (by omega), O2.out⟩
  · go_wp2_with fail
    refine (src_pick b (A + 2) 4 bs w1 S1 (by omega) (by decide) (by decide)).mono ?_
    rintro e w2 ⟨⟨v, hv, rfl⟩, s2, o2⟩
    have O2 := Lib.hid (O1.out.trans o2)
    have S2 := Lib.hid s2
    have hb2 := s2.lt
    clear s2 o2
    obtain rfl | rfl | rfl | rfl : v = 0 ∨ v = 1 ∨ v = 2 ∨ v = 3 := by omega
    · go_wp2_with fail
      refine (src_among b (A + 4) w2.heap.size 10 10 _ bs _ (Lib.hid (S2.out.alloc _)) (by omega) (by decide) (by decide) (Lib.hid (new_ints w2 [0, 2147483648, 2139095040, 4286578688, 2143289344, 1, 2139095039, 8388608, 8388607, 2147483649] 2 (by decide))) (by omega)).mono ?_
      rintro e w3 ⟨⟨z, hz, rfl⟩, s3, o3⟩
      have O3 := Lib.hid ((O2.out.trans (Only.alloc _ _ (Nat.le_of_lt hb2))).trans o3)
      have S3 := Lib.hid s3
      clear s3 o3
      go_wp2_with fail
      refine (spec_l01From _ _).mono ?_
      rintro e w' ⟨rfl, rfl⟩
      go_wp2_with fail
      go_ret
      exact ⟨⟨_, by omega, rfl⟩, S3.out.mono (by omega), O3.out⟩
    · go_wp2_with fail
      refine (src_pick b (A + 4) 65536 bs w2 S2 (by omega) (by decide) (by decide)).mono ?_
      rintro e w3 ⟨⟨v, hv3, rfl⟩, s3, o3⟩
      have O3 := Lib.hid (O2.out.trans o3)
      have S3 := Lib.hid s3
      clear s3 o3
      go_wp2_with fail
      refine (src_pick b (A + 6) 65536 bs w3 S3 (by omega) (by decide) (by decide)).mono ?_
      rintro e w4 ⟨⟨u, hu4, rfl⟩, s4, o4⟩
      have O4 := Lib.hid (O3.out.trans o4)
      have S4 := Lib.hid s4
      clear s4 o4
      go_wp2_with fail
      refine (spec_l01From _ _).mono ?_
      rintro e w' ⟨rfl, rfl⟩
      go_wp2_with fail
      go_ret
      exact ⟨⟨_, by omega, rfl⟩, S4.out.mono (by omega), O4.out⟩
    · go_wp2_with fail
      refine (src_pick b (A + 4) 65536 bs w2 S2 (by omega) (by decide) (by decide)).mono ?_
      rintro e w3 ⟨⟨v, hv3, rfl⟩, s3, o3⟩
      have O3 := Lib.hid (O2.out.trans o3)
      have S3 := Lib.hid s3
      clear s3 o3
      go_wp2_with fail
      refine (spec_l01From _ _).mono ?_
      rintro e w' ⟨rfl, rfl⟩
      go_wp2_with fail
      go_ret
      exact ⟨⟨_, by omega, rfl⟩, S3.out.mono (by omega), O3.out⟩
    · go_wp2_with fail
      refine (src_plain b (A + 4) bs w2 S2 (by omega)).mono ?_
      rintro e w3 ⟨⟨x, hx, rfl⟩, s3, o3⟩
      have O3 := Lib.hid (O2.out.trans o3)
      have S3 := Lib.hid s3
      have hb3 := s3.lt
      clear s3 o3
      go_wp2_with fail
      refine (src_among b (A + 8) w3.heap.size 4 4 _ bs _ (Lib.hid (S3.out.alloc _)) (by omega) (by decide) (by decide) (Lib.hid (new_ints w3 [8388608, 2130706432, 1610612736, 536870912] 2 (by decide))) (by omega)).mono ?_
      rintro e w4 ⟨⟨z, hz, rfl⟩, s4, o4⟩
      have O4 := Lib.hid ((O3.out.trans (Only.alloc _ _ (Nat.le_of_lt hb3))).trans o4)
      have S4 := Lib.hid s4
      clear s4 o4
      go_wp2_with fail
      refine (spec_l01From _ _).mono ?_
      rintro e w' ⟨rfl, rfl⟩
      go_wp2_with fail
      go_ret
      exact ⟨⟨_, fval32 _ _ _ _, rfl⟩, S4.out.mono (by omega), O4.out.trans (Only.drewN _ _ _)⟩
end Go.Proofs.YtmiajfdhdpmeoaaGreatDoor
