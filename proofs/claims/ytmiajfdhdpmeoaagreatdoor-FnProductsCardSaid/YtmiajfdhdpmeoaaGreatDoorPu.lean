/-
  strconv.ParseUint at base 16, 32 bits, at eight bytes; the walk is turned from the library's own at base 10. Condition: the variable strconv.ErrSyntax holds an error (where no number is read).
-/
import Derived.Test.YtmiajfdhdpmeoaaGreatDoorHv
import Derived.Lib.ConvBytes
import Derived.Lib.AtoiAllMem
import Derived.Laws.Strings3
import Derived.Laws.Closers25
import Derived.Laws.Closers25b
import Derived.BigCall
import Derived.BigGuard
namespace Go.Proofs.YtmiajfdhdpmeoaaGreatDoor
open Go.RowKit Go.Lib Go.Joins

/-- The byte with the bit of small letters set. -/
def lowI (c : Nat) : Int := bits .or .u8 (c : Int) 32
theorem lowI_bd (c : Nat) : 0 ≤ lowI c ∧ lowI c ≤ 255 := ⟨bits_lo_u8 .or (c : Int) 32, bits_hi_u8 .or (c : Int) 32⟩
/-- What strconv.ParseUint counts for a byte, at base 16. -/
def hexU (c : UInt8) : Option Nat := if 48 ≤ c.toNat ∧ c.toNat ≤ 57 then some (c.toNat - 48) else if 97 ≤ lowI c.toNat ∧ lowI c.toNat ≤ 102 then some (lowI c.toNat - 87).toNat else none
theorem hexU_lt (c : UInt8) (d : Nat) (h : hexU c = some d) : d < 16 := by
  unfold hexU at h
  split at h
  · cases h; omega
  · split at h
    · cases h; omega
    · cases h
theorem lowI_small {c : Nat} (h : 97 ≤ c ∧ c ≤ 102) : lowI c = c := by
  obtain rfl | rfl | rfl | rfl | rfl | rfl : c = 97 ∨ c = 98 ∨ c = 99 ∨ c = 100 ∨ c = 101 ∨ c = 102 := by omega
  all_goals decide +kernel
theorem hexC_hexU (c : UInt8) (d : Nat) (h : hexC c = some d) : hexU c = some d := by
  unfold hexC at h
  unfold hexU
  split at h
  · rename_i h1; rw [if_pos h1]; exact h
  · rename_i h1
    split at h
    · rename_i h2
      rw [if_neg h1, lowI_small h2, if_pos (by omega), ← h]
      congr 1; omega
    · cases h
def uintR (o : Option Nat) : Value := match o with
  | some n => .tuple #[.int .u64 n, .nilIface]
  | none => .tuple #[.int .u64 0, .iface 111 (.int .i64 2)]

theorem lower_low (c : Nat) (w : World) : Calls Tryz.prog 80 #[.int .u8 c] w fun e w' => e = .returned (.int .u8 (lowI c)) ∧ w' = w := Tryz.internal_strconv_lower c w

set_option maxHeartbeats 8000000 in
set_option maxRecDepth 100000 in
theorem parse16 (t : ByteArray) (h8 : t.size = 8) (w : World) :
    Calls Tryz.prog 68 #[.string t, .int .i64 16, .int .i64 32] w fun e w' => e = .returned (uintR (readF hexU 0 t.data.toList)) ∧ w' = bytesWorld w 5 t := by
  have hemp : t.toList.isEmpty = false := by
    rw [← decide_eq_emptyBytes]
    exact decide_eq_false (fun h => by rw [h] at h8; exact absurd h8 (by decide))
  have hcv := Go.Lib.run_convert_string_bytes (P := Tryz.prog) w 9 22 5 t (u := .string) Tryz.underlying9 Tryz.underlying22 Tryz.underlying5
  have hB : ∀ j, j < t.size → (bytesWorld w 5 t).cell? ⟨w.heap.size, j, none⟩ = some (.int .u8 (t.data.toList.getD j 0).toNat) := fun j hj => bytesWorld_cell w 5 t j hj
  obtain ⟨W1, hW1⟩ : ∃ W1, W1 = bytesWorld w 5 t := ⟨_, rfl⟩
  rw [← hW1] at hcv hB ⊢
  clear hW1
  obtain ⟨bs, hL⟩ : ∃ bs, bs = t.data.toList := ⟨_, rfl⟩
  have hLn : bs.length = 8 := by rw [hL, ← h8]; simp
  rw [← hL] at hB ⊢
  rw [h8] at hcv hB
  have H8 := Lib.hid h8
  clear hL h8
  have HB := Lib.hid hB
  have HLN := Lib.hid hLn
  clear hB hLn
  go_enter Tryz.func68, Tryz.ntmps68
  go_wp2
  go_loop [12, 13, 101] (fun vu vn vi => ∃ (k acc : Nat) (a : Int), vu = .bool false ∧ vn = .int .u64 a ∧ vi = .int .i64 k ∧ k ≤ 8 ∧ Hid (a = (acc : Int) ∧ acc < 16 ^ k ∧ readF hexU 0 bs = readF hexU acc (bs.drop k)))
    (fun _ _ vi => 8 - (RowKit.intOf vi).toNat)
  case atStart => exact ⟨0, 0, 0, rfl, rfl, rfl, by omega, rfl, by decide, rfl⟩
  case round =>
    obtain ⟨k, acc, a, rfl, rfl, rfl, hk, hh⟩ := hrel
    obtain ⟨ha, hacc, hdec⟩ := hh.out
    clear hh
    by_cases hkn : k < 8
    · have hc := HB.out k hkn
      have hp : 16 ^ k ≤ 268435456 := Nat.le_trans (Nat.pow_le_pow_right (by decide) (show k ≤ 7 by omega)) (by decide)
      have a0 : 0 ≤ a := by omega
      have a1 : a < 268435456 := by omega
      have hdrop : bs.drop k = bs[k]'(by rw [HLN.out]; exact hkn) :: bs.drop (k + 1) := List.drop_eq_getElem_cons (by rw [HLN.out]; exact hkn)
      have hget : bs.getD k 0 = bs[k]'(by rw [HLN.out]; exact hkn) := by rw [List.getD_eq_getElem?_getD, List.getElem?_eq_getElem (by rw [HLN.out]; exact hkn)]; rfl
      rw [hdrop] at hdec
      rw [hget] at hc
      generalize bs[k]'(by rw [HLN.out]; exact hkn) = c at hc hdec
      have hc256 : c.toNat < 256 := c.toNat_lt
      clear hdrop hget
      rw [readF] at hdec
      have hstep : ∀ d : Nat, hexU c = some d → d < 16 → Hid (a * 16 + (d : Int) = ((16 * acc + d : Nat) : Int) ∧ 16 * acc + d < 16 ^ (k + 1) ∧ readF hexU 0 bs = readF hexU (16 * acc + d) (bs.drop (k + 1))) := by
        intro d hd hd16
        rw [hd] at hdec
        exact ⟨by omega, by rw [Nat.pow_succ]; omega, hdec⟩
      have HST := Lib.hid hstep
      have hno : hexU c = none → readF hexU 0 bs = none := by
        intro h; rw [h] at hdec; exact hdec
      have HNO := Lib.hid hno
      clear hstep hno hdec ha hacc hp
      by_cases hdig : 48 ≤ c.toNat ∧ c.toNat ≤ 57
      · have hu : hexU c = some (c.toNat - 48) := by unfold hexU; rw [if_pos hdig]
        have HN := HST.out _ hu (by omega)
        obtain ⟨hd0, hd1⟩ := hdig
        have he : ((c.toNat - 48 : Nat) : Int) = (c.toNat : Int) - 48 := by omega
        rw [he] at HN
        have icut : a < 1152921504606846976 := by omega
        clear hu he
        go_wp2
        refine ⟨⟨k + 1, 16 * acc + (c.toNat - 48), a * 16 + ((c.toNat : Int) - 48), rfl, (by first | rfl | (congr 1; omega)), (by first | rfl | (congr 1; omega)), by omega, HN⟩, by simp [RowKit.intOf]; omega⟩
      · have hud : hexU c = if 97 ≤ lowI c.toNat ∧ lowI c.toNat ≤ 102 then some (lowI c.toNat - 87).toNat else none := by unfold hexU; rw [if_neg hdig]
        by_cases h95 : c.toNat = 95
        · have hu : hexU c = none := by rw [hud, h95]; decide +kernel
          have hR := HNO.out hu
          have HR := Lib.hid hR
          have h127 : lowI 95 = 127 := by decide +kernel
          have HL := Lib.hid (lower_low 95)
          rw [h127] at HL
          rw [h95] at hc
          clear hu hud hR hdig h95 h127 hc256
          go_wp2_with (go_at_call 80; refine (HL.out _).mono ?_; rintro e w' ⟨rfl, rfl⟩)
          go_ret2
          exact ⟨by rw [HR.out]; rfl, rfl⟩
        have h95' : ((c.toNat : Int) == 95) = false := by rw [beq_eq_false_iff_ne]; omega
        clear h95
        have HL := Lib.hid (lower_low c.toNat)
        have hL2 := lowI_bd c.toNat
        generalize lowI c.toNat = L at hud HL hL2
        have hdig' : c.toNat < 48 ∨ 57 < c.toNat := by omega
        clear hdig
        by_cases hlet : 97 ≤ L ∧ L ≤ 102
        · have hu : hexU c = some (L - 87).toNat := by rw [hud, if_pos hlet]
          have HN := HST.out _ hu (by omega)
          obtain ⟨hl0, hl1⟩ := hlet
          have he : (((L - 87).toNat : Nat) : Int) = L - 97 + 10 := by omega
          rw [he] at HN
          have HE := Lib.hid he
          have icut : a < 1152921504606846976 := by omega
          clear hu he hud
          rcases hdig' with hd | hd
          all_goals
            go_wp2_with (go_at_call 80; refine (HL.out _).mono ?_; rintro e w' ⟨rfl, rfl⟩)
            refine ⟨⟨k + 1, 16 * acc + (L - 87).toNat, a * 16 + (L - 97 + 10), rfl, rfl, (by first | rfl | (congr 1; omega)), by omega, HN⟩, by simp [RowKit.intOf]; omega⟩
        · have hu : hexU c = none := by rw [hud, if_neg hlet]
          have hR := HNO.out hu
          have HR := Lib.hid hR
          clear hu hud hR
          have hlet' : L < 97 ∨ (97 ≤ L ∧ 102 < L ∧ L ≤ 122) ∨ 122 < L := by omega
          clear hlet
          rcases hdig' with hd | hd
          all_goals
            rcases hlet' with h | ⟨h, h', h''⟩ | h
            all_goals
              go_wp2_with (go_at_call 80; refine (HL.out _).mono ?_; rintro e w' ⟨rfl, rfl⟩)
              go_ret2
              exact ⟨by rw [HR.out]; rfl, rfl⟩
    · obtain rfl : k = 8 := by omega
      have hp : (16 : Nat) ^ 8 = 4294967296 := by decide
      rw [hp] at hacc
      rw [List.drop_eq_nil_of_le (by rw [HLN.out]; decide)] at hdec
      have HD := Lib.hid hdec
      subst ha
      clear hdec hp hkn
      go_wp2
      go_ret2
      exact ⟨by rw [HD.out]; rfl, rfl⟩

/-- The variable strconv.ErrSyntax holds some error. -/
def ErrS (w : World) : Prop := ∃ tp p, w.var? Tryz.prog "strconv.ErrSyntax" = some #[.iface tp p]
theorem ErrS.on {B : Nat} {w w' : World} (h : ErrS w) (hb : Below B w w') (hB : w.heap.size ≤ B) : ErrS w' := by
  obtain ⟨t1, p1, h1⟩ := h
  exact ⟨t1, p1, var_stays (g := 3) (by kernel_rfl) h1 hb hB⟩
theorem ErrS.cell {w : World} (h : ErrS w) : ∃ ev, w.cell? ⟨3, 0, none⟩ = some ev ∧ (ev = .nilIface ∨ ∃ te pe, ev = .iface te pe) := by
  obtain ⟨tp, p, hv⟩ := h
  have h0 := World.var?_cell (g := 3) (P := Tryz.prog) (by kernel_rfl) hv 0
  exact ⟨.iface tp p, by simpa using h0, Or.inr ⟨tp, p, rfl⟩⟩
theorem bytes_below (w : World) (t : ByteArray) : Below w.heap.size w (bytesWorld w 5 t) :=
  ⟨rfl, rfl, rfl, by rw [bytesWorld_size]; omega, fun j hj => bytesWorld_at_old w 5 t j hj⟩
/-- What strconv.ParseUint answers at eight bytes: the number, or some error. -/
def parsed (o : Option Nat) (e : Ending) : Prop := match o with
  | some n => e = .returned (.tuple #[.int .u64 n, .nilIface])
  | none => ∃ t p, e = .returned (.tuple #[.int .u64 0, .iface t p])
theorem parse_yes (t : ByteArray) (h8 : t.size = 8) (n : Nat) (hr : Hid (readF hexU 0 t.data.toList = some n)) (w : World) :
    Calls Tryz.prog 59 #[.string t, .int .i64 16, .int .i64 32] w fun e w' => e = .returned (.tuple #[.int .u64 n, .nilIface]) ∧ Below w.heap.size w w' := by
  have H8 := Lib.hid h8
  clear h8
  go_enter Tryz.func59, Tryz.ntmps59
  go_wp2_with fail
  refine (parse16 t H8.out _).mono ?_
  rintro e w1 ⟨he, hw⟩
  rw [hr.out] at he
  have B1 := Lib.hid (bytes_below w t)
  rw [← hw] at B1
  have he' : e = .returned (.tuple #[.int .u64 n, .nilIface]) := he
  subst he'
  clear he hw
  go_wp2_with fail
  go_ret2
  exact ⟨rfl, B1.out⟩
theorem parse_not (t : ByteArray) (h8 : t.size = 8) (hr : Hid (readF hexU 0 t.data.toList = none)) (w : World) (hs : Hid (ErrS w)) :
    Calls Tryz.prog 59 #[.string t, .int .i64 16, .int .i64 32] w fun e w' => (∃ tt p, e = .returned (.tuple #[.int .u64 0, .iface tt p])) ∧ Below w.heap.size w w' := by
  have H8 := Lib.hid h8
  clear h8
  go_enter Tryz.func59, Tryz.ntmps59
  go_wp2_with fail
  refine (parse16 t H8.out _).mono ?_
  rintro e w1 ⟨he, hw⟩
  rw [hr.out] at he
  have B1 := Lib.hid (bytes_below w t)
  rw [← hw] at B1
  have he' : e = .returned (.tuple #[.int .u64 0, .iface 111 (.int .i64 2)]) := he
  subst he'
  clear he hw
  obtain ⟨ev, hev, hev2⟩ := (hs.out.on B1.out (Nat.le_refl _)).cell
  have HE := Lib.hid hev
  clear hev
  go_wp2_with fail
  refine (Tryz.strconv_toError_syntax _ t 16 32 ev _ (by have := H8.out; omega) HE.out hev2).mono ?_
  rintro e w2 ⟨N, rfl, _, _, b2⟩
  go_wp2_with fail
  go_ret2
  exact ⟨⟨_, _, rfl⟩, onB B1.out b2⟩
end Go.Proofs.YtmiajfdhdpmeoaaGreatDoor
