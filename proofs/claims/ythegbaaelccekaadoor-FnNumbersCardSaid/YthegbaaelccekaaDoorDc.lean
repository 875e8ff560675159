/-
  ReadDecimal, in the program and in the reference; its law's walk. Condition: the listed variables (the table, the two errors) read as listed; a text longer than 2^20 bytes is not asked.
-/
import Derived.Test.YthegbaaelccekaaDoorDb
import Derived.Test.YthegbaaelccekaaDoorDp
import Derived.Test.YthegbaaelccekaaDoorNd
namespace Go.Proofs.YthegbaaelccekaaDoor
open Go.RowKit Go.Lib Go.Joins

def Errs (w : World) : Prop := (∃ tp p, w.var? Tryd.prog "strconv.ErrSyntax" = some #[.iface tp p]) ∧ ∃ tp p, w.var? Tryd.prog "strconv.ErrRange" = some #[.iface tp p]
theorem Errs.on {B : Nat} {w w' : World} (h : Errs w) (hb : Below B w w') (hB : w.heap.size ≤ B) : Errs w' := by
  obtain ⟨⟨t1, p1, h1⟩, t2, p2, h2⟩ := h
  exact ⟨⟨t1, p1, var_stays (g := 2) (by kernel_rfl) h1 hb hB⟩, t2, p2, var_stays (g := 3) (by kernel_rfl) h2 hb hB⟩

theorem digF_lt (l : List UInt8) : ∀ acc k, acc < 10 ^ k → digF acc l < 10 ^ (k + l.length) := by
  induction l with
  | nil => intro acc k h; exact h
  | cons c r ih =>
    intro acc k h
    unfold digF
    rw [List.length_cons, show k + (r.length + 1) = (k + 1) + r.length by omega]
    refine ih _ _ ?_
    rw [Nat.pow_succ]
    split
    · rename_i hd
      simp only [isD, Bool.and_eq_true, decide_eq_true_eq] at hd
      omega
    · omega
/-- What the reader of the reference has read of the first j bytes. -/
def readN (s : ByteArray) (j : Nat) : Nat := digF 0 (s.data.toList.take j)
theorem readN_lt (s : ByteArray) {j : Nat} (h : j ≤ 16) : readN s j < 10000000000000000 := by
  have h1 := digF_lt (s.data.toList.take j) 0 0 (by decide)
  have h2 : (s.data.toList.take j).length ≤ 16 := by rw [List.length_take]; omega
  have h3 : (10 : Nat) ^ (0 + (s.data.toList.take j).length) ≤ 10 ^ 16 := Nat.pow_le_pow_right (by decide) (by omega)
  have h4 : (10 : Nat) ^ 16 = 10000000000000000 := by decide
  unfold readN; omega
theorem readN_lt2 (s : ByteArray) (h : s.size ≤ 17) : readN s s.size < 100000000000000000 := by
  have h1 := digF_lt (s.data.toList.take s.size) 0 0 (by decide)
  have h2 : (s.data.toList.take s.size).length ≤ 17 := by rw [List.length_take]; omega
  have h3 : (10 : Nat) ^ (0 + (s.data.toList.take s.size).length) ≤ 10 ^ 17 := Nat.pow_le_pow_right (by decide) (by omega)
  have h4 : (10 : Nat) ^ 17 = 100000000000000000 := by decide
  unfold readN; omega
theorem digF_one (acc : Nat) (c : UInt8) : digF acc [c] = if 48 ≤ c.toNat ∧ c.toNat ≤ 57 then 10 * acc + (c.toNat - 48) else acc := by
  show (if isD c = true then 10 * acc + (c.toNat - 48) else acc) = _
  simp [isD]
theorem readN_step {s : ByteArray} {j : Nat} (h : j < s.size) : readN s (j + 1) = if 48 ≤ byteAt s j ∧ byteAt s j ≤ 57 then 10 * readN s j + (byteAt s j - 48) else readN s j := by
  unfold readN
  have h2 : j < s.data.toList.length := by simpa using h
  rw [List.take_add_one, digF_append, List.getElem?_eq_getElem h2]
  have hb : byteAt s j = s.data.toList[j].toNat := by unfold byteAt; rw [List.getD_eq_getElem?_getD, List.getElem?_eq_getElem h2]; rfl
  rw [hb]
  exact digF_one _ _
theorem readN_all (s : ByteArray) : readN s s.size = digF 0 s.data.toList := by
  unfold readN
  rw [List.take_of_length_le (by simp)]
theorem head_byte {s : ByteArray} (h : 1 ≤ s.size) : s.data.toList.head? = some 45 ↔ byteAt s 0 = 45 := by
  unfold byteAt
  rcases e : s.data.toList with _ | ⟨c, r⟩
  · have h3 : s.data.toList.length = s.size := by simp
    rw [e, List.length_nil] at h3; omega
  · simp only [List.head?_cons, Option.some.injEq, List.getD_cons_zero]
    exact ⟨fun h => by rw [h]; rfl, fun h => UInt8.toNat_inj.1 h⟩
theorem text_eq (s : ByteArray) (l : List UInt8) : (⟨l.toArray⟩ : ByteArray) = s ↔ l = s.data.toList := by
  constructor
  · rintro rfl; simp
  · rintro rfl; simp

theorem text_ne {s : ByteArray} {l : List UInt8} (h : ¬ (⟨l.toArray⟩ : ByteArray) = s) : (l == s.toList) = false := by
  rw [ByteArray.toList_eq, beq_eq_false_iff_ne]
  exact fun e => h ((text_eq s _).2 e)

/-- What both readers answer. -/
def okD (s : ByteArray) : Bool := okL s.data.toList
def numDv (s : ByteArray) : Int := if okD s = true then valL s.data.toList else 0

set_option maxRecDepth 10000 in
set_option maxHeartbeats 1000000 in
theorem spec_l01Value (s : ByteArray) (w : World) (hs : s.size ≤ 1048576) : Calls Tryd.prog 52 #[.string s] w fun e w' => e = .returned (.tuple #[.int .i64 (numDv s), .bool (okD s)]) ∧ Below w.heap.size w w' := by
  by_cases hlen : 1 ≤ s.size ∧ s.size ≤ 17
  · obtain ⟨hl1, hl2⟩ := hlen
    go_enter Tryd.func52, Tryd.ntmps52
    go_wp2
    go_loopg [4, 5] s.size (fun g n i wr => ∃ j x : Nat, g + j = s.size ∧ n = .int .i64 x ∧ i = .int .i64 j ∧ Hid (x = readN s j) ∧ w = wr)
    case atStart => exact ⟨0, 0, by omega, rfl, rfl, rfl, rfl⟩
    case round =>
      obtain ⟨j, x, hj, rfl, rfl, hx, rfl⟩ := hrel
      by_cases hlt : j < s.size
      · have hb := byteAt_eq hlt
        have hb2 := byteAt_lt s j
        have hst := readN_step hlt
        rw [← hx.out] at hst
        have hxb : x < 10000000000000000 := by rw [hx.out]; exact readN_lt s (by omega)
        generalize byteAt s j = c at hb hb2 hst
        have HS := Lib.hid hst
        clear hst
        by_cases h1 : 48 ≤ c
        · by_cases h2 : c ≤ 57
          · go_wp2
            go_roundg (gk - 1)
            case measure => omega
            case rel => exact ⟨j + 1, 10 * x + (c - 48), by omega, by go_num, by go_num, by show _ = _; rw [HS.out, if_pos ⟨h1, h2⟩], rfl⟩
          · go_wp2
            go_roundg (gk - 1)
            case measure => omega
            case rel => exact ⟨j + 1, x, by omega, rfl, by go_num, by show _ = _; rw [HS.out, if_neg (by omega)], rfl⟩
        · go_wp2
          go_roundg (gk - 1)
          case measure => omega
          case rel => exact ⟨j + 1, x, by omega, rfl, by go_num, by show _ = _; rw [HS.out, if_neg (by omega)], rfl⟩
      · have hjn : j = s.size := by omega
        clear hlt
        subst hjn
        have hxb : x < 100000000000000000 := by rw [hx.out]; exact readN_lt2 s hl2
        have hv : x = digF 0 s.data.toList := by rw [hx.out, readN_all]
        have hb := byteAt_eq (s := s) (i := 0) (by omega)
        have hb2 := byteAt_lt s 0
        have hv2 : valL s.data.toList = if byteAt s 0 = 45 then -(x : Int) else x := by
          unfold valL
          rw [← hv]
          by_cases h : byteAt s 0 = 45
          · rw [if_pos h, if_pos ((head_byte hl1).2 h)]
          · rw [if_neg h, if_neg (fun h' => h ((head_byte hl1).1 h'))]
        by_cases h45 : byteAt s 0 = 45
        · rw [if_pos h45] at hv2
          generalize byteAt s 0 = c at hb hb2 h45
          have HV := Lib.hid hv2
          clear hv2 hv hx
          subst h45
          by_cases hw : -1000000000000000 ≤ -(x : Int) ∧ -(x : Int) ≤ 1000000000000000
          · have hd : (decide (-1000000000000000 ≤ -(x : Int)) && decide (-(x : Int) ≤ 1000000000000000)) = true := by simp; omega
            have HD := Lib.hid hd
            clear hd
            go_wp2_with fail
            refine (spec_l00InD _ _ _ _).mono ?_
            rintro e w' ⟨he, rfl⟩
            rw [HD.out] at he
            subst he
            go_wp2_with fail
            refine (spec_l01Dec (-(x : Int)) _ (by omega) (by omega)).mono ?_
            rintro e w1 ⟨rfl, b1⟩
            by_cases heq : (⟨(itoa (-(x : Int))).toArray⟩ : ByteArray) = s
            · have ho : okD s = true ∧ numDv s = -(x : Int) := by
                have h9 := (text_eq s _).1 heq
                have h8 := okL_of_parse hw.1 hw.2 h9
                refine ⟨h8.1, ?_⟩
                unfold numDv okD
                rw [h8.1, if_pos rfl, HV.out]
              have HO := Lib.hid ho
              clear ho
              go_wp2
              go_ret2
              exact ⟨by rw [HO.out.1, HO.out.2]; rfl, b1⟩
            · have ho : okD s = false ∧ numDv s = 0 := by
                have h9 : okD s = false := by
                  cases h : okD s
                  · rfl
                  · unfold okD okL at h
                    rw [HV.out] at h
                    simp only [Bool.and_eq_true, decide_eq_true_eq] at h
                    exact absurd ((text_eq s _).2 h.2) heq
                exact ⟨h9, by unfold numDv; rw [h9]; rfl⟩
              have HO := Lib.hid ho
              have hne := text_ne heq
              clear ho heq
              go_wp2
              go_ret2
              exact ⟨by rw [HO.out.1, HO.out.2]; rfl, b1⟩
          · have hd : (decide (-1000000000000000 ≤ -(x : Int)) && decide (-(x : Int) ≤ 1000000000000000)) = false := by simp; omega
            have HD := Lib.hid hd
            have ho : okD s = false ∧ numDv s = 0 := by
              have h9 : okD s = false := by unfold okD okL; rw [HV.out, hd]; rfl
              exact ⟨h9, by unfold numDv; rw [h9]; rfl⟩
            have HO := Lib.hid ho
            clear hd ho
            go_wp2_with fail
            refine (spec_l00InD _ _ _ _).mono ?_
            rintro e w' ⟨he, rfl⟩
            rw [HD.out] at he
            subst he
            go_wp2
            go_ret2
            exact ⟨by rw [HO.out.1, HO.out.2]; rfl, Below.refl _ _⟩
        · rw [if_neg h45] at hv2
          generalize byteAt s 0 = c at hb hb2 h45
          have HV := Lib.hid hv2
          clear hv2 hv hx
          by_cases hw : -1000000000000000 ≤ (x : Int) ∧ (x : Int) ≤ 1000000000000000
          · have hd : (decide (-1000000000000000 ≤ (x : Int)) && decide ((x : Int) ≤ 1000000000000000)) = true := by simp; omega
            have HD := Lib.hid hd
            clear hd
            go_wp2_with fail
            refine (spec_l00InD _ _ _ _).mono ?_
            rintro e w' ⟨he, rfl⟩
            rw [HD.out] at he
            subst he
            go_wp2_with fail
            refine (spec_l01Dec ((x : Int)) _ (by omega) (by omega)).mono ?_
            rintro e w1 ⟨rfl, b1⟩
            by_cases heq : (⟨(itoa ((x : Int))).toArray⟩ : ByteArray) = s
            · have ho : okD s = true ∧ numDv s = (x : Int) := by
                have h9 := (text_eq s _).1 heq
                have h8 := okL_of_parse hw.1 hw.2 h9
                refine ⟨h8.1, ?_⟩
                unfold numDv okD
                rw [h8.1, if_pos rfl, HV.out]
              have HO := Lib.hid ho
              clear ho
              go_wp2
              go_ret2
              exact ⟨by rw [HO.out.1, HO.out.2]; rfl, b1⟩
            · have ho : okD s = false ∧ numDv s = 0 := by
                have h9 : okD s = false := by
                  cases h : okD s
                  · rfl
                  · unfold okD okL at h
                    rw [HV.out] at h
                    simp only [Bool.and_eq_true, decide_eq_true_eq] at h
                    exact absurd ((text_eq s _).2 h.2) heq
                exact ⟨h9, by unfold numDv; rw [h9]; rfl⟩
              have HO := Lib.hid ho
              have hne := text_ne heq
              clear ho heq
              go_wp2
              go_ret2
              exact ⟨by rw [HO.out.1, HO.out.2]; rfl, b1⟩
          · have hd : (decide (-1000000000000000 ≤ (x : Int)) && decide ((x : Int) ≤ 1000000000000000)) = false := by simp; omega
            have HD := Lib.hid hd
            have ho : okD s = false ∧ numDv s = 0 := by
              have h9 : okD s = false := by unfold okD okL; rw [HV.out, hd]; rfl
              exact ⟨h9, by unfold numDv; rw [h9]; rfl⟩
            have HO := Lib.hid ho
            clear hd ho
            go_wp2_with fail
            refine (spec_l00InD _ _ _ _).mono ?_
            rintro e w' ⟨he, rfl⟩
            rw [HD.out] at he
            subst he
            go_wp2
            go_ret2
            exact ⟨by rw [HO.out.1, HO.out.2]; rfl, Below.refl _ _⟩
  · have hno : okD s = false := by
      cases h : okD s
      · rfl
      · have h3 : s.size = s.data.toList.length := by simp
        exact absurd (by rw [h3]; exact okL_len h) hlen
    have HN := Lib.hid hno
    have hz : numDv s = 0 := by unfold numDv; rw [hno]; rfl
    have HZ := Lib.hid hz
    clear hno hz
    by_cases h1 : (s.size : Int) < 1
    · go_enter Tryd.func52, Tryd.ntmps52
      go_wp2
      go_ret2
      exact ⟨by rw [HN.out, HZ.out]; rfl, Below.refl _ _⟩
    · have h2 : (17 : Int) < s.size := by omega
      go_enter Tryd.func52, Tryd.ntmps52
      go_wp2
      go_ret2
      exact ⟨by rw [HN.out, HZ.out]; rfl, Below.refl _ _⟩

theorem spec_ReadDecimal (s : ByteArray) (w : World) (hs : s.size ≤ 1048576) : Calls Tryd.prog 13 #[.string s] w fun e w' => e = .returned (.tuple #[.int .i64 (numDv s), .bool (okD s)]) ∧ Below w.heap.size w w' := by
  go_enter Tryd.func13, Tryd.ntmps13
  go_wp2_with fail
  refine (spec_l01Value s _ hs).mono ?_
  rintro e w1 ⟨rfl, b1⟩
  go_wp2
  go_ret2
  exact ⟨rfl, b1⟩

theorem not_okD {s : ByteArray} (h : ∀ v, parseIntB 64 s.data.toList ≠ .ok v) : okD s = false ∧ numDv s = 0 := by
  have h9 : okD s = false := by
    cases h8 : okD s
    · rfl
    · exact absurd (parse_okL h8) (h _)
  exact ⟨h9, by unfold numDv; rw [h9]; rfl⟩
theorem below_bytes (w : World) (e : TypeId) (t : ByteArray) : Below w.heap.size w (bytesWorld w e t) :=
  ⟨rfl, rfl, rfl, by rw [bytesWorld_size]; omega, fun j hj => bytesWorld_at_old w e t j hj⟩
/-- strconv.ParseInt at a text that it reads. -/
theorem parse_ok (s : ByteArray) (v : Int) (w : World) (hs : s.size ≤ 1048576) (h : Hid (parseIntB 64 s.data.toList = .ok v)) :
    Calls Tryd.prog 53 #[.string s, .int .i64 10, .int .i64 64] w fun e w' => e = .returned (.tuple #[.int .i64 v, .nilIface]) ∧ Below w.heap.size w w' :=
  (Any.strconv_ParseInt_10_at64_ok Tryd.laysC174 s (by omega) v h.out w).mono (by
    rintro e w' ⟨rfl, rfl | ⟨t, rfl⟩⟩
    · exact ⟨rfl, Below.refl _ _⟩
    · exact ⟨rfl, below_bytes _ _ _⟩)
/-- .. at one that it does not read. -/
theorem parse_no (s : ByteArray) (w : World) (hs : s.size ≤ 1048576) (h : Hid (∀ v, parseIntB 64 s.data.toList ≠ .ok v)) (he : Hid (Errs w)) :
    Calls Tryd.prog 53 #[.string s, .int .i64 10, .int .i64 64] w fun e w' => (∃ n t p, e = .returned (.tuple #[.int .i64 n, .iface t p])) ∧ Below w.heap.size w w' := by
  obtain ⟨⟨t1, p1, h1⟩, t2, p2, h2⟩ := he.out
  rcases hp : parseIntB 64 s.data.toList with v | _ | _
  · exact absurd hp (h.out v)
  · exact (Any.strconv_ParseInt_10_at64_syntax_var Tryd.laysC174 s (by omega) hp t1 p1 w h1).mono (by rintro e w' ⟨N, rfl, _, _, b⟩; exact ⟨⟨_, _, _, rfl⟩, b⟩)
  · exact (Any.strconv_ParseInt_10_at64_range_var Tryd.laysC174 s (by omega) hp t2 p2 w h2).mono (by rintro e w' ⟨N, rfl, _, _, b⟩; exact ⟨⟨_, _, _, rfl⟩, b⟩)

set_option maxRecDepth 10000 in
theorem impl_ReadDecimal (s : ByteArray) (w : World) (hs : s.size ≤ 1048576) (ht : Hid (Tab w)) (he : Hid (Errs w)) : Calls Tryd.prog 14 #[.string s] w fun e w' => e = .returned (.tuple #[.int .i64 (numDv s), .bool (okD s)]) ∧ Below w.heap.size w w' := by
  by_cases hp : ∃ v, parseIntB 64 s.data.toList = .ok v
  · obtain ⟨v, hv⟩ := hp
    have hvb := parseIntB_bounds hv
    have hvb2 : -9223372036854775808 ≤ v ∧ v ≤ 9223372036854775807 := by
      have e63 : (2 : Nat) ^ (64 - 1) = 9223372036854775808 := by decide
      rw [e63] at hvb; omega
    have HP := Lib.hid hv
    clear hvb hv
    by_cases hw : -1000000000000000 ≤ v ∧ v ≤ 1000000000000000
    · have hd : (decide (-1000000000000000 ≤ v) && decide (v ≤ 1000000000000000)) = true := by simp; omega
      have HD := Lib.hid hd
      clear hd
      go_enter Tryd.func14, Tryd.ntmps14
      go_wp2_with fail
      refine (parse_ok s v _ hs HP).mono ?_
      rintro e w1 ⟨rfl, b1⟩
      go_wp2_with fail
      refine (impl_withinD _ _ _ _).mono ?_
      rintro e w' ⟨he', rfl⟩
      rw [HD.out] at he'
      subst he'
      go_wp2_with fail
      refine (impl_Decimal v _ (by omega) (by omega) (Lib.hid (ht.out.on b1 (Nat.le_refl _)))).mono ?_
      rintro e w2 ⟨rfl, b2⟩
      by_cases heq : (⟨(itoa v).toArray⟩ : ByteArray) = s
      · have ho : okD s = true ∧ numDv s = v := by
          have h8 := okL_of_parse hw.1 hw.2 ((text_eq s _).1 heq)
          exact ⟨h8.1, by unfold numDv okD; rw [h8.1, if_pos rfl, h8.2]⟩
        have HO := Lib.hid ho
        clear ho
        go_wp2
        go_ret2
        exact ⟨by rw [HO.out.1, HO.out.2]; rfl, onB b1 b2⟩
      · have ho : okD s = false ∧ numDv s = 0 := by
          have h9 : okD s = false := by
            cases h : okD s
            · rfl
            · have h7 := (parse_okL h).symm.trans HP.out
              have h6 : valL s.data.toList = v := by injection h7
              unfold okD okL at h
              rw [h6] at h
              simp only [Bool.and_eq_true, decide_eq_true_eq] at h
              exact absurd ((text_eq s _).2 h.2) heq
          exact ⟨h9, by unfold numDv; rw [h9]; rfl⟩
        have HO := Lib.hid ho
        have hne := text_ne heq
        clear ho heq
        go_wp2
        go_ret2
        exact ⟨by rw [HO.out.1, HO.out.2]; rfl, onB b1 b2⟩
    · have hd : (decide (-1000000000000000 ≤ v) && decide (v ≤ 1000000000000000)) = false := by simp; omega
      have HD := Lib.hid hd
      have ho : okD s = false ∧ numDv s = 0 := by
        have h9 : okD s = false := by
          cases h : okD s
          · rfl
          · have h7 := (parse_okL h).symm.trans HP.out
            have h6 : valL s.data.toList = v := by injection h7
            unfold okD okL at h
            rw [h6, hd] at h
            cases h
        exact ⟨h9, by unfold numDv; rw [h9]; rfl⟩
      have HO := Lib.hid ho
      clear hd ho
      go_enter Tryd.func14, Tryd.ntmps14
      go_wp2_with fail
      refine (parse_ok s v _ hs HP).mono ?_
      rintro e w1 ⟨rfl, b1⟩
      go_wp2_with fail
      refine (impl_withinD _ _ _ _).mono ?_
      rintro e w' ⟨he', rfl⟩
      rw [HD.out] at he'
      subst he'
      go_wp2
      go_ret2
      exact ⟨by rw [HO.out.1, HO.out.2]; rfl, b1⟩
  · have hp' : ∀ v, parseIntB 64 s.data.toList ≠ .ok v := fun v h => hp ⟨v, h⟩
    have HP := Lib.hid hp'
    have HO := Lib.hid (not_okD hp')
    clear hp hp'
    go_enter Tryd.func14, Tryd.ntmps14
    go_wp2_with fail
    refine (parse_no s _ hs HP he).mono ?_
    rintro e w1 ⟨⟨n, t, p, rfl⟩, b1⟩
    go_wp2
    go_ret2
    exact ⟨by rw [HO.out.1, HO.out.2]; rfl, b1⟩

theorem law_FnExactReadDecimal (w : World) (s : ByteArray) (_ : s.size ≤ maxLen) (ht : Hid (Tab w)) (he : Hid (Errs w)) : Calls Tryd.prog 4 #[.string s] w fun e w' => e = .returned (.bool true) ∧ Below w.heap.size w w' := by
  by_cases hs : (s.size : Int) ≤ 1048576
  · have hs' : s.size ≤ 1048576 := by omega
    go_enter Tryd.func4, Tryd.ntmps4
    go_wp2_with fail
    refine (spec_ReadDecimal s _ hs').mono ?_
    rintro e w1 ⟨rfl, b1⟩
    go_wp2_with fail
    refine (impl_ReadDecimal s _ hs' (Lib.hid (ht.out.on b1 (Nat.le_refl _))) (Lib.hid (he.out.on b1 (Nat.le_refl _)))).mono ?_
    rintro e w2 ⟨rfl, b2⟩
    go_wp2
    go_ret
    exact ⟨rfl, onB b1 b2⟩
  · go_enter Tryd.func4, Tryd.ntmps4
    go_wp2
    go_ret
    exact ⟨rfl, Below.refl _ _⟩
end Go.Proofs.YthegbaaelccekaaDoor
