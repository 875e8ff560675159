/-
  Lists of the call's own, of any one-cell elements; the reference's pieces of a text. Condition: a text of at most 2^20 bytes.
-/
import Derived.Test.YthegbaaelccekaaDoorIc
import Derived.Test.YthegbaaelccekaaDoorRa
namespace Go.Proofs.YthegbaaelccekaaDoor
open Go.RowKit Go.Lib Go.Joins

/-- The value v is a list of the call's own (from block B on) that holds us. -/
def ownV (w : World) (e : TypeId) (B : Nat) (v : Value) (us : List Value) : Prop := w.ownsRow B e 1 v us.length us
/-- The list at address a is the call's own and holds us. -/
def rowV (w : World) (e : TypeId) (B : Nat) (a : Option Addr) (us : List Value) : Prop :=
  (a = none ∧ us = []) ∨ ∃ g, a = some ⟨g, 0, none⟩ ∧ B ≤ g ∧ ∃ n f, us.length ≤ n ∧ w.rowIs g e n f ∧ ∀ i, i < us.length → f i = us.getD i undef
theorem ownV.row {w : World} {e : TypeId} {B : Nat} {v : Value} {us : List Value} (h : ownV w e B v us) : ∃ a cap, v = .slice a us.length cap ∧ rowV w e B a us := by
  unfold ownV at h
  rcases h.2 with ⟨rfl, h0⟩ | ⟨g, cap, cur, rfl, hb, hg, hn, _, hs, ht⟩
  · have : us = [] := List.eq_nil_of_length_eq_zero h0
    subst this
    exact ⟨none, 0, rfl, Or.inl ⟨rfl, rfl⟩⟩
  · refine ⟨some ⟨g, 0, none⟩, cap, rfl, Or.inr ⟨g, rfl, hb, cur.size, fun i => cur.getD i undef, by omega, ⟨cur, hg, rfl, fun i hi => ?_⟩, fun i hi => ?_⟩⟩
    · show cur[i]? = some (cur.getD i undef)
      rw [Array.getD_eq_getD_getElem?, Array.getElem?_eq_getElem hi]; rfl
    · have h1 : us[i]? = some us[i] := List.getElem?_eq_getElem hi
      have h2 : (List.take (us.length * 1) cur.toList)[i]? = us[i]? := by rw [ht]
      rw [List.getElem?_take, if_pos (by omega), Array.getElem?_toList] at h2
      show cur.getD i undef = _
      rw [Array.getD_eq_getD_getElem?, h2, List.getD_eq_getElem?_getD]
theorem ownV.nil (w : World) (e : TypeId) (B : Nat) : ownV w e B (.slice none 0 0) [] := World.ownsRow_nil _ _ _ _
theorem ownV.empty (w : World) (e : TypeId) (B : Nat) (hB : B ≤ w.heap.size) : ownV (w.alloc (.cells #[] e)) e B (.slice (some ⟨w.heap.size, 0, none⟩) 0 0) [] :=
  World.ownsRow_lit w #[] 0 hB (by decide) rfl
theorem ownsRow_on {B C : Nat} {e : TypeId} {k : Nat} {v : Value} {n : Nat} {xs : List Value} {w w' : World} (h : w.ownsRow B e k v n xs) (hb : Below C w w') (hC : w.heap.size ≤ C) : w'.ownsRow B e k v n xs := by
  obtain ⟨hl, hh⟩ := h
  refine ⟨hl, ?_⟩
  rcases hh with h1 | ⟨b, cap, cur, h1, h2, h3, h4⟩
  · exact Or.inl h1
  · have hlt : b < w.heap.size := by
      apply Nat.lt_of_not_le; intro hle
      rw [Array.getElem?_eq_none hle] at h3; cases h3
    exact Or.inr ⟨b, cap, cur, h1, h2, by rw [hb.block b (by omega)]; exact h3, h4⟩
theorem ownV.drewN {w : World} {e : TypeId} {B : Nat} {v : Value} {us : List Value} (h : ownV w e B v us) (k : Nat) : ownV (w.drewN k) e B v us := h
theorem ownV.on {w w' : World} {e : TypeId} {B C : Nat} {v : Value} {us : List Value} (h : ownV w e B v us) (hb : Below C w w') (hC : w.heap.size ≤ C) : ownV w' e B v us :=
  ownsRow_on h hb hC
theorem rowV.cell {w : World} {e : TypeId} {B : Nat} {a : Option Addr} {us : List Value} (h : rowV w e B a us) {i : Nat} (hi : i < us.length) : ∃ g, a = some ⟨g, 0, none⟩ ∧ B ≤ g ∧ w.cell? ⟨g, i, none⟩ = some (us.getD i undef) := by
  rcases h with ⟨_, rfl⟩ | ⟨g, rfl, hB, n, f, hn, hr, hf⟩
  · simp at hi
  · exact ⟨g, rfl, hB, by rw [hr.cell (by omega), hf i hi]⟩

/-- One value added to a list of the call's own. -/
theorem wpList_append_val {ops : Array Oper} {rest : List Oper} {o : Oper} {a : Act} {Q : Exit → Act → World → Prop} (t e : TypeId) (z : Value) (by_ : Nat) (ht : Tryd.prog.underlying t = some (.slice e))
    (hinfo : (Tryd.prog.info? e).map (fun i => (i.zero, i.size, i.bytes)) = some (some z, 1, by_)) (hzs : z.cells.size = 1) (hby : by_ ≤ 16) (u : Value) (hu : u.oneCell' = true)
    (hgd : o.guard = none) (s x : Operand) (ho : o.op = .call { callee := .builtin .append, args := #[s, x], argTypes := #[t, t] }) (B : Nat) (v : Value) (us : List Value) (W : World) (g : Nat)
    (hs : a.eval s = v) (hx : a.eval x = .slice (some ⟨g, 0, none⟩) 1 1) (hg : W.heap.size = g) (hown : ownV W e B v us) (hB : B ≤ W.heap.size) (hl : us.length ≤ 2000000)
    (h : ∀ ad cap w', ownV w' e B (.slice ad (us.length + 1) cap) (us ++ [u]) → Below B W w' → wpList Tryd.prog ops Q rest (a.put o.dst (.slice ad (us.length + 1) cap)) w') :
    wpList Tryd.prog ops Q (o :: rest) a (W.alloc (.cells #[u] e)) := by
  subst hg
  obtain ⟨i0, hi, hz0, hz1, hz2⟩ := info_parts hinfo
  refine wpList_append_own _ hgd s x t ho B e i0 z 1 by_ ht hi hz0 hz1 hz2 hzs (by decide) v us.length us hs (World.ownsRow.alloc hown _) ⟨W.heap.size, 0, none⟩ 1 1 [u] hx rfl ?_ ?_ (by unfold maxLen; omega) ?_ (by rw [World.size_alloc]; omega) ?_
  · intro j u' hj
    match j, hj with
    | 0, hj => simp at hj; subst hj; simp [Addr.add]
  · intro u' hu'; simp at hu'; subst hu'; exact hu
  · have := Nat.mul_le_mul_left (us.length + 1) hby
    omega
  · intro v' w' h1 h2 _
    have h3 : ownV w' e B v' (us ++ [u]) := by
      unfold ownV
      rw [List.length_append]
      exact h1
    obtain ⟨ad, cap, hv, _⟩ := h3.row
    have hv' : v' = .slice ad (us.length + 1) cap := by rw [hv, List.length_append]; rfl
    rw [hv'] at h3 ⊢
    exact h ad cap w' h3 (((Below.refl B W).alloc hB _).grown h2 (by rw [World.size_alloc]; omega) (fun k hk => (World.ownsRow.lt hown k hk).1))

/-! ### The pieces -/
theorem byte_list (s : ByteArray) (i : Nat) : byteAt s i = (s.data.toList.getD i 0).toNat := rfl

set_option maxRecDepth 10000 in
theorem spec_l01Cut (s : ByteArray) (w : World) (hs : s.size ≤ 1048576) :
    Calls Tryd.prog 89 #[.string s, .int .u8 44] w fun e w' => ∃ (a : Option Addr) (cap : Nat) (Ps : List ByteArray), e = .returned (.slice a Ps.length cap) ∧ Ps.map (·.data.toList) = cutL s.data.toList ∧ Below w.heap.size w w' ∧ rowV w' 9 w.heap.size a (Ps.map Value.string) := by
  go_enter Tryd.func89, Tryd.ntmps89
  go_wp2
  go_loopg [5, 6, 7] (s.size + 2) (fun g o fr i wr => ∃ (j f : Nat) (Ps : List ByteArray) (a : Option Addr) (cap : Nat), g + j = s.size + 2 ∧ o = .slice a Ps.length cap ∧ fr = .int .i64 f ∧ i = .int .i64 j ∧ f ≤ j ∧ j ≤ s.size + 1 ∧ Ps.length ≤ j ∧
    Hid ((j ≤ s.size ∧ Cut s.data.toList (Ps.map (·.data.toList)) f ∧ ∀ k, f ≤ k → k < j → s.data.toList.getD k 0 ≠ 44) ∨ (j = s.size + 1 ∧ Ps.map (·.data.toList) = cutL s.data.toList)) ∧
    Hid (ownV wr 9 w.heap.size (.slice a Ps.length cap) (Ps.map Value.string)) ∧ Hid (Below w.heap.size w wr))
  case atStart => exact ⟨0, 0, [], _, _, rfl, rfl, rfl, rfl, by omega, by omega, by simp, Or.inl ⟨by omega, Cut.start _, fun k h1 h2 => absurd h2 (by omega)⟩, ownV.empty _ _ _ (Nat.le_refl _), (Below.refl _ _).alloc (Nat.le_refl _) _⟩
  case round =>
    obtain ⟨j, f, Ps, a, cap, hj, rfl, rfl, rfl, hf, hjs, hPs, hc, hown, hb⟩ := hrel
    have hsz := Lib.hid hb.out.size
    by_cases hlt : j < s.size
    · have hbv := byteAt_eq hlt
      have hb2 := byteAt_lt s j
      have hc1 : Cut s.data.toList (Ps.map (·.data.toList)) f ∧ ∀ k, f ≤ k → k < j → s.data.toList.getD k 0 ≠ 44 := by
        rcases hc.out with ⟨_, h1, h2⟩ | ⟨h1, _⟩
        · exact ⟨h1, h2⟩
        · omega
      have hlen : s.data.toList.length = s.size := by simp
      by_cases h44 : byteAt s j = 44
      · have hst := hc1.1.step hf (by omega) hc1.2 (UInt8.toNat_inj.1 h44)
        have HST := Lib.hid hst
        generalize byteAt s j = x at hbv hb2 h44
        subst h44
        clear hst hc1 hc
        go_wp2_with (at_builtin; refine wpList_append_val 76 9 (.string ⟨#[]⟩) 16 Tryd.underlying76 info_str rfl (by decide) (.string (s.extract f j)) rfl rfl (.tmp 26) (.tmp 31) rfl w.heap.size _ (Ps.map Value.string) wr _ rfl rfl rfl hown.out hsz.out (by simp; omega) ?_; intro ad cap' w' hown' hbel')
        go_roundg (gk - 1)
        case measure => omega
        case rel => exact ⟨j + 1, j + 1, Ps ++ [s.extract f j], ad, cap', by omega, by simp, by go_num, by go_num, by omega, by omega, by simp; omega, Or.inl ⟨by omega, by simpa [extract_data] using HST.out, fun k h1 h2 => absurd h2 (by omega)⟩, Lib.hid (by simpa using hown'), hb.out.trans hbel'⟩
      · have HC1 := Lib.hid hc1.1
        have HC2 : Hid (∀ k, f ≤ k → k < j + 1 → s.data.toList.getD k 0 ≠ 44) := by
          intro k h1 h2
          by_cases hk : k = j
          · subst hk
            intro e
            exact h44 (by rw [byte_list, e]; rfl)
          · exact hc1.2 k h1 (by omega)
        have h45 : ((byteAt s j : Int) == 44) = false := by rw [beq_eq_false_iff_ne]; omega
        generalize byteAt s j = x at hbv hb2 h44 h45
        have h46 : ¬ (x : Int) = 44 := by omega
        clear hc1 hc h44
        go_wp2
        go_roundg (gk - 1)
        case measure => omega
        case rel => exact ⟨j + 1, f, Ps, a, cap, by omega, rfl, rfl, by go_num, by omega, by omega, by omega, Or.inl ⟨by omega, HC1.out, HC2.out⟩, hown.out, hb.out⟩
    · by_cases heq : j = s.size
      · subst heq
        have hc1 : Cut s.data.toList (Ps.map (·.data.toList)) f ∧ ∀ k, f ≤ k → k < s.size → s.data.toList.getD k 0 ≠ 44 := by
          rcases hc.out with ⟨_, h1, h2⟩ | ⟨h1, _⟩
          · exact ⟨h1, h2⟩
          · omega
        have hlen : s.data.toList.length = s.size := by simp
        have hd := hc1.1.done (by omega) (by rw [hlen]; exact hc1.2)
        rw [hlen] at hd
        have HD := Lib.hid hd
        clear hc1 hc hd
        go_wp2_with (at_builtin; refine wpList_append_val 76 9 (.string ⟨#[]⟩) 16 Tryd.underlying76 info_str rfl (by decide) (.string (s.extract f s.size)) rfl rfl (.tmp 26) (.tmp 31) rfl w.heap.size _ (Ps.map Value.string) wr _ rfl rfl rfl hown.out hsz.out (by simp; omega) ?_; intro ad cap' w' hown' hbel')
        go_roundg (gk - 1)
        case measure => omega
        case rel => exact ⟨s.size + 1, s.size + 1, Ps ++ [s.extract f s.size], ad, cap', by omega, by simp, by go_num, by go_num, by omega, by omega, by simp; omega, Or.inr ⟨rfl, by rw [HD.out]; simp⟩, Lib.hid (by simpa using hown'), hb.out.trans hbel'⟩
      · have hj1 : j = s.size + 1 := by omega
        have hd : Ps.map (·.data.toList) = cutL s.data.toList := by
          rcases hc.out with ⟨h1, _⟩ | ⟨_, h1⟩
          · omega
          · exact h1
        have HD := Lib.hid hd
        subst hj1
        clear hc hd
        go_wp2
        go_ret
        obtain ⟨a2, cap2, e2, hr2⟩ := hown.out.row
        obtain ⟨rfl, rfl⟩ : a = a2 ∧ cap = cap2 := by simpa using e2
        exact ⟨_, _, Ps, rfl, HD.out, hb.out, hr2⟩
end Go.Proofs.YthegbaaelccekaaDoor
