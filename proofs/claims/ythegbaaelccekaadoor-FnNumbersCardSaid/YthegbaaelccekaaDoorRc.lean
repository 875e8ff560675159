/-
  ReadList in the reference and in the program. Condition: the listed variables read as listed, internal/bytealg.MaxLen holds some number; a text of at most 2^20 bytes.
-/
import Derived.Test.YthegbaaelccekaaDoorMk
namespace Go.Proofs.YthegbaaelccekaaDoor
open Go.RowKit Go.Lib Go.Joins

theorem cutL_len {l : List UInt8} : ∀ x ∈ cutL l, x.length ≤ l.length := by
  induction l with
  | nil => intro x hx; rw [cutL.eq_1] at hx; simp at hx; subst hx; simp
  | cons c r ih =>
    intro x hx
    rw [cutL.eq_2] at hx
    split at hx
    · rcases List.mem_cons.1 hx with rfl | hx
      · simp
      · have := ih x hx; simp; omega
    · rcases h : cutL r with _ | ⟨y, ys⟩
      · rw [h] at hx; simp [onto] at hx; subst hx; simp
      · rw [h] at hx ih
        rcases List.mem_cons.1 hx with rfl | hx
        · have := ih y (by simp); simp; omega
        · have := ih x (by simp [hx]); simp; omega
/-- The first j pieces are numbers. -/
def okP (Ps : List ByteArray) : Nat → Bool
  | 0 => true
  | j + 1 => okP Ps j && okD (Ps.getD j ⟨#[]⟩)
theorem okP_false {Ps : List ByteArray} {j n : Nat} (hj : j < n) (h : okD (Ps.getD j ⟨#[]⟩) = false) : okP Ps n = false := by
  induction n with
  | zero => omega
  | succ k ih =>
    by_cases hk : j = k
    · subst hk; unfold okP; rw [h, Bool.and_false]
    · unfold okP; rw [ih (by omega), Bool.false_and]
/-- The numbers of the first j pieces. -/
def numP (Ps : List ByteArray) (j : Nat) : List Int := (Ps.take j).map numDv
theorem numP_step {Ps : List ByteArray} {j : Nat} (h : j < Ps.length) : numP Ps (j + 1) = numP Ps j ++ [numDv (Ps.getD j ⟨#[]⟩)] := by
  unfold numP
  rw [List.take_add_one, List.getElem?_eq_getElem h, List.map_append, List.getD_eq_getElem?_getD, List.getElem?_eq_getElem h]; rfl
def okQ (Ps : List ByteArray) : Bool := decide (Ps.length ≤ 64) && okP Ps Ps.length
def numQ (Ps : List ByteArray) : List Int := if okQ Ps = true then numP Ps Ps.length else []
/-- Pieces are told by their bytes. -/
theorem pieces_eq {Ps Qs : List ByteArray} (h : Ps.map (·.data.toList) = Qs.map (·.data.toList)) : Ps = Qs := by
  induction Ps generalizing Qs with
  | nil => rcases Qs with _ | ⟨q, qs⟩
           · rfl
           · simp at h
  | cons p ps ih =>
    rcases Qs with _ | ⟨q, qs⟩
    · simp at h
    · simp only [List.map_cons, List.cons.injEq] at h
      have : p = q := by
        rcases p with ⟨⟨p⟩⟩; rcases q with ⟨⟨q⟩⟩
        have := h.1; simp at this; rw [this]
      rw [this, ih h.2]
/-- The pieces of a text. -/
noncomputable def pcs (s : ByteArray) : List ByteArray := splitB ⟨#[44]⟩ 0 (countB s ⟨#[44]⟩) s
theorem pcs_of {s : ByteArray} {Ps : List ByteArray} (h : Ps.map (·.data.toList) = cutL s.data.toList) : Ps = pcs s := pieces_eq (h.trans (splitB_cut s).symm)
theorem pcs_size {s : ByteArray} {i : Nat} (h : i < (pcs s).length) : ((pcs s).getD i ⟨#[]⟩).size ≤ s.size := by
  have h1 : ((pcs s).getD i ⟨#[]⟩).data.toList ∈ cutL s.data.toList := by
    rw [← splitB_cut s]
    refine List.mem_map.2 ⟨_, ?_, rfl⟩
    rw [List.getD_eq_getElem?_getD, List.getElem?_eq_getElem h]
    exact List.getElem_mem h
  have := cutL_len _ h1
  simpa using this
def isNone (s : ByteArray) : Prop := s.data.toList = noneL
theorem isNone_eq {s : ByteArray} (h : isNone s) : s = ⟨#[110, 111, 110, 101]⟩ := ((text_eq s noneL).2 h.symm).symm
noncomputable def okR (s : ByteArray) : Bool := by classical exact if isNone s then true else okQ (pcs s)
noncomputable def numR (s : ByteArray) : List Int := by classical exact if isNone s then [] else numQ (pcs s)

def ivals (zs : List Int) : List Value := zs.map (Value.int .i64)
theorem ivals_len (zs : List Int) : (ivals zs).length = zs.length := by simp [ivals]
/-- What a reader of lists hands back. -/
def readsL (s : ByteArray) (w w' : World) (e : Ending) : Prop := ∃ (a : Option Addr) (cap : Nat), e = .returned (.tuple #[.slice a (numR s).length cap, .bool (okR s)]) ∧ Below w.heap.size w w' ∧ rowV w' 2 w.heap.size a (ivals (numR s))
theorem readsL.mk {s : ByteArray} {w w' : World} {v : Value} {zs : List Int} {b : Bool} (hb : Below w.heap.size w w') (ho : okR s = b) (hz : numR s = zs) (hown : ownV w' 2 w.heap.size v (ivals zs)) : readsL s w w' (.returned (.tuple #[v, .bool b])) := by
  subst ho hz
  obtain ⟨a, cap, rfl, hr⟩ := hown.row
  exact ⟨a, cap, by rw [ivals_len], hb, hr⟩
theorem str_cell {Ps : List ByteArray} {j : Nat} (h : j < Ps.length) : (Ps.map Value.string).getD j undef = .string (Ps.getD j ⟨#[]⟩) := by
  rw [List.getD_eq_getElem?_getD, List.getElem?_map, List.getElem?_eq_getElem h, List.getD_eq_getElem?_getD, List.getElem?_eq_getElem h]; rfl
/-- A list whose elements are of another type stays, whatever is added to one's own. -/
theorem rowV.keep {w w' : World} {e e' : TypeId} {B B' : Nat} {a : Option Addr} {us : List Value} {v : Value} {vs : List Value} (h : rowV w e B a us) (hown : ownV w e' B' v vs) (hne : (e == e') = false) (hk : ∀ k, k < w.heap.size → some k ≠ v.ownBlock → w'.heap[k]? = w.heap[k]?) : rowV w' e B a us := by
  rcases h with h | ⟨g, rfl, hB, n, f, hn, hr, hf⟩
  · exact Or.inl h
  · refine Or.inr ⟨g, rfl, hB, n, f, hn, World.rowIs.of_block hr (hk _ (lt_of_rowIs hr) fun hg => ?_), hf⟩
    obtain ⟨c, hc, _⟩ := hr
    rcases hown.2 with ⟨rfl, _⟩ | ⟨g', cap, cur, rfl, _, hg', _⟩
    · cases hg
    · cases hg
      rw [hc] at hg'
      injection hg' with h1
      injection h1 with _ h2 _
      rw [h2] at hne
      simp at hne
/-- One value added to a list of the call's own: what else stood stays. -/
theorem wpList_append_keep {ops : Array Oper} {rest : List Oper} {o : Oper} {a : Act} {Q : Exit → Act → World → Prop} (t e : TypeId) (z : Value) (by_ : Nat) (ht : Tryd.prog.underlying t = some (.slice e))
    (hinfo : (Tryd.prog.info? e).map (fun i => (i.zero, i.size, i.bytes)) = some (some z, 1, by_)) (hzs : z.cells.size = 1) (hby : by_ ≤ 16) (u : Value) (hu : u.oneCell' = true)
    (hgd : o.guard = none) (s x : Operand) (ho : o.op = .call { callee := .builtin .append, args := #[s, x], argTypes := #[t, t] }) (B : Nat) (v : Value) (us : List Value) (W : World) (g : Nat)
    (hs : a.eval s = v) (hx : a.eval x = .slice (some ⟨g, 0, none⟩) 1 1) (hg : W.heap.size = g) (hown : ownV W e B v us) (hB : B ≤ W.heap.size) (hl : us.length ≤ 2000000)
    (h : ∀ ad cap w', ownV w' e B (.slice ad (us.length + 1) cap) (us ++ [u]) → Below B W w' → (∀ k, k < W.heap.size → some k ≠ v.ownBlock → w'.heap[k]? = W.heap[k]?) → wpList Tryd.prog ops Q rest (a.put o.dst (.slice ad (us.length + 1) cap)) w') :
    wpList Tryd.prog ops Q (o :: rest) a (W.alloc (.cells #[u] e)) := by
  subst hg
  obtain ⟨i0, hi, hz0, hz1, hz2⟩ := info_parts hinfo
  refine wpList_append_own _ hgd s x t ho B e i0 z 1 by_ ht hi hz0 hz1 hz2 hzs (by decide) v us.length us hs (World.ownsRow.alloc hown _) ⟨W.heap.size, 0, none⟩ 1 1 [u] hx rfl ?_ ?_ (by unfold maxLen; omega) ?_ (by rw [World.size_alloc]; omega) ?_
  · intro j u' hj
    match j, hj with
    | 0, hj => simp at hj; subst hj; simp [Addr.add]
  · intro u' hu'; simp at hu'; subst hu'; exact hu
  · have := Nat.mul_le_mul_left (us.length + 1) hby
    omega
  · intro v' w' h1 h2 _
    have h3 : ownV w' e B v' (us ++ [u]) := by
      unfold ownV
      rw [List.length_append]
      exact h1
    obtain ⟨ad, cap, hv, _⟩ := h3.row
    have hv' : v' = .slice ad (us.length + 1) cap := by rw [hv, List.length_append]; rfl
    rw [hv'] at h3 ⊢
    have hA := (Below.refl W.heap.size W).alloc (Nat.le_refl _) (.cells #[u] e)
    exact h ad cap w' h3 (((Below.refl B W).alloc hB _).grown h2 (by rw [World.size_alloc]; omega) (fun k hk => (World.ownsRow.lt hown k hk).1)) (fun k hk hne => (h2.block k (by rw [World.size_alloc]; omega) hne).trans (hA.block k hk))
theorem okQ_short {Ps : List ByteArray} (h : 64 < Ps.length) : okQ Ps = false := by unfold okQ; rw [decide_eq_false (by omega), Bool.false_and]
theorem numQ_not {Ps : List ByteArray} (h : okQ Ps = false) : numQ Ps = [] := by unfold numQ; rw [h]; rfl
theorem okQ_all {Ps : List ByteArray} (h : Ps.length ≤ 64) (ha : okP Ps Ps.length = true) : okQ Ps = true ∧ numQ Ps = numP Ps Ps.length := by
  have h1 : okQ Ps = true := by unfold okQ; rw [decide_eq_true h, ha]; rfl
  exact ⟨h1, by unfold numQ; rw [h1]; rfl⟩
theorem okQ_bad {Ps : List ByteArray} {j : Nat} (hj : j < Ps.length) (h : okD (Ps.getD j ⟨#[]⟩) = false) : okQ Ps = false := by unfold okQ; rw [okP_false hj h, Bool.and_false]

set_option maxRecDepth 10000 in
theorem spec_l01Numbers (s : ByteArray) (w : World) (hs : s.size ≤ 1048576) :
    Calls Tryd.prog 59 #[.string s] w fun e w' => readsL s w w' e := by
  by_cases hn : isNone s
  · have ho : okR s = true ∧ numR s = [] := ⟨if_pos hn, if_pos hn⟩
    have HO := Lib.hid ho
    have e := isNone_eq hn
    clear hn ho
    subst e
    go_enter Tryd.func59, Tryd.ntmps59
    go_wp2
    go_ret2
    exact readsL.mk ((Below.refl _ _).alloc (Nat.le_refl _) _) HO.out.1 HO.out.2 (ownV.empty _ _ _ (Nat.le_refl _))
  · have ho : okR s = okQ (pcs s) ∧ numR s = numQ (pcs s) := ⟨if_neg hn, if_neg hn⟩
    have HO := Lib.hid ho
    have hne : (s.toList == [110, 111, 110, 101]) = false := by
      rw [ByteArray.toList_eq, beq_eq_false_iff_ne]; exact hn
    have hpz : ∀ i, i < (pcs s).length → ((pcs s).getD i ⟨#[]⟩).size ≤ 1048576 := fun i hi => Nat.le_trans (pcs_size hi) hs
    have HPZ := Lib.hid hpz
    clear hn ho hpz
    go_enter Tryd.func59, Tryd.ntmps59
    go_wp2_with fail
    refine (spec_l01Cut s _ hs).mono ?_
    rintro e w1 ⟨pa, pc, Ps, rfl, hP, b1, hR⟩
    obtain rfl := pcs_of hP
    have b1' : Below w.heap.size w w1 := ((Below.refl _ _).alloc (Nat.le_refl _) _).trans (b1.mono (by simp))
    have O1 := Lib.hid ((ownV.empty w 2 _ (Nat.le_refl _)).on b1 (Nat.le_refl _))
    have HB1 := Lib.hid b1'
    have HR1 := Lib.hid hR
    clear b1 b1' hR hP
    generalize hPs : pcs s = Ps at *
    have HPs := Lib.hid hPs
    clear hPs
    by_cases h64 : (64 : Int) < Ps.length
    · have hq := okQ_short (Ps := Ps) (by omega)
      have HQ := Lib.hid hq
      clear hq
      go_wp2
      go_ret2
      exact readsL.mk HB1.out (HO.out.1.trans HQ.out) (HO.out.2.trans (numQ_not HQ.out)) (ownV.nil _ _ _)
    · go_wp2_with fail
      go_loopg [4, 6] Ps.length (fun g o i wr => ∃ (j : Nat) (a : Option Addr) (cap : Nat), g + j = Ps.length ∧ o = .slice a j cap ∧ i = .int .i64 j ∧ Hid (okP Ps j = true) ∧ Hid (ownV wr 2 w.heap.size (.slice a j cap) (ivals (numP Ps j))) ∧ Hid (Below w.heap.size w wr) ∧ Hid (∃ B, rowV wr 9 B pa (Ps.map Value.string)))
      case atStart => exact ⟨0, _, _, by omega, rfl, rfl, rfl, O1.out, HB1.out, ⟨_, HR1.out⟩⟩
      case round =>
        obtain ⟨j, a, cap, hj, rfl, rfl, hok, hown, hb, hrow⟩ := hrel
        obtain ⟨B, hrow⟩ := hrow.out
        have HROW := Lib.hid hrow
        by_cases hlt : j < Ps.length
        · obtain ⟨gp, rfl, _, hcell⟩ := hrow.cell (i := j) (by simpa using hlt)
          rw [str_cell hlt] at hcell
          have hbad := Lib.hid (okQ_bad (Ps := Ps) hlt)
          have hgood : okD (Ps.getD j ⟨#[]⟩) = true → okP Ps (j + 1) = true := fun h => by unfold okP; rw [hok.out, h]; rfl
          have HG := Lib.hid hgood
          have HN := Lib.hid (numP_step hlt)
          have hz := HPZ.out j hlt
          generalize Ps.getD j ⟨#[]⟩ = p at *
          clear hgood hrow
          cases hd : okD p
          · have HQ := Lib.hid (hbad.out hd)
            have HD := Lib.hid hd
            clear hd
            go_wp2_with (go_at_call 52; refine (spec_l01Value p _ hz).mono ?_; rw [HD.out]; rintro e w2 ⟨rfl, b2⟩)
            go_ret2
            exact readsL.mk (hb.out.trans (b2.mono hb.out.size)) (HO.out.1.trans HQ.out) (HO.out.2.trans (numQ_not HQ.out)) (ownV.nil _ _ _)
          · have HK := Lib.hid (HG.out hd)
            have HD := Lib.hid hd
            clear hd
            go_wp2_with (first
              | (go_at_call 52; refine (spec_l01Value p _ hz).mono ?_; rw [HD.out]; rintro e w2 ⟨rfl, b2⟩; have O2 := Lib.hid (hown.out.on b2 (Nat.le_refl _)); have B2 := Lib.hid (hb.out.trans (b2.mono hb.out.size)); have R2 := Lib.hid (HROW.out.stays b2); clear b2)
              | (at_builtin; refine wpList_append_keep 27 2 (.int .i64 0) 8 Tryd.underlying27 info_i64 rfl (by decide) (.int .i64 (numDv p)) rfl rfl (.tmp 34) (.tmp 36) rfl w.heap.size _ (ivals (numP Ps j)) w2 _ rfl rfl rfl O2.out B2.out.size (by rw [ivals_len]; unfold numP; simp; omega) ?_; intro ad cap' w' hown' hbel' hkeep; have R3 := Lib.hid (R2.out.keep O2.out (by decide) hkeep); have O3 := Lib.hid hown'; have B3 := Lib.hid (B2.out.trans hbel'); clear hown' hbel' hkeep))
            go_roundg (gk - 1)
            case measure => omega
            case rel =>
              have hl : (ivals (numP Ps j)).length = j := by rw [ivals_len]; unfold numP; simp; omega
              have O4 := O3.out
              rw [hl] at O4
              have e : ivals (numP Ps (j + 1)) = ivals (numP Ps j) ++ [.int .i64 (numDv p)] := by rw [HN.out]; simp [ivals]
              exact ⟨j + 1, ad, cap', by omega, by rw [hl], by go_num, HK.out, by rw [e]; exact O4, B3.out, ⟨_, R3.out⟩⟩
        · have hjn : j = Ps.length := by omega
          have hq := okQ_all (Ps := Ps) (by omega) (by rw [← hjn]; exact hok.out)
          have HQ := Lib.hid hq
          have HJ := Lib.hid hjn
          clear hq hrow
          go_wp2
          go_ret2
          exact readsL.mk hb.out (HO.out.1.trans HQ.out.1) (HO.out.2.trans (HQ.out.2.trans (by rw [← HJ.out]))) hown.out

theorem spec_ReadList (s : ByteArray) (w : World) (hs : s.size ≤ 1048576) :
    Calls Tryd.prog 19 #[.string s] w fun e w' => readsL s w w' e := by
  go_enter Tryd.func19, Tryd.ntmps19
  go_wp2_with fail
  refine (spec_l01Numbers s _ hs).mono ?_
  rintro e w1 ⟨a, cap, rfl, b1, hr⟩
  have HB := Lib.hid b1
  have HR := Lib.hid hr
  clear b1 hr
  go_wp2
  go_ret2
  exact ⟨a, cap, rfl, HB.out, HR.out⟩

def MaxLenIs (w : World) : Prop := ∃ m : Int, w.cell? ⟨4, 0, none⟩ = some (.int .i64 m)
theorem MaxLenIs.on {B : Nat} {w w' : World} (h : MaxLenIs w) (hb : Below B w w') (hB : w.heap.size ≤ B) : MaxLenIs w' := by
  obtain ⟨m, hm⟩ := h
  exact ⟨m, (hb.cell (p := ⟨4, 0, none⟩) (Nat.lt_of_lt_of_le (World.block_lt_of_cell? _ _ hm) hB)).trans hm⟩
/-- strings.Split at ",". -/
theorem split_pcs (s : ByteArray) (w : World) (hs : s.size ≤ 1048576) (hm : Hid (MaxLenIs w)) :
    Calls Tryd.prog 60 #[.string s, .string ⟨#[44]⟩] w fun e w' => ∃ g : Nat, e = .returned (.slice (some ⟨g, 0, none⟩) (pcs s).length (pcs s).length) ∧ Below w.heap.size w w' ∧ Hid (rowV w' 9 g (some ⟨g, 0, none⟩) ((pcs s).map Value.string)) ∧ Hid ((pcs s).length ≤ s.size + 1) := by
  obtain ⟨m, hm⟩ := hm.out
  refine (Tryd.strings_Split s ⟨#[44]⟩ m w (by omega) hm (by decide)).mono ?_
  rintro e w' ⟨rfl, rfl⟩
  have hl : (pcs s).length = countB s ⟨#[44]⟩ + 1 := splitB_all ⟨#[44]⟩ (by decide) 0 _ s rfl
  have hc := countB_le ⟨#[44]⟩ (by decide) s.size s (Nat.le_refl _)
  refine ⟨w.heap.size, by rw [hl], (Below.refl _ _).alloc (Nat.le_refl _) _, Or.inr ⟨w.heap.size, rfl, Nat.le_refl _, (pcs s).length, fun i => ((pcs s).map Value.string).getD i undef, by simp, ?_, fun i _ => rfl⟩, by show _ ≤ _; omega⟩
  have := World.rowIs_alloc w ((pcs s).map Value.string).toArray 9 (fun i => ((pcs s).map Value.string).getD i undef) (fun i hi => by
    rw [List.getD_eq_getElem?_getD]
    have hi' : i < ((pcs s).map Value.string).length := by simpa using hi
    rw [List.getElem?_eq_getElem hi']
    simp [List.getElem?_eq_getElem hi'])
  have e : ((pcs s).map Value.string).toArray.size = (pcs s).length := by simp
  rw [e] at this
  exact this

set_option maxRecDepth 10000 in
theorem impl_ReadList (s : ByteArray) (w : World) (hs : s.size ≤ 1048576) (hm : Hid (MaxLenIs w)) (ht : Hid (Tab w)) (he : Hid (Errs w)) :
    Calls Tryd.prog 20 #[.string s] w fun e w' => readsL s w w' e := by
  by_cases hn : isNone s
  · have ho : okR s = true ∧ numR s = [] := ⟨if_pos hn, if_pos hn⟩
    have HO := Lib.hid ho
    have e := isNone_eq hn
    clear hn ho
    subst e
    go_enter Tryd.func20, Tryd.ntmps20
    go_wp2
    go_ret2
    exact readsL.mk (Below.refl _ _) HO.out.1 HO.out.2 (ownV.nil _ _ _)
  · have ho : okR s = okQ (pcs s) ∧ numR s = numQ (pcs s) := ⟨if_neg hn, if_neg hn⟩
    have HO := Lib.hid ho
    have hne : (s.toList == [110, 111, 110, 101]) = false := by
      rw [ByteArray.toList_eq, beq_eq_false_iff_ne]; exact hn
    have hpz : ∀ i, i < (pcs s).length → ((pcs s).getD i ⟨#[]⟩).size ≤ 1048576 := fun i hi => Nat.le_trans (pcs_size hi) hs
    have HPZ := Lib.hid hpz
    clear hn ho hpz
    go_enter Tryd.func20, Tryd.ntmps20
    go_wp2_with fail
    refine (split_pcs s _ hs hm).mono ?_
    rintro e w1 ⟨g0, rfl, b1, HR1, hlen⟩
    have HB1 := Lib.hid b1
    generalize hPs : pcs s = Ps at *
    have HPs := Lib.hid hPs
    have hlen2 : Ps.length ≤ 1048577 := by have := hlen.out; omega
    clear hPs b1
    go_wp2_with fail
    go_loopg [4, 14] Ps.length (fun g o i wr => ∃ (j : Nat) (a : Option Addr) (cap : Nat), g + j = Ps.length ∧ o = .slice a j cap ∧ i = .int .i64 j ∧ j ≤ 64 ∧ Hid (okP Ps j = true) ∧ Hid (ownV wr 2 w.heap.size (.slice a j cap) (ivals (numP Ps j))) ∧ Hid (Below w.heap.size w wr) ∧ Hid (∃ B, rowV wr 9 B (some ⟨g0, 0, none⟩) (Ps.map Value.string)))
    case atStart => exact ⟨0, _, _, by omega, rfl, rfl, by omega, rfl, ownV.nil _ _ _, HB1.out, ⟨_, HR1.out⟩⟩
    case round =>
      obtain ⟨j, a, cap, hj, rfl, rfl, hj64, hok, hown, hb, hrow⟩ := hrel
      obtain ⟨B, hrow⟩ := hrow.out
      have HROW := Lib.hid hrow
      by_cases hlt : j < Ps.length
      · obtain ⟨gp, hgp, _, hcell⟩ := hrow.cell (i := j) (by simpa using hlt)
        cases hgp
        rw [str_cell hlt] at hcell
        have hbad := Lib.hid (okQ_bad (Ps := Ps) hlt)
        have hgood : okD (Ps.getD j ⟨#[]⟩) = true → okP Ps (j + 1) = true := fun h => by unfold okP; rw [hok.out, h]; rfl
        have HG := Lib.hid hgood
        have HN := Lib.hid (numP_step hlt)
        have hz := HPZ.out j hlt
        generalize Ps.getD j ⟨#[]⟩ = p at *
        clear hgood hrow
        have HT := Lib.hid (ht.out.on hb.out (Nat.le_refl _))
        have HE := Lib.hid (he.out.on hb.out (Nat.le_refl _))
        cases hd : okD p
        · have HQ := Lib.hid (hbad.out hd)
          have HD := Lib.hid hd
          clear hd
          go_wp2_with (go_at_call 14; refine (impl_ReadDecimal p _ hz HT HE).mono ?_; rw [HD.out]; rintro e w2 ⟨rfl, b2⟩)
          go_ret2
          exact readsL.mk (hb.out.trans (b2.mono hb.out.size)) (HO.out.1.trans HQ.out) (HO.out.2.trans (numQ_not HQ.out)) (ownV.nil _ _ _)
        · have HK := Lib.hid (HG.out hd)
          have HD := Lib.hid hd
          clear hd
          by_cases h64 : j = 64
          · have hq := okQ_short (Ps := Ps) (by omega)
            have HQ := Lib.hid hq
            have h64' : ((j : Int) == 64) = true := by rw [beq_iff_eq]; omega
            clear hq
            subst h64
            go_wp2_with (go_at_call 14; refine (impl_ReadDecimal p _ hz HT HE).mono ?_; rw [HD.out]; rintro e w2 ⟨rfl, b2⟩)
            go_ret2
            exact readsL.mk (hb.out.trans (b2.mono hb.out.size)) (HO.out.1.trans HQ.out) (HO.out.2.trans (numQ_not HQ.out)) (ownV.nil _ _ _)
          · have h64' : ((j : Int) == 64) = false := by rw [beq_eq_false_iff_ne]; omega
            go_wp2_with (first
              | (go_at_call 14; refine (impl_ReadDecimal p _ hz HT HE).mono ?_; rw [HD.out]; rintro e w2 ⟨rfl, b2⟩; have O2 := Lib.hid (hown.out.on b2 (Nat.le_refl _)); have B2 := Lib.hid (hb.out.trans (b2.mono hb.out.size)); have R2 := Lib.hid (HROW.out.stays b2); clear b2)
              | (at_builtin; refine wpList_append_keep 27 2 (.int .i64 0) 8 Tryd.underlying27 info_i64 rfl (by decide) (.int .i64 (numDv p)) rfl rfl (.tmp 30) (.tmp 32) rfl w.heap.size _ (ivals (numP Ps j)) w2 _ rfl rfl rfl O2.out B2.out.size (by rw [ivals_len]; unfold numP; simp; omega) ?_; intro ad cap' w' hown' hbel' hkeep; have R3 := Lib.hid (R2.out.keep O2.out (by decide) hkeep); have O3 := Lib.hid hown'; have B3 := Lib.hid (B2.out.trans hbel'); clear hown' hbel' hkeep))
            go_roundg (gk - 1)
            case measure => omega
            case rel =>
              have hl : (ivals (numP Ps j)).length = j := by rw [ivals_len]; unfold numP; simp; omega
              have O4 := O3.out
              rw [hl] at O4
              have e : ivals (numP Ps (j + 1)) = ivals (numP Ps j) ++ [.int .i64 (numDv p)] := by rw [HN.out]; simp [ivals]
              exact ⟨j + 1, ad, cap', by omega, by rw [hl], by go_num, by omega, HK.out, by rw [e]; exact O4, B3.out, ⟨_, R3.out⟩⟩
      · have hjn : j = Ps.length := by omega
        have hq := okQ_all (Ps := Ps) (by omega) (by rw [← hjn]; exact hok.out)
        have HQ := Lib.hid hq
        have HJ := Lib.hid hjn
        clear hq hrow
        go_wp2
        go_ret2
        exact readsL.mk hb.out (HO.out.1.trans HQ.out.1) (HO.out.2.trans (HQ.out.2.trans (by rw [← HJ.out]))) hown.out
end Go.Proofs.YthegbaaelccekaaDoor
