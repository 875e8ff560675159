/-
  ReadList in the reference and in the program. Condition: the listed variables read as listed, internal/bytealg.MaxLen holds some number; a text of at most 2^20 bytes.
-/
import Derived.Test.YtmiajfdhdpmeoaaGreatDoorMk
namespace Go.Proofs.YtmiajfdhdpmeoaaGreatDoor
open Go.RowKit Go.Lib Go.Joins

theorem cutL_len {l : List UInt8} : ∀ x ∈ cutL l, x.length ≤ l.length := by
  induction l with
  | nil => intro x hx; rw [cutL.eq_1] at hx; simp at hx; subst hx; simp
  | cons c r ih =>
    intro x hx
    rw [cutL.eq_2] at hx
    split at hx
    · rcases List.mem_cons.1 hx with rfl | hx
      · simp
      · have := ih x hx; simp; omega
    · rcases h : cutL r with _ | ⟨y, ys⟩
      · rw [h] at hx; simp [onto] at hx; subst hx; simp
      · rw [h] at hx ih
        rcases List.mem_cons.1 hx with rfl | hx
        · have := ih y (by simp); simp; omega
        · have := ih x (by simp [hx]); simp; omega
/-- The first j pieces are numbers. -/
def okP (Ps : List ByteArray) : Nat → Bool
  | 0 => true
  | j + 1 => okP Ps j && okD (Ps.getD j ⟨#[]⟩)
theorem okP_false {Ps : List ByteArray} {j n : Nat} (hj : j < n) (h : okD (Ps.getD j ⟨#[]⟩) = false) : okP Ps n = false := by
  induction n with
  | zero => omega
  | succ k ih =>
    by_cases hk : j = k
    · subst hk; unfold okP; rw [h, Bool.and_false]
    · unfold okP; rw [ih (by omega), Bool.false_and]
/-- The numbers of the first j pieces. -/
def numP (Ps : List ByteArray) (j : Nat) : List Int := (Ps.take j).map numDv
theorem numP_step {Ps : List ByteArray} {j : Nat} (h : j < Ps.length) : numP Ps (j + 1) = numP Ps j ++ [numDv (Ps.getD j ⟨#[]⟩)] := by
  unfold numP
  rw [List.take_add_one, List.getElem?_eq_getElem h, List.map_append, List.getD_eq_getElem?_getD, List.getElem?_eq_getElem h]; rfl
def okQ (Ps : List ByteArray) : Bool := decide (Ps.length ≤ 64) && okP Ps Ps.length
def numQ (Ps : List ByteArray) : List Int := if okQ Ps = true then numP Ps Ps.length else []
/-- Pieces are told by their bytes. -/
theorem pieces_eq {Ps Qs : List ByteArray} (h : Ps.map (·.data.toList) = Qs.map (·.data.toList)) : Ps = Qs := by
  induction Ps generalizing Qs with
  | nil => rcases Qs with _ | ⟨q, qs⟩
           · rfl
           · simp at h
  | cons p ps ih =>
    rcases Qs with _ | ⟨q, qs⟩
    · simp at h
    · simp only [List.map_cons, List.cons.injEq] at h
      have : p = q := by
        rcases p with ⟨⟨p⟩⟩; rcases q with ⟨⟨q⟩⟩
        have := h.1; simp at this; rw [this]
      rw [this, ih h.2]
/-- The pieces of a text. -/
noncomputable def pcs (s : ByteArray) : List ByteArray := splitB ⟨#[44]⟩ 0 (countB s ⟨#[44]⟩) s
theorem pcs_of {s : ByteArray} {Ps : List ByteArray} (h : Ps.map (·.data.toList) = cutL s.data.toList) : Ps = pcs s := pieces_eq (h.trans (splitB_cut s).symm)
theorem pcs_size {s : ByteArray} {i : Nat} (h : i < (pcs s).length) : ((pcs s).getD i ⟨#[]⟩).size ≤ s.size := by
  have h1 : ((pcs s).getD i ⟨#[]⟩).data.toList ∈ cutL s.data.toList := by
    rw [← splitB_cut s]
    refine List.mem_map.2 ⟨_, ?_, rfl⟩
    rw [List.getD_eq_getElem?_getD, List.getElem?_eq_getElem h]
    exact List.getElem_mem h
  have := cutL_len _ h1
  simpa using this
def isNone (s : ByteArray) : Prop := s.data.toList = noneL
theorem isNone_eq {s : ByteArray} (h : isNone s) : s = ⟨#[110, 111, 110, 101]⟩ := ((text_eq s noneL).2 h.symm).symm
noncomputable def okR (s : ByteArray) : Bool := by classical exact if isNone s then true else okQ (pcs s)
noncomputable def numR (s : ByteArray) : List Int := by classical exact if isNone s then [] else numQ (pcs s)

def ivals (zs : List Int) : List Value := zs.map (Value.int .i64)
theorem ivals_len (zs : List Int) : (ivals zs).length = zs.length := by simp [ivals]
/-- What a reader of lists hands back. -/
def readsL (s : ByteArray) (w w' : World) (e : Ending) : Prop := ∃ (a : Option Addr) (cap : Nat), e = .returned (.tuple #[.slice a (numR s).length cap, .bool (okR s)]) ∧ Below w.heap.size w w' ∧ rowV w' 2 w.heap.size a (ivals (numR s))
theorem readsL.mk {s : ByteArray} {w w' : World} {v : Value} {zs : List Int} {b : Bool} (hb : Below w.heap.size w w') (ho : okR s = b) (hz : numR s = zs) (hown : ownV w' 2 w.heap.size v (ivals zs)) : readsL s w w' (.returned (.tuple #[v, .bool b])) := by
  subst ho hz
  obtain ⟨a, cap, rfl, hr⟩ := hown.row
  exact ⟨a, cap, by rw [ivals_len], hb, hr⟩
theorem str_cell {Ps : List ByteArray} {j : Nat} (h : j < Ps.length) : (Ps.map Value.string).getD j undef = .string (Ps.getD j ⟨#[]⟩) := by
  rw [List.getD_eq_getElem?_getD, List.getElem?_map, List.getElem?_eq_getElem h, List.getD_eq_getElem?_getD, List.getElem?_eq_getElem h]; rfl
/-- A list whose elements are of another type stays, whatever is added to one's own. -/
theorem rowV.keep {w w' : World} {e e' : TypeId} {B B' : Nat} {a : Option Addr} {us : List Value} {v : Value} {vs : List Value} (h : rowV w e B a us) (hown : ownV w e' B' v vs) (hne : (e == e') = false) (hk : ∀ k, k < w.heap.size → some k ≠ v.ownBlock → w'.heap[k]? = w.heap[k]?) : rowV w' e B a us := by
  rcases h with h | ⟨g, rfl, hB, n, f, hn, hr, hf⟩
  · exact Or.inl h
  · refine Or.inr ⟨g, rfl, hB, n, f, hn, World.rowIs.of_block hr (hk _ (lt_of_rowIs hr) fun hg => ?_), hf⟩
    obtain ⟨c, hc, _⟩ := hr
    rcases hown.2 with ⟨rfl, _⟩ | ⟨g', cap, cur, rfl, _, hg', _⟩
    · cases hg
    · cases hg
      rw [hc] at hg'
      injection hg' with h1
      injection h1 with _ h2 _
      rw [h2] at hne
      simp at hne
/-- One value added to a list of the call's own: what else stood stays. -/
theorem wpList_append_keep {ops : Array Oper} {rest : List Oper} {o : Oper} {a : Act} {Q : Exit → Act → World → Prop} (t e : TypeId) (z : Value) (by_ : Nat) (ht : Tryz.prog.underlying t = some (.slice e))
    (hinfo : (Tryz.prog.info? e).map (fun i => (i.zero, i.size, i.bytes)) = some (some z, 1, by_)) (hzs : z.cells.size = 1) (hby : by_ ≤ 16) (u : Value) (hu : u.oneCell' = true)
    (hgd : o.guard = none) (s x : Operand) (ho : o.op = .call { callee := .builtin .append, args := #[s, x], argTypes := #[t, t] }) (B : Nat) (v : Value) (us : List Value) (W : World) (g : Nat)
    (hs : a.eval s = v) (hx : a.eval x = .slice (some ⟨g, 0, none⟩) 1 1) (hg : W.heap.size = g) (hown : ownV W e B v us) (hB : B ≤ W.heap.size) (hl : us.length ≤ 2000000)
    (h : ∀ ad cap w', ownV w' e B (.slice ad (us.length + 1) cap) (us ++ [u]) → Below B W w' → (∀ k, k < W.heap.size → some k ≠ v.ownBlock → w'.heap[k]? = W.heap[k]?) → wpList Tryz.prog ops Q rest (a.put o.dst (.slice ad (us.length + 1) cap)) w') :
    wpList Tryz.prog ops Q (o :: rest) a (W.alloc (.cells #[u] e)) := by
  subst hg
  obtain ⟨i0, hi, hz0, hz1, hz2⟩ := info_parts hinfo
  refine wpList_append_own _ hgd s x t ho B e i0 z 1 by_ ht hi hz0 hz1 hz2 hzs (by decide) v us.length us hs (World.ownsRow.alloc hown _) ⟨W.heap.size, 0, none⟩ 1 1 [u] hx rfl ?_ ?_ (by unfold maxLen; omega) ?_ (by rw [World.size_alloc]; omega) ?_
  · intro j u' hj
    match j, hj with
    | 0, hj => simp at hj; subst hj; simp [Addr.add]
  · intro u' hu'; simp at hu'; subst hu'; exact hu
  · have := Nat.mul_le_mul_left (us.length + 1) hby
    omega
  · intro v' w' h1 h2 _
    have h3 : ownV w' e B v' (us ++ [u]) := by
      unfold ownV
      rw [List.length_append]
      exact h1
    obtain ⟨ad, cap, hv, _⟩ := h3.row
    have hv' : v' = .slice ad (us.length + 1) cap := by rw [hv, List.length_append]; rfl
    rw [hv'] at h3 ⊢
    have hA := (Below.refl W.heap.size W).alloc (Nat.le_refl _) (.cells #[u] e)
    exact h ad cap w' h3 (((Below.refl B W).alloc hB _).grown h2 (by rw [World.size_alloc]; omega) (fun k hk => (World.ownsRow.lt hown k hk).1)) (fun k hk hne => (h2.block k (by rw [World.size_alloc]; omega) hne).trans (hA.block k hk))
theorem okQ_short {Ps : List ByteArray} (h : 64 < Ps.length) : okQ Ps = false := by unfold okQ; rw [decide_eq_false (by omega), Bool.false_and]
theorem numQ_not {Ps : List ByteArray} (h : okQ Ps = false) : numQ Ps = [] := by unfold numQ; rw [h]; rfl
theorem okQ_all {Ps : List ByteArray} (h : Ps.length ≤ 64) (ha : okP Ps Ps.length = true) : okQ Ps = true ∧ numQ Ps = numP Ps Ps.length := by
  have h1 : okQ Ps = true := by unfold okQ; rw [decide_eq_true h, ha]; rfl
  exact ⟨h1, by unfold numQ; rw [h1]; rfl⟩
theorem okQ_bad {Ps : List ByteArray} {j : Nat} (hj : j < Ps.length) (h : okD (Ps.getD j ⟨#[]⟩) = false) : okQ Ps = false := by unfold okQ; rw [okP_false hj h, Bool.and_false]

def MaxLenIs (w : World) : Prop := ∃ m : Int, w.cell? ⟨2, 0, none⟩ = some (.int .i64 m)
theorem MaxLenIs.on {B : Nat} {w w' : World} (h : MaxLenIs w) (hb : Below B w w') (hB : w.heap.size ≤ B) : MaxLenIs w' := by
  obtain ⟨m, hm⟩ := h
  exact ⟨m, (hb.cell (p := ⟨2, 0, none⟩) (Nat.lt_of_lt_of_le (World.block_lt_of_cell? _ _ hm) hB)).trans hm⟩
/-- strings.Split at ",". -/
theorem split_pcs (s : ByteArray) (w : World) (hs : s.size ≤ 1048576) (hm : Hid (MaxLenIs w)) :
    Calls Tryz.prog 58 #[.string s, .string ⟨#[44]⟩] w fun e w' => ∃ g : Nat, e = .returned (.slice (some ⟨g, 0, none⟩) (pcs s).length (pcs s).length) ∧ Below w.heap.size w w' ∧ Hid (rowV w' 9 g (some ⟨g, 0, none⟩) ((pcs s).map Value.string)) ∧ Hid ((pcs s).length ≤ s.size + 1) := by
  obtain ⟨m, hm⟩ := hm.out
  refine (Tryz.strings_Split s ⟨#[44]⟩ m w (by omega) hm (by decide)).mono ?_
  rintro e w' ⟨rfl, rfl⟩
  have hl : (pcs s).length = countB s ⟨#[44]⟩ + 1 := splitB_all ⟨#[44]⟩ (by decide) 0 _ s rfl
  have hc := countB_le ⟨#[44]⟩ (by decide) s.size s (Nat.le_refl _)
  refine ⟨w.heap.size, by rw [hl], (Below.refl _ _).alloc (Nat.le_refl _) _, Or.inr ⟨w.heap.size, rfl, Nat.le_refl _, (pcs s).length, fun i => ((pcs s).map Value.string).getD i undef, by simp, ?_, fun i _ => rfl⟩, by show _ ≤ _; omega⟩
  have := World.rowIs_alloc w ((pcs s).map Value.string).toArray 9 (fun i => ((pcs s).map Value.string).getD i undef) (fun i hi => by
    rw [List.getD_eq_getElem?_getD]
    have hi' : i < ((pcs s).map Value.string).length := by simpa using hi
    rw [List.getElem?_eq_getElem hi']
    simp [List.getElem?_eq_getElem hi'])
  have e : ((pcs s).map Value.string).toArray.size = (pcs s).length := by simp
  rw [e] at this
  exact this

end Go.Proofs.YtmiajfdhdpmeoaaGreatDoor
