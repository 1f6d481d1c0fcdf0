/- Part 43 of 55: Cpy Ct1. -/
import Derived.Test.YtoffbdlgmnpblaaGreatJ42

/- Package model: Copy. -/
namespace Go.Proofs.YtoffbdlgmnpblaaGreat
open Go.RowKit
set_option maxHeartbeats 4000000
set_option maxRecDepth 100000

def rowOf (B : Nat) (t : TypeId × Value × Nat × List Value) : Cmp := rowC B t.1 3 t.2.1 t.2.2.1 t.2.2.2
theorem Sep.lower {B B' : Nat} {W : World} {l : List (TypeId × Value × Nat × List Value)} (h : Sep B W (l.map (rowOf B))) (hB : B' ≤ B) : Sep B' W (l.map (rowOf B')) := by
  refine ⟨fun c hc => ?_, List.pairwise_map.2 (List.pairwise_map.1 h.apart)⟩
  obtain ⟨t, ht, rfl⟩ := List.mem_map.1 hc
  obtain ⟨h1, h2⟩ := h.all _ (List.mem_map_of_mem ht)
  exact ⟨own_lower h1 hB, fun k hk => ⟨Nat.le_trans hB (h2 k hk).1, (h2 k hk).2⟩⟩
def chItems (s : SO) : List (TypeId × Value × Nat × List Value) := (97, s.v, s.chs.length, ccells s.chs) :: s.chs.map fun c => (103, c.v, c.brs.length, bcells c.brs)
def stItems (sv : Value) (ss : List SO) : List (TypeId × Value × Nat × List Value) := (79, sv, ss.length, scells ss) :: ss.flatMap chItems
theorem stItems_map (B : Nat) (sv : Value) (ss : List SO) : (stItems sv ss).map (rowOf B) = stRow B sv ss :: stParts B ss := by
  have h : ∀ l : List SO, (l.flatMap chItems).map (rowOf B) = stParts B l := by
    intro l
    induction l with
    | nil => rfl
    | cons s l ih =>
      rw [List.flatMap_cons, List.map_append, ih]
      show _ = chParts B s ++ stParts B l
      congr 1
      unfold chItems chParts
      rw [List.map_cons, List.map_map]
      rfl
  unfold stItems
  rw [List.map_cons, h]
  rfl
theorem Sep.lowerM {B B' : Nat} {W : World} {sv : Value} {ss : List SO} (h : Sep B W (stRow B sv ss :: stParts B ss)) (hB : B' ≤ B) : Sep B' W (stRow B' sv ss :: stParts B' ss) := by
  rw [← stItems_map] at h ⊢
  exact h.lower hB

/-- a cell below the parts is written -/
theorem Sep.upd' {B : Nat} {W : World} {l : List Cmp} (h : Sep B W l) (b : Nat) (hb : b < B) (o : Nat) (u : Value) : Sep B (W.setCell ⟨b, o, none⟩ u) l :=
  h.kept (fun k hk _ => Below.heap_setCell _ _ _ _ (by show k ≠ b; omega)) (by simp [World.setCell])

theorem Copy1_calls (W : World) (i k : Nat) : Calls Tryz.prog 140 (#[.int .i64 (i : Int), .int .i64 (k : Int)] ++ #[]) W fun e w' => e = .returned (.bool ((fun _ _ => true) i k)) ∧ Below W.heap.size W w' := by
  go_enter Tryz.func140, Tryz.ntmps140
  go_wp2
  go_ret
  exact ⟨ret_bool rfl, Below.refl _ _⟩
theorem enter_copy1 : ∀ args w, (callFunc 140 args).run Tryz.prog w = .ok (.enter 140 args) w := enter_of Tryz.func140 (by kernel_rfl) (by kernel_rfl)

theorem Copy_calls (m : List St) (v : Value) (D : Nat → Prop) (w : World) (hD : Lo D w) (h : ModelC w D v m)
    (hl : m.length ≤ 1000000 ∧ ∀ s ∈ m, s.chs.length ≤ 1000000 ∧ ∀ c ∈ s.chs, c.brs.length ≤ 1000000) :
    Calls Tryz.prog 95 #[v] w fun e w' => ∃ sv ss, e = .returned (.agg #[sv]) ∧ Sep w.heap.size w' (stRow w.heap.size sv ss :: stParts w.heap.size ss) ∧ ss.map SO.st = m ∧ Below w.heap.size w w' := by
  obtain ⟨u, rfl, h⟩ := h
  obtain ⟨A, c, rfl, h1, h2, -⟩ := h.form
  have hB0 := ((Below.refl w.heap.size w).alloc (Nat.le_refl _) (.cells #[.slice A m.length c] 24)).alloc (by simp) (.cells #[.slice none 0 0] 24)
  have H := Lib.hid (show ModelC ((w.alloc (.cells #[.slice A m.length c] 24)).alloc (.cells #[.slice none 0 0] 24)) D (.agg #[.slice A m.length c]) m from ⟨_, rfl, h.same (hD.same hB0)⟩)
  have HD := Lib.hid (hD.up hB0.size)
  have HL := Lib.hid hl
  clear h hl
  go_enter Tryz.func95, Tryz.ntmps95
  go_wp2_with fail
  refine (Kept_calls 140 (fun _ _ => true) #[] m _ D _ enter_copy1 HD.out H.out HL.out (fun W i k _ => Copy1_calls W i k)).mono ?_
  rintro e w4 ⟨sv, ss, rfl, hS, he, hb4⟩
  have hz : ((w.alloc (.cells #[.slice A m.length c] 24)).alloc (.cells #[.slice none 0 0] 24)).heap.size = w.heap.size + 2 := by simp
  have hr : w4.heap[w.heap.size + 1]? = some (.cells #[.slice none 0 0] 24 (0, 0)) := by
    refine (hb4.block _ (by rw [hz]; omega)).trans ?_
    have := heap_alloc_new (w.alloc (.cells #[.slice A m.length c] 24)) (.cells #[.slice none 0 0] 24)
    rwa [World.size_alloc] at this
  have hB4 := hB0.trans (hb4.mono hB0.size)
  have HE := Lib.hid (he.trans (keptM_all m))
  have r0 := (cells_of hr 0).1
  have f0 := (cells_of hr 0).2
  have HR := Lib.hid hr
  have HS := Lib.hid (hS.upd' (w.heap.size + 1) (by rw [hz]; omega) 0 sv)
  have HS2 := Lib.hid (HS.out.lowerM hB0.size)
  have hst : w4.ownsRow _ 79 3 sv ss.length (scells ss) := hS.get (c := stRow _ sv ss) (List.mem_cons_self ..)
  obtain ⟨A6, c6, rfl, -, -, -⟩ := own_form hst
  clear hS he hr hb4 hst hz
  go_wp2
  have e0 : (w4.setCell ⟨w.heap.size + 1, 0, none⟩ (.slice A6 ss.length c6)).cell? ⟨w.heap.size + 1, 0, none⟩ = some (.slice A6 ss.length c6) := (cells_of (set_of HR.out 0 (.slice A6 ss.length c6)) 0).1
  exact bodyPost_ret (v := .agg #[.slice A6 ss.length c6]) (by simp [results, Tryz.results95, go_sem, e0]) rfl ⟨_, ss, rfl, HS2.out, HE.out, hB4.setCell (Nat.le_succ _) _⟩

end Go.Proofs.YtoffbdlgmnpblaaGreat

/- Package slices: Index; what graph.Cut needs of memory. -/
namespace Go.Proofs.YtoffbdlgmnpblaaGreat
open Go.RowKit
set_option maxHeartbeats 4000000
set_option maxRecDepth 100000

/-! ### the plain functions -/
def placeOf (l : List Int) (t : Int) : Int := idxI (fun x => decide (t = x)) l
def cutBr (l : List Int) (b : Br) : Br := ⟨placeOf l b.to, b.ch⟩
def cutCh (l : List Int) (c : Ch) : Ch := ⟨c.rw, c.brs.map (cutBr l)⟩
def cutSt (l : List Int) (s : St) : St := ⟨s.owner, s.mark, s.chs.map (cutCh l)⟩
def cutTo (l : List Int) (q : Nat) (c : CO) : CO := ⟨c.v, c.rw, (c.brs.take q).map (cutBr l) ++ c.brs.drop q⟩
def cutCO (l : List Int) (c : CO) : CO := ⟨c.v, c.rw, c.brs.map (cutBr l)⟩
def cutSO (l : List Int) (s : SO) : SO := ⟨s.v, s.owner, s.mark, s.chs.map (cutCO l)⟩
theorem cutTo_zero (l : List Int) (c : CO) : cutTo l 0 c = c := rfl
theorem cutTo_all (l : List Int) (c : CO) : cutTo l c.brs.length c = cutCO l c := by
  unfold cutTo cutCO
  rw [List.take_length, List.drop_length, List.append_nil]
theorem cutSO_st (l : List Int) (s : SO) : (cutSO l s).st = cutSt l s.st := by
  unfold cutSO cutSt SO.st
  simp only [List.map_map]
  rfl
theorem ccells_cut (l : List Int) (cs : List CO) : ccells (cs.map (cutCO l)) = ccells cs := by
  unfold ccells
  rw [List.flatMap_map]
  rfl
theorem scells_cut (l : List Int) (ss : List SO) : scells (ss.map (cutSO l)) = scells ss := by
  unfold scells
  rw [List.flatMap_map]
  rfl
theorem brs_cut_len (l : List Int) (q : Nat) (c : CO) : (cutTo l q c).brs.length = c.brs.length := by
  unfold cutTo
  simp only [List.length_append, List.length_map, List.length_take, List.length_drop]
  omega
theorem brs_cut_at (l : List Int) (q : Nat) (c : CO) (b : Br) (h : c.brs[q]? = some b) : (cutTo l q c).brs[q]? = some b := by
  have hlt := (List.getElem?_eq_some_iff.1 h).1
  unfold cutTo
  rw [List.getElem?_append_right (by simp; omega)]
  simp only [List.length_map, List.length_take, Nat.min_eq_left (Nat.le_of_lt hlt), Nat.sub_self, List.getElem?_drop]
  exact h
theorem brs_cut_set (l : List Int) (q : Nat) (c : CO) (b : Br) (h : c.brs[q]? = some b) : (cutTo l q c).brs.set q (cutBr l b) = (cutTo l (q + 1) c).brs := by
  have hlt := (List.getElem?_eq_some_iff.1 h).1
  unfold cutTo
  simp only
  rw [List.set_append_right _ _ (by simp; omega)]
  simp only [List.length_map, List.length_take, Nat.min_eq_left (Nat.le_of_lt hlt), Nat.sub_self]
  rw [List.drop_eq_getElem_cons hlt, List.take_add_one, h]
  obtain ⟨_, rfl⟩ := List.getElem?_eq_some_iff.1 h
  simp only [List.set_cons_zero, List.map_append, Option.toList_some, List.map_cons, List.map_nil, List.append_assoc, List.cons_append, List.nil_append]

/-! ### states picked by a rising list -/
theorem pick_sub (ss : List SO) (d : SO) : ∀ (l : List Int) (last : Int), -1 ≤ last → rising ss.length last l = true → (l.map fun s => ss.getD s.toNat d).Sublist (ss.drop (last + 1).toNat)
  | [], _, _, _ => List.nil_sublist _
  | s :: l, last, h0, h => by
    unfold rising at h
    simp only [Bool.and_eq_true, decide_eq_true_eq] at h
    obtain ⟨⟨h1, h2⟩, h3⟩ := h
    have ih := pick_sub ss d l s (by omega) h3
    have hs : s.toNat < ss.length := by omega
    rw [List.map_cons]
    have e : ss.drop s.toNat = ss.getD s.toNat d :: ss.drop (s + 1).toNat := by
      rw [List.drop_eq_getElem_cons hs, show (s + 1).toNat = s.toNat + 1 by omega]
      simp [List.getD, List.getElem?_eq_getElem hs]
    have hd : (ss.drop s.toNat).Sublist (ss.drop (last + 1).toNat) := by
      have : ss.drop s.toNat = (ss.drop (last + 1).toNat).drop (s.toNat - (last + 1).toNat) := by rw [List.drop_drop]; congr 1; omega
      rw [this]; exact List.drop_sublist _ _
    refine List.Sublist.trans ?_ hd
    rw [e]
    exact ih.cons_cons _
theorem flat_sub {α β : Type} (f : α → List β) {l l' : List α} (h : l.Sublist l') : (l.flatMap f).Sublist (l'.flatMap f) := by
  induction h with
  | slnil => exact List.Sublist.refl _
  | cons a _ ih => rw [List.flatMap_cons]; exact ih.trans (List.sublist_append_right _ _)
  | cons_cons a _ ih => rw [List.flatMap_cons, List.flatMap_cons]; exact (List.Sublist.refl _).append ih

/-- the parts of states: the rows of choices, then the rows of branches -/
theorem stParts_perm (B : Nat) : ∀ ss : List SO, (stParts B ss).Perm (ss.map (chRow B) ++ (ss.flatMap (·.chs)).map (brRow B))
  | [] => List.Perm.refl _
  | s :: ss => by
    have ih := stParts_perm B ss
    show (chParts B s ++ stParts B ss).Perm _
    rw [List.flatMap_cons, List.map_append, List.map_cons]
    show (chRow B s :: (s.chs.map (brRow B) ++ stParts B ss)).Perm (chRow B s :: (ss.map (chRow B) ++ (s.chs.map (brRow B) ++ (ss.flatMap (·.chs)).map (brRow B))))
    refine List.Perm.cons _ ?_
    refine (List.Perm.append_left _ ih).trans ?_
    rw [← List.append_assoc, ← List.append_assoc]
    exact List.Perm.append_right _ List.perm_append_comm
theorem chRow_cut (B : Nat) (l : List Int) (s : SO) : chRow B (cutSO l s) = chRow B s := by
  show rowC B _ 3 s.v (s.chs.map (cutCO l)).length (ccells (s.chs.map (cutCO l))) = _
  rw [ccells_cut, List.length_map]
theorem stRow_cut (B : Nat) (l : List Int) (v : Value) (ss : List SO) : stRow B v (ss.map (cutSO l)) = stRow B v ss := by
  show rowC B _ 3 v (ss.map (cutSO l)).length (scells (ss.map (cutSO l))) = _
  rw [scells_cut, List.length_map]
theorem stParts_cut (B : Nat) (l : List Int) (ss : List SO) : (stParts B (ss.map (cutSO l))).Perm (ss.map (chRow B) ++ ((ss.flatMap (·.chs)).map (cutCO l)).map (brRow B)) := by
  refine (stParts_perm B _).trans (List.Perm.of_eq ?_)
  congr 1
  · rw [List.map_map]; exact List.map_congr_left fun s _ => chRow_cut B l s
  · congr 1
    rw [List.flatMap_map, List.map_flatMap]
    rfl

/-! ### a cell of a row of three-cell elements -/
theorem own_form0 {w : World} {base : Nat} {e : TypeId} {sz : Nat} {v : Value} {n : Nat} {vs : List Value} (h : w.ownsRow base e sz v n vs) (hn : 0 < n) : ∃ g c, v = .slice (some ⟨g, 0, none⟩) n c ∧ base ≤ g ∧ g < w.heap.size ∧ n ≤ c ∧ c ≤ maxLen ∧ ∀ i u, vs[i]? = some u → w.cell? ⟨g, i, none⟩ = some u ∧ w.frozen? ⟨g, i, none⟩ = false := by
  have h' := h
  obtain ⟨hl, ⟨-, rfl⟩ | ⟨g, cap, cur, rfl, hb, hg, hnc, hcm, hcs, ht⟩⟩ := h
  · omega
  · refine ⟨g, cap, rfl, hb, (Array.getElem?_eq_some_iff.1 hg).1, hnc, hcm, fun i u hi => ?_⟩
    have h1 := h'.cells (g := g) rfl i u hi
    have e1 : (⟨g, 0, none⟩ : Addr).add i = ⟨g, i, none⟩ := by unfold Addr.add; split <;> simp_all
    rw [e1] at h1
    exact ⟨h1, by simp [World.frozen?, hg]⟩
theorem own_setS {w : World} {base : Nat} {e : TypeId} {sz g n cap : Nat} {vs : List Value} (h : w.ownsRow base e sz (.slice (some ⟨g, 0, none⟩) n cap) n vs) (i : Nat) (u : Value) :
    (w.setCell ⟨g, i, none⟩ u).ownsRow base e sz (.slice (some ⟨g, 0, none⟩) n cap) n (vs.set i u) := by
  obtain ⟨hl, ⟨h1, _⟩ | ⟨g', cap', cur, hv, hb, hg, hnc, hcm, hcs, ht⟩⟩ := h
  · cases h1
  · simp only [Value.slice.injEq, Option.some.injEq, Addr.mk.injEq, true_and, and_true] at hv
    obtain ⟨rfl, rfl⟩ := hv
    refine ⟨by simpa using hl, .inr ⟨g, cap, cur.setIfInBounds i u, rfl, hb, ?_, hnc, hcm, by simpa using hcs, ?_⟩⟩
    · simp [World.setCell, Array.getElem?_modify, hg]
    · rw [← ht]
      simp only [Array.toList_setIfInBounds, List.take_set]
theorem bcells_set : ∀ (brs : List Br) (k : Nat) (b : Br), brs[k]? = some b → ∀ t : Int, bcells (brs.set k ⟨t, b.ch⟩) = (bcells brs).set (k * 3) (.int .i64 t)
  | [], k, b, h, t => by simp at h
  | a :: l, 0, b, h, t => by
    have : a = b := by simpa using h
    subst this
    simp [bcells]
  | a :: l, k + 1, b, h, t => by
    have ih := bcells_set l k b (by simpa using h) t
    have e : ∀ x : List Br, bcells (a :: x) = .int .i64 a.to :: .int .i64 a.ch.top :: .int .i64 a.ch.low :: bcells x := fun x => by simp [bcells]
    rw [List.set_cons_succ, e, e, ih, show (k + 1) * 3 = k * 3 + 1 + 1 + 1 by omega, List.set_cons_succ, List.set_cons_succ, List.set_cons_succ]
theorem bcells_at3 {brs : List Br} {k : Nat} {b : Br} (h : brs[k]? = some b) : (bcells brs)[k * 3]? = some (.int .i64 b.to) := (flat3_at (fun b : Br => Value.int .i64 b.to) (fun b => .int .i64 b.ch.top) (fun b => .int .i64 b.ch.low) brs k b h).1

/-- one target is turned -/
theorem Sep.cut1 {B : Nat} {W : World} {fixed l1 l2 : List Cmp} {c : CO} {l : List Int} {q : Nat} {b : Br} {g cap n : Nat} (h : Sep B W (fixed ++ (l1 ++ brRow B (cutTo l q c) :: l2))) (hB : B ≤ W.heap.size) (hb : c.brs[q]? = some b) (hv : c.v = .slice (some ⟨g, 0, none⟩) n cap) (hn : n = c.brs.length) :
    Sep B (W.setCell ⟨g, q * 3, none⟩ (.int .i64 (placeOf l b.to))) (fixed ++ (l1 ++ brRow B (cutTo l (q + 1) c) :: l2)) := by
  have h1 : Sep B W (brRow B (cutTo l q c) :: (fixed ++ l1 ++ l2)) := by
    rw [← List.append_assoc] at h
    exact h.mid
  have ho : W.ownsRow B 103 3 c.v c.brs.length (bcells (cutTo l q c).brs) := by
    have := h1.get (List.mem_cons_self ..)
    have this : W.ownsRow B 103 3 c.v (cutTo l q c).brs.length (bcells (cutTo l q c).brs) := this
    rwa [brs_cut_len] at this
  subst hn
  rw [hv] at ho
  have h2 := h1.upd (c' := brRow B (cutTo l (q + 1) c)) (W' := W.setCell ⟨g, q * 3, none⟩ (.int .i64 (placeOf l b.to))) (by
    show W.grownBy _ c.v.ownBlock
    rw [hv]
    exact grown_set W g (q * 3) _) (by
    show (W.setCell ⟨g, q * 3, none⟩ _).ownsRow B _ 3 c.v (cutTo l (q + 1) c).brs.length (bcells (cutTo l (q + 1) c).brs)
    rw [brs_cut_len, ← brs_cut_set l q c b hb, hv, show cutBr l b = ⟨placeOf l b.to, b.ch⟩ from rfl, bcells_set _ q b (brs_cut_at l q c b hb)]
    exact own_setS ho _ _) (.inl rfl) hB
  rw [← List.append_assoc]
  exact h2.unmid

/-- a state is picked -/
theorem Sep.pick {B : Nat} {W w5 : World} {ob : Nat} {o m : Int} {xv ov v5 : Value} {ps : List SO} {rest : List Cmp} {obj : Obj} {chs : List CO}
    (h : Sep B W (boxC ob #[ov] 24 :: stRow B ov ps :: rest)) (hB : B ≤ W.heap.size)
    (hg5 : (W.alloc obj).grownBy w5 ov.ownBlock) (ho5 : w5.ownsRow B 79 3 v5 (ps.length + 1) (scells ps ++ [.int .i64 o, .int .i64 m, xv])) (ha5 : v5.ownBlock = ov.ownBlock ∨ v5.ownBlock = some (W.alloc obj).heap.size) :
    Sep B (w5.setCell ⟨ob, 0, none⟩ v5) (boxC ob #[v5] 24 :: stRow B v5 (ps ++ [⟨xv, o, m, chs⟩]) :: rest) := by
  have h3 : Sep B W (stRow B ov ps :: boxC ob #[ov] 24 :: rest) := h.perm (List.Perm.swap _ _ _)
  have h4 := (h3.below ((Below.refl W.heap.size W).alloc (Nat.le_refl _) obj)).upd (c' := stRow B v5 (ps ++ [⟨xv, o, m, chs⟩])) hg5 (by
    show w5.ownsRow B _ 3 v5 (ps ++ [_]).length (scells (ps ++ [_]))
    rw [show scells (ps ++ [(⟨xv, o, m, chs⟩ : SO)]) = scells ps ++ [.int .i64 o, .int .i64 m, xv] from by simp [scells], List.length_append]
    exact ho5) (own_lt_new ho5 ha5) (by simp; omega)
  have h5 : Sep B w5 (boxC ob #[ov] 24 :: stRow B v5 (ps ++ [⟨xv, o, m, chs⟩]) :: rest) := h4.perm (List.Perm.swap _ _ _)
  have hbx : w5.heap[ob]? = some (.cells #[ov] 24 (0, 0)) := h5.get (List.mem_cons_self ..)
  have hB5 : B ≤ w5.heap.size := by have := hg5.size; simp at this; omega
  exact h5.upd (c' := boxC ob #[v5] 24) (grown_set w5 ob 0 v5) (set_of hbx 0 v5) (.inl rfl) hB5

/-! ### slices.Index -/
theorem Index_calls (l : List Int) (t : Int) (v : Value) (D : Nat → Prop) (w : World) (hl : Sl (Kind.int .i64) w D v l) (hn : l.length ≤ 1000000) :
    Calls Tryz.prog 96 #[v, .int .i64 t] w fun e w' => e = .returned (.int .i64 (placeOf l t)) ∧ w' = w := by
  obtain ⟨A, c, rfl, h1, h2, hc⟩ := hl.ints
  unfold maxLen at h2
  have HC := Lib.hid hc
  clear hl hc
  go_enter Tryz.func96, Tryz.ntmps96
  go_wp2
  go_loopw [8] (fun k W => ∃ (j : Nat), j ≤ l.length ∧ k = .int .i64 (j : Int) ∧ W = w ∧ Hid (∀ y ∈ l.take j, (decide (t = y)) = false)) (fun k _ => l.length - (intOf k).toNat)
  case atStart => exact ⟨0, Nat.zero_le _, rfl, rfl, (by intro y hy; simp at hy : ∀ y ∈ l.take 0, (decide (t = y)) = false)⟩
  case round =>
    obtain ⟨j, hj, rfl, rfl, HN⟩ := hrel
    by_cases hlt : j < l.length
    · obtain ⟨x, hx⟩ : ∃ x, l[j]? = some x := ⟨_, List.getElem?_eq_getElem hlt⟩
      obtain ⟨ad, rfl, hDa, hcs⟩ := HC.out (by omega)
      have q0 := hcs j hlt
      rw [show Dig.gd l j = x by simp [Dig.gd, hx]] at q0
      clear hcs
      have HX := Lib.hid hx
      clear hx
      by_cases ht : t = x
      · have HS := Lib.hid (idxI_at (is := fun y => decide (t = y)) HX.out HN.out (decide_eq_true ht))
        subst ht
        go_wp2
        go_ret
        exact ⟨ret_int HS.out.symm, by trivial⟩
      · have HS := Lib.hid (take_false (is := fun y => decide (t = y)) HX.out HN.out (decide_eq_false ht))
        have hb : (t == x) = false := beq_eq_false_iff_ne.2 ht
        clear ht
        go_wp2
        exact ⟨⟨j + 1, by omega, by go_num, by trivial, HS⟩, by simp [intOf]; omega⟩
    · obtain rfl : j = l.length := by omega
      have HS := Lib.hid (idxI_none (is := fun y => decide (t = y)) (xs := l) (by have := HN.out; rwa [List.take_length] at this))
      clear hlt
      go_wp2
      go_ret
      exact ⟨ret_int HS.out.symm, by trivial⟩

end Go.Proofs.YtoffbdlgmnpblaaGreat
