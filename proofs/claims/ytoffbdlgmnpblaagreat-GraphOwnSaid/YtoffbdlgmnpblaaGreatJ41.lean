/- Part 41 of 55: Kep. -/
import Derived.Test.YtoffbdlgmnpblaaGreatJ40
import Derived.Laws.AppendOwnNone
import Derived.WalkSpells
import Derived.Deep.RegionHeld3

/- Package model: Own, Kept, Copy. -/
namespace Go.Proofs.YtoffbdlgmnpblaaGreat
open Go.RowKit
set_option maxHeartbeats 4000000
set_option maxRecDepth 100000

theorem bcells_at {l : List Br} : ∀ {j : Nat} {u : Value}, (bcells l)[j]? = some u → ∃ b, l[j / 3]? = some b ∧ [Value.int .i64 b.to, .int .i64 b.ch.top, .int .i64 b.ch.low][j % 3]? = some u := by
  intro j u h
  have hlt := (List.getElem?_eq_some_iff.1 h).1
  rw [bcells_len] at hlt
  obtain ⟨b, hb⟩ : ∃ b, l[j / 3]? = some b := ⟨_, List.getElem?_eq_getElem (by omega)⟩
  obtain ⟨e0, e1, e2⟩ := flat3_at (fun b : Br => Value.int .i64 b.to) (fun b => .int .i64 b.ch.top) (fun b => .int .i64 b.ch.low) l (j / 3) b hb
  refine ⟨b, hb, ?_⟩
  have hj : j = j / 3 * 3 + j % 3 := by omega
  have h3 : j % 3 = 0 ∨ j % 3 = 1 ∨ j % 3 = 2 := by omega
  rcases h3 with h3 | h3 | h3
  · rw [h3] at hj ⊢; rw [hj, Nat.add_zero] at h; rw [← h]; exact e0.symm
  · rw [h3] at hj ⊢; rw [hj] at h; rw [← h]; exact e1.symm
  · rw [h3] at hj ⊢; rw [hj] at h; rw [← h]; exact e2.symm
theorem Sl.br_cells {w : World} {D : Nat → Prop} {ad : Addr} {n c : Nat} {l : List Br} (h : Sl Kind.br w D (.slice (some ad) n c) l) : ∀ j u, (bcells l)[j]? = some u → w.cell? (ad.add j) = some u := by
  intro j u hj
  obtain ⟨b, hb, hu⟩ := bcells_at hj
  obtain ⟨A', c', e, -, -, h3⟩ := h
  injection e with e1 e2 e3
  subst e1
  obtain ⟨ad', cs, e, -, hr, hat⟩ := h3 _ b hb
  injection e with e
  subst e
  have hr : cs = [.int .i64 b.to, .int .i64 b.ch.top, .int .i64 b.ch.low] := hr
  subst hr
  have := hat _ _ hu
  rw [add_of_add, show j / 3 * Kind.br.sz + j % 3 = j from by show j / 3 * 3 + j % 3 = j; omega] at this
  exact this
theorem bcells_one {l : List Br} : ∀ u ∈ bcells l, u.oneCell' = true := by
  intro u hu
  obtain ⟨b, -, hb⟩ := List.mem_flatMap.1 hu
  simp only [List.mem_cons, List.not_mem_nil, or_false] at hb
  rcases hb with rfl | rfl | rfl <;> rfl

/-- append of branches that are read onto an own row -/
theorem wpList_appBr {w : World} {ops : Array Oper} {rest : List Oper} {o : Oper} {a : Act} {Q : Exit → Act → World → Prop} {D : Nat → Prop}
    (hgd : o.guard = none) (s x : Operand) (ho : o.op = .call { callee := .builtin .append, args := #[s, x], argTypes := #[95, 95] })
    (base : Nat) (v : Value) (l0 brs : List Br) (hs : a.eval s = v) (hown : w.ownsRow base 103 3 v l0.length (bcells l0)) (ad : Addr) (n c : Nat) (hx : a.eval x = .slice (some ad) n c) (hu : Sl Kind.br w D (.slice (some ad) n c) brs)
    (hl : l0.length + brs.length ≤ 1000000) (hbase : base ≤ w.heap.size)
    (h : ∀ v' w', w'.ownsRow base 103 3 v' (l0.length + brs.length) (bcells (l0 ++ brs)) → w.grownBy w' v.ownBlock → (v'.ownBlock = v.ownBlock ∨ v'.ownBlock = some w.heap.size) → wpList Tryz.prog ops Q rest (a.put o.dst v') w') : wpList Tryz.prog ops Q (o :: rest) a w := by
  obtain ⟨i, hi, hz, hsz, hby⟩ := elem_br.hi
  have hn : n = brs.length := hu.len.1
  subst hn
  refine wpList_append_own_at w hgd s x 95 ho base 103 i _ 3 24 elem_br.ht hi hz hsz hby elem_br.hz (by decide) v l0.length (bcells l0) hs hown ad brs.length c (bcells brs) hx (bcells_len brs) hu.br_cells bcells_one (by simp only [maxLen]; omega) (by omega) hbase ?_
  intro v' w' h1 h2 _ h4
  refine h v' w' ?_ h2 h4
  rw [show bcells (l0 ++ brs) = bcells l0 ++ bcells brs from by simp [bcells]]
  exact h1

theorem own_empty (w : World) (B : Nat) (hB : B ≤ w.heap.size) (e : TypeId) (sz : Nat) : (w.alloc (.cells #[] e)).ownsRow B e sz (.slice (some ⟨w.heap.size, 0, none⟩) 0 0) 0 [] :=
  ⟨by simp, .inr ⟨w.heap.size, 0, #[], rfl, hB, heap_alloc_new w _, Nat.le_refl _, Nat.zero_le _, by simp, by simp⟩⟩

theorem CloneBr_calls (brs : List Br) (v : Value) (D : Nat → Prop) (w : World) (hD : Lo D w) (h : Sl Kind.br w D v brs) (hl : brs.length ≤ 1000000) :
    Calls Tryz.prog 219 #[v] w fun e w' => ∃ v', e = .returned v' ∧ w'.ownsRow w.heap.size 103 3 v' brs.length (bcells brs) ∧ Below w.heap.size w w' := by
  obtain ⟨A, c, rfl, h1, h2, h3⟩ := h.form
  have hnil := fun (w : World) (a : Option Addr) (n c : Nat) => Lib.run_eql_slice_nil (P := Tryz.prog) w 95 103 a n c 0 0 Tryz.underlying95
  rcases A with _ | ad
  · have hz : brs = [] := by
      cases brs with
      | nil => rfl
      | cons a l => obtain ⟨ad, e, _⟩ := h3 (by simp); cases e
    subst hz
    clear h
    go_enter Tryz.func219, Tryz.ntmps219
    go_wp2
    go_ret
    exact ⟨_, rfl, World.ownsRow_nil _ _ _ _, Below.refl _ _⟩
  · have hb1 := (Below.refl w.heap.size w).alloc (Nat.le_refl _) (.cells #[] 103)
    have HU := Lib.hid (h.same (hD.same hb1))
    have HO := Lib.hid (own_empty w w.heap.size (Nat.le_refl _) 103 3)
    clear h h3
    go_enter Tryz.func219, Tryz.ntmps219
    go_wp2_with (at_builtin; refine wpList_appBr (D := D) rfl _ _ rfl w.heap.size _ [] brs rfl HO.out ad brs.length c rfl HU.out (by simpa using hl) (by simp) ?_; intro v' w2 ho hg ha)
    have hb2 := hb1.grown hg (by simp) (fun k hk => by cases hk; exact Nat.le_refl _)
    go_ret
    exact ⟨_, rfl, by simpa using ho, hb2⟩

/-- three cells of a block, through a region -/
abbrev Held3 (b : Nat) (x y z : Value) (V : World) : Prop := V.cell? ⟨b, 0, none⟩ = some x ∧ V.cell? ⟨b, 1, none⟩ = some y ∧ V.cell? ⟨b, 2, none⟩ = some z ∧ b < V.heap.size
theorem Held3.below {b : Nat} {x y z : Value} {V V' : World} (h : Held3 b x y z V) (hb : Below V.heap.size V V') : Held3 b x y z V' := by
  obtain ⟨h1, h2, h3, h4⟩ := h
  exact ⟨(hb.cell (p := ⟨b, 0, none⟩) h4).trans h1, (hb.cell (p := ⟨b, 1, none⟩) h4).trans h2, (hb.cell (p := ⟨b, 2, none⟩) h4).trans h3, Nat.lt_of_lt_of_le h4 hb.size⟩
theorem held3_set {b : Nat} {x y z : Value} {V : World} {p : Addr} (hne : p.block ≠ b) (h : Held3 b x y z V) (u : Value) : Held3 b x y z (V.setCell p u) := by
  obtain ⟨h1, h2, h3, h4⟩ := h
  have e : ∀ o, (V.setCell p u).cell? ⟨b, o, none⟩ = V.cell? ⟨b, o, none⟩ := fun o => World.cell?_of_block (w := V) (a := ⟨b, o, none⟩) (Below.heap_setCell _ _ _ _ fun e => hne e.symm)
  exact ⟨(e 0).trans h1, (e 1).trans h2, (e 2).trans h3, by simpa [World.setCell] using h4⟩

theorem set3_cells (w : World) (g : Nat) (a b c a' b' c' : Value) (h0 : w.cell? ⟨g, 0, none⟩ = some a') (h1 : w.cell? ⟨g, 1, none⟩ = some b') (h2 : w.cell? ⟨g, 2, none⟩ = some c') :
    (((w.setCell ⟨g, 0, none⟩ a).setCell ⟨g, 1, none⟩ b).setCell ⟨g, 2, none⟩ c).cell? ⟨g, 0, none⟩ = some a ∧ (((w.setCell ⟨g, 0, none⟩ a).setCell ⟨g, 1, none⟩ b).setCell ⟨g, 2, none⟩ c).cell? ⟨g, 1, none⟩ = some b ∧ (((w.setCell ⟨g, 0, none⟩ a).setCell ⟨g, 1, none⟩ b).setCell ⟨g, 2, none⟩ c).cell? ⟨g, 2, none⟩ = some c := by
  have o : ∀ (W : World) (i j : Nat) (u : Value), i ≠ j → (W.setCell ⟨g, i, none⟩ u).cell? ⟨g, j, none⟩ = W.cell? ⟨g, j, none⟩ := fun W i j u hij => World.cell?_setCell_other _ _ _ _ (by intro e; simp only [Addr.mk.injEq] at e; exact hij e.2.1)
  refine ⟨?_, ?_, ?_⟩
  · rw [o _ 2 0 _ (by decide), o _ 1 0 _ (by decide)]; exact World.cell?_setCell_same _ _ _ h0
  · rw [o _ 2 1 _ (by decide)]; exact World.cell?_setCell_same _ _ _ (by rw [o _ 0 1 _ (by decide)]; exact h1)
  · exact World.cell?_setCell_same _ _ _ (by rw [o _ 1 2 _ (by decide), o _ 0 2 _ (by decide)]; exact h2)

theorem Own_calls (x : Ch) (A : Option Addr) (n c : Nat) (D : Nat → Prop) (w : World) (hD : Lo D w) (h : Sl Kind.br w D (.slice A n c) x.brs) (hl : x.brs.length ≤ 1000000) :
    Calls Tryz.prog 172 #[.agg #[.int .i64 x.rw.top, .int .i64 x.rw.low, .slice A n c]] w fun e w' => ∃ v', e = .returned (.agg #[.int .i64 x.rw.top, .int .i64 x.rw.low, v']) ∧ w'.ownsRow w.heap.size 103 3 v' x.brs.length (bcells x.brs) ∧ Below w.heap.size w w' := by
  have hb1 := ((Below.refl w.heap.size w).alloc (Nat.le_refl _) (.cells #[.int .i64 x.rw.top, .int .i64 x.rw.low, .slice A n c] 97)).alloc (by simp) (.cells #[.int .i64 0, .int .i64 0, .slice none 0 0] 97)
  have HU := Lib.hid (h.same (hD.same hb1))
  have HD := Lib.hid (hD.up hb1.size)
  clear h
  go_enter Tryz.func172, Tryz.ntmps172
  go_wp2_with fail
  have z2 : ((w.alloc (.cells #[.int .i64 x.rw.top, .int .i64 x.rw.low, .slice A n c] 97)).alloc (.cells #[.int .i64 0, .int .i64 0, .slice none 0 0] 97)).heap.size = w.heap.size + 2 := by simp
  have s0 : Held3 w.heap.size (.int .i64 x.rw.top) (.int .i64 x.rw.low) (.slice A n c) ((w.alloc (.cells #[.int .i64 x.rw.top, .int .i64 x.rw.low, .slice A n c] 97)).alloc (.cells #[.int .i64 0, .int .i64 0, .slice none 0 0] 97)) := by
    have e : ∀ o, ((w.alloc (.cells #[.int .i64 x.rw.top, .int .i64 x.rw.low, .slice A n c] 97)).alloc (.cells #[.int .i64 0, .int .i64 0, .slice none 0 0] 97)).cell? ⟨w.heap.size, o, none⟩ = #[Value.int .i64 x.rw.top, .int .i64 x.rw.low, .slice A n c][o]? := fun o => (World.cell?_alloc_lt _ _ _ (by simp)).trans (box_cells w _ rfl _ _ o).1
    exact ⟨e 0, e 1, e 2, by simp; omega⟩
  have t0 : Held3 (w.heap.size + 1) (.int .i64 0) (.int .i64 0) (.slice none 0 0) ((w.alloc (.cells #[.int .i64 x.rw.top, .int .i64 x.rw.low, .slice A n c] 97)).alloc (.cells #[.int .i64 0, .int .i64 0, .slice none 0 0] 97)) := by
    have e : ∀ o, ((w.alloc (.cells #[.int .i64 x.rw.top, .int .i64 x.rw.low, .slice A n c] 97)).alloc (.cells #[.int .i64 0, .int .i64 0, .slice none 0 0] 97)).cell? ⟨w.heap.size + 1, o, none⟩ = #[Value.int .i64 0, .int .i64 0, .slice none 0 0][o]? := fun o => by
      have := (box_cells (w.alloc (.cells #[.int .i64 x.rw.top, .int .i64 x.rw.low, .slice A n c] 97)) _ rfl #[.int .i64 0, .int .i64 0, .slice none 0 0] 97 o).1
      rwa [World.size_alloc] at this
    exact ⟨e 0, e 1, e 2, by simp⟩
  have tf0 : ∀ o, ((w.alloc (.cells #[.int .i64 x.rw.top, .int .i64 x.rw.low, .slice A n c] 97)).alloc (.cells #[.int .i64 0, .int .i64 0, .slice none 0 0] 97)).frozen? ⟨w.heap.size + 1, o, none⟩ = false := fun o => by
    have := heap_alloc_new (w.alloc (.cells #[.int .i64 x.rw.top, .int .i64 x.rw.low, .slice A n c] 97)) (.cells #[.int .i64 0, .int .i64 0, .slice none 0 0] 97)
    rw [World.size_alloc] at this
    simp only [World.frozen?]
    rw [this]
    simp
  generalize (w.alloc (.cells #[.int .i64 x.rw.top, .int .i64 x.rw.low, .slice A n c] 97)).alloc (.cells #[.int .i64 0, .int .i64 0, .slice none 0 0] 97) = W2 at *
  have HB1 := Lib.hid hb1
  have HZ2 := Lib.hid z2
  clear hb1 hD z2
  have s0' : Held3 w.heap.size (.int .i64 x.rw.top) (.int .i64 x.rw.low) (.slice A n c) W2.drew := s0
  go_region_held3 (fun V => V.cell? ⟨w.heap.size, 0, none⟩ = some (.int .i64 x.rw.top) ∧ V.cell? ⟨w.heap.size, 1, none⟩ = some (.int .i64 x.rw.low) ∧ V.cell? ⟨w.heap.size, 2, none⟩ = some (.slice A n c) ∧ w.heap.size < V.heap.size)
    (with_reducible (first | exact s0' | exact s4 | exact held3_set (show w.heap.size + 1 ≠ w.heap.size from Nat.succ_ne_self _) (held3_set (show w.heap.size + 1 ≠ w.heap.size from Nat.succ_ne_self _) (held3_set (show w.heap.size + 1 ≠ w.heap.size from Nat.succ_ne_self _) s4 _) _) _))
    ((go_at_call 219; refine (CloneBr_calls x.brs _ D W2.drew (show Lo D W2.drew from HD.out) (HU.out.same fun _ _ => rfl) hl).mono ?_; rintro e w4 ⟨v4, rfl, ho4, hb4⟩; have s4 : Held3 w.heap.size (.int .i64 x.rw.top) (.int .i64 x.rw.low) (.slice A n c) w4 := s0'.below hb4; have t4 : Held3 (w.heap.size + 1) (.int .i64 0) (.int .i64 0) (.slice none 0 0) w4 := Held3.below (V := W2.drew) t0 hb4; have f4 : ∀ o, w4.frozen? ⟨w.heap.size + 1, o, none⟩ = false := fun o => (World.frozen?_of_block (w := W2) (a := ⟨w.heap.size + 1, o, none⟩) (hb4.block _ t0.2.2.2)).trans (tf0 o); obtain ⟨A4, c4, rfl, _, _, _⟩ := own_form ho4; obtain ⟨t41, t42, t43, t44⟩ := t4))
  all_goals
    go_wp2
    obtain ⟨e0, e1, e2⟩ := set3_cells w4 (w.heap.size + 1) (.int .i64 x.rw.top) (.int .i64 x.rw.low) (.slice A4 x.brs.length c4) _ _ _ t41 t42 t43
    have hz := HZ2.out
    have hne : ∀ k, (Value.slice A4 x.brs.length c4).ownBlock = some k → k ≠ w.heap.size + 1 := fun k hk e => by have h1 : W2.heap.size ≤ k := (ho4.lt k hk).1; omega
    refine bodyPost_ret (v := .agg #[.int .i64 x.rw.top, .int .i64 x.rw.low, .slice A4 x.brs.length c4]) (by simp [results, Tryz.results172, go_sem, e0, e1, e2]) rfl ⟨_, rfl, ?_, ?_⟩
    · refine own_lower (own_kept ho4 fun k hk => ?_) (show w.heap.size ≤ W2.heap.size by omega)
      rw [Below.heap_setCell _ _ _ _ (hne k hk), Below.heap_setCell _ _ _ _ (hne k hk), Below.heap_setCell _ _ _ _ (hne k hk)]
    · have hb4' : Below W2.heap.size W2 w4 := ⟨hb4.os, hb4.tape, hb4.output, hb4.size, hb4.block⟩
      have hb : Below w.heap.size w w4 := HB1.out.trans (hb4'.mono (by omega))
      exact ((hb.setCell (Nat.le_succ _) _).setCell (Nat.le_succ _) _).setCell (Nat.le_succ _) _

end Go.Proofs.YtoffbdlgmnpblaaGreat
