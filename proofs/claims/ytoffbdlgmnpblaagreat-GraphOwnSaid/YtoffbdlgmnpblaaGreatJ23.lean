/- Part 23 of 55: Gr4. -/
import Derived.Test.YtoffbdlgmnpblaaGreatJ22

/- Package graph: edges in the other direction. -/
namespace Go.Proofs.YtoffbdlgmnpblaaGreat
open Go.RowKit
set_option maxHeartbeats 4000000
set_option maxRecDepth 100000

/-- edges between states -/
structure Edges (xss : List (List Int)) : Prop where
  len : xss.length ≤ 40
  row : ∀ xs ∈ xss, xs.length ≤ 2560
  ins : ∀ xs ∈ xss, ∀ t ∈ xs, 0 ≤ t ∧ t < (xss.length : Int)

theorem mem_isort {l : List Int} {x : Int} : x ∈ isort l ↔ x ∈ l := List.mem_mergeSort
theorem foldl_add1_mem (l : List Int) : ∀ (L : List Int) (x : Int), x ∈ l.foldl add1 L ↔ x ∈ L ∨ x ∈ l := by
  induction l with
  | nil => intro L x; simp
  | cons a l ih =>
    intro L x
    rw [List.foldl_cons, ih]
    have : x ∈ add1 L a ↔ x ∈ L ∨ x = a := by
      unfold add1
      split
      · rename_i h
        have : a ∈ L := by simpa using h
        constructor
        · exact .inl
        · rintro (h | rfl)
          · exact h
          · exact this
      · simp
    rw [this, List.mem_cons, or_assoc]
theorem mem_dd {l : List Int} {x : Int} : x ∈ dd l ↔ x ∈ l := by unfold dd; rw [foldl_add1_mem]; simp
theorem foldl_add1_len (l : List Int) : ∀ (L : List Int), (l.foldl add1 L).length ≤ L.length + l.length := by
  induction l with
  | nil => intro L; simp
  | cons a l ih =>
    intro L
    rw [List.foldl_cons]
    refine Nat.le_trans (ih _) ?_
    have : (add1 L a).length ≤ L.length + 1 := by unfold add1; split <;> simp
    simp only [List.length_cons]; omega
theorem mem_nextOf {s : St} {x : Int} : x ∈ nextOf s ↔ ∃ c ∈ s.chs, ∃ b ∈ c.brs, b.to = x := by
  unfold nextOf
  rw [mem_isort, mem_dd]
  simp [targets, tos]
theorem flatMap_len {α : Type} (f : α → List Int) (b : Nat) (l : List α) (h : ∀ x ∈ l, (f x).length ≤ b) : (l.flatMap f).length ≤ b * l.length := by
  induction l with
  | nil => simp
  | cons a l ih =>
    have h1 := h a (List.mem_cons_self ..)
    have h2 := ih fun x hx => h x (List.mem_cons_of_mem _ hx)
    simp only [List.flatMap_cons, List.length_append, List.length_cons, Nat.mul_add, Nat.mul_one]
    omega
theorem nextOf_len {m : List St} (h : Fine m) : ∀ xs ∈ m.map nextOf, xs.length ≤ 64 := by
  · intro xs hxs
    obtain ⟨s, hs, rfl⟩ := List.mem_map.1 hxs
    have h1 : (nextOf s).length = (dd (targets s)).length := List.length_mergeSort _
    have h2 := foldl_add1_len (targets s) []
    have h3 : (targets s).length ≤ 8 * s.chs.length := flatMap_len tos 8 s.chs fun c hc => by simpa [tos] using h.brs s hs c hc
    have h4 := h.chs s hs
    simp only [List.length_nil, Nat.zero_add] at h2
    have h5 : (dd (targets s)).length ≤ (targets s).length := h2
    omega
theorem Edges.of_fine {m : List St} (h : Fine m) : Edges (m.map nextOf) := by
  refine ⟨by rw [List.length_map]; exact h.len, fun xs hxs => by have := nextOf_len h xs hxs; omega, ?_⟩
  intro xs hxs t ht
  obtain ⟨s, hs, rfl⟩ := List.mem_map.1 hxs
  obtain ⟨c, hc, b, hb, rfl⟩ := mem_nextOf.1 ht
  rw [List.length_map]
  exact h.tos s hs c hc b hb
theorem Edges.turned {m : List St} (h : Fine m) : Edges (Bfs.turn (m.map nextOf)) := by
  have hl : (Bfs.turn (m.map nextOf)).length = m.length := by unfold Bfs.turn; rw [Bfs.turnTo_len, List.length_map]
  have h40 := h.len
  refine ⟨by rw [hl]; exact h40, fun xs hxs => ?_, fun xs hxs t ht => ?_⟩
  · have := Bfs.turnTo_bound (nextOf_len h) _ xs hxs
    rw [List.length_map] at this
    omega
  · rw [hl]
    have := Bfs.turnTo_mem _ _ xs hxs t ht
    rw [List.length_map] at this
    exact this

theorem turned_calls (xss : List (List Int)) (v : Value) (D : Nat → Prop) (w : World) (hD : Lo D w) (h : Rows2 w D v xss) (he : Edges xss) :
    Calls Tryz.prog 88 #[v] w fun e w' => ∃ v', e = .returned v' ∧ Below w.heap.size w w' ∧ Rows2 w' (nws w w') v' (Bfs.turn xss) := by
  obtain ⟨A, c, rfl, h1, h2, -⟩ := h.form
  have hlen := he.len
  unfold maxLen at h2
  have H := Lib.hid h
  have HE := Lib.hid he
  clear h he
  go_enter Tryz.func88, Tryz.ntmps88
  go_wp2_with (refine wpList_mk1 elem_row rfl _ _ rfl (by intro cs h; cases h) w.heap.size _ _ (xss.length : Int) (xss.length : Int) rfl rfl (by omega) (by omega) (by omega) (by omega) (by simp) ?_; intro w1 hown hb1 hz1 hcells)
  have hrows : OwnRows w1 w.heap.size w.heap.size (List.replicate xss.length (.slice none 0 0)) (List.replicate xss.length []) := OwnRows.new (by simpa using hcells) (by omega)
  clear hown hcells
  go_loopw [13] (fun k W => ∃ (j : Nat) (vs : List Value), j ≤ xss.length ∧ k = .int .i64 (j : Int) ∧ Below w.heap.size w W ∧ w.heap.size + 1 ≤ W.heap.size ∧ OwnRows W w.heap.size w.heap.size vs (Bfs.turnTo xss j) ∧ Hid (∀ x ∈ Bfs.turnTo xss j, x.length ≤ 2560 * j)) (fun k _ => xss.length - (intOf k).toNat)
  case atStart => exact ⟨0, _, Nat.zero_le _, rfl, hb1, by omega, hrows, (fun x hx => by rw [List.eq_of_mem_replicate hx]; simp : ∀ x ∈ Bfs.turnTo xss 0, x.length ≤ 2560 * 0)⟩
  case round =>
    obtain ⟨j, vs, hj, rfl, hBW, hsW, hRW, HBD⟩ := hrel
    clear hrows hb1 hz1
    by_cases hlt : j < xss.length
    · obtain ⟨xs, hx⟩ : ∃ xs, xss[j]? = some xs := ⟨_, List.getElem?_eq_getElem hlt⟩
      obtain ⟨ad, B, d, rfl, hDa, Q0, hd1, hd2, HC⟩ := H.out.row_up hD j xs hx
      have q0 := Q0.out _ hBW
      have hxm : xs ∈ xss := List.mem_of_getElem? hx
      have h64 := HE.out.row xs hxm
      have HT := Lib.hid (HE.out.ins xs hxm)
      have HJ := Lib.hid (show Bfs.turnTo xss (j + 1) = xs.foldl (fun o t => Bfs.push o j t) (Bfs.turnTo xss j) by
        show (xss.getD j []).foldl _ _ = _
        rw [List.getD_eq_getElem?_getD, hx]; rfl)
      have HX := Lib.hid hx
      unfold maxLen at hd2
      clear hx
      go_wp2
      go_loopw [20] (fun k W => ∃ (i : Nat) (vs : List Value) (o : List (List Int)), i ≤ xs.length ∧ k = .int .i64 (i : Int) ∧ Below w.heap.size w W ∧ w.heap.size + 1 ≤ W.heap.size ∧ OwnRows W w.heap.size w.heap.size vs o ∧ o.length = xss.length ∧ Hid (o = (xs.take i).foldl (fun o t => Bfs.push o j t) (Bfs.turnTo xss j)) ∧ Hid (∀ x ∈ o, x.length ≤ 2560 * j + i)) (fun k _ => xs.length - (intOf k).toNat)
      case atStart => exact ⟨0, _, _, Nat.zero_le _, rfl, hBW, hsW, hRW, Bfs.turnTo_len xss j, rfl, HBD⟩
      case round =>
        clear hBW hsW hRW HBD q0
        obtain ⟨i, vs2, o, hi, rfl, hBW, hsW, hRW, hol, HO, HBD⟩ := hrel
        have HOL := Lib.hid hol
        clear hol
        by_cases hlt2 : i < xs.length
        · obtain ⟨t, ht⟩ : ∃ t, xs[i]? = some t := ⟨_, List.getElem?_eq_getElem hlt2⟩
          obtain ⟨t1, t2⟩ := HT.out t (List.mem_of_getElem? ht)
          obtain ⟨tn, rfl⟩ := Int.eq_ofNat_of_zero_le t1
          obtain ⟨bd, rfl, hDb, hcs⟩ := HC.out (by omega)
          have q1 := hcs _ hBW i _ ht
          have htn : tn < xss.length := by omega
          obtain ⟨ys, hy⟩ : ∃ ys, o[tn]? = some ys := ⟨_, List.getElem?_eq_getElem (by rw [HOL.out]; exact htn)⟩
          obtain ⟨v, hv, hrow, hne⟩ := hRW.get hy
          obtain ⟨k1, k2⟩ := hRW.cell hv
          have hys := HBD.out ys (List.mem_of_getElem? hy)
          have HY := Lib.hid hy
          have HTT := Lib.hid ht
          clear hcs ht hy
          go_wp2_with (at_builtin; refine wpList_app1 elem_i64 rfl _ _ rfl w.heap.size v ys.length (ints ys) rfl (hrow.alloc _) ⟨_, 0, none⟩ 1 _ rfl (cell_new1 _ _ _) rfl (by omega) (by omega) (by simp; omega) ?_; intro v3 w3 ho3 hg3 ha3; obtain ⟨m1, m2⟩ := hRW.app_cell HY.out hv hg3; obtain ⟨A3, c3, rfl, _, _, _⟩ := own_form ho3)
          have e1 : (xs.take (i + 1)).foldl (fun o t => Bfs.push o j t) (Bfs.turnTo xss j) = o.set tn (ys ++ [(j : Int)]) := by
            rw [List.take_add_one, HTT.out, List.foldl_append, ← HO.out]
            simp [Bfs.push, List.getD_eq_getElem?_getD, HY.out]
          refine ⟨⟨i + 1, vs2.set tn (.slice A3 (ys.length + 1) c3), o.set tn (ys ++ [(j : Int)]), by omega, by go_num, hRW.app_below HY.out hv hg3 hBW (by omega) _, by have := hg3.size; simp [World.setCell] at this ⊢; omega, hRW.app HY.out hv hg3 ho3 ha3, by simp [HOL.out], e1.symm, ?_⟩, by simp [intOf]; omega⟩
          have : ∀ x ∈ o.set tn (ys ++ [(j : Int)]), x.length ≤ 2560 * j + (i + 1) := by
            intro x hx
            rcases List.mem_or_eq_of_mem_set hx with hx | rfl
            · have := HBD.out x hx; omega
            · simp; omega
          exact this
        · obtain rfl : i = xs.length := by omega
          clear hlt2
          go_wp2
          refine ⟨⟨j + 1, vs2, by omega, by go_num, hBW, hsW, ?_, ?_⟩, by simp [intOf]; omega⟩
          · rw [HJ.out]; have := HO.out; rw [List.take_length] at this; rw [← this]; exact hRW
          · have : ∀ x ∈ Bfs.turnTo xss (j + 1), x.length ≤ 2560 * (j + 1) := by
              rw [HJ.out]; have := HO.out; rw [List.take_length] at this; rw [← this]
              intro x hx
              have := HBD.out x hx
              omega
            exact this
    · obtain rfl : j = xss.length := by omega
      clear hlt
      go_wp2
      go_ret
      refine ⟨_, rfl, hBW, ?_⟩
      exact hRW.sl (by rw [Bfs.turnTo_len]; simp only [maxLen]; omega) xss.length (by rw [Bfs.turnTo_len])

end Go.Proofs.YtoffbdlgmnpblaaGreat
