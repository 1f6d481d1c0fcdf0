/- Part 13: Gr3 Gr4 Gr5 Gr6 Gr7. -/
import Derived.Test.YtoffbdlgmnpblaaGreatJ12
import Derived.ArgAppend
import Derived.Deep.LoopGhost

/- Slices of slices that are read; a queue of the call's own; package graph: turned. -/
namespace Go.Proofs.YtoffbdlgmnpblaaGreat
open Go.RowKit
set_option maxHeartbeats 4000000
set_option maxRecDepth 100000

abbrev Rows2 (w : World) (D : Nat → Prop) (v : Value) (xss : List (List Int)) : Prop := Sl (Kind.slice (Kind.int .i64)) w D v xss

/-- a row of a list of rows, in each later world -/
theorem Rows2.row_up {w : World} {D : Nat → Prop} {A : Option Addr} {n c : Nat} {xss : List (List Int)} (h : Rows2 w D (.slice A n c) xss) (hD : Lo D w) (i : Nat) (xs : List Int) (hx : xss[i]? = some xs) :
    ∃ ad B d, A = some ad ∧ D ad.block ∧ Hid (∀ W, Below w.heap.size w W → W.cell? (ad.add i) = some (.slice B xs.length d)) ∧ xs.length ≤ d ∧ d ≤ maxLen ∧ Hid (0 < xs.length → ∃ bd, B = some bd ∧ D bd.block ∧ ∀ W, Below w.heap.size w W → ∀ j x, xs[j]? = some x → W.cell? (bd.add j) = some (.int .i64 x)) := by
  obtain ⟨A', c', e, h1, h2, h3⟩ := h
  injection e with e1 e2 e3
  subst e1 e3
  obtain ⟨ad, cs, e, hd, ⟨v, rfl, hs⟩, ha⟩ := h3 i xs hx
  have h0 := ha 0 v rfl
  rw [add_of_add, show i * (Kind.slice (Kind.int .i64)).sz + 0 = i from by show i * 1 + 0 = i; omega] at h0
  obtain ⟨B, d, rfl, k1, k2, k3⟩ := hs.ints
  refine ⟨ad, B, d, e, hd, (fun W hb => (hb.cell (p := ad.add i) (by rw [block_of_add]; exact hD _ hd)).trans h0 : ∀ W, Below w.heap.size w W → W.cell? (ad.add i) = some (.slice B xs.length d)), k1, k2, ?_⟩
  have : 0 < xs.length → ∃ bd, B = some bd ∧ D bd.block ∧ ∀ W, Below w.heap.size w W → ∀ j x, xs[j]? = some x → W.cell? (bd.add j) = some (.int .i64 x) := by
    intro hp
    obtain ⟨bd, e1, hbd, hc⟩ := k3 hp
    refine ⟨bd, e1, hbd, fun W hb j x hj => ?_⟩
    have := hc j (List.getElem?_eq_some_iff.1 hj).1
    rw [Dig.gd_of hj] at this
    exact (hb.cell (p := bd.add j) (by rw [block_of_add]; exact hD _ hbd)).trans this
  exact this

theorem spot_none {w : World} {a : Addr} {v : Value} (h : w.cell? a = some v) : a.spot = none := by
  unfold World.cell? at h
  cases hh : w.heap[a.block]? with
  | none => rw [hh] at h; cases h
  | some o =>
    rw [hh] at h
    cases o <;> simp at h
    cases hs : a.spot with
    | none => rfl
    | some p => rw [hs] at h; simp at h
theorem add_lit' {a : Addr} (h : a.spot = none) (i : Nat) : a.add i = ⟨a.block, a.off + i, none⟩ := by
  unfold Addr.add
  split
  · rename_i e; subst e; cases a; simp at h; simp [h]
  · cases a; simp at h; simp

/-- a copy of a list of numbers -/
theorem Clone_calls (xs : List Int) (v : Value) (D : Nat → Prop) (w : World) (h : Sl (Kind.int .i64) w D v xs) (hl : xs.length ≤ 1000000) :
    Calls Tryz.prog 76 #[v] w fun e w' => ∃ v', e = .returned v' ∧ w'.ownsRow w.heap.size 3 1 v' xs.length (ints xs) ∧ Below w.heap.size w w' := by
  obtain ⟨A, c, rfl, h1, h2, h3⟩ := h.ints
  rcases A with _ | ad
  · have hz : xs = [] := by
      cases xs with
      | nil => rfl
      | cons a l => obtain ⟨ad, e, _⟩ := h3 (by simp); cases e
    subst hz
    refine (Tryz.slices_Clone_int_nil 0 c w).mono ?_
    rintro e w' ⟨rfl, rfl⟩
    exact ⟨_, rfl, World.ownsRow_nil _ _ _ _, Below.refl _ _⟩
  · by_cases h0 : 0 < xs.length
    · obtain ⟨ad', e, hd, hc⟩ := h3 h0
      cases e
      have hsp := spot_none (hc 0 h0)
      have hsp : ad.spot = none := by
        unfold Addr.add at hsp; simpa using hsp
      have hc' : ∀ j, j < xs.length → w.cell? ⟨ad.block, ad.off + j, none⟩ = some (.int .i64 (xs.getD j 0)) := by
        intro j hj
        have := hc j hj
        rw [add_lit' hsp] at this
        rw [this, Dig.gd_int]
      have he : ad = ⟨ad.block, ad.off, none⟩ := by cases ad; simp at hsp; simp [hsp]
      rw [he]
      refine (Tryz.slices_Clone_int ad.block ad.off xs.length c xs w (Nat.le_refl _) (by omega) hc').mono ?_
      rintro e w' ⟨v', rfl, ho, -, hb⟩
      rw [List.take_length] at ho
      exact ⟨v', rfl, ho, hb⟩
    · have hz : xs = [] := List.eq_nil_of_length_eq_zero (by omega)
      subst hz
      refine (Tryz.slices_Clone_int_zero ad c w).mono ?_
      rintro e w' ⟨v', rfl, ho, -, hb⟩
      exact ⟨v', rfl, ho, hb⟩

/-! ### a queue -/
def QOwn (w : World) (base : Nat) (v : Value) (xs : List Int) : Prop :=
  (v = .slice none 0 0 ∧ xs = []) ∨ ∃ g off cap cur, v = .slice (some ⟨g, off, none⟩) xs.length cap ∧ base ≤ g ∧ w.heap[g]? = some (.cells cur 3 (0, 0)) ∧ xs.length ≤ cap ∧ cap ≤ maxLen ∧ off + cap ≤ cur.size ∧ ∀ i x, xs[i]? = some x → cur[off + i]? = some (.int .i64 x)
theorem QOwn.of_own {w : World} {base : Nat} {v : Value} {xs : List Int} (h : w.ownsRow base 3 1 v xs.length (ints xs)) : QOwn w base v xs := by
  obtain ⟨hl, ⟨rfl, h0⟩ | ⟨g, cap, cur, rfl, hb, hg, hnc, hcm, hcs, ht⟩⟩ := h
  · exact .inl ⟨rfl, List.eq_nil_of_length_eq_zero h0⟩
  · refine .inr ⟨g, 0, cap, cur, rfl, hb, hg, hnc, hcm, by omega, fun i x hx => ?_⟩
    have hi := (List.getElem?_eq_some_iff.1 hx).1
    have h1 : (cur.toList.take (xs.length * 1))[i]? = (ints xs)[i]? := by rw [ht]
    rw [List.getElem?_take_of_lt (by omega), List.getElem?_map, hx] at h1
    simpa using h1
theorem QOwn.lt {w : World} {base : Nat} {v : Value} {xs : List Int} (h : QOwn w base v xs) : ∀ k, v.ownBlock = some k → base ≤ k ∧ k < w.heap.size := by
  intro k hk
  rcases h with ⟨rfl, -⟩ | ⟨g, off, cap, cur, rfl, hb, hg, -⟩
  · cases hk
  · cases hk
    exact ⟨hb, (Array.getElem?_eq_some_iff.1 hg).1⟩
theorem QOwn.kept {w w' : World} {base : Nat} {v : Value} {xs : List Int} (h : QOwn w base v xs) (hb : ∀ k, v.ownBlock = some k → w'.heap[k]? = w.heap[k]?) : QOwn w' base v xs := by
  rcases h with h | ⟨g, off, cap, cur, rfl, hbs, hg, h4⟩
  · exact .inl h
  · exact .inr ⟨g, off, cap, cur, rfl, hbs, (hb g rfl).trans hg, h4⟩
theorem QOwn.below {w w' : World} {base : Nat} {v : Value} {xs : List Int} (h : QOwn w base v xs) (hb : Below w.heap.size w w') : QOwn w' base v xs := h.kept fun k hk => hb.block k (h.lt k hk).2
theorem QOwn.head {w : World} {base g off n cap : Nat} {x : Int} {xs : List Int} (h : QOwn w base (.slice (some ⟨g, off, none⟩) n cap) (x :: xs)) : w.cell? ⟨g, off, none⟩ = some (.int .i64 x) := by
  rcases h with ⟨h, -⟩ | ⟨g', off', cap', cur, e, hb, hg, h4, h5, h6, h7⟩
  · cases h
  · cases e
    have := h7 0 x rfl
    simp [World.cell?, hg]
    simpa using this
theorem QOwn.tail {w : World} {base g off n cap : Nat} {x : Int} {xs : List Int} (h : QOwn w base (.slice (some ⟨g, off, none⟩) n cap) (x :: xs)) : QOwn w base (.slice (some ⟨g, off + 1, none⟩) (n - 1) (cap - 1)) xs := by
  rcases h with ⟨h, -⟩ | ⟨g', off', cap', cur, e, hb, hg, h4, h5, h6, h7⟩
  · cases h
  · cases e
    simp only [List.length_cons] at h4
    refine .inr ⟨g, off + 1, cap - 1, cur, by simp, hb, hg, by omega, by omega, by omega, fun i y hy => ?_⟩
    have := h7 (i + 1) y (by simpa using hy)
    rw [show off + 1 + i = off + (i + 1) by omega]; exact this
theorem QOwn.tail1 {w : World} {base g off n : Nat} {x : Int} {xs : List Int} (h : QOwn w base (.slice (some ⟨g, off, none⟩) n 1) (x :: xs)) : xs = [] ∧ QOwn w base (.slice (some ⟨g, off, none⟩) (n - 1) 0) xs := by
  rcases h with ⟨h, -⟩ | ⟨g', off', cap', cur, e, hb, hg, h4, h5, h6, h7⟩
  · cases h
  · cases e
    simp only [List.length_cons] at h4
    obtain rfl : xs = [] := List.eq_nil_of_length_eq_zero (by omega)
    exact ⟨rfl, .inr ⟨g, off, 0, cur, by simp, hb, hg, by simp, by simp, by omega, fun i y hy => by simp at hy⟩⟩
theorem QOwn.form {w : World} {base : Nat} {v : Value} {x : Int} {xs : List Int} (h : QOwn w base v (x :: xs)) : ∃ g off cap, v = .slice (some ⟨g, off, none⟩) (xs.length + 1) cap ∧ 1 ≤ cap ∧ cap ≤ maxLen := by
  rcases h with ⟨-, h⟩ | ⟨g, off, cap, cur, rfl, hb, hg, h4, h5, h6, h7⟩
  · cases h
  · simp only [List.length_cons] at h4
    exact ⟨g, off, cap, rfl, by omega, h5⟩

theorem wpList_qapp {w : World} {ops : Array Oper} {rest : List Oper} {o : Oper} {a : Act} {Q : Exit → Act → World → Prop}
    (hgd : o.guard = none) (s x : Operand) (ho : o.op = .call { callee := .builtin .append, args := #[s, x], argTypes := #[31, 31] })
    (base : Nat) (v : Value) (xs : List Int) (hs : a.eval s = v) (hown : QOwn w base v xs) (ad : Addr) (c : Nat) (y : Int) (hx : a.eval x = .slice (some ad) 1 c) (hc : w.cell? ad = some (.int .i64 y))
    (hb : xs.length + 1 ≤ 1000000) (hbase : base ≤ w.heap.size)
    (h : ∀ v' w', QOwn w' base v' (xs ++ [y]) → w.grownBy w' v.ownBlock → (v'.ownBlock = v.ownBlock ∨ ∀ k, v'.ownBlock = some k → w.heap.size ≤ k) → wpList Tryz.prog ops Q rest (a.put o.dst v') w') : wpList Tryz.prog ops Q (o :: rest) a w := by
  have hat : ∀ j u', [Value.int .i64 y][j]? = some u' → w.cell? (ad.add j) = some u' := by
    intro j u' hj
    cases j with
    | zero => simp at hj; subst hj; exact hc
    | succ j => simp at hj
  rcases hown with ⟨rfl, rfl⟩ | ⟨g, off, cap, cur, rfl, hbs, hg, h4, h5, h6, h7⟩
  · refine wpList_app1 elem_i64 hgd s x ho base (.slice none 0 0) 0 [] hs (World.ownsRow_nil _ _ _ _) ad c _ hx hc rfl (by omega) (by omega) hbase ?_
    intro v' w' h1 h2 h3
    exact h v' w' (QOwn.of_own (xs := [y]) h1) h2 (h3.imp id fun e k hk => by rw [e] at hk; cases hk; exact Nat.le_refl _)
  · obtain ⟨i, hi, hz, hsz, hby⟩ := elem_i64.hi
    refine wpList_append_arg w hgd s x 31 ho 3 i _ 1 8 elem_i64.ht hi hz hsz hby rfl (by decide) g off xs.length cap (ints xs) hs (by simp) ?_ ad 1 c [.int .i64 y] hx rfl hat (by simp [Value.oneCell']) ?_ (by simp only [maxLen]; omega) (by omega) ?_ ?_
    · intro j u hj
      rw [List.getElem?_map] at hj
      cases hx : xs[j]? with
      | none => rw [hx] at hj; cases hj
      | some z =>
        rw [hx] at hj; cases hj
        simp [World.cell?, hg, h7 j z hx]
    · intro hr j hj
      have : j = 0 := by simpa using hj
      subst this
      constructor
      · simp [World.cell?, hg]
        omega
      · simp [World.frozen?, hg]
    · intro hr
      have hgl := (Array.getElem?_eq_some_iff.1 hg).1
      refine h _ _ ?_ ⟨rfl, rfl, rfl, by simp [World.setCells, World.setCell], fun k hk hne => ?_⟩ (.inl rfl)
      · refine .inr ⟨g, off, cap, cur.setIfInBounds (off + xs.length) (.int .i64 y), by simp, hbs, ?_, by simpa using hr, h5, by simpa using h6, ?_⟩
        · simp [World.setCells, World.setCell, Array.getElem?_modify, hg]
        · intro i z hz
          by_cases e : i = xs.length
          · subst e
            simp at hz
            subst hz
            rw [Array.getElem?_setIfInBounds_self_of_lt (by omega)]
          · have hi : i < xs.length := by have := (List.getElem?_eq_some_iff.1 hz).1; simp at this; omega
            rw [List.getElem?_append_left hi] at hz
            rw [Array.getElem?_setIfInBounds_ne (by omega)]
            exact h7 i z hz
      · exact Below.heap_setCell w _ _ k (fun e => hne (by show some k = some g; rw [e]))
    · intro hgr v' w' h1 h2
      refine h v' w' (QOwn.of_own (xs := xs ++ [y]) ?_) ⟨h2.os, h2.tape, h2.output, h2.size, fun k hk _ => h2.block k hk (by simp)⟩ ?_
      · obtain ⟨e1, e2⟩ := h1
        refine ⟨by simp, ?_⟩
        rcases e2 with e2 | ⟨g', cap', cur', e3, e4, e5, e6, e7, e8, e9⟩
        · exact .inl ⟨e2.1, by simp at e2⟩
        · refine .inr ⟨g', cap', cur', by simpa using e3, by omega, e5, by simpa using e6, e7, e8, by simpa using e9⟩
      · right
        intro k hk
        exact (h1.lt k hk).1

end Go.Proofs.YtoffbdlgmnpblaaGreat

/- Package graph: edges in the other direction. -/
namespace Go.Proofs.YtoffbdlgmnpblaaGreat
open Go.RowKit
set_option maxHeartbeats 4000000
set_option maxRecDepth 100000

/-- edges between states -/
structure Edges (xss : List (List Int)) : Prop where
  len : xss.length ≤ 40
  row : ∀ xs ∈ xss, xs.length ≤ 2560
  ins : ∀ xs ∈ xss, ∀ t ∈ xs, 0 ≤ t ∧ t < (xss.length : Int)

theorem mem_isort {l : List Int} {x : Int} : x ∈ isort l ↔ x ∈ l := List.mem_mergeSort
theorem foldl_add1_mem (l : List Int) : ∀ (L : List Int) (x : Int), x ∈ l.foldl add1 L ↔ x ∈ L ∨ x ∈ l := by
  induction l with
  | nil => intro L x; simp
  | cons a l ih =>
    intro L x
    rw [List.foldl_cons, ih]
    have : x ∈ add1 L a ↔ x ∈ L ∨ x = a := by
      unfold add1
      split
      · rename_i h
        have : a ∈ L := by simpa using h
        constructor
        · exact .inl
        · rintro (h | rfl)
          · exact h
          · exact this
      · simp
    rw [this, List.mem_cons, or_assoc]
theorem mem_dd {l : List Int} {x : Int} : x ∈ dd l ↔ x ∈ l := by unfold dd; rw [foldl_add1_mem]; simp
theorem foldl_add1_len (l : List Int) : ∀ (L : List Int), (l.foldl add1 L).length ≤ L.length + l.length := by
  induction l with
  | nil => intro L; simp
  | cons a l ih =>
    intro L
    rw [List.foldl_cons]
    refine Nat.le_trans (ih _) ?_
    have : (add1 L a).length ≤ L.length + 1 := by unfold add1; split <;> simp
    simp only [List.length_cons]; omega
theorem mem_nextOf {s : St} {x : Int} : x ∈ nextOf s ↔ ∃ c ∈ s.chs, ∃ b ∈ c.brs, b.to = x := by
  unfold nextOf
  rw [mem_isort, mem_dd]
  simp [targets, tos]
theorem flatMap_len {α : Type} (f : α → List Int) (b : Nat) (l : List α) (h : ∀ x ∈ l, (f x).length ≤ b) : (l.flatMap f).length ≤ b * l.length := by
  induction l with
  | nil => simp
  | cons a l ih =>
    have h1 := h a (List.mem_cons_self ..)
    have h2 := ih fun x hx => h x (List.mem_cons_of_mem _ hx)
    simp only [List.flatMap_cons, List.length_append, List.length_cons, Nat.mul_add, Nat.mul_one]
    omega
theorem nextOf_len {m : List St} (h : Fine m) : ∀ xs ∈ m.map nextOf, xs.length ≤ 64 := by
  · intro xs hxs
    obtain ⟨s, hs, rfl⟩ := List.mem_map.1 hxs
    have h1 : (nextOf s).length = (dd (targets s)).length := List.length_mergeSort _
    have h2 := foldl_add1_len (targets s) []
    have h3 : (targets s).length ≤ 8 * s.chs.length := flatMap_len tos 8 s.chs fun c hc => by simpa [tos] using h.brs s hs c hc
    have h4 := h.chs s hs
    simp only [List.length_nil, Nat.zero_add] at h2
    have h5 : (dd (targets s)).length ≤ (targets s).length := h2
    omega
theorem Edges.of_fine {m : List St} (h : Fine m) : Edges (m.map nextOf) := by
  refine ⟨by rw [List.length_map]; exact h.len, fun xs hxs => by have := nextOf_len h xs hxs; omega, ?_⟩
  intro xs hxs t ht
  obtain ⟨s, hs, rfl⟩ := List.mem_map.1 hxs
  obtain ⟨c, hc, b, hb, rfl⟩ := mem_nextOf.1 ht
  rw [List.length_map]
  exact h.tos s hs c hc b hb
theorem Edges.turned {m : List St} (h : Fine m) : Edges (Bfs.turn (m.map nextOf)) := by
  have hl : (Bfs.turn (m.map nextOf)).length = m.length := by unfold Bfs.turn; rw [Bfs.turnTo_len, List.length_map]
  have h40 := h.len
  refine ⟨by rw [hl]; exact h40, fun xs hxs => ?_, fun xs hxs t ht => ?_⟩
  · have := Bfs.turnTo_bound (nextOf_len h) _ xs hxs
    rw [List.length_map] at this
    omega
  · rw [hl]
    have := Bfs.turnTo_mem _ _ xs hxs t ht
    rw [List.length_map] at this
    exact this

end Go.Proofs.YtoffbdlgmnpblaaGreat

/- Package graph: lengths of shortest paths. -/
namespace Go.Proofs.YtoffbdlgmnpblaaGreat
open Go.RowKit
set_option maxHeartbeats 4000000
set_option maxRecDepth 100000

/-- the call's own list of n numbers -/
def OwnInts (W : World) (B g n : Nat) (d : List Int) : Prop := W.ownsRow B 3 1 (.slice (some ⟨g, 0, none⟩) n n) n (ints d)
theorem ints_set (d : List Int) (i : Nat) (y : Int) : (ints d).set i (.int .i64 y) = ints (d.set i y) := by simp [ints, List.map_set]
section
variable {W W' : World} {B g n : Nat} {d : List Int}
theorem OwnInts.len (h : OwnInts W B g n d) : d.length = n := by have := h.1; simpa using this
theorem OwnInts.cell (h : OwnInts W B g n d) {i : Nat} {x : Int} (hx : d[i]? = some x) : W.cell? ⟨g, i, none⟩ = some (.int .i64 x) ∧ W.frozen? ⟨g, i, none⟩ = false := own_cell h i _ (by simp [hx])
theorem OwnInts.cellAt (h : OwnInts W B g n d) {t : Int} (h0 : 0 ≤ t) (h1 : t < (n : Int)) : W.cell? ⟨g, t.toNat, none⟩ = some (.int .i64 (Bfs.at' d t)) ∧ W.frozen? ⟨g, t.toNat, none⟩ = false := h.cell (Bfs.at_get h0 (by rw [h.len]; exact h1))
theorem OwnInts.set (h : OwnInts W B g n d) {i : Nat} (hi : i < n) (y : Int) : OwnInts (W.setCell ⟨g, i, none⟩ (.int .i64 y)) B g n (d.set i y) := by
  have := own_set h i hi (.int .i64 y)
  rw [ints_set] at this
  exact this
theorem OwnInts.lt (h : OwnInts W B g n d) : B ≤ g ∧ g < W.heap.size := World.ownsRow.lt h g rfl
theorem OwnInts.kept (h : OwnInts W B g n d) (hb : W'.heap[g]? = W.heap[g]?) : OwnInts W' B g n d := by
  obtain ⟨h1, h2⟩ := h
  refine ⟨h1, ?_⟩
  rcases h2 with h2 | ⟨k, cap, cur, hvk, hbk, hck, h5⟩
  · exact .inl h2
  · cases hvk
    exact .inr ⟨g, _, cur, rfl, hbk, hb.trans hck, h5⟩
theorem OwnInts.below (h : OwnInts W B g n d) (hb : Below W.heap.size W W') : OwnInts W' B g n d := h.kept (hb.block g h.lt.2)
theorem OwnInts.grown {row : Option Nat} (h : OwnInts W B g n d) (hg : W.grownBy W' row) (hne : some g ≠ row) : OwnInts W' B g n d := h.kept (hg.block g h.lt.2 hne)
end
theorem QOwn.set {W : World} {B : Nat} {v : Value} {q : List Int} (h : QOwn W B v q) {p : Addr} (hp : p.block < B) (u : Value) : QOwn (W.setCell p u) B v q := h.kept fun k hk => Below.heap_setCell W p u k (by have := (h.lt k hk).1; omega)
theorem QOwn.grown {W W' : World} {B : Nat} {v : Value} {q : List Int} (h : QOwn W B v q) (hb : Below W.heap.size W W') : QOwn W' B v q := h.below hb
theorem QOwn.mono {W : World} {B B' : Nat} {v : Value} {q : List Int} (h : QOwn W B v q) (hB : B' ≤ B) : QOwn W B' v q := by
  rcases h with h | ⟨g, off, cap, cur, e, hb, h4⟩
  · exact .inl h
  · exact .inr ⟨g, off, cap, cur, e, by omega, h4⟩

theorem QOwn.nil_form {W : World} {B : Nat} {v : Value} (h : QOwn W B v []) : ∃ A cap, v = .slice A 0 cap := by
  rcases h with ⟨rfl, -⟩ | ⟨g, off, cap, cur, rfl, -⟩
  · exact ⟨_, _, rfl⟩
  · exact ⟨_, _, rfl⟩
theorem OwnInts.sl {W : World} {B g n : Nat} {d : List Int} (h : OwnInts W B g n d) : Sl (Kind.int .i64) W (fun b => B ≤ b ∧ b < W.heap.size ∧ Soft W b) (.slice (some ⟨g, 0, none⟩) n n) d := by
  have hl := h.len
  subst hl
  exact own_intsS h
theorem fold_take_succ {xs : List Int} {i : Nat} {t : Int} (ht : xs[i]? = some t) (s : Int) (p : List Int × List Int) : (xs.take (i + 1)).foldl (Bfs.visit s) p = Bfs.visit s ((xs.take i).foldl (Bfs.visit s) p) t := by
  rw [List.take_add_one, ht, List.foldl_append]; rfl

/-- numbers that came in, in each later world -/
theorem Ints.up {w : World} {D : Nat → Prop} {A : Option Addr} {n c : Nat} {xs : List Int} (h : Sl (Kind.int .i64) w D (.slice A n c) xs) (hD : Lo D w) :
    Hid (0 < xs.length → ∃ bd, A = some bd ∧ D bd.block ∧ ∀ W, Below w.heap.size w W → ∀ j x, xs[j]? = some x → W.cell? (bd.add j) = some (.int .i64 x)) := by
  have : 0 < xs.length → ∃ bd, A = some bd ∧ D bd.block ∧ ∀ W, Below w.heap.size w W → ∀ j x, xs[j]? = some x → W.cell? (bd.add j) = some (.int .i64 x) := by
    intro hp
    obtain ⟨A', c', e, k1, k2, k3⟩ := h.ints
    injection e with e1 e2 e3
    subst e1
    obtain ⟨bd, e1, hbd, hc⟩ := k3 hp
    refine ⟨bd, e1, hbd, fun W hb j x hj => ?_⟩
    have := hc j (List.getElem?_eq_some_iff.1 hj).1
    rw [Dig.gd_of hj] at this
    exact (hb.cell (p := bd.add j) (by rw [block_of_add]; exact hD _ hbd)).trans this
  exact this

theorem Depths_calls (xss : List (List Int)) (l : List Int) (v u : Value) (D : Nat → Prop) (w : World) (hD : Lo D w) (h : Rows2 w D v xss) (hl : Sl (Kind.int .i64) w D u l) (he : Edges xss) (hm : ∀ s ∈ l, 0 ≤ s ∧ s < (xss.length : Int)) (hll : l.length ≤ 100) :
    Calls Tryz.prog 79 #[v, u] w fun e w' => ∃ v', e = .returned v' ∧ Below w.heap.size w w' ∧ Sl (Kind.int .i64) w' (nws w w') v' (Bfs.depths xss l) := by
  obtain ⟨A, c, rfl, h1, h2, -⟩ := h.form
  obtain ⟨B, b, rfl, l1, l2, -⟩ := hl.form
  have hlen := he.len
  unfold maxLen at h2 l2
  have HU := Ints.up hl hD
  have H := Lib.hid h
  have HL := Lib.hid hl
  have HE := Lib.hid he
  have HM := Lib.hid hm
  clear h he hl hm
  go_enter Tryz.func79, Tryz.ntmps79
  go_wp2_with (refine wpList_mk1 elem_i64 rfl _ _ rfl (by intro cs h; cases h) w.heap.size _ _ (xss.length : Int) (xss.length : Int) rfl rfl (by omega) (by omega) (by omega) (by omega) (by simp) ?_; intro w1 hown hb1 hz1 hcells)
  have hown' : OwnInts w1 w.heap.size w.heap.size xss.length (List.replicate xss.length 0) := by simpa [OwnInts, ints] using hown
  clear hown hcells
  go_loopw [18] (fun k W => ∃ (j : Nat) (d : List Int), j ≤ xss.length ∧ k = .int .i64 (j : Int) ∧ Below w.heap.size w W ∧ w.heap.size + 1 ≤ W.heap.size ∧ OwnInts W w.heap.size w.heap.size xss.length d ∧ Hid (d = List.replicate j (-1) ++ List.replicate (xss.length - j) 0)) (fun k _ => xss.length - (intOf k).toNat)
  case atStart => exact ⟨0, _, Nat.zero_le _, rfl, hb1, by omega, hown', (by simp : List.replicate xss.length (0 : Int) = List.replicate 0 (-1) ++ List.replicate (xss.length - 0) 0)⟩
  case round =>
    obtain ⟨j, d, hj, rfl, hBW, hsW, hO, HDD⟩ := hrel
    clear hown' hb1 hz1
    by_cases hlt : j < xss.length
    · obtain ⟨k1, k2⟩ := hO.cell (i := j) (x := 0) (by rw [HDD.out, List.getElem?_append_right (by simp), List.length_replicate, Nat.sub_self, List.getElem?_replicate, if_pos (by omega)])
      go_wp2
      refine ⟨⟨j + 1, d.set j (-1), by omega, by go_num, hBW.setCell (by simp) _, by simpa [World.setCell] using hsW, hO.set hlt _, ?_⟩, by simp [intOf]; omega⟩
      have : d.set j (-1) = List.replicate (j + 1) (-1) ++ List.replicate (xss.length - (j + 1)) 0 := by
        rw [HDD.out, List.set_append_right _ _ (by simp)]
        have e : xss.length - j = (xss.length - (j + 1)) + 1 := by omega
        rw [e, List.replicate_succ (n := xss.length - (j + 1)), List.length_replicate, Nat.sub_self, List.set_cons_zero, List.replicate_succ' (n := j)]
        simp
      exact this
    · obtain rfl : j = xss.length := by omega
      have hd : d = List.replicate xss.length (-1) := by rw [HDD.out]; simp
      subst hd
      clear hlt HDD
      have hul := HL.out.same (hD.same hBW)
      have HUL := Lib.hid hul
      clear hul
      go_wp2_with fail
      refine (Clone_calls l _ D _ HUL.out (by omega)).mono ?_
      rintro e w2 ⟨qv, rfl, hq, hb2⟩
      have hQ : QOwn w2 (w.heap.size + 1) qv l := (QOwn.of_own hq).mono (by omega)
      have hO := hO.below hb2
      have hBW := hBW.trans (hb2.mono hBW.size)
      have hsW := Nat.le_trans hsW hb2.size
      clear hq hb2
      have hM0 := Lib.hid (show List.replicate xss.length (-1) = Bfs.marked xss.length (l.take 0) by simp [Bfs.marked])
      go_wp2
      go_loopw [29] (fun k W => ∃ (j : Nat) (d : List Int), j ≤ l.length ∧ k = .int .i64 (j : Int) ∧ Below w.heap.size w W ∧ w.heap.size + 1 ≤ W.heap.size ∧ OwnInts W w.heap.size w.heap.size xss.length d ∧ QOwn W (w.heap.size + 1) qv l ∧ Hid (d = Bfs.marked xss.length (l.take j))) (fun k _ => l.length - (intOf k).toNat)
      case atStart => exact ⟨0, _, Nat.zero_le _, rfl, hBW, hsW, hO, hQ, hM0.out⟩
      case round =>
        clear hBW hsW hO hQ hM0
        obtain ⟨j, d, hj, rfl, hBW, hsW, hO, hQ, HDD⟩ := hrel
        by_cases hlt : j < l.length
        · obtain ⟨t, ht⟩ : ∃ t, l[j]? = some t := ⟨_, List.getElem?_eq_getElem hlt⟩
          obtain ⟨t1, t2⟩ := HM.out t (List.mem_of_getElem? ht)
          obtain ⟨bd, rfl, hDb, hcs⟩ := HU.out (by omega)
          have q1 := hcs _ hBW j _ ht
          obtain ⟨k1, k2⟩ := hO.cellAt t1 t2
          have hTT := Lib.hid ht
          clear hcs ht
          go_wp2
          refine ⟨⟨j + 1, d.set t.toNat 0, by omega, by go_num, hBW.setCell (by simp) _, by simpa [World.setCell] using hsW, hO.set (by omega) _, hQ.set (by simp) _, ?_⟩, by simp [intOf]; omega⟩
          have : d.set t.toNat 0 = Bfs.marked xss.length (l.take (j + 1)) := by
            rw [List.take_add_one, hTT.out, Option.toList_some, Bfs.marked_snoc, ← HDD.out]
          exact this
        · obtain rfl : j = l.length := by omega
          have hdm : d = Bfs.marked xss.length l := by rw [HDD.out, List.take_length]
          subst hdm
          clear hlt HDD
          have hinv := Bfs.marked_inv xss.length l HM.out
          go_wp2
          go_loopg [7] (l.length + Bfs.neg (Bfs.marked xss.length l)) (fun k qv W => ∃ (d q : List Int), k ≤ 140 ∧ Hid (k = q.length + Bfs.neg d) ∧ Below w.heap.size w W ∧ w.heap.size + 1 ≤ W.heap.size ∧ OwnInts W w.heap.size w.heap.size xss.length d ∧ QOwn W (w.heap.size + 1) qv q ∧ Bfs.Inv xss.length d q ∧ Hid (Bfs.depths xss l = Bfs.run xss d q))
          case atStart => exact ⟨_, _, by have : Bfs.neg (Bfs.marked xss.length l) ≤ (Bfs.marked xss.length l).length := List.countP_le_length; rw [Bfs.marked_len] at this; omega, rfl, hBW, hsW, hO, hQ, hinv, rfl⟩
          case round =>
            clear hBW hsW hO hQ hinv
            obtain ⟨d, q, hk140, HK, hBW, hsW, hO, hQ, hinv, HR⟩ := hrel
            cases q with
            | nil =>
              obtain ⟨qA, qc, rfl⟩ := hQ.nil_form
              have HD := Lib.hid (show d = Bfs.depths xss l by rw [HR.out, Bfs.run_nil])
              go_wp2
              go_ret
              refine ⟨_, rfl, hBW, ?_⟩
              rw [← HD.out]
              exact hO.sl
            | cons s q =>
              obtain ⟨g, off, cap, rfl, hc1, hc2⟩ := hQ.form
              obtain ⟨s1, s2, s3⟩ := hinv.que s (List.mem_cons_self ..)
              obtain ⟨xs, hx⟩ : ∃ xs, xss[s.toNat]? = some xs := ⟨_, List.getElem?_eq_getElem (by omega)⟩
              obtain ⟨ad, C, e, rfl, hDa, Q0, hd1, hd2, HC⟩ := H.out.row_up hD s.toNat xs hx
              have q0 := Q0.out _ hBW
              have hxm : xs ∈ xss := List.mem_of_getElem? hx
              have h64 := HE.out.row xs hxm
              have HT := Lib.hid (HE.out.ins xs hxm)
              have hrow : Bfs.row xss s = xs := by unfold Bfs.row; rw [List.getD_eq_getElem?_getD, hx]; rfl
              have HR2 := Lib.hid (show Bfs.depths xss l = Bfs.run xss (xs.foldl (Bfs.visit s) (d, q)).1 (xs.foldl (Bfs.visit s) (d, q)).2 by
                rw [HR.out, Bfs.run_cons hinv (by rw [hrow]; exact HT.out), hrow])
              have hq : Bfs.Inv xss.length d q := ⟨hinv.len, hinv.bnd, fun u hu => hinv.que u (List.mem_cons_of_mem _ hu)⟩
              have HKK := Lib.hid (show gk = (q.length + Bfs.neg d) + 1 by rw [HK.out]; simp; omega)
              have hhead := hQ.head
              unfold maxLen at hd2 hc2
              have hcap : cap = 1 ∨ 2 ≤ cap := by omega
              have hqv : ∃ qv', QOwn wr (w.heap.size + 1) qv' q ∧ qv' = (if cap = 1 then .slice (some ⟨g, off, none⟩) q.length 0 else .slice (some ⟨g, off + 1, none⟩) q.length (cap - 1)) := by
                refine ⟨_, ?_, rfl⟩
                split
                · rename_i e1; subst e1; exact hQ.tail1.2
                · exact hQ.tail
              obtain ⟨qv', hQ', hqv⟩ := hqv
              clear hx hrow hinv HR HK hQ
              rcases hcap with rfl | hcap
              all_goals
                first | rw [if_pos rfl] at hqv | rw [if_neg (by omega)] at hqv
                have HQV := Lib.hid hqv
                clear hqv
                go_wp2
                rw [← HQV.out]
                go_loopw [7, 50] (fun qv k W => ∃ (i : Nat) (d' q' : List Int), i ≤ xs.length ∧ k = .int .i64 (i : Int) ∧ Below w.heap.size w W ∧ w.heap.size + 1 ≤ W.heap.size ∧ OwnInts W w.heap.size w.heap.size xss.length d' ∧ QOwn W (w.heap.size + 1) qv q' ∧ Bfs.Inv xss.length d' q' ∧ 0 ≤ Bfs.at' d' s ∧ Hid (q'.length + Bfs.neg d' = q.length + Bfs.neg d) ∧ Hid ((d', q') = (xs.take i).foldl (Bfs.visit s) (d, q))) (fun _ k _ => xs.length - (intOf k).toNat)
                case atStart => exact ⟨0, _, _, Nat.zero_le _, rfl, hBW, hsW, hO, hQ', hq, s3, rfl, rfl⟩
                case round =>
                  clear hBW hsW hO hQ' hq s3 q0 hhead
                  obtain ⟨i, d', q', hi, rfl, hBW, hsW, hO, hQ, hq, s3, hql, HF⟩ := hrel
                  by_cases hlt : i < xs.length
                  · obtain ⟨t, ht⟩ : ∃ t, xs[i]? = some t := ⟨_, List.getElem?_eq_getElem hlt⟩
                    obtain ⟨t1, t2⟩ := HT.out t (List.mem_of_getElem? ht)
                    obtain ⟨bd, rfl, hDb, hcs⟩ := HC.out (by omega)
                    have q1 := hcs _ hBW i _ ht
                    obtain ⟨k1, k2⟩ := hO.cellAt t1 t2
                    obtain ⟨j1, j2⟩ := hO.cellAt s1 s2
                    have hTT := Lib.hid ht
                    have hq140 : q'.length ≤ 140 := by have := hql.out; have := HKK.out; omega
                    have hstep := Lib.hid (fold_take_succ ht s (d, q))
                    have hbn := hq.bnd _ (Bfs.at_mem (d := d') s1 (by rw [hq.len]; exact s2))
                    obtain ⟨b1, b2⟩ := hbn
                    have hV := Bfs.visit_inv hq ⟨s1, s2, s3⟩ ⟨t1, t2⟩
                    have HV := Lib.hid hV
                    clear hcs ht hV
                    by_cases hneg : Bfs.at' d' t < 0
                    · have HVI := Lib.hid (show Bfs.visit s (d', q') t = (d'.set t.toNat (Bfs.at' d' s + 1), q' ++ [t]) by unfold Bfs.visit; rw [if_pos hneg])
                      have hO2 := hO.set (i := t.toNat) (by omega) (Bfs.at' d' s + 1)
                      have hQ2 := hQ.set (p := ⟨w.heap.size, t.toNat, none⟩) (by simp) (.int .i64 (Bfs.at' d' s + 1))
                      have hB2 := hBW.setCell (p := ⟨w.heap.size, t.toNat, none⟩) (by simp) (.int .i64 (Bfs.at' d' s + 1))
                      have hs2 : w.heap.size + 1 ≤ (wr.setCell ⟨w.heap.size, t.toNat, none⟩ (.int .i64 (Bfs.at' d' s + 1))).heap.size := by simpa [World.setCell] using hsW
                      have HN := Lib.hid (box_cells (wr.setCell ⟨w.heap.size, t.toNat, none⟩ (.int .i64 (Bfs.at' d' s + 1))) wr.heap.size (by simp) #[.int .i64 t] 3 0).1
                      go_wp2_with (at_builtin; refine wpList_qapp rfl _ _ rfl (w.heap.size + 1) _ q' rfl (hQ2.below ((Below.refl _ _).alloc (Nat.le_refl _) _)) ⟨_, 0, none⟩ 1 t rfl HN.out (by omega) (Nat.le_trans hs2 (by simp)) ?_; intro qv3 w3 hQ3 hg3 ha3)
                      have hV := HV.out
                      rw [HVI.out] at hV
                      obtain ⟨v1, v2, v3⟩ := hV
                      refine ⟨⟨i + 1, d'.set t.toNat (Bfs.at' d' s + 1), q' ++ [t], by omega, by go_num, (hB2.alloc (by omega) _).grown hg3 (by simp only [World.size_alloc]; omega) ?_, ?_, ?_, hQ3, v1, v3 s s1 s3, v2.trans hql.out, (by rw [hstep.out, ← HF.out, HVI.out] : (d'.set t.toNat (Bfs.at' d' s + 1), q' ++ [t]) = (xs.take (i + 1)).foldl (Bfs.visit s) (d, q))⟩, by simp [intOf]; omega⟩
                      · intro k hk
                        have := (hQ2.lt k hk).1
                        omega
                      · have := hg3.size
                        simp only [World.size_alloc] at this
                        omega
                      · refine (hO2.below ((Below.refl _ _).alloc (Nat.le_refl _) _)).grown hg3 ?_
                        intro e
                        have := (hQ2.lt _ e.symm).1
                        omega
                    · have HVI := Lib.hid (show Bfs.visit s (d', q') t = (d', q') by unfold Bfs.visit; rw [if_neg hneg])
                      have hneg' : 0 ≤ Bfs.at' d' t := by omega
                      clear hneg
                      go_wp2
                      exact ⟨⟨i + 1, d', q', by omega, by go_num, hBW, hsW, hO, hQ, hq, s3, hql, (by rw [hstep.out, ← HF.out, HVI.out] : (d', q') = (xs.take (i + 1)).foldl (Bfs.visit s) (d, q))⟩, by simp [intOf]; omega⟩
                  · obtain rfl : i = xs.length := by omega
                    clear hlt
                    have hfin : (d', q') = xs.foldl (Bfs.visit s) (d, q) := by rw [HF.out, List.take_length]
                    have HFI := Lib.hid hfin
                    clear hfin
                    go_wp2
                    go_roundg (q'.length + Bfs.neg d')
                    case measure => have := hql.out; have := HKK.out; omega
                    case rel => exact ⟨d', q', by have := hql.out; have := HKK.out; omega, rfl, hBW, hsW, hO, hQ, hq, (by rw [HR2.out, ← HFI.out] : Bfs.depths xss l = Bfs.run xss d' q')⟩

end Go.Proofs.YtoffbdlgmnpblaaGreat

/- Package graph: sets of marked states, forward and backward. -/
namespace Go.Proofs.YtoffbdlgmnpblaaGreat
open Go.RowKit
set_option maxHeartbeats 4000000
set_option maxRecDepth 100000

theorem at_cell {w : World} {D : Nat → Prop} {A : Option Addr} {n c : Nat} {d : List Int} (h : Sl (Kind.int .i64) w D (.slice A n c) d) {s : Int} (h0 : 0 ≤ s) (h1 : s < (d.length : Int)) : ∃ ad, A = some ad ∧ D ad.block ∧ w.cell? (ad.add s.toNat) = some (.int .i64 (Bfs.at' d s)) := by
  obtain ⟨A', c', e, k1, k2, k3⟩ := h.ints
  injection e with e1 e2 e3
  subst e1
  obtain ⟨ad, e1, hd, hc⟩ := k3 (by omega)
  have := hc s.toNat (by omega)
  rw [Dig.gd_of (Bfs.at_get h0 h1)] at this
  exact ⟨ad, e1, hd, this⟩

def markedBy (n : Nat) (is : Int → Bool) : List Int := ((List.range n).map (fun k : Nat => (k : Int))).filter is

theorem markedBy_succ (j : Nat) (is : Int → Bool) : markedBy (j + 1) is = if is j then markedBy j is ++ [(j : Int)] else markedBy j is := by
  unfold markedBy
  rw [List.range_succ, List.map_append, List.filter_append]
  cases h : is (j : Int) <;> simp [h]

theorem enter_of {P : Program} {K : Nat} {f : Func} (hf : P.funcs[K]? = some f) (h1 : (f.name == "runtime.NumGoroutine") = false) (h2 : f.body.isNone = false) : ∀ args w, (callFunc K args).run P w = .ok (.enter K args) w := by
  intro args w
  have h1' : ¬ f.name = "runtime.NumGoroutine" := by simpa using h1
  have h2' : ¬ f.body = none := by intro e; rw [e] at h2; cases h2
  unfold callFunc
  simp [go_sem, hf]
  rw [if_neg h1', if_neg h2']

end Go.Proofs.YtoffbdlgmnpblaaGreat

/- Package graph: Backward, asked, From, To, Distance, Edges. -/
namespace Go.Proofs.YtoffbdlgmnpblaaGreat
open Go.RowKit
set_option maxHeartbeats 4000000
set_option maxRecDepth 100000

/-! ### what is asked -/
theorem ret_vi {v : Value} {k : IntKind} {a b : Int} (h : a = b) : Ending.returned (.tuple #[v, .int k a]) = .returned (.tuple #[v, .int k b]) := by rw [h]
def err (b : Bool) : Int := if b then 0 else 1
end Go.Proofs.YtoffbdlgmnpblaaGreat
