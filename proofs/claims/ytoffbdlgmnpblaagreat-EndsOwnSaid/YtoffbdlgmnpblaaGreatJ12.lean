/- Part 12: Bfs Gr3 Gr4 Gr5 Gr6 Gr7 Fn1. -/
import Derived.Test.YtoffbdlgmnpblaaGreatJ11
import Derived.ArgAppend
import Derived.Deep.LoopGhost

/- Plain laws: the search in breadth, as the program does it: with lists. -/
namespace Go.Proofs.YtoffbdlgmnpblaaGreat.Bfs

/-- the number at a state -/
def at' (d : List Int) (s : Int) : Int := d.getD s.toNat 0
def neg (d : List Int) : Nat := d.countP (fun x => decide (x < 0))
/-- a state is met from s -/
def visit (s : Int) (st : List Int × List Int) (t : Int) : List Int × List Int :=
  if at' st.1 t < 0 then (st.1.set t.toNat (at' st.1 s + 1), st.2 ++ [t]) else st
def row (next : List (List Int)) (s : Int) : List Int := next.getD s.toNat []
def search (next : List (List Int)) : Nat → List Int → List Int → List Int
  | 0, d, _ => d
  | _ + 1, d, [] => d
  | f + 1, d, s :: q => search next f ((row next s).foldl (visit s) (d, q)).1 ((row next s).foldl (visit s) (d, q)).2
def run (next : List (List Int)) (d q : List Int) : List Int := search next (q.length + neg d) d q
structure Inv (n : Nat) (d q : List Int) : Prop where
  len : d.length = n
  bnd : ∀ x ∈ d, -1 ≤ x ∧ x + (neg d : Int) ≤ (n : Int)
  que : ∀ s ∈ q, 0 ≤ s ∧ s < (n : Int) ∧ 0 ≤ at' d s

theorem at_get {d : List Int} {t : Int} (h0 : 0 ≤ t) (h1 : t < (d.length : Int)) : d[t.toNat]? = some (at' d t) := by
  have : t.toNat < d.length := by omega
  unfold at'
  rw [List.getElem?_eq_getElem this, List.getD_eq_getElem?_getD, List.getElem?_eq_getElem this]
  rfl
theorem at_mem {d : List Int} {t : Int} (h0 : 0 ≤ t) (h1 : t < (d.length : Int)) : at' d t ∈ d := List.mem_of_getElem? (at_get h0 h1)
theorem at_set_same {d : List Int} {t : Int} (y : Int) (h0 : 0 ≤ t) (h1 : t < (d.length : Int)) : at' (d.set t.toNat y) t = y := by
  have : t.toNat < d.length := by omega
  simp [at', List.getD_eq_getElem?_getD, this]
theorem at_set_other {d : List Int} {t s : Int} (y : Int) (h0 : 0 ≤ t) (h1 : 0 ≤ s) (h : s ≠ t) : at' (d.set t.toNat y) s = at' d s := by
  have : t.toNat ≠ s.toNat := by omega
  simp [at', List.getD_eq_getElem?_getD, List.getElem?_set_ne this]

theorem run_nil (next : List (List Int)) (d : List Int) : run next d [] = d := by
  unfold run; cases ([] : List Int).length + neg d <;> rfl
/-! ### edges turned -/
def push (o : List (List Int)) (s t : Int) : List (List Int) := o.set t.toNat (o.getD t.toNat [] ++ [s])
def turnTo (xss : List (List Int)) : Nat → List (List Int)
  | 0 => List.replicate xss.length []
  | j + 1 => (xss.getD j []).foldl (fun o t => push o j t) (turnTo xss j)
def turn (xss : List (List Int)) : List (List Int) := turnTo xss xss.length
theorem push_len (o : List (List Int)) (s t : Int) : (push o s t).length = o.length := by simp [push]
theorem fold_push_len (l : List Int) (s : Int) : ∀ o : List (List Int), (l.foldl (fun o t => push o s t) o).length = o.length := by
  induction l with
  | nil => intro o; rfl
  | cons a l ih => intro o; rw [List.foldl_cons, ih, push_len]
theorem turnTo_len (xss : List (List Int)) : ∀ j, (turnTo xss j).length = xss.length
  | 0 => by simp [turnTo]
  | j + 1 => by rw [turnTo, fold_push_len, turnTo_len]
theorem push_bound {o : List (List Int)} {s t : Int} {b : Nat} (h : ∀ x ∈ o, x.length ≤ b) : ∀ x ∈ push o s t, x.length ≤ b + 1 := by
  intro x hx
  rcases List.mem_or_eq_of_mem_set hx with hx | rfl
  · have := h x hx; omega
  · simp only [List.length_append, List.length_singleton]
    have : (o.getD t.toNat []).length ≤ b := by
      rw [List.getD_eq_getElem?_getD]
      cases hh : o[t.toNat]? with
      | none => simp
      | some y => exact h y (List.mem_of_getElem? hh)
    omega

theorem fold_push_bound (l : List Int) (s : Int) : ∀ {o : List (List Int)} {b : Nat}, (∀ x ∈ o, x.length ≤ b) → ∀ x ∈ l.foldl (fun o t => push o s t) o, x.length ≤ b + l.length := by
  induction l with
  | nil => intro o b h; exact h
  | cons a l ih =>
    intro o b h x hx
    have := ih (push_bound (s := s) (t := a) h) x hx
    simp only [List.length_cons]; omega
theorem turnTo_bound {xss : List (List Int)} {b : Nat} (h : ∀ xs ∈ xss, xs.length ≤ b) : ∀ j, ∀ x ∈ turnTo xss j, x.length ≤ b * j
  | 0 => fun x hx => by rw [List.eq_of_mem_replicate hx]; simp
  | j + 1 => fun x hx => by
    have h1 := fold_push_bound (xss.getD j []) j (turnTo_bound h j) x hx
    have h2 : (xss.getD j []).length ≤ b := by
      rw [List.getD_eq_getElem?_getD]
      cases hh : xss[j]? with
      | none => simp
      | some y => exact h y (List.mem_of_getElem? hh)
    rw [Nat.mul_add, Nat.mul_one]; omega
theorem push_mem {o : List (List Int)} {s t : Int} {P : Int → Prop} (h : ∀ x ∈ o, ∀ y ∈ x, P y) (hs : P s) : ∀ x ∈ push o s t, ∀ y ∈ x, P y := by
  intro x hx y hy
  rcases List.mem_or_eq_of_mem_set hx with hx | rfl
  · exact h x hx y hy
  · rcases List.mem_append.1 hy with hy | hy
    · rw [List.getD_eq_getElem?_getD] at hy
      cases hh : o[t.toNat]? with
      | none => rw [hh] at hy; simp at hy
      | some z => rw [hh] at hy; exact h z (List.mem_of_getElem? hh) y hy
    · have : y = s := by simpa using hy
      rw [this]; exact hs
theorem fold_push_mem {P : Int → Prop} (l : List Int) {s : Int} (hs : P s) : ∀ {o : List (List Int)}, (∀ x ∈ o, ∀ y ∈ x, P y) → ∀ x ∈ l.foldl (fun o t => push o s t) o, ∀ y ∈ x, P y := by
  induction l with
  | nil => intro o h; exact h
  | cons a l ih => intro o h; exact ih (push_mem h hs)
theorem turnTo_mem (xss : List (List Int)) : ∀ j, ∀ x ∈ turnTo xss j, ∀ y ∈ x, 0 ≤ y ∧ y < (j : Int)
  | 0 => fun x hx y hy => by rw [List.eq_of_mem_replicate hx] at hy; cases hy
  | j + 1 => fold_push_mem (P := fun y => 0 ≤ y ∧ y < ((j + 1 : Nat) : Int)) _ (by omega) fun x hx y hy => by have := turnTo_mem xss j x hx y hy; omega

end Go.Proofs.YtoffbdlgmnpblaaGreat.Bfs

/- Slices of slices that are read; a queue of the call's own; package graph: turned. -/
namespace Go.Proofs.YtoffbdlgmnpblaaGreat
open Go.RowKit
set_option maxHeartbeats 4000000
set_option maxRecDepth 100000

abbrev Rows2 (w : World) (D : Nat → Prop) (v : Value) (xss : List (List Int)) : Prop := Sl (Kind.slice (Kind.int .i64)) w D v xss

/-- a row of a list of rows, in each later world -/
theorem Rows2.row_up {w : World} {D : Nat → Prop} {A : Option Addr} {n c : Nat} {xss : List (List Int)} (h : Rows2 w D (.slice A n c) xss) (hD : Lo D w) (i : Nat) (xs : List Int) (hx : xss[i]? = some xs) :
    ∃ ad B d, A = some ad ∧ D ad.block ∧ Hid (∀ W, Below w.heap.size w W → W.cell? (ad.add i) = some (.slice B xs.length d)) ∧ xs.length ≤ d ∧ d ≤ maxLen ∧ Hid (0 < xs.length → ∃ bd, B = some bd ∧ D bd.block ∧ ∀ W, Below w.heap.size w W → ∀ j x, xs[j]? = some x → W.cell? (bd.add j) = some (.int .i64 x)) := by
  obtain ⟨A', c', e, h1, h2, h3⟩ := h
  injection e with e1 e2 e3
  subst e1 e3
  obtain ⟨ad, cs, e, hd, ⟨v, rfl, hs⟩, ha⟩ := h3 i xs hx
  have h0 := ha 0 v rfl
  rw [add_of_add, show i * (Kind.slice (Kind.int .i64)).sz + 0 = i from by show i * 1 + 0 = i; omega] at h0
  obtain ⟨B, d, rfl, k1, k2, k3⟩ := hs.ints
  refine ⟨ad, B, d, e, hd, (fun W hb => (hb.cell (p := ad.add i) (by rw [block_of_add]; exact hD _ hd)).trans h0 : ∀ W, Below w.heap.size w W → W.cell? (ad.add i) = some (.slice B xs.length d)), k1, k2, ?_⟩
  have : 0 < xs.length → ∃ bd, B = some bd ∧ D bd.block ∧ ∀ W, Below w.heap.size w W → ∀ j x, xs[j]? = some x → W.cell? (bd.add j) = some (.int .i64 x) := by
    intro hp
    obtain ⟨bd, e1, hbd, hc⟩ := k3 hp
    refine ⟨bd, e1, hbd, fun W hb j x hj => ?_⟩
    have := hc j (List.getElem?_eq_some_iff.1 hj).1
    rw [Dig.gd_of hj] at this
    exact (hb.cell (p := bd.add j) (by rw [block_of_add]; exact hD _ hbd)).trans this
  exact this

theorem spot_none {w : World} {a : Addr} {v : Value} (h : w.cell? a = some v) : a.spot = none := by
  unfold World.cell? at h
  cases hh : w.heap[a.block]? with
  | none => rw [hh] at h; cases h
  | some o =>
    rw [hh] at h
    cases o <;> simp at h
    cases hs : a.spot with
    | none => rfl
    | some p => rw [hs] at h; simp at h
theorem add_lit' {a : Addr} (h : a.spot = none) (i : Nat) : a.add i = ⟨a.block, a.off + i, none⟩ := by
  unfold Addr.add
  split
  · rename_i e; subst e; cases a; simp at h; simp [h]
  · cases a; simp at h; simp

/-- a copy of a list of numbers -/
theorem Clone_calls (xs : List Int) (v : Value) (D : Nat → Prop) (w : World) (h : Sl (Kind.int .i64) w D v xs) (hl : xs.length ≤ 1000000) :
    Calls Tryz.prog 76 #[v] w fun e w' => ∃ v', e = .returned v' ∧ w'.ownsRow w.heap.size 3 1 v' xs.length (ints xs) ∧ Below w.heap.size w w' := by
  obtain ⟨A, c, rfl, h1, h2, h3⟩ := h.ints
  rcases A with _ | ad
  · have hz : xs = [] := by
      cases xs with
      | nil => rfl
      | cons a l => obtain ⟨ad, e, _⟩ := h3 (by simp); cases e
    subst hz
    refine (Tryz.slices_Clone_int_nil 0 c w).mono ?_
    rintro e w' ⟨rfl, rfl⟩
    exact ⟨_, rfl, World.ownsRow_nil _ _ _ _, Below.refl _ _⟩
  · by_cases h0 : 0 < xs.length
    · obtain ⟨ad', e, hd, hc⟩ := h3 h0
      cases e
      have hsp := spot_none (hc 0 h0)
      have hsp : ad.spot = none := by
        unfold Addr.add at hsp; simpa using hsp
      have hc' : ∀ j, j < xs.length → w.cell? ⟨ad.block, ad.off + j, none⟩ = some (.int .i64 (xs.getD j 0)) := by
        intro j hj
        have := hc j hj
        rw [add_lit' hsp] at this
        rw [this, Dig.gd_int]
      have he : ad = ⟨ad.block, ad.off, none⟩ := by cases ad; simp at hsp; simp [hsp]
      rw [he]
      refine (Tryz.slices_Clone_int ad.block ad.off xs.length c xs w (Nat.le_refl _) (by omega) hc').mono ?_
      rintro e w' ⟨v', rfl, ho, -, hb⟩
      rw [List.take_length] at ho
      exact ⟨v', rfl, ho, hb⟩
    · have hz : xs = [] := List.eq_nil_of_length_eq_zero (by omega)
      subst hz
      refine (Tryz.slices_Clone_int_zero ad c w).mono ?_
      rintro e w' ⟨v', rfl, ho, -, hb⟩
      exact ⟨v', rfl, ho, hb⟩

/-! ### a queue -/
def QOwn (w : World) (base : Nat) (v : Value) (xs : List Int) : Prop :=
  (v = .slice none 0 0 ∧ xs = []) ∨ ∃ g off cap cur, v = .slice (some ⟨g, off, none⟩) xs.length cap ∧ base ≤ g ∧ w.heap[g]? = some (.cells cur 3 (0, 0)) ∧ xs.length ≤ cap ∧ cap ≤ maxLen ∧ off + cap ≤ cur.size ∧ ∀ i x, xs[i]? = some x → cur[off + i]? = some (.int .i64 x)
theorem QOwn.lt {w : World} {base : Nat} {v : Value} {xs : List Int} (h : QOwn w base v xs) : ∀ k, v.ownBlock = some k → base ≤ k ∧ k < w.heap.size := by
  intro k hk
  rcases h with ⟨rfl, -⟩ | ⟨g, off, cap, cur, rfl, hb, hg, -⟩
  · cases hk
  · cases hk
    exact ⟨hb, (Array.getElem?_eq_some_iff.1 hg).1⟩
theorem QOwn.kept {w w' : World} {base : Nat} {v : Value} {xs : List Int} (h : QOwn w base v xs) (hb : ∀ k, v.ownBlock = some k → w'.heap[k]? = w.heap[k]?) : QOwn w' base v xs := by
  rcases h with h | ⟨g, off, cap, cur, rfl, hbs, hg, h4⟩
  · exact .inl h
  · exact .inr ⟨g, off, cap, cur, rfl, hbs, (hb g rfl).trans hg, h4⟩
theorem QOwn.below {w w' : World} {base : Nat} {v : Value} {xs : List Int} (h : QOwn w base v xs) (hb : Below w.heap.size w w') : QOwn w' base v xs := h.kept fun k hk => hb.block k (h.lt k hk).2
theorem QOwn.tail {w : World} {base g off n cap : Nat} {x : Int} {xs : List Int} (h : QOwn w base (.slice (some ⟨g, off, none⟩) n cap) (x :: xs)) : QOwn w base (.slice (some ⟨g, off + 1, none⟩) (n - 1) (cap - 1)) xs := by
  rcases h with ⟨h, -⟩ | ⟨g', off', cap', cur, e, hb, hg, h4, h5, h6, h7⟩
  · cases h
  · cases e
    simp only [List.length_cons] at h4
    refine .inr ⟨g, off + 1, cap - 1, cur, by simp, hb, hg, by omega, by omega, by omega, fun i y hy => ?_⟩
    have := h7 (i + 1) y (by simpa using hy)
    rw [show off + 1 + i = off + (i + 1) by omega]; exact this
theorem QOwn.form {w : World} {base : Nat} {v : Value} {x : Int} {xs : List Int} (h : QOwn w base v (x :: xs)) : ∃ g off cap, v = .slice (some ⟨g, off, none⟩) (xs.length + 1) cap ∧ 1 ≤ cap ∧ cap ≤ maxLen := by
  rcases h with ⟨-, h⟩ | ⟨g, off, cap, cur, rfl, hb, hg, h4, h5, h6, h7⟩
  · cases h
  · simp only [List.length_cons] at h4
    exact ⟨g, off, cap, rfl, by omega, h5⟩

end Go.Proofs.YtoffbdlgmnpblaaGreat

/- Package graph: edges in the other direction. -/
namespace Go.Proofs.YtoffbdlgmnpblaaGreat
open Go.RowKit
set_option maxHeartbeats 4000000
set_option maxRecDepth 100000

/-- edges between states -/
structure Edges (xss : List (List Int)) : Prop where
  len : xss.length ≤ 40
  row : ∀ xs ∈ xss, xs.length ≤ 2560
  ins : ∀ xs ∈ xss, ∀ t ∈ xs, 0 ≤ t ∧ t < (xss.length : Int)

theorem foldl_add1_len (l : List Int) : ∀ (L : List Int), (l.foldl add1 L).length ≤ L.length + l.length := by
  induction l with
  | nil => intro L; simp
  | cons a l ih =>
    intro L
    rw [List.foldl_cons]
    refine Nat.le_trans (ih _) ?_
    have : (add1 L a).length ≤ L.length + 1 := by unfold add1; split <;> simp
    simp only [List.length_cons]; omega
theorem flatMap_len {α : Type} (f : α → List Int) (b : Nat) (l : List α) (h : ∀ x ∈ l, (f x).length ≤ b) : (l.flatMap f).length ≤ b * l.length := by
  induction l with
  | nil => simp
  | cons a l ih =>
    have h1 := h a (List.mem_cons_self ..)
    have h2 := ih fun x hx => h x (List.mem_cons_of_mem _ hx)
    simp only [List.flatMap_cons, List.length_append, List.length_cons, Nat.mul_add, Nat.mul_one]
    omega
theorem nextOf_len {m : List St} (h : Fine m) : ∀ xs ∈ m.map nextOf, xs.length ≤ 64 := by
  · intro xs hxs
    obtain ⟨s, hs, rfl⟩ := List.mem_map.1 hxs
    have h1 : (nextOf s).length = (dd (targets s)).length := List.length_mergeSort _
    have h2 := foldl_add1_len (targets s) []
    have h3 : (targets s).length ≤ 8 * s.chs.length := flatMap_len tos 8 s.chs fun c hc => by simpa [tos] using h.brs s hs c hc
    have h4 := h.chs s hs
    simp only [List.length_nil, Nat.zero_add] at h2
    have h5 : (dd (targets s)).length ≤ (targets s).length := h2
    omega
theorem Edges.turned {m : List St} (h : Fine m) : Edges (Bfs.turn (m.map nextOf)) := by
  have hl : (Bfs.turn (m.map nextOf)).length = m.length := by unfold Bfs.turn; rw [Bfs.turnTo_len, List.length_map]
  have h40 := h.len
  refine ⟨by rw [hl]; exact h40, fun xs hxs => ?_, fun xs hxs t ht => ?_⟩
  · have := Bfs.turnTo_bound (nextOf_len h) _ xs hxs
    rw [List.length_map] at this
    omega
  · rw [hl]
    have := Bfs.turnTo_mem _ _ xs hxs t ht
    rw [List.length_map] at this
    exact this

end Go.Proofs.YtoffbdlgmnpblaaGreat

/- Package graph: lengths of shortest paths. -/
namespace Go.Proofs.YtoffbdlgmnpblaaGreat
open Go.RowKit
set_option maxHeartbeats 4000000
set_option maxRecDepth 100000

/-- the call's own list of n numbers -/
def OwnInts (W : World) (B g n : Nat) (d : List Int) : Prop := W.ownsRow B 3 1 (.slice (some ⟨g, 0, none⟩) n n) n (ints d)
theorem ints_set (d : List Int) (i : Nat) (y : Int) : (ints d).set i (.int .i64 y) = ints (d.set i y) := by simp [ints, List.map_set]
section
variable {W W' : World} {B g n : Nat} {d : List Int}
theorem OwnInts.len (h : OwnInts W B g n d) : d.length = n := by have := h.1; simpa using this
theorem OwnInts.cell (h : OwnInts W B g n d) {i : Nat} {x : Int} (hx : d[i]? = some x) : W.cell? ⟨g, i, none⟩ = some (.int .i64 x) ∧ W.frozen? ⟨g, i, none⟩ = false := own_cell h i _ (by simp [hx])
theorem OwnInts.cellAt (h : OwnInts W B g n d) {t : Int} (h0 : 0 ≤ t) (h1 : t < (n : Int)) : W.cell? ⟨g, t.toNat, none⟩ = some (.int .i64 (Bfs.at' d t)) ∧ W.frozen? ⟨g, t.toNat, none⟩ = false := h.cell (Bfs.at_get h0 (by rw [h.len]; exact h1))
theorem OwnInts.set (h : OwnInts W B g n d) {i : Nat} (hi : i < n) (y : Int) : OwnInts (W.setCell ⟨g, i, none⟩ (.int .i64 y)) B g n (d.set i y) := by
  have := own_set h i hi (.int .i64 y)
  rw [ints_set] at this
  exact this
theorem OwnInts.lt (h : OwnInts W B g n d) : B ≤ g ∧ g < W.heap.size := World.ownsRow.lt h g rfl
theorem OwnInts.kept (h : OwnInts W B g n d) (hb : W'.heap[g]? = W.heap[g]?) : OwnInts W' B g n d := by
  obtain ⟨h1, h2⟩ := h
  refine ⟨h1, ?_⟩
  rcases h2 with h2 | ⟨k, cap, cur, hvk, hbk, hck, h5⟩
  · exact .inl h2
  · cases hvk
    exact .inr ⟨g, _, cur, rfl, hbk, hb.trans hck, h5⟩
theorem OwnInts.below (h : OwnInts W B g n d) (hb : Below W.heap.size W W') : OwnInts W' B g n d := h.kept (hb.block g h.lt.2)
theorem OwnInts.grown {row : Option Nat} (h : OwnInts W B g n d) (hg : W.grownBy W' row) (hne : some g ≠ row) : OwnInts W' B g n d := h.kept (hg.block g h.lt.2 hne)
end
theorem QOwn.set {W : World} {B : Nat} {v : Value} {q : List Int} (h : QOwn W B v q) {p : Addr} (hp : p.block < B) (u : Value) : QOwn (W.setCell p u) B v q := h.kept fun k hk => Below.heap_setCell W p u k (by have := (h.lt k hk).1; omega)
theorem QOwn.grown {W W' : World} {B : Nat} {v : Value} {q : List Int} (h : QOwn W B v q) (hb : Below W.heap.size W W') : QOwn W' B v q := h.below hb
theorem QOwn.mono {W : World} {B B' : Nat} {v : Value} {q : List Int} (h : QOwn W B v q) (hB : B' ≤ B) : QOwn W B' v q := by
  rcases h with h | ⟨g, off, cap, cur, e, hb, h4⟩
  · exact .inl h
  · exact .inr ⟨g, off, cap, cur, e, by omega, h4⟩

theorem OwnInts.sl {W : World} {B g n : Nat} {d : List Int} (h : OwnInts W B g n d) : Sl (Kind.int .i64) W (fun b => B ≤ b ∧ b < W.heap.size ∧ Soft W b) (.slice (some ⟨g, 0, none⟩) n n) d := by
  have hl := h.len
  subst hl
  exact own_intsS h
/-- numbers that came in, in each later world -/
theorem Ints.up {w : World} {D : Nat → Prop} {A : Option Addr} {n c : Nat} {xs : List Int} (h : Sl (Kind.int .i64) w D (.slice A n c) xs) (hD : Lo D w) :
    Hid (0 < xs.length → ∃ bd, A = some bd ∧ D bd.block ∧ ∀ W, Below w.heap.size w W → ∀ j x, xs[j]? = some x → W.cell? (bd.add j) = some (.int .i64 x)) := by
  have : 0 < xs.length → ∃ bd, A = some bd ∧ D bd.block ∧ ∀ W, Below w.heap.size w W → ∀ j x, xs[j]? = some x → W.cell? (bd.add j) = some (.int .i64 x) := by
    intro hp
    obtain ⟨A', c', e, k1, k2, k3⟩ := h.ints
    injection e with e1 e2 e3
    subst e1
    obtain ⟨bd, e1, hbd, hc⟩ := k3 hp
    refine ⟨bd, e1, hbd, fun W hb j x hj => ?_⟩
    have := hc j (List.getElem?_eq_some_iff.1 hj).1
    rw [Dig.gd_of hj] at this
    exact (hb.cell (p := bd.add j) (by rw [block_of_add]; exact hD _ hbd)).trans this
  exact this

end Go.Proofs.YtoffbdlgmnpblaaGreat

/- Package graph: sets of marked states, forward and backward. -/
namespace Go.Proofs.YtoffbdlgmnpblaaGreat
open Go.RowKit
set_option maxHeartbeats 4000000
set_option maxRecDepth 100000

def markedBy (n : Nat) (is : Int → Bool) : List Int := ((List.range n).map (fun k : Nat => (k : Int))).filter is

theorem markedBy_succ (j : Nat) (is : Int → Bool) : markedBy (j + 1) is = if is j then markedBy j is ++ [(j : Int)] else markedBy j is := by
  unfold markedBy
  rw [List.range_succ, List.map_append, List.filter_append]
  cases h : is (j : Int) <;> simp [h]

theorem Marked_calls (K n : Nat) (is : Int → Bool) (cs : Array Value) (w : World) (eg : ∀ args w, (callFunc K args).run Tryz.prog w = .ok (.enter K args) w) (hn : n ≤ 100) (hc : ∀ (W : World) (s : Int), Below w.heap.size w W → 0 ≤ s → s < (n : Int) → Calls Tryz.prog K (#[.int .i64 s] ++ cs) W fun e w' => e = .returned (.bool (is s)) ∧ W = w') :
    Calls Tryz.prog 131 #[.int .i64 (n : Int), .func (.func K) #[] cs] w fun e w' => ∃ v', e = .returned v' ∧ Below w.heap.size w w' ∧ Sl (Kind.int .i64) w' (nws w w') v' (markedBy n is) := by
  have HC := Lib.hid hc
  clear hc
  go_enter Tryz.func131, Tryz.ntmps131
  go_wp2
  go_loopw [5, 8] (fun o k W => ∃ (j : Nat) (L : List Int), j ≤ n ∧ k = .int .i64 (j : Int) ∧ Below w.heap.size w W ∧ W.ownsRow w.heap.size 3 1 o L.length (ints L) ∧ L.length ≤ j ∧ Hid (L = markedBy j is)) (fun _ k _ => n - (intOf k).toNat)
  case atStart => exact ⟨0, [], Nat.zero_le _, rfl, Below.refl _ _, World.ownsRow_nil _ _ _ _, Nat.le_refl _, rfl⟩
  case round =>
    obtain ⟨j, L, hj, rfl, hBW, hO, hL, HL⟩ := hrel
    have hsz := hBW.size
    by_cases hlt : j < n
    · go_wp2_with fail
      refine (HC.out wr (j : Int) hBW (by omega) (by omega)).mono ?_
      rintro e w2 ⟨rfl, rfl⟩
      cases hi : is (j : Int) with
      | false =>
        have HS := Lib.hid (show L = markedBy (j + 1) is by rw [markedBy_succ, hi, HL.out]; rfl)
        clear hi
        go_wp2
        exact ⟨⟨j + 1, L, by omega, by go_num, hBW, hO, by omega, HS⟩, by simp [intOf]; omega⟩
      | true =>
        have HS := Lib.hid (show L ++ [(j : Int)] = markedBy (j + 1) is by rw [markedBy_succ, hi, HL.out]; rfl)
        clear hi
        go_wp2_with (at_builtin; refine wpList_app1 elem_i64 rfl _ _ rfl w.heap.size _ L.length (ints L) rfl (hO.alloc _) ⟨_, 0, none⟩ 1 _ rfl (cell_new1 _ _ _) rfl (by omega) (by omega) (by simp; omega) ?_; intro v3 w3 ho3 hg3 ha3)
        refine ⟨⟨j + 1, L ++ [(j : Int)], by omega, by go_num, below_app hBW hsz hO hg3, by simpa using ho3, by simp; omega, HS⟩, by simp [intOf]; omega⟩
    · obtain rfl : j = n := by omega
      clear hlt
      go_wp2
      go_ret
      rw [← HL.out]
      exact ⟨_, rfl, hBW, own_intsS hO⟩

theorem enter_of {P : Program} {K : Nat} {f : Func} (hf : P.funcs[K]? = some f) (h1 : (f.name == "runtime.NumGoroutine") = false) (h2 : f.body.isNone = false) : ∀ args w, (callFunc K args).run P w = .ok (.enter K args) w := by
  intro args w
  have h1' : ¬ f.name = "runtime.NumGoroutine" := by simpa using h1
  have h2' : ¬ f.body = none := by intro e; rw [e] at h2; cases h2
  unfold callFunc
  simp [go_sem, hf]
  rw [if_neg h1', if_neg h2']

end Go.Proofs.YtoffbdlgmnpblaaGreat

/- Package graph: Backward, asked, From, To, Distance, Edges. -/
namespace Go.Proofs.YtoffbdlgmnpblaaGreat
open Go.RowKit
set_option maxHeartbeats 4000000
set_option maxRecDepth 100000

/-! ### what is asked -/
def askedB (m : List St) (l : List Int) : Bool := validB m && setB m l
theorem rising_spec {n : Int} : ∀ {last : Int} {l : List Int}, rising n last l = true → (∀ s ∈ l, last < s ∧ s < n) ∧ ((l ≠ [] → last + (l.length : Int) < n)) := by
  intro last l
  induction l generalizing last with
  | nil => intro _; exact ⟨fun s hs => (List.not_mem_nil hs).elim, fun h => absurd rfl h⟩
  | cons a l ih =>
    intro h
    simp only [rising, Bool.and_eq_true, decide_eq_true_eq] at h
    obtain ⟨⟨h1, h2⟩, h3⟩ := h
    obtain ⟨k1, k2⟩ := ih h3
    refine ⟨fun s hs => ?_, fun _ => ?_⟩
    · rcases List.mem_cons.1 hs with rfl | hs
      · exact ⟨h1, h2⟩
      · have := k1 s hs; omega
    · cases l with
      | nil => simp only [List.length_cons, List.length_nil]; omega
      | cons b l => have := k2 (by simp); simp only [List.length_cons] at this ⊢; omega
theorem askedB.spec {m : List St} {l : List Int} (h : askedB m l = true) : Fine m ∧ (∀ s ∈ l, 0 ≤ s ∧ s < (m.length : Int)) ∧ l.length ≤ 40 := by
  unfold askedB at h
  rw [Bool.and_eq_true] at h
  have hf := Fine.of_valid h.1
  obtain ⟨h1, h2⟩ := rising_spec h.2
  refine ⟨hf, fun s hs => by have := h1 s hs; omega, ?_⟩
  have := hf.len
  cases l with
  | nil => simp
  | cons a l => have := h2 (by simp); omega

theorem ret_vi {v : Value} {k : IntKind} {a b : Int} (h : a = b) : Ending.returned (.tuple #[v, .int k a]) = .returned (.tuple #[v, .int k b]) := by rw [h]
def err (b : Bool) : Int := if b then 0 else 1
end Go.Proofs.YtoffbdlgmnpblaaGreat

/- Package slices: IndexFunc, ContainsFunc with closures that may make memory; package graph: gcd. -/
namespace Go.Proofs.YtoffbdlgmnpblaaGreat
open Go.RowKit
set_option maxHeartbeats 4000000
set_option maxRecDepth 100000

/-- the place of the first element of a kind, or -1 -/
def idxI {α : Type} (is : α → Bool) (xs : List α) : Int := match xs.findIdx? is with
  | some i => (i : Int)
  | none => -1
theorem idxI_at {α : Type} {is : α → Bool} {xs : List α} {j : Nat} {x : α} (h : xs[j]? = some x) (h0 : ∀ y ∈ xs.take j, is y = false) (h1 : is x = true) : idxI is xs = (j : Int) := by
  obtain ⟨hlt, rfl⟩ := List.getElem?_eq_some_iff.1 h
  have : xs.findIdx? is = some j := by
    rw [List.findIdx?_eq_some_iff_getElem]
    refine ⟨hlt, h1, fun i hi => ?_⟩
    have := h0 xs[i] (List.mem_iff_getElem.2 ⟨i, by rw [List.length_take]; omega, by rw [List.getElem_take]⟩)
    rw [this]; decide
  unfold idxI
  rw [this]
theorem idxI_none {α : Type} {is : α → Bool} {xs : List α} (h0 : ∀ y ∈ xs, is y = false) : idxI is xs = -1 := by
  have : xs.findIdx? is = none := List.findIdx?_eq_none_iff.2 h0
  unfold idxI
  rw [this]
theorem take_false {α : Type} {is : α → Bool} {xs : List α} {j : Nat} {x : α} (h : xs[j]? = some x) (h0 : ∀ y ∈ xs.take j, is y = false) (h1 : is x = false) : ∀ y ∈ xs.take (j + 1), is y = false := by
  intro y hy
  rw [List.take_add_one, h] at hy
  rcases List.mem_append.1 hy with hy | hy
  · exact h0 y hy
  · have : y = x := by simpa using hy
    rw [this]; exact h1
theorem idxI_nonneg {α : Type} (is : α → Bool) (xs : List α) : decide (0 ≤ idxI is xs) = xs.any is := by
  unfold idxI
  cases h : xs.findIdx? is with
  | none =>
    have := List.findIdx?_eq_none_iff.1 h
    have e : xs.any is = false := by rw [List.any_eq_false]; intro x hx; rw [this x hx]; decide
    rw [e]; rfl
  | some i =>
    obtain ⟨hlt, hp, _⟩ := List.findIdx?_eq_some_iff_getElem.1 h
    have e : xs.any is = true := List.any_eq_true.2 ⟨xs[i], List.getElem_mem hlt, hp⟩
    rw [e]; simp

theorem IndexFunc_calls (K : Nat) (is : Int → Bool) (cs : Array Value) (xs : List Int) (v : Value) (D : Nat → Prop) (w : World) (eg : ∀ args w, (callFunc K args).run Tryz.prog w = .ok (.enter K args) w) (hD : Lo D w) (hl : Sl (Kind.int .i64) w D v xs) (hn : xs.length ≤ 1000000)
    (hc : ∀ (W : World) (s : Int), Below w.heap.size w W → s ∈ xs → Calls Tryz.prog K (#[.int .i64 s] ++ cs) W fun e w' => e = .returned (.bool (is s)) ∧ Below W.heap.size W w') :
    Calls Tryz.prog 90 #[v, .func (.func K) #[] cs] w fun e w' => e = .returned (.int .i64 (idxI is xs)) ∧ Below w.heap.size w w' := by
  obtain ⟨A, c, rfl, h1, h2, -⟩ := hl.form
  unfold maxLen at h2
  have HU := Ints.up hl hD
  have HC := Lib.hid hc
  clear hl hc
  go_enter Tryz.func90, Tryz.ntmps90
  go_wp2
  go_loopw [8] (fun k W => ∃ (j : Nat), j ≤ xs.length ∧ k = .int .i64 (j : Int) ∧ Below w.heap.size w W ∧ Hid (∀ y ∈ xs.take j, is y = false)) (fun k _ => xs.length - (intOf k).toNat)
  case atStart => exact ⟨0, Nat.zero_le _, rfl, Below.refl _ _, (by intro y hy; simp at hy : ∀ y ∈ xs.take 0, is y = false)⟩
  case round =>
    obtain ⟨j, hj, rfl, hBW, HN⟩ := hrel
    by_cases hlt : j < xs.length
    · obtain ⟨x, hx⟩ : ∃ x, xs[j]? = some x := ⟨_, List.getElem?_eq_getElem hlt⟩
      obtain ⟨bd, rfl, hDb, hcs⟩ := HU.out (by omega)
      have q1 := hcs _ hBW j _ hx
      have HX := Lib.hid hx
      clear hcs hx
      go_wp2_with fail
      refine (HC.out wr x hBW (List.mem_of_getElem? HX.out)).mono ?_
      rintro e w2 ⟨rfl, hb2⟩
      have hB2 := hBW.trans (hb2.mono hBW.size)
      clear q1
      cases hi : is x with
      | false =>
        have HS := Lib.hid (take_false HX.out HN.out hi)
        clear hi
        go_wp2
        exact ⟨⟨j + 1, by omega, by go_num, hB2, HS⟩, by simp [intOf]; omega⟩
      | true =>
        have HS := Lib.hid (idxI_at HX.out HN.out hi)
        clear hi
        go_wp2
        go_ret
        exact ⟨ret_int HS.out.symm, hB2⟩
    · obtain rfl : j = xs.length := by omega
      have HS := Lib.hid (idxI_none (is := is) (xs := xs) (by have := HN.out; rwa [List.take_length] at this))
      clear hlt
      go_wp2
      go_ret
      exact ⟨ret_int HS.out.symm, hBW⟩

theorem ContainsFunc_calls (K : Nat) (is : Int → Bool) (cs : Array Value) (xs : List Int) (v : Value) (D : Nat → Prop) (w : World) (eg : ∀ args w, (callFunc K args).run Tryz.prog w = .ok (.enter K args) w) (hD : Lo D w) (hl : Sl (Kind.int .i64) w D v xs) (hn : xs.length ≤ 1000000)
    (hc : ∀ (W : World) (s : Int), Below w.heap.size w W → s ∈ xs → Calls Tryz.prog K (#[.int .i64 s] ++ cs) W fun e w' => e = .returned (.bool (is s)) ∧ Below W.heap.size W w') :
    Calls Tryz.prog 103 #[v, .func (.func K) #[] cs] w fun e w' => e = .returned (.bool (xs.any is)) ∧ Below w.heap.size w w' := by
  have HC := Lib.hid hc
  have HL := Lib.hid hl
  have HD := Lib.hid hD
  have HE := Lib.hid (idxI_nonneg is xs)
  clear hl hc hD
  go_enter Tryz.func103, Tryz.ntmps103
  go_wp2_with fail
  refine (IndexFunc_calls K is cs xs v D w eg HD.out HL.out hn HC.out).mono ?_
  rintro e w2 ⟨rfl, hb2⟩
  go_wp2
  go_ret
  exact ⟨ret_bool (by rw [← HE.out]), hb2⟩

/-- a slice of rows that are read -/
theorem IndexFuncR_calls (K : Nat) (is : List Int → Bool) (cs : Array Value) (xss : List (List Int)) (v : Value) (D : Nat → Prop) (w : World) (eg : ∀ args w, (callFunc K args).run Tryz.prog w = .ok (.enter K args) w) (hD : Lo D w) (hl : Rows2 w D v xss) (_hn : xss.length ≤ 1000000)
    (hc : ∀ (W : World) (u : Value) (xs : List Int), Below w.heap.size w W → xs ∈ xss → Sl (Kind.int .i64) W D u xs → Calls Tryz.prog K (#[u] ++ cs) W fun e w' => e = .returned (.bool (is xs)) ∧ Below W.heap.size W w') :
    Calls Tryz.prog 144 #[v, .func (.func K) #[] cs] w fun e w' => e = .returned (.int .i64 (idxI is xss)) ∧ Below w.heap.size w w' := by
  obtain ⟨A, c, rfl, h1, h2, -⟩ := hl.form
  unfold maxLen at h2
  have HL := Lib.hid hl
  have HC := Lib.hid hc
  clear hl hc
  go_enter Tryz.func144, Tryz.ntmps144
  go_wp2
  go_loopw [8] (fun k W => ∃ (j : Nat), j ≤ xss.length ∧ k = .int .i64 (j : Int) ∧ Below w.heap.size w W ∧ Hid (∀ y ∈ xss.take j, is y = false)) (fun k _ => xss.length - (intOf k).toNat)
  case atStart => exact ⟨0, Nat.zero_le _, rfl, Below.refl _ _, (by intro y hy; simp at hy : ∀ y ∈ xss.take 0, is y = false)⟩
  case round =>
    obtain ⟨j, hj, rfl, hBW, HN⟩ := hrel
    by_cases hlt : j < xss.length
    · obtain ⟨x, hx⟩ : ∃ x, xss[j]? = some x := ⟨_, List.getElem?_eq_getElem hlt⟩
      obtain ⟨ad, u, rfl, q0, hs⟩ : ∃ ad u, A = some ad ∧ wr.cell? (ad.add j) = some u ∧ Sl (Kind.int .i64) wr D u x := by
        obtain ⟨A', c', e, -, -, h3⟩ := HL.out
        injection e with e1 e2 e3
        subst e1
        obtain ⟨ad, cs', ea, hd, ⟨u, rfl, hu⟩, hat⟩ := h3 j x hx
        have h0 := hat 0 u rfl
        rw [add_of_add, show j * (Kind.slice (Kind.int .i64)).sz + 0 = j from by show j * 1 + 0 = j; omega] at h0
        exact ⟨ad, u, ea, (hBW.cell (p := ad.add j) (by rw [block_of_add]; exact hD _ hd)).trans h0, hu.same (hD.same hBW)⟩
      have HX := Lib.hid hx
      have HSL := Lib.hid hs
      clear hx hs
      go_wp2_with fail
      refine (HC.out wr u x hBW (List.mem_of_getElem? HX.out) HSL.out).mono ?_
      rintro e w2 ⟨rfl, hb2⟩
      have hB2 := hBW.trans (hb2.mono hBW.size)
      clear q0
      cases hi : is x with
      | false =>
        have HS := Lib.hid (take_false HX.out HN.out hi)
        clear hi
        go_wp2
        exact ⟨⟨j + 1, by omega, by go_num, hB2, HS⟩, by simp [intOf]; omega⟩
      | true =>
        have HS := Lib.hid (idxI_at HX.out HN.out hi)
        clear hi
        go_wp2
        go_ret
        exact ⟨ret_int HS.out.symm, hB2⟩
    · obtain rfl : j = xss.length := by omega
      have HS := Lib.hid (idxI_none (is := is) (xs := xss) (by have := HN.out; rwa [List.take_length] at this))
      clear hlt
      go_wp2
      go_ret
      exact ⟨ret_int HS.out.symm, hBW⟩

/-! ### gcd -/
end Go.Proofs.YtoffbdlgmnpblaaGreat
