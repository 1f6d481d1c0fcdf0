/- Part 22 of 55: Bfs Gr3. -/
import Derived.Test.YtoffbdlgmnpblaaGreatJ21
import Derived.ArgAppend

/- Plain laws: the search in breadth, as the program does it: with lists. -/
namespace Go.Proofs.YtoffbdlgmnpblaaGreat.Bfs

/-- the number at a state -/
def at' (d : List Int) (s : Int) : Int := d.getD s.toNat 0
def neg (d : List Int) : Nat := d.countP (fun x => decide (x < 0))
/-- a state is met from s -/
def visit (s : Int) (st : List Int × List Int) (t : Int) : List Int × List Int :=
  if at' st.1 t < 0 then (st.1.set t.toNat (at' st.1 s + 1), st.2 ++ [t]) else st
def row (next : List (List Int)) (s : Int) : List Int := next.getD s.toNat []
def search (next : List (List Int)) : Nat → List Int → List Int → List Int
  | 0, d, _ => d
  | _ + 1, d, [] => d
  | f + 1, d, s :: q => search next f ((row next s).foldl (visit s) (d, q)).1 ((row next s).foldl (visit s) (d, q)).2
def run (next : List (List Int)) (d q : List Int) : List Int := search next (q.length + neg d) d q
def marked (n : Nat) (l : List Int) : List Int := l.foldl (fun d s => d.set s.toNat 0) (List.replicate n (-1))
/-- lengths of shortest paths -/
def depths (next : List (List Int)) (l : List Int) : List Int := run next (marked next.length l) l

structure Inv (n : Nat) (d q : List Int) : Prop where
  len : d.length = n
  bnd : ∀ x ∈ d, -1 ≤ x ∧ x + (neg d : Int) ≤ (n : Int)
  que : ∀ s ∈ q, 0 ≤ s ∧ s < (n : Int) ∧ 0 ≤ at' d s

theorem at_get {d : List Int} {t : Int} (h0 : 0 ≤ t) (h1 : t < (d.length : Int)) : d[t.toNat]? = some (at' d t) := by
  have : t.toNat < d.length := by omega
  unfold at'
  rw [List.getElem?_eq_getElem this, List.getD_eq_getElem?_getD, List.getElem?_eq_getElem this]
  rfl
theorem at_mem {d : List Int} {t : Int} (h0 : 0 ≤ t) (h1 : t < (d.length : Int)) : at' d t ∈ d := List.mem_of_getElem? (at_get h0 h1)
theorem neg_set {d : List Int} {i : Nat} {x y : Int} (h : d[i]? = some x) (hx : x < 0) (hy : 0 ≤ y) : neg (d.set i y) + 1 = neg d := by
  obtain ⟨hi, rfl⟩ := List.getElem?_eq_some_iff.1 h
  unfold neg
  rw [List.countP_set hi]
  have hpos : 0 < d.countP (fun x => decide (x < 0)) := List.countP_pos_iff.2 ⟨d[i], List.getElem_mem hi, by simpa using hx⟩
  simp only [decide_eq_true hx, decide_eq_false (show ¬ y < 0 by omega), if_true]
  simp
  omega
theorem at_set_same {d : List Int} {t : Int} (y : Int) (h0 : 0 ≤ t) (h1 : t < (d.length : Int)) : at' (d.set t.toNat y) t = y := by
  have : t.toNat < d.length := by omega
  simp [at', List.getD_eq_getElem?_getD, this]
theorem at_set_other {d : List Int} {t s : Int} (y : Int) (h0 : 0 ≤ t) (h1 : 0 ≤ s) (h : s ≠ t) : at' (d.set t.toNat y) s = at' d s := by
  have : t.toNat ≠ s.toNat := by omega
  simp [at', List.getD_eq_getElem?_getD, List.getElem?_set_ne this]

theorem visit_inv {n : Nat} {d q : List Int} {s t : Int} (h : Inv n d q) (hs : 0 ≤ s ∧ s < (n : Int) ∧ 0 ≤ at' d s) (ht : 0 ≤ t ∧ t < (n : Int)) :
    Inv n (visit s (d, q) t).1 (visit s (d, q) t).2 ∧ (visit s (d, q) t).2.length + neg (visit s (d, q) t).1 = q.length + neg d ∧ (∀ u, 0 ≤ u → 0 ≤ at' d u → 0 ≤ at' (visit s (d, q) t).1 u) := by
  have hl := h.len
  unfold visit
  by_cases hn : at' d t < 0
  · simp only [if_pos hn]
    have hg := at_get (d := d) ht.1 (by omega)
    have hset := neg_set hg hn (show 0 ≤ at' d s + 1 by omega)
    have hsm := h.bnd _ (at_mem (d := d) hs.1 (by omega))
    have hmon : ∀ u, 0 ≤ u → 0 ≤ at' d u → 0 ≤ at' (d.set t.toNat (at' d s + 1)) u := by
      intro u h0 hu
      by_cases e : u = t
      · subst e; omega
      · rw [at_set_other _ ht.1 h0 e]; exact hu
    refine ⟨⟨by simp [hl], ?_, ?_⟩, ?_, hmon⟩
    · intro x hx
      rcases List.mem_or_eq_of_mem_set hx with hx | rfl
      · have := h.bnd x hx; omega
      · omega
    · intro u hu
      rcases List.mem_append.1 hu with hu | hu
      · obtain ⟨a, b, c⟩ := h.que u hu
        exact ⟨a, b, hmon u a c⟩
      · have : u = t := by simpa using hu
        subst this
        exact ⟨ht.1, ht.2, by rw [at_set_same _ ht.1 (by omega)]; omega⟩
    · simp only [List.length_append, List.length_singleton]; omega
  · simp only [if_neg hn]
    exact ⟨h, by trivial, fun _ _ h => h⟩

theorem fold_inv {n : Nat} {s : Int} (l : List Int) : ∀ {d q : List Int}, Inv n d q → (0 ≤ s ∧ s < (n : Int) ∧ 0 ≤ at' d s) → (∀ t ∈ l, 0 ≤ t ∧ t < (n : Int)) →
    Inv n (l.foldl (visit s) (d, q)).1 (l.foldl (visit s) (d, q)).2 ∧ (l.foldl (visit s) (d, q)).2.length + neg (l.foldl (visit s) (d, q)).1 = q.length + neg d ∧ 0 ≤ at' (l.foldl (visit s) (d, q)).1 s := by
  induction l with
  | nil => intro d q h hs _; exact ⟨h, rfl, hs.2.2⟩
  | cons t l ih =>
    intro d q h hs ht
    obtain ⟨h1, h2, h3⟩ := visit_inv h hs (ht t (List.mem_cons_self ..))
    obtain ⟨k1, k2, k3⟩ := ih h1 ⟨hs.1, hs.2.1, h3 s hs.1 hs.2.2⟩ (fun u hu => ht u (List.mem_cons_of_mem _ hu))
    exact ⟨k1, k2.trans h2, k3⟩

theorem run_nil (next : List (List Int)) (d : List Int) : run next d [] = d := by
  unfold run; cases ([] : List Int).length + neg d <;> rfl
theorem run_cons {next : List (List Int)} {n : Nat} {d q : List Int} {s : Int} (h : Inv n d (s :: q)) (hr : ∀ t ∈ row next s, 0 ≤ t ∧ t < (n : Int)) :
    run next d (s :: q) = run next ((row next s).foldl (visit s) (d, q)).1 ((row next s).foldl (visit s) (d, q)).2 := by
  have hq : Inv n d q := ⟨h.len, h.bnd, fun u hu => h.que u (List.mem_cons_of_mem _ hu)⟩
  have hf := (fold_inv (row next s) hq (h.que s (List.mem_cons_self ..)) hr).2.1
  unfold run
  rw [hf, show (s :: q).length + neg d = (q.length + neg d) + 1 by simp; omega]
  rfl

theorem marked_snoc (n : Nat) (l : List Int) (s : Int) : marked n (l ++ [s]) = (marked n l).set s.toNat 0 := by simp [marked, List.foldl_append]
theorem marked_len (n : Nat) (l : List Int) : (marked n l).length = n := by
  have : ∀ (l : List Int) (d : List Int), (l.foldl (fun d s => d.set s.toNat 0) d).length = d.length := by
    intro l
    induction l with
    | nil => intro d; rfl
    | cons a l ih => intro d; rw [List.foldl_cons, ih]; simp
  unfold marked; rw [this]; simp
theorem marked_mem (n : Nat) (l : List Int) : ∀ x ∈ marked n l, x = -1 ∨ x = 0 := by
  have : ∀ (l : List Int) (d : List Int), (∀ x ∈ d, x = -1 ∨ x = 0) → ∀ x ∈ l.foldl (fun d s => d.set s.toNat 0) d, x = -1 ∨ x = 0 := by
    intro l
    induction l with
    | nil => intro d h; exact h
    | cons a l ih =>
      intro d h
      refine ih _ fun x hx => ?_
      rcases List.mem_or_eq_of_mem_set hx with hx | rfl
      · exact h x hx
      · exact .inr rfl
  exact this l _ (fun x hx => .inl (List.eq_of_mem_replicate hx))
theorem marked_at (n : Nat) (l : List Int) (hl : ∀ s ∈ l, 0 ≤ s ∧ s < (n : Int)) : ∀ s ∈ l, at' (marked n l) s = 0 := by
  have : ∀ (l d : List Int), d.length = n → (∀ s ∈ l, 0 ≤ s ∧ s < (n : Int)) → ∀ u, 0 ≤ u → u < (n : Int) → (u ∈ l ∨ at' d u = 0) → at' (l.foldl (fun d s => d.set s.toNat 0) d) u = 0 := by
    intro l
    induction l with
    | nil => intro d _ _ u _ _ h; exact h.resolve_left (by simp)
    | cons a l ih =>
      intro d hd hl u h0 h1 h
      have ha := hl a (List.mem_cons_self ..)
      refine ih _ (by simpa using hd) (fun s hs => hl s (List.mem_cons_of_mem _ hs)) u h0 h1 ?_
      by_cases e : u = a
      · subst e; right; exact at_set_same _ h0 (by omega)
      · rcases h with h | h
        · exact .inl ((List.mem_cons.1 h).resolve_left e)
        · right; rw [at_set_other _ ha.1 h0 e]; exact h
  intro s hs
  exact this l _ (by simp) hl s (hl s hs).1 (hl s hs).2 (.inl hs)
theorem marked_inv (n : Nat) (l : List Int) (hl : ∀ s ∈ l, 0 ≤ s ∧ s < (n : Int)) : Inv n (marked n l) l := by
  refine ⟨marked_len n l, fun x hx => ?_, fun s hs => ⟨(hl s hs).1, (hl s hs).2, by rw [marked_at n l hl s hs]; decide⟩⟩
  have h1 := marked_mem n l x hx
  have h2 : neg (marked n l) ≤ n := by
    have := List.countP_le_length (p := fun x : Int => decide (x < 0)) (l := marked n l)
    rw [marked_len] at this; exact this
  rcases h1 with rfl | rfl
  · omega
  · omega

theorem visit_len (s : Int) (st : List Int × List Int) (t : Int) : (visit s st t).1.length = st.1.length := by unfold visit; split <;> simp
theorem fold_visit_len (s : Int) (l : List Int) : ∀ st, (l.foldl (visit s) st).1.length = st.1.length := by
  induction l with
  | nil => intro st; rfl
  | cons a l ih => intro st; rw [List.foldl_cons, ih, visit_len]
theorem search_len (next : List (List Int)) : ∀ (f : Nat) (d q : List Int), (search next f d q).length = d.length := by
  intro f
  induction f with
  | zero => intro d q; rfl
  | succ f ih =>
    intro d q
    cases q with
    | nil => rfl
    | cons s q => show (search next f _ _).length = _; rw [ih, fold_visit_len]
theorem depths_len (next : List (List Int)) (l : List Int) : (depths next l).length = next.length := by unfold depths run; rw [search_len, marked_len]

/-! ### edges turned -/
def push (o : List (List Int)) (s t : Int) : List (List Int) := o.set t.toNat (o.getD t.toNat [] ++ [s])
def turnTo (xss : List (List Int)) : Nat → List (List Int)
  | 0 => List.replicate xss.length []
  | j + 1 => (xss.getD j []).foldl (fun o t => push o j t) (turnTo xss j)
def turn (xss : List (List Int)) : List (List Int) := turnTo xss xss.length
theorem push_len (o : List (List Int)) (s t : Int) : (push o s t).length = o.length := by simp [push]
theorem fold_push_len (l : List Int) (s : Int) : ∀ o : List (List Int), (l.foldl (fun o t => push o s t) o).length = o.length := by
  induction l with
  | nil => intro o; rfl
  | cons a l ih => intro o; rw [List.foldl_cons, ih, push_len]
theorem turnTo_len (xss : List (List Int)) : ∀ j, (turnTo xss j).length = xss.length
  | 0 => by simp [turnTo]
  | j + 1 => by rw [turnTo, fold_push_len, turnTo_len]
theorem push_bound {o : List (List Int)} {s t : Int} {b : Nat} (h : ∀ x ∈ o, x.length ≤ b) : ∀ x ∈ push o s t, x.length ≤ b + 1 := by
  intro x hx
  rcases List.mem_or_eq_of_mem_set hx with hx | rfl
  · have := h x hx; omega
  · simp only [List.length_append, List.length_singleton]
    have : (o.getD t.toNat []).length ≤ b := by
      rw [List.getD_eq_getElem?_getD]
      cases hh : o[t.toNat]? with
      | none => simp
      | some y => exact h y (List.mem_of_getElem? hh)
    omega

theorem fold_push_bound (l : List Int) (s : Int) : ∀ {o : List (List Int)} {b : Nat}, (∀ x ∈ o, x.length ≤ b) → ∀ x ∈ l.foldl (fun o t => push o s t) o, x.length ≤ b + l.length := by
  induction l with
  | nil => intro o b h; exact h
  | cons a l ih =>
    intro o b h x hx
    have := ih (push_bound (s := s) (t := a) h) x hx
    simp only [List.length_cons]; omega
theorem turnTo_bound {xss : List (List Int)} {b : Nat} (h : ∀ xs ∈ xss, xs.length ≤ b) : ∀ j, ∀ x ∈ turnTo xss j, x.length ≤ b * j
  | 0 => fun x hx => by rw [List.eq_of_mem_replicate hx]; simp
  | j + 1 => fun x hx => by
    have h1 := fold_push_bound (xss.getD j []) j (turnTo_bound h j) x hx
    have h2 : (xss.getD j []).length ≤ b := by
      rw [List.getD_eq_getElem?_getD]
      cases hh : xss[j]? with
      | none => simp
      | some y => exact h y (List.mem_of_getElem? hh)
    rw [Nat.mul_add, Nat.mul_one]; omega
theorem push_mem {o : List (List Int)} {s t : Int} {P : Int → Prop} (h : ∀ x ∈ o, ∀ y ∈ x, P y) (hs : P s) : ∀ x ∈ push o s t, ∀ y ∈ x, P y := by
  intro x hx y hy
  rcases List.mem_or_eq_of_mem_set hx with hx | rfl
  · exact h x hx y hy
  · rcases List.mem_append.1 hy with hy | hy
    · rw [List.getD_eq_getElem?_getD] at hy
      cases hh : o[t.toNat]? with
      | none => rw [hh] at hy; simp at hy
      | some z => rw [hh] at hy; exact h z (List.mem_of_getElem? hh) y hy
    · have : y = s := by simpa using hy
      rw [this]; exact hs
theorem fold_push_mem {P : Int → Prop} (l : List Int) {s : Int} (hs : P s) : ∀ {o : List (List Int)}, (∀ x ∈ o, ∀ y ∈ x, P y) → ∀ x ∈ l.foldl (fun o t => push o s t) o, ∀ y ∈ x, P y := by
  induction l with
  | nil => intro o h; exact h
  | cons a l ih => intro o h; exact ih (push_mem h hs)
theorem turnTo_mem (xss : List (List Int)) : ∀ j, ∀ x ∈ turnTo xss j, ∀ y ∈ x, 0 ≤ y ∧ y < (j : Int)
  | 0 => fun x hx y hy => by rw [List.eq_of_mem_replicate hx] at hy; cases hy
  | j + 1 => fold_push_mem (P := fun y => 0 ≤ y ∧ y < ((j + 1 : Nat) : Int)) _ (by omega) fun x hx y hy => by have := turnTo_mem xss j x hx y hy; omega

end Go.Proofs.YtoffbdlgmnpblaaGreat.Bfs

/- Slices of slices that are read; a queue of the call's own; package graph: turned. -/
namespace Go.Proofs.YtoffbdlgmnpblaaGreat
open Go.RowKit
set_option maxHeartbeats 4000000
set_option maxRecDepth 100000

abbrev Rows2 (w : World) (D : Nat → Prop) (v : Value) (xss : List (List Int)) : Prop := Sl (Kind.slice (Kind.int .i64)) w D v xss

/-- a row of a list of rows, in each later world -/
theorem Rows2.row_up {w : World} {D : Nat → Prop} {A : Option Addr} {n c : Nat} {xss : List (List Int)} (h : Rows2 w D (.slice A n c) xss) (hD : Lo D w) (i : Nat) (xs : List Int) (hx : xss[i]? = some xs) :
    ∃ ad B d, A = some ad ∧ D ad.block ∧ Hid (∀ W, Below w.heap.size w W → W.cell? (ad.add i) = some (.slice B xs.length d)) ∧ xs.length ≤ d ∧ d ≤ maxLen ∧ Hid (0 < xs.length → ∃ bd, B = some bd ∧ D bd.block ∧ ∀ W, Below w.heap.size w W → ∀ j x, xs[j]? = some x → W.cell? (bd.add j) = some (.int .i64 x)) := by
  obtain ⟨A', c', e, h1, h2, h3⟩ := h
  injection e with e1 e2 e3
  subst e1 e3
  obtain ⟨ad, cs, e, hd, ⟨v, rfl, hs⟩, ha⟩ := h3 i xs hx
  have h0 := ha 0 v rfl
  rw [add_of_add, show i * (Kind.slice (Kind.int .i64)).sz + 0 = i from by show i * 1 + 0 = i; omega] at h0
  obtain ⟨B, d, rfl, k1, k2, k3⟩ := hs.ints
  refine ⟨ad, B, d, e, hd, (fun W hb => (hb.cell (p := ad.add i) (by rw [block_of_add]; exact hD _ hd)).trans h0 : ∀ W, Below w.heap.size w W → W.cell? (ad.add i) = some (.slice B xs.length d)), k1, k2, ?_⟩
  have : 0 < xs.length → ∃ bd, B = some bd ∧ D bd.block ∧ ∀ W, Below w.heap.size w W → ∀ j x, xs[j]? = some x → W.cell? (bd.add j) = some (.int .i64 x) := by
    intro hp
    obtain ⟨bd, e1, hbd, hc⟩ := k3 hp
    refine ⟨bd, e1, hbd, fun W hb j x hj => ?_⟩
    have := hc j (List.getElem?_eq_some_iff.1 hj).1
    rw [Dig.gd_of hj] at this
    exact (hb.cell (p := bd.add j) (by rw [block_of_add]; exact hD _ hbd)).trans this
  exact this

theorem spot_none {w : World} {a : Addr} {v : Value} (h : w.cell? a = some v) : a.spot = none := by
  unfold World.cell? at h
  cases hh : w.heap[a.block]? with
  | none => rw [hh] at h; cases h
  | some o =>
    rw [hh] at h
    cases o <;> simp at h
    cases hs : a.spot with
    | none => rfl
    | some p => rw [hs] at h; simp at h
theorem add_lit' {a : Addr} (h : a.spot = none) (i : Nat) : a.add i = ⟨a.block, a.off + i, none⟩ := by
  unfold Addr.add
  split
  · rename_i e; subst e; cases a; simp at h; simp [h]
  · cases a; simp at h; simp

/-- a copy of a list of numbers -/
theorem Clone_calls (xs : List Int) (v : Value) (D : Nat → Prop) (w : World) (h : Sl (Kind.int .i64) w D v xs) (hl : xs.length ≤ 1000000) :
    Calls Tryz.prog 76 #[v] w fun e w' => ∃ v', e = .returned v' ∧ w'.ownsRow w.heap.size 3 1 v' xs.length (ints xs) ∧ Below w.heap.size w w' := by
  obtain ⟨A, c, rfl, h1, h2, h3⟩ := h.ints
  rcases A with _ | ad
  · have hz : xs = [] := by
      cases xs with
      | nil => rfl
      | cons a l => obtain ⟨ad, e, _⟩ := h3 (by simp); cases e
    subst hz
    refine (Tryz.slices_Clone_int_nil 0 c w).mono ?_
    rintro e w' ⟨rfl, rfl⟩
    exact ⟨_, rfl, World.ownsRow_nil _ _ _ _, Below.refl _ _⟩
  · by_cases h0 : 0 < xs.length
    · obtain ⟨ad', e, hd, hc⟩ := h3 h0
      cases e
      have hsp := spot_none (hc 0 h0)
      have hsp : ad.spot = none := by
        unfold Addr.add at hsp; simpa using hsp
      have hc' : ∀ j, j < xs.length → w.cell? ⟨ad.block, ad.off + j, none⟩ = some (.int .i64 (xs.getD j 0)) := by
        intro j hj
        have := hc j hj
        rw [add_lit' hsp] at this
        rw [this, Dig.gd_int]
      have he : ad = ⟨ad.block, ad.off, none⟩ := by cases ad; simp at hsp; simp [hsp]
      rw [he]
      refine (Tryz.slices_Clone_int ad.block ad.off xs.length c xs w (Nat.le_refl _) (by omega) hc').mono ?_
      rintro e w' ⟨v', rfl, ho, -, hb⟩
      rw [List.take_length] at ho
      exact ⟨v', rfl, ho, hb⟩
    · have hz : xs = [] := List.eq_nil_of_length_eq_zero (by omega)
      subst hz
      refine (Tryz.slices_Clone_int_zero ad c w).mono ?_
      rintro e w' ⟨v', rfl, ho, -, hb⟩
      exact ⟨v', rfl, ho, hb⟩

/-! ### a queue -/
def QOwn (w : World) (base : Nat) (v : Value) (xs : List Int) : Prop :=
  (v = .slice none 0 0 ∧ xs = []) ∨ ∃ g off cap cur, v = .slice (some ⟨g, off, none⟩) xs.length cap ∧ base ≤ g ∧ w.heap[g]? = some (.cells cur 3 (0, 0)) ∧ xs.length ≤ cap ∧ cap ≤ maxLen ∧ off + cap ≤ cur.size ∧ ∀ i x, xs[i]? = some x → cur[off + i]? = some (.int .i64 x)
theorem QOwn.of_own {w : World} {base : Nat} {v : Value} {xs : List Int} (h : w.ownsRow base 3 1 v xs.length (ints xs)) : QOwn w base v xs := by
  obtain ⟨hl, ⟨rfl, h0⟩ | ⟨g, cap, cur, rfl, hb, hg, hnc, hcm, hcs, ht⟩⟩ := h
  · exact .inl ⟨rfl, List.eq_nil_of_length_eq_zero h0⟩
  · refine .inr ⟨g, 0, cap, cur, rfl, hb, hg, hnc, hcm, by omega, fun i x hx => ?_⟩
    have hi := (List.getElem?_eq_some_iff.1 hx).1
    have h1 : (cur.toList.take (xs.length * 1))[i]? = (ints xs)[i]? := by rw [ht]
    rw [List.getElem?_take_of_lt (by omega), List.getElem?_map, hx] at h1
    simpa using h1
theorem QOwn.lt {w : World} {base : Nat} {v : Value} {xs : List Int} (h : QOwn w base v xs) : ∀ k, v.ownBlock = some k → base ≤ k ∧ k < w.heap.size := by
  intro k hk
  rcases h with ⟨rfl, -⟩ | ⟨g, off, cap, cur, rfl, hb, hg, -⟩
  · cases hk
  · cases hk
    exact ⟨hb, (Array.getElem?_eq_some_iff.1 hg).1⟩
theorem QOwn.kept {w w' : World} {base : Nat} {v : Value} {xs : List Int} (h : QOwn w base v xs) (hb : ∀ k, v.ownBlock = some k → w'.heap[k]? = w.heap[k]?) : QOwn w' base v xs := by
  rcases h with h | ⟨g, off, cap, cur, rfl, hbs, hg, h4⟩
  · exact .inl h
  · exact .inr ⟨g, off, cap, cur, rfl, hbs, (hb g rfl).trans hg, h4⟩
theorem QOwn.below {w w' : World} {base : Nat} {v : Value} {xs : List Int} (h : QOwn w base v xs) (hb : Below w.heap.size w w') : QOwn w' base v xs := h.kept fun k hk => hb.block k (h.lt k hk).2
theorem QOwn.head {w : World} {base g off n cap : Nat} {x : Int} {xs : List Int} (h : QOwn w base (.slice (some ⟨g, off, none⟩) n cap) (x :: xs)) : w.cell? ⟨g, off, none⟩ = some (.int .i64 x) := by
  rcases h with ⟨h, -⟩ | ⟨g', off', cap', cur, e, hb, hg, h4, h5, h6, h7⟩
  · cases h
  · cases e
    have := h7 0 x rfl
    simp [World.cell?, hg]
    simpa using this
theorem QOwn.tail {w : World} {base g off n cap : Nat} {x : Int} {xs : List Int} (h : QOwn w base (.slice (some ⟨g, off, none⟩) n cap) (x :: xs)) : QOwn w base (.slice (some ⟨g, off + 1, none⟩) (n - 1) (cap - 1)) xs := by
  rcases h with ⟨h, -⟩ | ⟨g', off', cap', cur, e, hb, hg, h4, h5, h6, h7⟩
  · cases h
  · cases e
    simp only [List.length_cons] at h4
    refine .inr ⟨g, off + 1, cap - 1, cur, by simp, hb, hg, by omega, by omega, by omega, fun i y hy => ?_⟩
    have := h7 (i + 1) y (by simpa using hy)
    rw [show off + 1 + i = off + (i + 1) by omega]; exact this
theorem QOwn.tail1 {w : World} {base g off n : Nat} {x : Int} {xs : List Int} (h : QOwn w base (.slice (some ⟨g, off, none⟩) n 1) (x :: xs)) : xs = [] ∧ QOwn w base (.slice (some ⟨g, off, none⟩) (n - 1) 0) xs := by
  rcases h with ⟨h, -⟩ | ⟨g', off', cap', cur, e, hb, hg, h4, h5, h6, h7⟩
  · cases h
  · cases e
    simp only [List.length_cons] at h4
    obtain rfl : xs = [] := List.eq_nil_of_length_eq_zero (by omega)
    exact ⟨rfl, .inr ⟨g, off, 0, cur, by simp, hb, hg, by simp, by simp, by omega, fun i y hy => by simp at hy⟩⟩
theorem QOwn.form {w : World} {base : Nat} {v : Value} {x : Int} {xs : List Int} (h : QOwn w base v (x :: xs)) : ∃ g off cap, v = .slice (some ⟨g, off, none⟩) (xs.length + 1) cap ∧ 1 ≤ cap ∧ cap ≤ maxLen := by
  rcases h with ⟨-, h⟩ | ⟨g, off, cap, cur, rfl, hb, hg, h4, h5, h6, h7⟩
  · cases h
  · simp only [List.length_cons] at h4
    exact ⟨g, off, cap, rfl, by omega, h5⟩

theorem wpList_qapp {w : World} {ops : Array Oper} {rest : List Oper} {o : Oper} {a : Act} {Q : Exit → Act → World → Prop}
    (hgd : o.guard = none) (s x : Operand) (ho : o.op = .call { callee := .builtin .append, args := #[s, x], argTypes := #[31, 31] })
    (base : Nat) (v : Value) (xs : List Int) (hs : a.eval s = v) (hown : QOwn w base v xs) (ad : Addr) (c : Nat) (y : Int) (hx : a.eval x = .slice (some ad) 1 c) (hc : w.cell? ad = some (.int .i64 y))
    (hb : xs.length + 1 ≤ 1000000) (hbase : base ≤ w.heap.size)
    (h : ∀ v' w', QOwn w' base v' (xs ++ [y]) → w.grownBy w' v.ownBlock → (v'.ownBlock = v.ownBlock ∨ ∀ k, v'.ownBlock = some k → w.heap.size ≤ k) → wpList Tryz.prog ops Q rest (a.put o.dst v') w') : wpList Tryz.prog ops Q (o :: rest) a w := by
  have hat : ∀ j u', [Value.int .i64 y][j]? = some u' → w.cell? (ad.add j) = some u' := by
    intro j u' hj
    cases j with
    | zero => simp at hj; subst hj; exact hc
    | succ j => simp at hj
  rcases hown with ⟨rfl, rfl⟩ | ⟨g, off, cap, cur, rfl, hbs, hg, h4, h5, h6, h7⟩
  · refine wpList_app1 elem_i64 hgd s x ho base (.slice none 0 0) 0 [] hs (World.ownsRow_nil _ _ _ _) ad c _ hx hc rfl (by omega) (by omega) hbase ?_
    intro v' w' h1 h2 h3
    exact h v' w' (QOwn.of_own (xs := [y]) h1) h2 (h3.imp id fun e k hk => by rw [e] at hk; cases hk; exact Nat.le_refl _)
  · obtain ⟨i, hi, hz, hsz, hby⟩ := elem_i64.hi
    refine wpList_append_arg w hgd s x 31 ho 3 i _ 1 8 elem_i64.ht hi hz hsz hby rfl (by decide) g off xs.length cap (ints xs) hs (by simp) ?_ ad 1 c [.int .i64 y] hx rfl hat (by simp [Value.oneCell']) ?_ (by simp only [maxLen]; omega) (by omega) ?_ ?_
    · intro j u hj
      rw [List.getElem?_map] at hj
      cases hx : xs[j]? with
      | none => rw [hx] at hj; cases hj
      | some z =>
        rw [hx] at hj; cases hj
        simp [World.cell?, hg, h7 j z hx]
    · intro hr j hj
      have : j = 0 := by simpa using hj
      subst this
      constructor
      · simp [World.cell?, hg]
        omega
      · simp [World.frozen?, hg]
    · intro hr
      have hgl := (Array.getElem?_eq_some_iff.1 hg).1
      refine h _ _ ?_ ⟨rfl, rfl, rfl, by simp [World.setCells, World.setCell], fun k hk hne => ?_⟩ (.inl rfl)
      · refine .inr ⟨g, off, cap, cur.setIfInBounds (off + xs.length) (.int .i64 y), by simp, hbs, ?_, by simpa using hr, h5, by simpa using h6, ?_⟩
        · simp [World.setCells, World.setCell, Array.getElem?_modify, hg]
        · intro i z hz
          by_cases e : i = xs.length
          · subst e
            simp at hz
            subst hz
            rw [Array.getElem?_setIfInBounds_self_of_lt (by omega)]
          · have hi : i < xs.length := by have := (List.getElem?_eq_some_iff.1 hz).1; simp at this; omega
            rw [List.getElem?_append_left hi] at hz
            rw [Array.getElem?_setIfInBounds_ne (by omega)]
            exact h7 i z hz
      · exact Below.heap_setCell w _ _ k (fun e => hne (by show some k = some g; rw [e]))
    · intro hgr v' w' h1 h2
      refine h v' w' (QOwn.of_own (xs := xs ++ [y]) ?_) ⟨h2.os, h2.tape, h2.output, h2.size, fun k hk _ => h2.block k hk (by simp)⟩ ?_
      · obtain ⟨e1, e2⟩ := h1
        refine ⟨by simp, ?_⟩
        rcases e2 with e2 | ⟨g', cap', cur', e3, e4, e5, e6, e7, e8, e9⟩
        · exact .inl ⟨e2.1, by simp at e2⟩
        · refine .inr ⟨g', cap', cur', by simpa using e3, by omega, e5, by simpa using e6, e7, e8, by simpa using e9⟩
      · right
        intro k hk
        exact (h1.lt k hk).1

end Go.Proofs.YtoffbdlgmnpblaaGreat
