/- Part 53 of 55: Gw0. -/
import Derived.Test.YtoffbdlgmnpblaaGreatJ52
import Derived.Test.YtoffbdlgmnpblaaGreatJ46
import Derived.Test.YtoffbdlgmnpblaaGreatJ51
import Derived.Test.YtoffbdlgmnpblaaGreatJ47
import Derived.Test.YtoffbdlgmnpblaaGreatJ44

/- GraphOwn: what holds of memory between its calls. -/
namespace Go.Proofs.YtoffbdlgmnpblaaGreat
open Go.RowKit
set_option maxHeartbeats 1000000

/-- the arguments, and their copies, which lie below n0 -/
structure Base (w : World) (n0 ab : Nat) (A : Option Addr) (c : Nat) (m : List St) (u : Value) (l : List Int) (sv bv : Value) (W : World) : Prop where
  size : n0 ≤ W.heap.size
  below : Below w.heap.size w W
  wn : w.heap.size < n0
  box : W.heap[w.heap.size]? = some (.cells #[.slice A m.length c] 24 (0, 0))
  abn : ab < n0
  abox : W.heap[ab]? = some (.cells #[sv] 24 (0, 0))
  M : ModelC W (· < n0) (.agg #[.slice A m.length c]) m
  L : Sl (Kind.int .i64) W (· < n0) u l
  AM : ModelC W (· < n0) (.agg #[sv]) m
  BL : Sl (Kind.int .i64) W (· < n0) bv l

section
variable {w W W' : World} {n0 ab : Nat} {A : Option Addr} {c : Nat} {m : List St} {u : Value} {l : List Int} {sv bv : Value}
theorem Base.kept (h : Base w n0 ab A c m u l sv bv W) (hs : W.heap.size ≤ W'.heap.size) (hb : ∀ k, k < n0 → W'.heap[k]? = W.heap[k]?) (hB : Below w.heap.size w W') : Base w n0 ab A c m u l sv bv W' :=
  ⟨Nat.le_trans h.size hs, hB, h.wn, (hb _ h.wn).trans h.box, h.abn, (hb _ h.abn).trans h.abox, h.M.same hb, h.L.same hb, h.AM.same hb, h.BL.same hb⟩
theorem Base.next (h : Base w n0 ab A c m u l sv bv W) (hb : Below W.heap.size W W') : Base w n0 ab A c m u l sv bv W' :=
  h.kept hb.size (fun k hk => hb.block k (Nat.lt_of_lt_of_le hk h.size)) (h.below.trans (hb.mono h.below.size))
theorem Base.cell (h : Base w n0 ab A c m u l sv bv W) : W.cell? ⟨w.heap.size, 0, none⟩ = some (.slice A m.length c) := (cells_of h.box 0).1
theorem Base.acell (h : Base w n0 ab A c m u l sv bv W) : W.cell? ⟨ab, 0, none⟩ = some sv := (cells_of h.abox 0).1
theorem Base.lo (h : Base w n0 ab A c m u l sv bv W) : Lo (· < n0) W := fun _ hk => Nat.lt_of_lt_of_le hk h.size
end

def listsOf (m : List St) (l : List Int) (s t : Int) : List (List Int) := [pathOf m s t, fromOf m l, toOf m l, distOf m l, periodsOf m]
theorem lists_bd (m : List St) (l : List Int) (s t : Int) : (listsOf m l s t).length ≤ 100000 ∧ ∀ xs ∈ listsOf m l s t, xs.length ≤ 100000 := by
  refine ⟨by simp [listsOf], fun xs hx => ?_⟩
  simp only [listsOf, List.mem_cons, List.not_mem_nil, or_false] at hx
  rcases hx with rfl | rfl | rfl | rfl | rfl
  · exact path_bd m s t
  · exact from_bd m l
  · exact to_bd m l
  · exact dist_bd m l
  · exact periods_bd m

/-- all results -/
structure One (D : Nat → Prop) (m : List St) (l : List Int) (s t : Int) (xv cv zv lv uv : Value) (W : World) : Prop where
  X : Rows2 W D xv (edgesOf m)
  C : Rows2 W D cv (compsOf m)
  Z : Rows2 W D zv (botOf m)
  S : Rows2 W D lv (listsOf m l s t)
  U : Sl Kind.st W D uv (cutOf m l)
section
variable {D D' : Nat → Prop} {m : List St} {l : List Int} {s t : Int} {xv cv zv lv uv : Value} {W W' : World}
theorem One.same (h : One D m l s t xv cv zv lv uv W) (hs : Same D W W') : One D m l s t xv cv zv lv uv W' :=
  ⟨h.X.same hs, h.C.same hs, h.Z.same hs, h.S.same hs, h.U.same hs⟩
theorem One.mono (h : One D m l s t xv cv zv lv uv W) (hs : ∀ k, D k → D' k) : One D' m l s t xv cv zv lv uv W :=
  ⟨h.X.mono hs, h.C.mono hs, h.Z.mono hs, h.S.mono hs, h.U.mono hs⟩
end

theorem rows_of_five {W : World} {D : Nat → Prop} {b : Nat} {t : TypeId} {p f o d q : Value} {m : List St} {l : List Int} {s e : Int} (hb : W.heap[b]? = some (.cells #[p, f, o, d, q] t (0, 0))) (hD : D b)
    (h0 : Sl (Kind.int .i64) W D p (pathOf m s e)) (h1 : Sl (Kind.int .i64) W D f (fromOf m l)) (h2 : Sl (Kind.int .i64) W D o (toOf m l)) (h3 : Sl (Kind.int .i64) W D d (distOf m l)) (h4 : Sl (Kind.int .i64) W D q (periodsOf m)) :
    Rows2 W D (.slice (some ⟨b, 0, none⟩) 5 5) (listsOf m l s e) := by
  refine rows_of_block [p, f, o, d, q] _ hb hD rfl rfl (by decide) rfl ?_
  intro j u xs hu hx
  match j, hu, hx with
  | 0, hu, hx => simp [listsOf] at hu hx; subst hu hx; exact h0
  | 1, hu, hx => simp [listsOf] at hu hx; subst hu hx; exact h1
  | 2, hu, hx => simp [listsOf] at hu hx; subst hu hx; exact h2
  | 3, hu, hx => simp [listsOf] at hu hx; subst hu hx; exact h3
  | 4, hu, hx => simp [listsOf] at hu hx; subst hu hx; exact h4
  | j + 5, hu, hx => simp at hu

/-- phase one: what the nine calls have left -/
theorem One.of_calls {n0 : Nat} {m : List St} {l : List Int} {s t : Int} {w1 w2 w3 w4 w5 w6 w7 w8 w9 w10 : World} {ub : Nat} {x c p u f o d q z : Value} {ty : TypeId}
    (hn : n0 ≤ w1.heap.size) (b1 : Below w1.heap.size w1 w2) (hx : Rows2 w2 (nws w1 w2) x (edgesOf m)) (b2 : Below w2.heap.size w2 w3) (hc : Rows2 w3 (nws w2 w3) c (compsOf m))
    (b3 : Below w3.heap.size w3 w4) (hp : Sl (Kind.int .i64) w4 (nws w3 w4) p (pathOf m s t)) (b4 : Below w4.heap.size w4 w5) (hu : Sl Kind.st w5 (DB w4.heap.size w5) u (cutOf m l)) (hub : ub = w5.heap.size)
    (b5 : Below w5.heap.size w5 w6) (b6 : Below w6.heap.size w6 w7) (hf : Sl (Kind.int .i64) w7 (nws w6 w7) f (fromOf m l)) (b7 : Below w7.heap.size w7 w8) (ho : Sl (Kind.int .i64) w8 (nws w7 w8) o (toOf m l))
    (b8 : Below w8.heap.size w8 w9) (hd : Sl (Kind.int .i64) w9 (nws w8 w9) d (distOf m l)) (b9 : Below w9.heap.size w9 w10) (hq : Sl (Kind.int .i64) w10 (nws w9 w10) q (periodsOf m))
    {w11 : World} (b10 : Below w10.heap.size w10 w11) (hz : Rows2 w11 (nws w10 w11) z (botOf m)) {ob : Obj} (hbo : w6.heap[ub]? = some ob) :
    One (DB n0 (w11.alloc (.cells #[p, f, o, d, q] ty))) m l s t x c z (.slice (some ⟨w11.heap.size, 0, none⟩) 5 5) u (w11.alloc (.cells #[p, f, o, d, q] ty)) ∧
      (w11.alloc (.cells #[p, f, o, d, q] ty)).heap[ub]? = some ob ∧ n0 ≤ ub ∧ ub < (w11.alloc (.cells #[p, f, o, d, q] ty)).heap.size ∧ Below w11.heap.size w11 (w11.alloc (.cells #[p, f, o, d, q] ty)) := by
  have c11 := (Below.refl w11.heap.size w11).alloc (Nat.le_refl _) (.cells #[p, f, o, d, q] ty)
  have c10 := b10.trans (c11.mono b10.size)
  have c9 := b9.trans (c10.mono b9.size)
  have c8 := b8.trans (c9.mono b8.size)
  have c7 := b7.trans (c8.mono b7.size)
  have c6 := b6.trans (c7.mono b6.size)
  have c5 := b5.trans (c6.mono b5.size)
  have c4 := b4.trans (c5.mono b4.size)
  have c3 := b3.trans (c4.mono b3.size)
  have c2 := b2.trans (c3.mono b2.size)
  have s1 := b1.size
  have s2 := b2.size
  have s3 := b3.size
  have s4 := b4.size
  have s5 := b5.size
  have s6 := b6.size
  have s7 := b7.size
  have s8 := b8.size
  have s9 := b9.size
  have s10 := b10.size
  have hlt : ub < w6.heap.size := (Array.getElem?_eq_some_iff.1 hbo).1
  refine ⟨?_, (c6.block ub hlt).trans hbo, by omega, Nat.lt_of_lt_of_le hlt c6.size, c11⟩
  exact ⟨(Sl.born hx (by omega)).carry c2, (Sl.born hc (by omega)).carry c3, (Sl.born hz (by omega)).carry c11,
    rows_of_five (heap_alloc_new _ _) (DB.new _ _ (by omega)) ((Sl.born hp (by omega)).carry c4) ((Sl.born hf (by omega)).carry c7) ((Sl.born ho (by omega)).carry c8) ((Sl.born hd (by omega)).carry c9) ((Sl.born hq (by omega)).carry c10),
    (Sl.sunk hu (by omega)).carry c5⟩

/-- the shape of what reads as a slice -/
theorem Sl.shape {α : Type} {K : Kind α} {W : World} {D : Nat → Prop} {v : Value} {xs : List α} (h : Sl K W D v xs) : ∃ A n c, v = .slice A n c := by
  obtain ⟨A, c, e, -⟩ := h
  exact ⟨A, _, c, e⟩
theorem sep_model {W : World} {B : Nat} {sv : Value} {ss : List SO} (h : Sep B W (stRow B sv ss :: stParts B ss)) : Sl Kind.st W (DB B W) sv (ss.map SO.st) :=
  Sep.model (l := []) (by rw [List.append_nil]; exact h)

/-- a result stays where another block is written -/
theorem Sl.past {α : Type} {K : Kind α} {w V F : World} {a n1 kb : Nat} {v : Value} {xs : List α} (h : Sl K w (fun b => a ≤ b ∧ b < w.heap.size) v xs) (hb : Below w.heap.size w V) (hF : ∀ j, j < V.heap.size → j ≠ kb → F.heap[j]? = V.heap[j]?) (hs : V.heap.size ≤ F.heap.size) (hk : kb < a ∨ w.heap.size ≤ kb) (hn : n1 ≤ a) :
    Sl K F (fun b => n1 ≤ b ∧ b < F.heap.size) v xs :=
  (h.same (w' := F) fun k hk' => (hF k (Nat.lt_of_lt_of_le hk'.2 hb.size) (fun e => by omega)).trans (hb.block k hk'.2)).mono fun k hk' => ⟨by omega, by have := hb.size; omega⟩

/-- the five copies -/
theorem One.of_copies {n1 kb : Nat} {m : List St} {l : List Int} {s t : Int} {V0 V1 w1 V2 w2 V3 w3 V4 w4 V5 w5 F : World} {l1 x1 c1 z1 u1 : Value} {p1 p2 p3 p4 : List (Value × List Int)} {ty : TypeId}
    (hn : V0.heap.size = n1) (d1 : Below V0.heap.size V0 V1) (b1 : Below V1.heap.size V1 w1) (h1 : RowsC w1 V1.heap.size l1 p1) (e1 : p1.map (·.2) = listsOf m l s t)
    (d2 : Below w1.heap.size w1 V2) (b2 : Below V2.heap.size V2 w2) (h2 : RowsC w2 V2.heap.size x1 p2) (e2 : p2.map (·.2) = edgesOf m)
    (d3 : Below w2.heap.size w2 V3) (b3 : Below V3.heap.size V3 w3) (h3 : RowsC w3 V3.heap.size c1 p3) (e3 : p3.map (·.2) = compsOf m)
    (d4 : Below w3.heap.size w3 V4) (b4 : Below V4.heap.size V4 w4) (h4 : RowsC w4 V4.heap.size z1 p4) (e4 : p4.map (·.2) = botOf m)
    (d5 : Below w4.heap.size w4 V5) (b5 : Below V5.heap.size V5 w5) (h5 : Sl Kind.st w5 (DB V5.heap.size w5) u1 (cutOf m l))
    (d6 : n1 ≤ w5.heap.size → Below n1 w5 F) (hF : ∀ j, j < w5.heap.size → j ≠ kb → F.heap[j]? = w5.heap[j]?) (k1 : kb < V1.heap.size ∨ w1.heap.size ≤ kb) (k2 : kb < V2.heap.size ∨ w2.heap.size ≤ kb) (k3 : kb < V3.heap.size ∨ w3.heap.size ≤ kb) (k4 : kb < V4.heap.size ∨ w4.heap.size ≤ kb) (k5 : kb < V5.heap.size ∨ w5.heap.size ≤ kb)
    (hb : F.heap[kb]? = some (.cells #[u1] ty (0, 0))) (hkn : n1 ≤ kb) :
    Below n1 V0 F ∧ One (fun k => n1 ≤ k ∧ k < F.heap.size) m l s t x1 c1 z1 l1 u1 F ∧ F.heap[kb]? = some (.cells #[u1] ty (0, 0)) ∧ kb < F.heap.size ∧ n1 ≤ kb := by
  have q5 := Below.refl w5.heap.size w5
  have q4 := d5.trans (b5.mono d5.size)
  have q3 := d4.trans ((b4.trans (q4.mono b4.size)).mono d4.size)
  have q2 := d3.trans ((b3.trans (q3.mono b3.size)).mono d3.size)
  have q1 := d2.trans ((b2.trans (q2.mono b2.size)).mono d2.size)
  have q0 := d1.trans ((b1.trans (q1.mono b1.size)).mono d1.size)
  have s1 := d1.size
  have s2 := d2.size
  have s3 := d3.size
  have s4 := d4.size
  have s5 := d5.size
  have t1 := b1.size
  have t2 := b2.size
  have t3 := b3.size
  have t4 := b4.size
  have t5 := b5.size
  have hlt : kb < F.heap.size := (Array.getElem?_eq_some_iff.1 hb).1
  have d6 := d6 (by omega)
  have hs := d6.size
  refine ⟨(hn ▸ q0).trans d6, ⟨?_, ?_, ?_, ?_, ?_⟩, hb, hlt, hkn⟩
  · rw [← e2]; exact Sl.past h2.sl q2 hF hs k2 (by omega)
  · rw [← e3]; exact Sl.past h3.sl q3 hF hs k3 (by omega)
  · rw [← e4]; exact Sl.past h4.sl q4 hF hs k4 (by omega)
  · rw [← e1]; exact Sl.past h1.sl q1 hF hs k1 (by omega)
  · exact Sl.past (h5.mono fun k hk => ⟨hk.1, hk.2.1⟩) q5 hF hs k5 (by omega)

/-- the box of the cut model holds still while copies are made -/
abbrev HeldU (ub : Nat) (uA : Option Addr) (un uc : Nat) (V : World) : Prop := V.cell? ⟨ub, 0, none⟩ = some (.slice uA un uc) ∧ ub < V.heap.size
theorem heldU_of {W V : World} {ub : Nat} {uA : Option Addr} {un uc : Nat} {t : TypeId} (h : W.heap[ub]? = some (.cells #[.slice uA un uc] t (0, 0))) (hb : Below W.heap.size W V) : HeldU ub uA un uc V :=
  have hl := (Array.getElem?_eq_some_iff.1 h).1
  ⟨(cells_of ((hb.block ub hl).trans h) 0).1, Nat.lt_of_lt_of_le hl hb.size⟩
theorem lo_db {n0 : Nat} {W V : World} (hb : Below W.heap.size W V) : Lo (DB n0 W) V := fun _ hk => Nat.lt_of_lt_of_le hk.2.1 hb.size
theorem sz_alloc {w W : World} {o : Obj} (h : Below (w.alloc o).heap.size (w.alloc o) W) : w.heap.size + 1 ≤ W.heap.size := by have := h.size; simp at this; omega

theorem cut_lens {m : List St} {l : List Int} (h : m.length ≤ 1000000 ∧ ∀ s ∈ m, s.chs.length ≤ 1000000 ∧ ∀ c ∈ s.chs, c.brs.length ≤ 1000000) (hl : l.length ≤ 60) :
    (cutOf m l).length ≤ 1000000 ∧ ∀ s ∈ cutOf m l, s.chs.length ≤ 1000000 ∧ ∀ c ∈ s.chs, c.brs.length ≤ 1000000 := by
  unfold cutOf
  split
  · refine ⟨by rw [List.length_map]; omega, fun s hs => ?_⟩
    obtain ⟨i, -, rfl⟩ := List.mem_map.1 hs
    have hd : ∀ x : St, x = m.getD i.toNat ⟨0, 0, []⟩ → x.chs.length ≤ 1000000 ∧ ∀ c ∈ x.chs, c.brs.length ≤ 1000000 := fun x hx => by
      rw [List.getD_eq_getElem?_getD] at hx
      cases hh : m[i.toNat]? with
      | none => rw [hh] at hx; subst hx; exact ⟨by simp, fun c hc => (List.not_mem_nil hc).elim⟩
      | some y => rw [hh] at hx; subst hx; exact h.2 _ (List.mem_of_getElem? hh)
    obtain ⟨h1, h2⟩ := hd _ rfl
    unfold cutSt
    refine ⟨by simp only [List.length_map]; exact h1, fun c hc => ?_⟩
    obtain ⟨c', hc', rfl⟩ := List.mem_map.1 hc
    simp only [cutCh, List.length_map]
    exact h2 c' hc'
  · exact ⟨by simp, fun s hs => (List.not_mem_nil hs).elim⟩

theorem below_set {n kb : Nat} {W : World} {u : Value} (h : n ≤ kb) : Below n W (W.setCell ⟨kb, 0, none⟩ u) := (Below.refl n W).setCell (p := ⟨kb, 0, none⟩) h u

/-- what the spoiling leaves -/
theorem spoilt {n0 : Nat} {w15 wc wr w17 : World} {oa ob : Obj} (hn : n0 ≤ wc.heap.size) (h1 : Turned (DB n0 w15) (wc.alloc oa) wr) (h2 : Turned (DB n0 w15) (wr.alloc ob) w17) :
    Below n0 wc w17 ∧ ∀ k, (k < n0 ∨ w15.heap.size ≤ k) → k < wc.heap.size → w17.heap[k]? = wc.heap[k]? := by
  have b0 : Below wc.heap.size wc (wc.alloc oa) := (Below.refl _ _).alloc (Nat.le_refl _) _
  have b1 := h1.below (B := n0) fun k hk => hk.1
  have b2 : Below wr.heap.size wr (wr.alloc ob) := (Below.refl _ _).alloc (Nat.le_refl _) _
  have b3 := h2.below (B := n0) fun k hk => hk.1
  have s1 := b0.size
  have s2 := b1.size
  refine ⟨(b0.mono hn).trans (b1.trans ((b2.mono (by omega)).trans b3)), fun k hk hlt => ?_⟩
  have hnd : ¬ DB n0 w15 k := fun h => by have := h.1; have := h.2.1; omega
  rw [h2.out k hnd, b2.block k (by omega), h1.out k hnd, b0.block k hlt]

/-- a box that may be written -/
def BoxU (ub : Nat) (u : Value) (W : World) : Prop := W.cell? ⟨ub, 0, none⟩ = some u ∧ W.frozen? ⟨ub, 0, none⟩ = false ∧ ub < W.heap.size
theorem BoxU.next {ub : Nat} {u : Value} {W W' : World} (h : BoxU ub u W) (hb : Below W.heap.size W W') : BoxU ub u W' :=
  ⟨(hb.cell (p := ⟨ub, 0, none⟩) h.2.2).trans h.1, (World.frozen?_of_block (w := W) (a := ⟨ub, 0, none⟩) (hb.block ub h.2.2)).trans h.2.1, Nat.lt_of_lt_of_le h.2.2 hb.size⟩
theorem BoxU.of {ub : Nat} {u : Value} {t : TypeId} {W : World} (h : W.heap[ub]? = some (.cells #[u] t (0, 0))) : BoxU ub u W := ⟨(cells_of h 0).1, (cells_of h 0).2, (Array.getElem?_eq_some_iff.1 h).1⟩
theorem BoxU.turned {ub : Nat} {A : Option Addr} {n c : Nat} {D : Nat → Prop} {W W' : World} (h : BoxU ub (.slice A n c) W) (ht : Turned D W W') : BoxU ub (.slice A n c) W' :=
  ⟨slice_turn ht h.1, (ht.frozen _).trans h.2.1, by rw [ht.size]; exact h.2.2⟩
theorem BoxU.set {ub : Nat} {u v : Value} {W : World} (h : BoxU ub u W) : BoxU ub v (W.setCell ⟨ub, 0, none⟩ v) :=
  ⟨World.cell?_setCell_same _ _ _ h.1, (World.frozen?_setCell _ _ _ _).trans h.2.1, by simp [World.setCell]; exact h.2.2⟩

/-- the copies, which lie from n1 to n2 -/
structure Cop (n1 n2 kb : Nat) (m : List St) (l : List Int) (s t : Int) (xv cv zv lv uv : Value) (W : World) : Prop where
  one : One (fun k => n1 ≤ k ∧ k < n2) m l s t xv cv zv lv uv W
  box : W.heap[kb]? = some (.cells #[uv] 24 (0, 0))
  kn : n1 ≤ kb ∧ kb < n2
  size : n2 ≤ W.heap.size
section
variable {n1 n2 kb : Nat} {m : List St} {l : List Int} {s t : Int} {xv cv zv lv uv : Value} {W W' : World}
theorem Cop.kept (h : Cop n1 n2 kb m l s t xv cv zv lv uv W) (hb : ∀ k, n1 ≤ k → k < n2 → W'.heap[k]? = W.heap[k]?) (hs : W.heap.size ≤ W'.heap.size) : Cop n1 n2 kb m l s t xv cv zv lv uv W' :=
  ⟨h.one.same fun k hk => hb k hk.1 hk.2, (hb kb h.kn.1 h.kn.2).trans h.box, h.kn, Nat.le_trans h.size hs⟩
theorem Cop.next (h : Cop n1 n2 kb m l s t xv cv zv lv uv W) (hb : Below W.heap.size W W') : Cop n1 n2 kb m l s t xv cv zv lv uv W' :=
  h.kept (fun k _ hk => hb.block k (Nat.lt_of_lt_of_le hk h.size)) hb.size
theorem Cop.cell (h : Cop n1 n2 kb m l s t xv cv zv lv uv W) : W.cell? ⟨kb, 0, none⟩ = some uv := (cells_of h.box 0).1
theorem Cop.all (h : Cop n1 n2 kb m l s t xv cv zv lv uv W) : One (· < W.heap.size) m l s t xv cv zv lv uv W := h.one.mono fun _ hk => Nat.lt_of_lt_of_le hk.2 h.size
end
/-- a later result, and the store into the box of the cut model -/
theorem Sl.box {α : Type} {K : Kind α} {n3 ub : Nat} {v u : Value} {xs : List α} {W : World} (h : Sl K W (DB n3 W) v xs) (hu : ub < n3) : Sl K (W.setCell ⟨ub, 0, none⟩ u) (· < (W.setCell ⟨ub, 0, none⟩ u).heap.size) v xs :=
  (h.same fun k hk => Below.heap_setCell _ _ _ _ (fun e => by have e : k = ub := e; have := hk.1; omega)).mono fun k hk => by have := hk.2.1; simpa [World.setCell] using this
/-- reading on -/
theorem Sl.on {α : Type} {K : Kind α} {v : Value} {xs : List α} {W W' : World} (h : Sl K W (· < W.heap.size) v xs) (hb : Below W.heap.size W W') : Sl K W' (· < W'.heap.size) v xs :=
  (h.same fun k hk => hb.block k hk).mono fun _ hk => Nat.lt_of_lt_of_le hk hb.size

theorem One.of_copies_new {n1 : Nat} {m : List St} {l : List Int} {s t : Int} {V0 V1 w1 V2 w2 V3 w3 V4 w4 V5 w5 : World} {l1 x1 c1 z1 u1 : Value} {p1 p2 p3 p4 : List (Value × List Int)} {ty : TypeId}
    (hn : V0.heap.size = n1) (d1 : Below V0.heap.size V0 V1) (b1 : Below V1.heap.size V1 w1) (h1 : RowsC w1 V1.heap.size l1 p1) (e1 : p1.map (·.2) = listsOf m l s t)
    (d2 : Below w1.heap.size w1 V2) (b2 : Below V2.heap.size V2 w2) (h2 : RowsC w2 V2.heap.size x1 p2) (e2 : p2.map (·.2) = edgesOf m)
    (d3 : Below w2.heap.size w2 V3) (b3 : Below V3.heap.size V3 w3) (h3 : RowsC w3 V3.heap.size c1 p3) (e3 : p3.map (·.2) = compsOf m)
    (d4 : Below w3.heap.size w3 V4) (b4 : Below V4.heap.size V4 w4) (h4 : RowsC w4 V4.heap.size z1 p4) (e4 : p4.map (·.2) = botOf m)
    (d5 : Below w4.heap.size w4 V5) (b5 : Below V5.heap.size V5 w5) (h5 : Sl Kind.st w5 (DB V5.heap.size w5) u1 (cutOf m l)) :
    Below n1 V0 (w5.alloc (.cells #[u1] ty)) ∧ One (fun k => n1 ≤ k ∧ k < (w5.alloc (.cells #[u1] ty)).heap.size) m l s t x1 c1 z1 l1 u1 (w5.alloc (.cells #[u1] ty)) ∧ (w5.alloc (.cells #[u1] ty)).heap[w5.heap.size]? = some (.cells #[u1] ty (0, 0)) ∧ w5.heap.size < (w5.alloc (.cells #[u1] ty)).heap.size ∧ n1 ≤ w5.heap.size := by
  have s1 := d1.size
  have s2 := d2.size
  have s3 := d3.size
  have s4 := d4.size
  have s5 := d5.size
  have t1 := b1.size
  have t2 := b2.size
  have t3 := b3.size
  have t4 := b4.size
  have t5 := b5.size
  exact One.of_copies hn d1 b1 h1 e1 d2 b2 h2 e2 d3 b3 h3 e3 d4 b4 h4 e4 d5 b5 h5 (fun hle => (Below.refl _ _).alloc hle _) (fun j hj _ => heap_alloc_old _ _ hj) (by omega) (by omega) (by omega) (by omega) (by omega) (heap_alloc_new _ _) (by omega)
theorem One.of_copies_set {n1 kb : Nat} {m : List St} {l : List Int} {s t : Int} {V0 V1 w1 V2 w2 V3 w3 V4 w4 V5 w5 : World} {l1 x1 c1 z1 u1 z0 : Value} {p1 p2 p3 p4 : List (Value × List Int)} {ty : TypeId}
    (hn : V0.heap.size = n1) (d1 : Below V0.heap.size V0 V1) (b1 : Below V1.heap.size V1 w1) (h1 : RowsC w1 V1.heap.size l1 p1) (e1 : p1.map (·.2) = listsOf m l s t)
    (d2 : Below w1.heap.size w1 V2) (b2 : Below V2.heap.size V2 w2) (h2 : RowsC w2 V2.heap.size x1 p2) (e2 : p2.map (·.2) = edgesOf m)
    (d3 : Below w2.heap.size w2 V3) (b3 : Below V3.heap.size V3 w3) (h3 : RowsC w3 V3.heap.size c1 p3) (e3 : p3.map (·.2) = compsOf m)
    (d4 : Below w3.heap.size w3 V4) (b4 : Below V4.heap.size V4 w4) (h4 : RowsC w4 V4.heap.size z1 p4) (e4 : p4.map (·.2) = botOf m)
    (d5 : Below w4.heap.size w4 V5) (b5 : Below V5.heap.size V5 w5) (h5 : Sl Kind.st w5 (DB V5.heap.size w5) u1 (cutOf m l))
    (k1 : kb < V1.heap.size ∨ w1.heap.size ≤ kb) (k2 : kb < V2.heap.size ∨ w2.heap.size ≤ kb) (k3 : kb < V3.heap.size ∨ w3.heap.size ≤ kb) (k4 : kb < V4.heap.size ∨ w4.heap.size ≤ kb) (k5 : kb < V5.heap.size ∨ w5.heap.size ≤ kb)
    (hkn : n1 ≤ kb) (hb : w5.heap[kb]? = some (.cells #[z0] ty (0, 0))) :
    Below n1 V0 (w5.setCell ⟨kb, 0, none⟩ u1) ∧ One (fun k => n1 ≤ k ∧ k < (w5.setCell ⟨kb, 0, none⟩ u1).heap.size) m l s t x1 c1 z1 l1 u1 (w5.setCell ⟨kb, 0, none⟩ u1) ∧ (w5.setCell ⟨kb, 0, none⟩ u1).heap[kb]? = some (.cells #[u1] ty (0, 0)) ∧ kb < (w5.setCell ⟨kb, 0, none⟩ u1).heap.size ∧ n1 ≤ kb :=
  One.of_copies hn d1 b1 h1 e1 d2 b2 h2 e2 d3 b3 h3 e3 d4 b4 h4 e4 d5 b5 h5 (fun _ => below_set hkn) (fun _ _ hne => Below.heap_setCell _ _ _ _ hne) k1 k2 k3 k4 k5 (set_of hb 0 u1) hkn

end Go.Proofs.YtoffbdlgmnpblaaGreat
