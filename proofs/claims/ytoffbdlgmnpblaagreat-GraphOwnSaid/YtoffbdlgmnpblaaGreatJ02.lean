/- Part 2 of 55: Lib Md2. -/
import Derived.Test.YtoffbdlgmnpblaaGreatProg
import Derived.Test.YtoffbdlgmnpblaaGreatJ01
import Derived.Below
import Derived.WalkKit
import Derived.KernelRfl
import Derived.Deep.QuietTactic
import Derived.BigQuiet
import Derived.Deep.Draws
import Derived.Lib.Hide
import Derived.Laws.AppendOwn
import Derived.Laws.MakeOwn
import Derived.Laws.OwnMore
import Derived.Maps.AppendAt
import Derived.OwnWalk

/- Words for memory: slices and structs that read as lists, blocks that are kept. -/
namespace Go.Proofs.YtoffbdlgmnpblaaGreat
open Go.RowKit

theorem block_of_add (a : Addr) (n : Nat) : (a.add n).block = a.block := by unfold Addr.add; split <;> rfl
theorem add_of_add (a : Addr) (i j : Nat) : (a.add i).add j = a.add (i + j) := by
  unfold Addr.add
  by_cases hi : i = 0 <;> by_cases hj : j = 0 <;> simp [hi, hj, Nat.add_assoc]

/-- the cells from ad on are vs -/
def At (w : World) (ad : Addr) (vs : List Value) : Prop := ∀ j u, vs[j]? = some u → w.cell? (ad.add j) = some u

/-- the blocks of D are in w' as they are in w -/
def Same (D : Nat → Prop) (w w' : World) : Prop := ∀ k, D k → w'.heap[k]? = w.heap[k]?

theorem Same.refl (D : Nat → Prop) (w : World) : Same D w w := fun _ _ => rfl
theorem Same.trans {D : Nat → Prop} {a b c : World} (h : Same D a b) (k : Same D b c) : Same D a c := fun i hi => (k i hi).trans (h i hi)
theorem Same.mono {D D' : Nat → Prop} {a b : World} (h : Same D a b) (k : ∀ i, D' i → D i) : Same D' a b := fun i hi => h i (k i hi)
theorem Same.of_below {B : Nat} {a b : World} (h : Below B a b) : Same (· < B) a b := fun i hi => h.block i hi
theorem At.same {w w' : World} {ad : Addr} {vs : List Value} {D : Nat → Prop} (h : At w ad vs) (hd : D ad.block) (hs : Same D w w') : At w' ad vs := fun j u hu =>
  (World.cell?_of_block (w := w) (a := ad.add j) (by rw [block_of_add]; exact hs _ hd)).trans (h j u hu)

/-- a kind of data: how many cells it takes, and when cells read as a datum, through blocks of D alone -/
structure Kind (α : Type) where
  sz : Nat
  R : World → (Nat → Prop) → List Value → α → Prop
  len : ∀ {w D cs x}, R w D cs x → cs.length = sz
  same : ∀ {w w' D cs x}, R w D cs x → Same D w w' → R w' D cs x
  mono : ∀ {w D D' cs x}, R w D cs x → (∀ k, D k → D' k) → R w D' cs x

/-- a slice whose elements read as the list xs -/
def Sl {α : Type} (K : Kind α) (w : World) (D : Nat → Prop) (v : Value) (xs : List α) : Prop :=
  ∃ A c, v = .slice A xs.length c ∧ xs.length ≤ c ∧ c ≤ maxLen ∧ ∀ i x, xs[i]? = some x → ∃ ad cs, A = some ad ∧ D ad.block ∧ K.R w D cs x ∧ At w (ad.add (i * K.sz)) cs

section
variable {α : Type} {K : Kind α} {w w' : World} {D D' : Nat → Prop} {v : Value} {xs : List α}
theorem Sl.same (h : Sl K w D v xs) (hs : Same D w w') : Sl K w' D v xs := by
  obtain ⟨A, c, e, h1, h2, h3⟩ := h
  refine ⟨A, c, e, h1, h2, fun i x hx => ?_⟩
  obtain ⟨ad, cs, ea, hd, hr, ha⟩ := h3 i x hx
  exact ⟨ad, cs, ea, hd, K.same hr hs, ha.same (by rw [block_of_add]; exact hd) hs⟩
theorem Sl.mono (h : Sl K w D v xs) (hs : ∀ k, D k → D' k) : Sl K w D' v xs := by
  obtain ⟨A, c, e, h1, h2, h3⟩ := h
  refine ⟨A, c, e, h1, h2, fun i x hx => ?_⟩
  obtain ⟨ad, cs, ea, hd, hr, ha⟩ := h3 i x hx
  exact ⟨ad, cs, ea, hs _ hd, K.mono hr hs, ha⟩
theorem Sl.nil (K : Kind α) (w : World) (D : Nat → Prop) : Sl K w D (.slice none 0 0) [] :=
  ⟨none, 0, rfl, Nat.le_refl _, Nat.zero_le _, fun i x hx => by simp at hx⟩
theorem Sl.below {B : Nat} (h : Sl K w (· < B) v xs) (hb : Below B w w') : Sl K w' (· < B) v xs := h.same (Same.of_below hb)
end

/-- numbers of a kind -/
def Kind.int (k : IntKind) : Kind Int where
  sz := 1
  R _ _ cs x := cs = [.int k x]
  len h := by subst h; rfl
  same h _ := h
  mono h _ := h
def Kind.bool : Kind Bool where
  sz := 1
  R _ _ cs x := cs = [.bool x]
  len h := by subst h; rfl
  same h _ := h
  mono h _ := h
def Kind.slice {α : Type} (K : Kind α) : Kind (List α) where
  sz := 1
  R w D cs xs := ∃ v, cs = [v] ∧ Sl K w D v xs
  len h := by obtain ⟨v, rfl, _⟩ := h; rfl
  same h hs := by obtain ⟨v, e, h⟩ := h; exact ⟨v, e, h.same hs⟩
  mono h hs := by obtain ⟨v, e, h⟩ := h; exact ⟨v, e, h.mono hs⟩
def Kind.pair {α β : Type} (K : Kind α) (L : Kind β) : Kind (α × β) where
  sz := K.sz + L.sz
  R w D cs x := ∃ a b, cs = a ++ b ∧ K.R w D a x.1 ∧ L.R w D b x.2
  len h := by obtain ⟨a, b, rfl, h1, h2⟩ := h; simp [K.len h1, L.len h2]
  same h hs := by obtain ⟨a, b, e, h1, h2⟩ := h; exact ⟨a, b, e, K.same h1 hs, L.same h2 hs⟩
  mono h hs := by obtain ⟨a, b, e, h1, h2⟩ := h; exact ⟨a, b, e, K.mono h1 hs, L.mono h2 hs⟩
def Kind.via {α β : Type} (K : Kind α) (f : β → α) : Kind β where
  sz := K.sz
  R w D cs x := K.R w D cs (f x)
  len h := K.len h
  same h hs := K.same h hs
  mono h hs := K.mono h hs

/-- a slice of numbers: as the walk wants it -/
theorem Sl.ints {k : IntKind} {w : World} {D : Nat → Prop} {v : Value} {xs : List Int} (h : Sl (Kind.int k) w D v xs) :
    ∃ A c, v = .slice A xs.length c ∧ xs.length ≤ c ∧ c ≤ maxLen ∧ (0 < xs.length → ∃ ad, A = some ad ∧ D ad.block ∧ ∀ i, i < xs.length → w.cell? (ad.add i) = some (.int k (Dig.gd xs i))) := by
  obtain ⟨A, c, e, h1, h2, h3⟩ := h
  refine ⟨A, c, e, h1, h2, fun hp => ?_⟩
  obtain ⟨ad, _, ea, hd, _, _⟩ := h3 0 xs[0] (List.getElem?_eq_getElem hp)
  refine ⟨ad, ea, hd, fun i hi => ?_⟩
  obtain ⟨ad', cs, ea', _, hr, ha⟩ := h3 i xs[i] (List.getElem?_eq_getElem hi)
  rw [ea] at ea'; injection ea' with ea'; subst ea'
  have hr : cs = [.int k xs[i]] := hr
  subst hr
  have := ha 0 (.int k xs[i]) rfl
  rw [add_of_add] at this
  rw [Dig.gd_of (List.getElem?_eq_getElem hi)]
  simpa [Kind.int] using this
theorem Sl.of_ints {k : IntKind} {w : World} {D : Nat → Prop} {A : Option Addr} {c : Nat} {xs : List Int} (h1 : xs.length ≤ c) (h2 : c ≤ maxLen)
    (h : 0 < xs.length → ∃ ad, A = some ad ∧ D ad.block ∧ ∀ i, i < xs.length → w.cell? (ad.add i) = some (.int k (Dig.gd xs i))) : Sl (Kind.int k) w D (.slice A xs.length c) xs := by
  refine ⟨A, c, rfl, h1, h2, fun i x hx => ?_⟩
  have hi : i < xs.length := (List.getElem?_eq_some_iff.1 hx).1
  obtain ⟨ad, ea, hd, hc⟩ := h (by omega)
  refine ⟨ad, [.int k x], ea, hd, rfl, fun j u hu => ?_⟩
  cases j with
  | zero =>
    simp at hu; subst hu
    rw [add_of_add]
    have := hc i hi
    rw [Dig.gd_of hx] at this
    simpa [Kind.int] using this
  | succ j => simp at hu


theorem Sl.take {α : Type} {K : Kind α} {w : World} {D : Nat → Prop} {A : Option Addr} {n c m : Nat} {xs : List α} (h : Sl K w D (.slice A n c) xs) (hm : m ≤ n) : Sl K w D (.slice A m c) (xs.take m) := by
  obtain ⟨A', c', e, h1, h2, h3⟩ := h
  injection e with e1 e2 e3
  subst e1 e2 e3
  refine ⟨A, c, by rw [List.length_take, Nat.min_eq_left hm], by rw [List.length_take]; omega, h2, fun i x hx => h3 i x ?_⟩
  rw [List.getElem?_take] at hx
  split at hx
  · exact hx
  · cases hx
theorem Sl.len {α : Type} {K : Kind α} {w : World} {D : Nat → Prop} {A : Option Addr} {n c : Nat} {xs : List α} (h : Sl K w D (.slice A n c) xs) : n = xs.length ∧ n ≤ c ∧ c ≤ maxLen := by
  obtain ⟨A', c', e, h1, h2, h3⟩ := h
  injection e with e1 e2 e3
  subst e1 e2 e3
  exact ⟨rfl, h1, h2⟩
theorem Sl.form {α : Type} {K : Kind α} {w : World} {D : Nat → Prop} {v : Value} {xs : List α} (h : Sl K w D v xs) : ∃ A c, v = .slice A xs.length c ∧ xs.length ≤ c ∧ c ≤ maxLen ∧ (0 < xs.length → ∃ ad, A = some ad ∧ D ad.block) := by
  obtain ⟨A, c, e, h1, h2, h3⟩ := h
  refine ⟨A, c, e, h1, h2, fun hp => ?_⟩
  obtain ⟨ad, _, ea, hd, _, _⟩ := h3 0 xs[0] (List.getElem?_eq_getElem hp)
  exact ⟨ad, ea, hd⟩

/-! ### Rows of the call's own -/

theorem own_form {w : World} {base : Nat} {e : TypeId} {sz : Nat} {v : Value} {n : Nat} {vs : List Value} (h : w.ownsRow base e sz v n vs) :
    ∃ A c, v = .slice A n c ∧ n ≤ c ∧ c ≤ maxLen ∧ (0 < n → ∃ ad, A = some ad ∧ base ≤ ad.block ∧ ad.block < w.heap.size ∧ v.ownBlock = some ad.block ∧ At w ad vs) := by
  obtain ⟨hl, ⟨rfl, rfl⟩ | ⟨g, cap, cur, rfl, hb, hg, hnc, hcm, hcs, ht⟩⟩ := h
  · exact ⟨none, 0, rfl, Nat.le_refl _, Nat.zero_le _, fun h => absurd h (Nat.lt_irrefl _)⟩
  · refine ⟨some ⟨g, 0, none⟩, cap, rfl, hnc, hcm, fun _ => ⟨⟨g, 0, none⟩, rfl, hb, (Array.getElem?_eq_some_iff.1 hg).1, rfl, ?_⟩⟩
    have : w.ownsRow base e sz (.slice (some ⟨g, 0, none⟩) n cap) n vs := ⟨hl, .inr ⟨g, cap, cur, rfl, hb, hg, hnc, hcm, hcs, ht⟩⟩
    exact this.cells (g := g) rfl
/-- a row of one-cell numbers reads as their list -/
theorem own_ints {w : World} {base : Nat} {e : TypeId} {v : Value} {n : Nat} {k : IntKind} {xs : List Int} (h : w.ownsRow base e 1 v n (xs.map (.int k))) :
    n = xs.length ∧ Sl (Kind.int k) w (fun b => base ≤ b ∧ b < w.heap.size) v xs := by
  have hl : n = xs.length := by have := h.1; simpa using this.symm
  obtain ⟨A, c, rfl, h1, h2, h3⟩ := own_form h
  subst hl
  refine ⟨rfl, Sl.of_ints h1 h2 fun hp => ?_⟩
  obtain ⟨ad, e1, hb, hlt, _, hat⟩ := h3 hp
  exact ⟨ad, e1, ⟨hb, hlt⟩, fun i hi => hat i _ (by rw [List.getElem?_map, Dig.gd_lt hi]; rfl)⟩

/-- what the program's tables say of a slice type of one-cell elements -/
structure Elem1 (P : Program) (t e : TypeId) (z : Value) (bytes : Nat) : Prop where
  ht : P.underlying t = some (.slice e)
  hi : ∃ i, P.info? e = some i ∧ i.zero = some z ∧ i.size = 1 ∧ i.bytes = bytes
  hz : z.cells.size = 1
theorem Elem1.mk' {P : Program} {t e : TypeId} {z : Value} {bytes : Nat} (ht : P.underlying t = some (.slice e)) (hi : (P.info? e).map (fun i => (i.zero, i.size, i.bytes)) = some (some z, 1, bytes)) (hz : z.cells.size = 1) : Elem1 P t e z bytes := by
  refine ⟨ht, ?_, hz⟩
  cases h : P.info? e with
  | none => rw [h] at hi; cases hi
  | some i =>
    rw [h] at hi
    simp only [Option.map_some, Option.some.injEq, Prod.mk.injEq] at hi
    exact ⟨i, rfl, hi.1, hi.2.1, hi.2.2⟩

/-- append of one element of one cell onto a row of the call's own -/
theorem wpList_app1 {P : Program} {w : World} {ops : Array Oper} {rest : List Oper} {o : Oper} {a : Act} {Q : Exit → Act → World → Prop} {t e : TypeId} {z : Value} {bytes : Nat} (E : Elem1 P t e z bytes)
    (hgd : o.guard = none) (s x : Operand) (ho : o.op = .call { callee := .builtin .append, args := #[s, x], argTypes := #[t, t] })
    (base : Nat) (v : Value) (n : Nat) (vs : List Value) (hs : a.eval s = v) (hown : w.ownsRow base e 1 v n vs)
    (ad : Addr) (c : Nat) (u : Value) (hx : a.eval x = .slice (some ad) 1 c) (hc : w.cell? ad = some u) (hu : u.oneCell' = true)
    (hb : (n + 1) * bytes ≤ 140737488355328) (hn : n + 1 ≤ 140737488355328) (hbase : base ≤ w.heap.size)
    (h : ∀ v' w', w'.ownsRow base e 1 v' (n + 1) (vs ++ [u]) → w.grownBy w' v.ownBlock → (v'.ownBlock = v.ownBlock ∨ v'.ownBlock = some w.heap.size) → wpList P ops Q rest (a.put o.dst v') w') : wpList P ops Q (o :: rest) a w := by
  obtain ⟨i, hi, hz, hsz, hby⟩ := E.hi
  have hat : ∀ j u', [u][j]? = some u' → w.cell? (ad.add j) = some u' := by
    intro j u' hj
    cases j with
    | zero => simp at hj; subst hj; exact hc
    | succ j => simp at hj
  refine wpList_plain hgd fun _ hK => ?_
  have hlen : ([u] : List Value).length = 1 * 1 := rfl
  obtain ⟨v', w', hr, h2, h3, _, h5⟩ := run_append_own_at (P := P) w base t o.type e i z 1 bytes E.ht hi hz hsz hby E.hz (by decide) v n vs hown ad 1 c [u] hlen hat (by simpa using hu) (by simp only [maxLen]; omega) hb hbase
  unfold Oper.wp execOp
  simp only [ho, resolve, invoke, builtin, Sem.run_bind, Sem.run_pure, Result.andThen_ok, List.map_toArray, List.map_cons, List.map_nil, hs, hx, hr]
  exact hK _ _ (h v' w' h2 h3 h5)

theorem madeCells1 (z : Value) (hz : z.cells.size = 1) (hz' : ∀ cs, z ≠ .agg cs) (n : Nat) : madeCells z.cells n = Array.replicate n z := by
  have e : z.cells = #[z] := by cases z <;> first | rfl | exact absurd rfl (hz' _)
  apply Array.ext
  · simp [madeCells]
  · intro i h1 h2
    simp [madeCells, e, Nat.mod_one]

/-- make of a slice of one-cell elements -/
theorem wpList_mk1 {P : Program} {w : World} {ops : Array Oper} {rest : List Oper} {o : Oper} {a : Act} {Q : Exit → Act → World → Prop} {t e : TypeId} {z : Value} {bytes : Nat} (E : Elem1 P t e z bytes)
    (hgd : o.guard = none) (x y : Operand) (ho : o.op = .makeSlice t x y) (hz' : ∀ cs, z ≠ .agg cs)
    (base : Nat) (kl kc : IntKind) (l c : Int) (hx : a.eval x = .int kl l) (hy : a.eval y = .int kc c) (h0 : 0 ≤ l) (hlc : l ≤ c) (hb : (bytes : Int) * c ≤ 281474976710656) (hc : c ≤ 281474976710656) (hbase : base ≤ w.heap.size)
    (h : ∀ w', w'.ownsRow base e 1 (.slice (some ⟨w.heap.size, 0, none⟩) l.toNat c.toNat) l.toNat (List.replicate l.toNat z) → Below w.heap.size w w' → w'.heap.size = w.heap.size + 1 →
      w'.heap[w.heap.size]? = some (.cells (Array.replicate c.toNat z) e (0, 0)) →
      wpList P ops Q rest (a.put o.dst (.slice (some ⟨w.heap.size, 0, none⟩) l.toNat c.toNat)) w') : wpList P ops Q (o :: rest) a w := by
  obtain ⟨i, hi, hz, hsz, hby⟩ := E.hi
  subst hby
  refine wpList_plain hgd fun _ hK => ?_
  have hr := run_make (P := P) w t e i z E.ht hi hz kl kc l c h0 hlc hb (by omega)
  rw [hsz, Nat.mul_one, madeCells1 z E.hz hz'] at hr
  unfold Oper.wp execOp
  simp only [ho, Sem.run_bind, Sem.run_pure, Result.andThen_ok, hx, hy, hr]
  refine hK _ _ (h _ ⟨by simp, .inr ⟨w.heap.size, c.toNat, _, rfl, hbase, heap_alloc_new w _, by omega, by simp only [maxLen]; omega, by simp, ?_⟩⟩ ((Below.refl _ _).alloc (Nat.le_refl _) _) (by simp) (heap_alloc_new w _))
  simp; omega

/-- a store into a row of the call's own -/
theorem own_set {w : World} {base : Nat} {e : TypeId} {g n cap : Nat} {vs : List Value} (h : w.ownsRow base e 1 (.slice (some ⟨g, 0, none⟩) n cap) n vs) (i : Nat) (_hi : i < n) (u : Value) :
    (w.setCell ⟨g, i, none⟩ u).ownsRow base e 1 (.slice (some ⟨g, 0, none⟩) n cap) n (vs.set i u) := by
  obtain ⟨hl, ⟨h1, _⟩ | ⟨g', cap', cur, hv, hb, hg, hnc, hcm, hcs, ht⟩⟩ := h
  · cases h1
  · simp only [Value.slice.injEq, Option.some.injEq, Addr.mk.injEq, true_and, and_true] at hv
    obtain ⟨rfl, rfl⟩ := hv
    refine ⟨by simpa using hl, .inr ⟨g, cap, cur.setIfInBounds i u, rfl, hb, ?_, hnc, hcm, by simpa using hcs, ?_⟩⟩
    · simp [World.setCell, Array.getElem?_modify, hg]
    · rw [← ht]
      simp only [Array.toList_setIfInBounds, List.take_set]
theorem own_cell {w : World} {base : Nat} {e : TypeId} {g n cap : Nat} {vs : List Value} (h : w.ownsRow base e 1 (.slice (some ⟨g, 0, none⟩) n cap) n vs) (i : Nat) (u : Value) (hi : vs[i]? = some u) : w.cell? ⟨g, i, none⟩ = some u ∧ w.frozen? ⟨g, i, none⟩ = false := by
  have h1 := h.cells (g := g) rfl i u hi
  have e1 : (⟨g, 0, none⟩ : Addr).add i = ⟨g, i, none⟩ := by unfold Addr.add; split <;> simp_all
  rw [e1] at h1
  refine ⟨h1, ?_⟩
  obtain ⟨hl, ⟨h1, _⟩ | ⟨g', cap', cur, hv, hb, hg, hnc, hcm, hcs, ht⟩⟩ := h
  · cases h1
  · simp only [Value.slice.injEq, Option.some.injEq, Addr.mk.injEq, true_and, and_true] at hv
    obtain ⟨rfl, rfl⟩ := hv
    simp [World.frozen?, hg]

theorem cell_new1 (w : World) (x : Value) (t : TypeId) : (w.alloc (.cells #[x] t)).cell? ⟨w.heap.size, 0, none⟩ = some x := by
  have := cell_one_new w x t 0 x rfl
  simp [Addr.add] at this ⊢

/-- below B nothing turns where an own row is appended to -/
theorem below_app {B : Nat} {w wr w2 : World} {e : TypeId} {sz : Nat} {v : Value} {n : Nat} {vs : List Value} {o : Obj} (hb : Below B w wr) (hB : B ≤ wr.heap.size) (ho : wr.ownsRow B e sz v n vs) (hg : (wr.alloc o).grownBy w2 v.ownBlock) : Below B w w2 :=
  (hb.alloc hB o).grown hg (by simp; omega) (fun k hk => (ho.lt k hk).1)

theorem bcell {W w1 : World} (hb : Below W.heap.size W w1) : (∀ b o, b < W.heap.size → w1.cell? ⟨b, o, none⟩ = W.cell? ⟨b, o, none⟩) ∧ (∀ b o, b < W.heap.size → w1.frozen? ⟨b, o, none⟩ = W.frozen? ⟨b, o, none⟩) :=
  ⟨fun b o h => hb.cell (p := ⟨b, o, none⟩) h, fun b o h => hb.frozen (p := ⟨b, o, none⟩) h⟩

/-- an equation of numbers that the walk does not look into -/
structure Is (a b : Int) : Prop where
  out : a = b

theorem ret_int {k : IntKind} {a b : Int} (h : a = b) : Ending.returned (.int k a) = .returned (.int k b) := by rw [h]
theorem ret2_int {k l : IntKind} {a b c d : Int} (h : a = b) (h' : c = d) : Ending.returned (.tuple #[.int k a, .int l c]) = .returned (.tuple #[.int k b, .int l d]) := by rw [h, h']
theorem ret_bool {a b : Bool} (h : a = b) : Ending.returned (.bool a) = .returned (.bool b) := by rw [h]
/-- only draws lie between the worlds -/
def Drawn (w w' : World) : Prop := ∃ n, w' = w.drewN n
theorem Drawn.refl (w : World) : Drawn w w := ⟨0, rfl⟩
theorem Drawn.step {a w : World} (h : Drawn a w) (n : Nat) : Drawn a (w.drewN n) := by
  obtain ⟨m, rfl⟩ := h
  exact ⟨m + n, World.drewN_drewN _ _ _⟩
theorem Drawn.trans {a b c : World} (h : Drawn a b) (k : Drawn b c) : Drawn a c := by
  obtain ⟨n, rfl⟩ := k
  exact h.step n
theorem Drawn.below {w w' : World} (h : Drawn w w') (B : Nat) : Below B w w' := by
  obtain ⟨n, rfl⟩ := h
  exact ⟨rfl, rfl, rfl, Nat.le_refl _, fun _ _ => rfl⟩
theorem Drawn.same {w w' : World} (h : Drawn w w') (D : Nat → Prop) : Same D w w' := by
  obtain ⟨n, rfl⟩ := h
  exact fun _ _ => rfl
theorem below_drewN {B : Nat} {a w : World} (h : Below B a w) (n : Nat) : Below B a (w.drewN n) := ⟨h.os, h.tape, h.output, h.size, h.block⟩
theorem same_drewN (D : Nat → Prop) (w : World) (n : Nat) : Same D w (w.drewN n) := fun _ _ => rfl

end Go.Proofs.YtoffbdlgmnpblaaGreat

/- Models as data: numbers, branches, choices, states; how they lie in memory. -/
namespace Go.Proofs.YtoffbdlgmnpblaaGreat
open Go.RowKit

structure Num where
  top : Int
  low : Int
  deriving DecidableEq
structure Br where
  to : Int
  ch : Num
  deriving DecidableEq
structure Ch where
  rw : Num
  brs : List Br
  deriving DecidableEq
structure St where
  owner : Int
  mark : Int
  chs : List Ch
  deriving DecidableEq

def Kind.br : Kind Br where
  sz := 3
  R _ _ cs x := cs = [.int .i64 x.to, .int .i64 x.ch.top, .int .i64 x.ch.low]
  len h := by subst h; rfl
  same h _ := h
  mono h _ := h
def Kind.ch : Kind Ch where
  sz := 3
  R w D cs x := ∃ v, cs = [.int .i64 x.rw.top, .int .i64 x.rw.low, v] ∧ Sl Kind.br w D v x.brs
  len h := by obtain ⟨v, rfl, _⟩ := h; rfl
  same h hs := by obtain ⟨v, e, h⟩ := h; exact ⟨v, e, h.same hs⟩
  mono h hs := by obtain ⟨v, e, h⟩ := h; exact ⟨v, e, h.mono hs⟩
def Kind.st : Kind St where
  sz := 3
  R w D cs x := ∃ v, cs = [.int .i64 x.owner, .int .i64 x.mark, v] ∧ Sl Kind.ch w D v x.chs
  len h := by obtain ⟨v, rfl, _⟩ := h; rfl
  same h hs := by obtain ⟨v, e, h⟩ := h; exact ⟨v, e, h.same hs⟩
  mono h hs := by obtain ⟨v, e, h⟩ := h; exact ⟨v, e, h.mono hs⟩

/-- a model lies in memory -/
def ModelC (w : World) (D : Nat → Prop) (v : Value) (m : List St) : Prop := ∃ u, v = .agg #[u] ∧ Sl Kind.st w D u m
theorem ModelC.same {w w' : World} {D : Nat → Prop} {v : Value} {m : List St} (h : ModelC w D v m) (hs : Same D w w') : ModelC w' D v m := by
  obtain ⟨u, e, h⟩ := h; exact ⟨u, e, h.same hs⟩
theorem ModelC.mono {w : World} {D D' : Nat → Prop} {v : Value} {m : List St} (h : ModelC w D v m) (hs : ∀ k, D k → D' k) : ModelC w D' v m := by
  obtain ⟨u, e, h⟩ := h; exact ⟨u, e, h.mono hs⟩

section
variable {w : World} {D : Nat → Prop} {A : Option Addr} {n c : Nat}
/-- three cells of one element -/
theorem at3 {w : World} {ad : Addr} {i : Nat} {a b c : Value} (h : At w (ad.add (i * 3)) [a, b, c]) : w.cell? (ad.add (i * 3)) = some a ∧ w.cell? ⟨(ad.add (i * 3)).block, (ad.add (i * 3)).off + 1, none⟩ = some b ∧ w.cell? ⟨(ad.add (i * 3)).block, (ad.add (i * 3)).off + 2, none⟩ = some c :=
  ⟨h 0 a rfl, h 1 b rfl, h 2 c rfl⟩
theorem Sl.br_at {xs : List Br} (h : Sl Kind.br w D (.slice A n c) xs) (i : Nat) (x : Br) (hx : xs[i]? = some x) : ∃ ad, A = some ad ∧ D ad.block ∧ w.cell? (ad.add (i * 3)) = some (.int .i64 x.to) ∧ w.cell? ⟨(ad.add (i * 3)).block, (ad.add (i * 3)).off + 1, none⟩ = some (.int .i64 x.ch.top) ∧ w.cell? ⟨(ad.add (i * 3)).block, (ad.add (i * 3)).off + 2, none⟩ = some (.int .i64 x.ch.low) := by
  obtain ⟨A', c', e, h1, h2, h3⟩ := h
  injection e with e1 e2 e3
  subst e1 e3
  obtain ⟨ad, cs, e, hd, hr, ha⟩ := h3 i x hx
  have hr : cs = _ := hr
  subst hr
  exact ⟨ad, e, hd, at3 ha⟩
theorem Sl.ch_at {xs : List Ch} (h : Sl Kind.ch w D (.slice A n c) xs) (i : Nat) (x : Ch) (hx : xs[i]? = some x) : ∃ ad B m d, A = some ad ∧ D ad.block ∧ w.cell? (ad.add (i * 3)) = some (.int .i64 x.rw.top) ∧ w.cell? ⟨(ad.add (i * 3)).block, (ad.add (i * 3)).off + 1, none⟩ = some (.int .i64 x.rw.low) ∧ w.cell? ⟨(ad.add (i * 3)).block, (ad.add (i * 3)).off + 2, none⟩ = some (.slice B m d) ∧ Sl Kind.br w D (.slice B m d) x.brs := by
  obtain ⟨A', c', e, h1, h2, h3⟩ := h
  injection e with e1 e2 e3
  subst e1 e3
  obtain ⟨ad, cs, e, hd, ⟨v, hr, hs⟩, ha⟩ := h3 i x hx
  subst hr
  obtain ⟨B, d, rfl, -, -, -⟩ := hs.form
  obtain ⟨p1, p2, p3⟩ := at3 ha
  exact ⟨ad, B, _, d, e, hd, p1, p2, p3, hs⟩
theorem Sl.st_at {xs : List St} (h : Sl Kind.st w D (.slice A n c) xs) (i : Nat) (x : St) (hx : xs[i]? = some x) : ∃ ad B m d, A = some ad ∧ D ad.block ∧ w.cell? (ad.add (i * 3)) = some (.int .i64 x.owner) ∧ w.cell? ⟨(ad.add (i * 3)).block, (ad.add (i * 3)).off + 1, none⟩ = some (.int .i64 x.mark) ∧ w.cell? ⟨(ad.add (i * 3)).block, (ad.add (i * 3)).off + 2, none⟩ = some (.slice B m d) ∧ Sl Kind.ch w D (.slice B m d) x.chs := by
  obtain ⟨A', c', e, h1, h2, h3⟩ := h
  injection e with e1 e2 e3
  subst e1 e3
  obtain ⟨ad, cs, e, hd, ⟨v, hr, hs⟩, ha⟩ := h3 i x hx
  subst hr
  obtain ⟨B, d, rfl, -, -, -⟩ := hs.form
  obtain ⟨p1, p2, p3⟩ := at3 ha
  exact ⟨ad, B, _, d, e, hd, p1, p2, p3, hs⟩
end

end Go.Proofs.YtoffbdlgmnpblaaGreat
