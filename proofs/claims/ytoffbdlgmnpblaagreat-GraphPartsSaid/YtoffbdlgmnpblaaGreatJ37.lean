/- Part 37: Sep Kep Kpt Cpy Ct1 Cut Few Trn Spl Cps. -/
import Derived.Test.YtoffbdlgmnpblaaGreatJ36
import Derived.Laws.AppendOwnNone
import Derived.WalkSpells
import Derived.Deep.RegionHeld3
import Derived.Deep.RegionLaw
import Derived.Laws.OwnMore

/- Parts of memory that lie apart; models of the call's own. -/
namespace Go.Proofs.YtoffbdlgmnpblaaGreat
open Go.RowKit
set_option maxHeartbeats 1000000

/-- a part of memory in one block -/
structure Cmp where
  blk : Option Nat
  P : World → Prop
  loc : ∀ {W W' : World}, (∀ k, blk = some k → W'.heap[k]? = W.heap[k]?) → P W → P W'

/-- the parts hold, each in a block of its own from B on -/
structure Sep (B : Nat) (W : World) (l : List Cmp) : Prop where
  all : ∀ c ∈ l, c.P W ∧ ∀ k, c.blk = some k → B ≤ k ∧ k < W.heap.size
  apart : l.Pairwise (fun c d => ∀ k, c.blk = some k → d.blk ≠ some k)

section
variable {B : Nat} {W W' : World} {l l' : List Cmp} {c c' : Cmp}
theorem Sep.nil (B : Nat) (W : World) : Sep B W [] := ⟨fun _ h => (List.not_mem_nil h).elim, .nil⟩
theorem Sep.kept (h : Sep B W l) (hb : ∀ k, B ≤ k → k < W.heap.size → W'.heap[k]? = W.heap[k]?) (hs : W.heap.size ≤ W'.heap.size) : Sep B W' l :=
  ⟨fun c hc => ⟨c.loc (fun k hk => hb k ((h.all c hc).2 k hk).1 ((h.all c hc).2 k hk).2) (h.all c hc).1, fun k hk => ⟨((h.all c hc).2 k hk).1, Nat.lt_of_lt_of_le ((h.all c hc).2 k hk).2 hs⟩⟩, h.apart⟩
theorem Sep.below (h : Sep B W l) (hb : Below W.heap.size W W') : Sep B W' l := h.kept (fun k _ hk => hb.block k hk) hb.size
theorem Sep.perm (h : Sep B W l) (hp : l.Perm l') : Sep B W l' :=
  ⟨fun c hc => h.all c (hp.mem_iff.2 hc), hp.pairwise h.apart (fun {_ _} hxy k hk e => hxy k e hk)⟩
theorem Sep.sub (h : Sep B W l) (hp : l'.Sublist l) : Sep B W l' := ⟨fun c hc => h.all c (hp.subset hc), h.apart.sublist hp⟩
theorem Sep.get (h : Sep B W l) (hc : c ∈ l) : c.P W := (h.all c hc).1
theorem Sep.lt (h : Sep B W l) (hc : c ∈ l) {k : Nat} (hk : c.blk = some k) : B ≤ k ∧ k < W.heap.size := (h.all c hc).2 k hk
/-- the first part turns -/
theorem Sep.upd (h : Sep B W (c :: l)) (hg : W.grownBy W' c.blk) (hP : c'.P W') (ha : c'.blk = c.blk ∨ ∀ k, c'.blk = some k → W.heap.size ≤ k ∧ k < W'.heap.size) (hB : B ≤ W.heap.size) : Sep B W' (c' :: l) := by
  obtain ⟨hall, hap⟩ := h
  obtain ⟨h1, h2⟩ := List.pairwise_cons.1 hap
  refine ⟨fun d hd => ?_, List.pairwise_cons.2 ⟨fun d hd k hk e => ?_, h2⟩⟩
  · rcases List.mem_cons.1 hd with rfl | hd
    · refine ⟨hP, fun k hk => ?_⟩
      rcases ha with ha | ha
      · have := (hall c (List.mem_cons_self ..)).2 k (ha ▸ hk)
        exact ⟨this.1, Nat.lt_of_lt_of_le this.2 hg.size⟩
      · exact ⟨Nat.le_trans hB (ha k hk).1, (ha k hk).2⟩
    · have hd' := hall d (List.mem_cons_of_mem _ hd)
      exact ⟨d.loc (fun k hk => hg.block k (hd'.2 k hk).2 fun e => h1 d hd k e.symm hk) hd'.1, fun k hk => ⟨(hd'.2 k hk).1, Nat.lt_of_lt_of_le (hd'.2 k hk).2 hg.size⟩⟩
  · rcases ha with ha | ha
    · exact h1 d hd k (ha ▸ hk) e
    · have := ((hall d (List.mem_cons_of_mem _ hd)).2 k e).2
      have := (ha k hk).1
      omega
/-- a part is made -/
theorem Sep.add (h : Sep B W l) (hb : Below W.heap.size W W') (hP : c.P W') (ha : ∀ k, c.blk = some k → W.heap.size ≤ k ∧ k < W'.heap.size) (hB : B ≤ W.heap.size) : Sep B W' (c :: l) := by
  have h' := h.below hb
  refine ⟨fun d hd => ?_, List.pairwise_cons.2 ⟨fun d hd k hk e => ?_, h'.apart⟩⟩
  · rcases List.mem_cons.1 hd with rfl | hd
    · exact ⟨hP, fun k hk => ⟨Nat.le_trans hB (ha k hk).1, (ha k hk).2⟩⟩
    · exact h'.all d hd
  · have := (h.lt hd e).2
    have := (ha k hk).1
    omega
theorem Sep.mid (h : Sep B W (l ++ c :: l')) : Sep B W (c :: (l ++ l')) := h.perm List.perm_middle
end

def rowC (B : Nat) (e : TypeId) (sz : Nat) (v : Value) (n : Nat) (vs : List Value) : Cmp where
  blk := v.ownBlock
  P W := W.ownsRow B e sz v n vs
  loc hb h := own_kept h hb
def boxC (b : Nat) (cs : Array Value) (t : TypeId) : Cmp where
  blk := some b
  P W := W.heap[b]? = some (.cells cs t (0, 0))
  loc hb h := (hb _ rfl).trans h

/-! ### models of the call's own -/
structure CO where
  v : Value
  rw : Num
  brs : List Br
structure SO where
  v : Value
  owner : Int
  mark : Int
  chs : List CO
def CO.ch (c : CO) : Ch := ⟨c.rw, c.brs⟩
def SO.st (s : SO) : St := ⟨s.owner, s.mark, s.chs.map CO.ch⟩
def bcells (l : List Br) : List Value := l.flatMap fun b => [.int .i64 b.to, .int .i64 b.ch.top, .int .i64 b.ch.low]
def ccells (l : List CO) : List Value := l.flatMap fun c => [.int .i64 c.rw.top, .int .i64 c.rw.low, c.v]
def scells (l : List SO) : List Value := l.flatMap fun s => [.int .i64 s.owner, .int .i64 s.mark, s.v]
theorem flat3_at {α : Type} (f g h : α → Value) : ∀ (l : List α) (i : Nat) (a : α), l[i]? = some a → (l.flatMap fun a => [f a, g a, h a])[i * 3]? = some (f a) ∧ (l.flatMap fun a => [f a, g a, h a])[i * 3 + 1]? = some (g a) ∧ (l.flatMap fun a => [f a, g a, h a])[i * 3 + 2]? = some (h a)
  | [], i, a, hh => by simp at hh
  | b :: l, 0, a, hh => by
    have : b = a := by simpa using hh
    subst this
    simp
  | b :: l, i + 1, a, hh => by
    have ih := flat3_at f g h l i a (by simpa using hh)
    have e : ∀ j, (([f b, g b, h b] ++ l.flatMap fun a => [f a, g a, h a]))[3 + j]? = (l.flatMap fun a => [f a, g a, h a])[j]? := fun j => by
      rw [List.getElem?_append_right (by simp)]; congr 1; simp
    rw [List.flatMap_cons, show (i + 1) * 3 = 3 + i * 3 by omega, show 3 + i * 3 + 1 = 3 + (i * 3 + 1) by omega, show 3 + i * 3 + 2 = 3 + (i * 3 + 2) by omega, e, e, e]
    exact ih

abbrev brRow (B : Nat) (c : CO) : Cmp := rowC B 103 3 c.v c.brs.length (bcells c.brs)
abbrev chRow (B : Nat) (s : SO) : Cmp := rowC B 97 3 s.v s.chs.length (ccells s.chs)
abbrev stRow (B : Nat) (sv : Value) (ss : List SO) : Cmp := rowC B 79 3 sv ss.length (scells ss)
def chParts (B : Nat) (s : SO) : List Cmp := chRow B s :: s.chs.map (brRow B)
def stParts (B : Nat) (ss : List SO) : List Cmp := ss.flatMap (chParts B)

/-- the blocks of the call's own, that may be written -/
def DB (B : Nat) (W : World) (b : Nat) : Prop := B ≤ b ∧ b < W.heap.size ∧ Soft W b
/-- what the tables say of slices of three-cell structs -/
structure Elem3 (P : Program) (t e : TypeId) (z : Value) (bytes : Nat) : Prop where
  ht : P.underlying t = some (.slice e)
  hi : ∃ i, P.info? e = some i ∧ i.zero = some z ∧ i.size = 3 ∧ i.bytes = bytes
  hz : z.cells.size = 3
theorem Elem3.mk' {P : Program} {t e : TypeId} {z : Value} {bytes : Nat} (ht : P.underlying t = some (.slice e)) (hi : (P.info? e).map (fun i => (i.zero, i.size, i.bytes)) = some (some z, 3, bytes)) (hz : z.cells.size = 3) : Elem3 P t e z bytes := by
  refine ⟨ht, ?_, hz⟩
  cases h : P.info? e with
  | none => rw [h] at hi; cases hi
  | some i =>
    rw [h] at hi
    simp only [Option.map_some, Option.some.injEq, Prod.mk.injEq] at hi
    exact ⟨i, rfl, hi.1, hi.2.1, hi.2.2⟩
theorem cells_of {W : World} {b : Nat} {cs : Array Value} {t : TypeId} (h : W.heap[b]? = some (.cells cs t (0, 0))) : ∀ o, W.cell? ⟨b, o, none⟩ = cs[o]? ∧ W.frozen? ⟨b, o, none⟩ = false := by
  intro o
  constructor
  · simp [World.cell?, h]
  · simp [World.frozen?, h]
end Go.Proofs.YtoffbdlgmnpblaaGreat

/- Package model: Own, Kept, Copy. -/
namespace Go.Proofs.YtoffbdlgmnpblaaGreat
open Go.RowKit
set_option maxHeartbeats 4000000
set_option maxRecDepth 100000

/-- three cells of a block, through a region -/
abbrev Held3 (b : Nat) (x y z : Value) (V : World) : Prop := V.cell? ⟨b, 0, none⟩ = some x ∧ V.cell? ⟨b, 1, none⟩ = some y ∧ V.cell? ⟨b, 2, none⟩ = some z ∧ b < V.heap.size
theorem Held3.below {b : Nat} {x y z : Value} {V V' : World} (h : Held3 b x y z V) (hb : Below V.heap.size V V') : Held3 b x y z V' := by
  obtain ⟨h1, h2, h3, h4⟩ := h
  exact ⟨(hb.cell (p := ⟨b, 0, none⟩) h4).trans h1, (hb.cell (p := ⟨b, 1, none⟩) h4).trans h2, (hb.cell (p := ⟨b, 2, none⟩) h4).trans h3, Nat.lt_of_lt_of_le h4 hb.size⟩
end Go.Proofs.YtoffbdlgmnpblaaGreat

/- Package model: Kept, Copy. -/
namespace Go.Proofs.YtoffbdlgmnpblaaGreat
open Go.RowKit
set_option maxHeartbeats 4000000
set_option maxRecDepth 100000

/-- what the choices' loop holds -/
abbrev KRow (w W : World) (rb ob xb : Nat) (o m : Int) (xv : Value) (cs : List CO) (sx : Cmp) (sv : Value) (ss : List SO) : Prop :=
  Sep w.heap.size W (boxC xb #[.int .i64 o, .int .i64 m, xv] 79 :: chRow w.heap.size ⟨xv, o, m, cs⟩ :: (cs.map (brRow w.heap.size) ++ (sx :: boxC ob #[sv] 24 :: boxC rb #[.slice none 0 0] 24 :: stRow w.heap.size sv ss :: stParts w.heap.size ss)))
/-- what the states' loop holds -/
abbrev KOut (w W : World) (rb ob : Nat) (sv : Value) (ss : List SO) : Prop :=
  Sep w.heap.size W (boxC ob #[sv] 24 :: boxC rb #[.slice none 0 0] 24 :: stRow w.heap.size sv ss :: stParts w.heap.size ss)
theorem KOut.start (w : World) (a b c : Value) (hb : b = .slice none 0 0) (hc : c = .slice none 0 0) (t : TypeId) : KOut w (((w.alloc (.cells #[a] t)).alloc (.cells #[b] 24)).alloc (.cells #[c] 24)) (w.heap.size + 1) (w.heap.size + 1 + 1) (.slice none 0 0) [] := by
  subst hb hc
  have h0 : Sep w.heap.size w [stRow w.heap.size (.slice none 0 0) []] := (Sep.nil _ _).add (c := stRow w.heap.size (.slice none 0 0) []) (Below.refl _ _) (World.ownsRow_nil _ _ _ _) (fun k hk => by cases hk) (Nat.le_refl _)
  have h1 := h0.below ((Below.refl w.heap.size w).alloc (Nat.le_refl _) (.cells #[a] t))
  have h2 := h1.add (c := boxC (w.heap.size + 1) #[.slice none 0 0] 24) ((Below.refl _ (w.alloc (.cells #[a] t))).alloc (Nat.le_refl _) (.cells #[.slice none 0 0] 24)) (by
    have := heap_alloc_new (w.alloc (.cells #[a] t)) (.cells #[.slice none 0 0] 24)
    rwa [World.size_alloc] at this) (fun k hk => by cases hk; simp) (by simp)
  exact h2.add (c := boxC (w.heap.size + 1 + 1) #[.slice none 0 0] 24) ((Below.refl _ _).alloc (Nat.le_refl _) (.cells #[.slice none 0 0] 24)) (by
    have := heap_alloc_new ((w.alloc (.cells #[a] t)).alloc (.cells #[.slice none 0 0] 24)) (.cells #[.slice none 0 0] 24)
    rwa [World.size_alloc, World.size_alloc] at this) (fun k hk => by cases hk; simp) (by simp; omega)
/-- a state is opened -/
theorem KOut.open {w W : World} {rb ob : Nat} {sv : Value} {ss : List SO} (h : KOut w W rb ob sv ss) (hB : w.heap.size ≤ W.heap.size) (o m : Int) (u z : Value) (hz : z = .slice none 0 0) :
    KRow w ((W.alloc (.cells #[.int .i64 o, .int .i64 m, u] 79)).alloc (.cells #[.int .i64 o, .int .i64 m, z] 79)) rb ob (W.heap.size + 1) o m (.slice none 0 0) [] (boxC W.heap.size #[.int .i64 o, .int .i64 m, u] 79) sv ss := by
  subst hz
  have h1 := Sep.add h (c := boxC W.heap.size #[.int .i64 o, .int .i64 m, u] 79) ((Below.refl _ W).alloc (Nat.le_refl _) (.cells #[.int .i64 o, .int .i64 m, u] 79)) (heap_alloc_new _ _) (fun k hk => by cases hk; simp) hB
  have hB1 : w.heap.size ≤ (W.alloc (.cells #[.int .i64 o, .int .i64 m, u] 79)).heap.size := by simp; omega
  have h2 := h1.add (c := chRow w.heap.size ⟨.slice none 0 0, o, m, []⟩) (Below.refl _ _) (World.ownsRow_nil _ _ _ _) (fun k hk => by cases hk) hB1
  exact h2.add (c := boxC (W.heap.size + 1) #[.int .i64 o, .int .i64 m, .slice none 0 0] 79) ((Below.refl _ _).alloc (Nat.le_refl _) (.cells #[.int .i64 o, .int .i64 m, .slice none 0 0] 79)) (by
    have := heap_alloc_new (W.alloc (.cells #[.int .i64 o, .int .i64 m, u] 79)) (.cells #[.int .i64 o, .int .i64 m, .slice none 0 0] 79)
    rwa [World.size_alloc] at this) (fun k hk => by cases hk; simp) hB1

section
variable {w W : World} {rb ob xb : Nat} {o m : Int} {xv sv : Value} {cs : List CO} {sx : Cmp} {ss : List SO}
end
end Go.Proofs.YtoffbdlgmnpblaaGreat

/- Package model: Copy. -/
namespace Go.Proofs.YtoffbdlgmnpblaaGreat
open Go.RowKit
set_option maxHeartbeats 4000000
set_option maxRecDepth 100000

def rowOf (B : Nat) (t : TypeId × Value × Nat × List Value) : Cmp := rowC B t.1 3 t.2.1 t.2.2.1 t.2.2.2
theorem Sep.lower {B B' : Nat} {W : World} {l : List (TypeId × Value × Nat × List Value)} (h : Sep B W (l.map (rowOf B))) (hB : B' ≤ B) : Sep B' W (l.map (rowOf B')) := by
  refine ⟨fun c hc => ?_, List.pairwise_map.2 (List.pairwise_map.1 h.apart)⟩
  obtain ⟨t, ht, rfl⟩ := List.mem_map.1 hc
  obtain ⟨h1, h2⟩ := h.all _ (List.mem_map_of_mem ht)
  exact ⟨own_lower h1 hB, fun k hk => ⟨Nat.le_trans hB (h2 k hk).1, (h2 k hk).2⟩⟩
def chItems (s : SO) : List (TypeId × Value × Nat × List Value) := (97, s.v, s.chs.length, ccells s.chs) :: s.chs.map fun c => (103, c.v, c.brs.length, bcells c.brs)
def stItems (sv : Value) (ss : List SO) : List (TypeId × Value × Nat × List Value) := (79, sv, ss.length, scells ss) :: ss.flatMap chItems
theorem stItems_map (B : Nat) (sv : Value) (ss : List SO) : (stItems sv ss).map (rowOf B) = stRow B sv ss :: stParts B ss := by
  have h : ∀ l : List SO, (l.flatMap chItems).map (rowOf B) = stParts B l := by
    intro l
    induction l with
    | nil => rfl
    | cons s l ih =>
      rw [List.flatMap_cons, List.map_append, ih]
      show _ = chParts B s ++ stParts B l
      congr 1
      unfold chItems chParts
      rw [List.map_cons, List.map_map]
      rfl
  unfold stItems
  rw [List.map_cons, h]
  rfl
theorem Sep.lowerM {B B' : Nat} {W : World} {sv : Value} {ss : List SO} (h : Sep B W (stRow B sv ss :: stParts B ss)) (hB : B' ≤ B) : Sep B' W (stRow B' sv ss :: stParts B' ss) := by
  rw [← stItems_map] at h ⊢
  exact h.lower hB

/-- a cell below the parts is written -/
theorem Sep.upd' {B : Nat} {W : World} {l : List Cmp} (h : Sep B W l) (b : Nat) (hb : b < B) (o : Nat) (u : Value) : Sep B (W.setCell ⟨b, o, none⟩ u) l :=
  h.kept (fun k hk _ => Below.heap_setCell _ _ _ _ (by show k ≠ b; omega)) (by simp [World.setCell])

end Go.Proofs.YtoffbdlgmnpblaaGreat

/- Package slices: Index; what graph.Cut needs of memory. -/
namespace Go.Proofs.YtoffbdlgmnpblaaGreat
open Go.RowKit
set_option maxHeartbeats 4000000
set_option maxRecDepth 100000

/-! ### the plain functions -/
def placeOf (l : List Int) (t : Int) : Int := idxI (fun x => decide (t = x)) l
def cutBr (l : List Int) (b : Br) : Br := ⟨placeOf l b.to, b.ch⟩
def cutTo (l : List Int) (q : Nat) (c : CO) : CO := ⟨c.v, c.rw, (c.brs.take q).map (cutBr l) ++ c.brs.drop q⟩
def cutCO (l : List Int) (c : CO) : CO := ⟨c.v, c.rw, c.brs.map (cutBr l)⟩
def cutSO (l : List Int) (s : SO) : SO := ⟨s.v, s.owner, s.mark, s.chs.map (cutCO l)⟩
theorem cutTo_all (l : List Int) (c : CO) : cutTo l c.brs.length c = cutCO l c := by
  unfold cutTo cutCO
  rw [List.take_length, List.drop_length, List.append_nil]
theorem ccells_cut (l : List Int) (cs : List CO) : ccells (cs.map (cutCO l)) = ccells cs := by
  unfold ccells
  rw [List.flatMap_map]
  rfl
theorem scells_cut (l : List Int) (ss : List SO) : scells (ss.map (cutSO l)) = scells ss := by
  unfold scells
  rw [List.flatMap_map]
  rfl
/-! ### states picked by a rising list -/
theorem flat_sub {α β : Type} (f : α → List β) {l l' : List α} (h : l.Sublist l') : (l.flatMap f).Sublist (l'.flatMap f) := by
  induction h with
  | slnil => exact List.Sublist.refl _
  | cons a _ ih => rw [List.flatMap_cons]; exact ih.trans (List.sublist_append_right _ _)
  | cons_cons a _ ih => rw [List.flatMap_cons, List.flatMap_cons]; exact (List.Sublist.refl _).append ih

/-- the parts of states: the rows of choices, then the rows of branches -/
theorem stParts_perm (B : Nat) : ∀ ss : List SO, (stParts B ss).Perm (ss.map (chRow B) ++ (ss.flatMap (·.chs)).map (brRow B))
  | [] => List.Perm.refl _
  | s :: ss => by
    have ih := stParts_perm B ss
    show (chParts B s ++ stParts B ss).Perm _
    rw [List.flatMap_cons, List.map_append, List.map_cons]
    show (chRow B s :: (s.chs.map (brRow B) ++ stParts B ss)).Perm (chRow B s :: (ss.map (chRow B) ++ (s.chs.map (brRow B) ++ (ss.flatMap (·.chs)).map (brRow B))))
    refine List.Perm.cons _ ?_
    refine (List.Perm.append_left _ ih).trans ?_
    rw [← List.append_assoc, ← List.append_assoc]
    exact List.Perm.append_right _ List.perm_append_comm
theorem chRow_cut (B : Nat) (l : List Int) (s : SO) : chRow B (cutSO l s) = chRow B s := by
  show rowC B _ 3 s.v (s.chs.map (cutCO l)).length (ccells (s.chs.map (cutCO l))) = _
  rw [ccells_cut, List.length_map]
theorem stRow_cut (B : Nat) (l : List Int) (v : Value) (ss : List SO) : stRow B v (ss.map (cutSO l)) = stRow B v ss := by
  show rowC B _ 3 v (ss.map (cutSO l)).length (scells (ss.map (cutSO l))) = _
  rw [scells_cut, List.length_map]
theorem stParts_cut (B : Nat) (l : List Int) (ss : List SO) : (stParts B (ss.map (cutSO l))).Perm (ss.map (chRow B) ++ ((ss.flatMap (·.chs)).map (cutCO l)).map (brRow B)) := by
  refine (stParts_perm B _).trans (List.Perm.of_eq ?_)
  congr 1
  · rw [List.map_map]; exact List.map_congr_left fun s _ => chRow_cut B l s
  · congr 1
    rw [List.flatMap_map, List.map_flatMap]
    rfl

/-! ### a cell of a row of three-cell elements -/
/-! ### slices.Index -/
end Go.Proofs.YtoffbdlgmnpblaaGreat

/- Package graph: Cut. -/
namespace Go.Proofs.YtoffbdlgmnpblaaGreat
open Go.RowKit
set_option maxHeartbeats 4000000
set_option maxRecDepth 100000

theorem Sep.one {B : Nat} {W : World} {c : Cmp} (hP : c.P W) (hk : ∀ k, c.blk = some k → B ≤ k ∧ k < W.heap.size) : Sep B W [c] :=
  ⟨fun d hd => by rw [List.mem_singleton] at hd; subst hd; exact ⟨hP, hk⟩, List.pairwise_singleton _ _⟩
theorem Sep.none {B : Nat} {W : World} : Sep B W (stRow B (.slice none 0 0) [] :: stParts B []) := Sep.one (World.ownsRow_nil _ _ _ _) (fun k hk => by cases hk)
theorem Sep.joinM {B B' : Nat} {W : World} {sv : Value} {ss : List SO} {l1 : List Cmp} (h1 : Sep B W l1) (hlt : ∀ c ∈ l1, ∀ k, c.blk = some k → k < B') (h2 : Sep B' W (stRow B' sv ss :: stParts B' ss)) (hB : B ≤ B') : Sep B W (l1 ++ (stRow B sv ss :: stParts B ss)) := by
  have h3 := h2.lowerM hB
  refine ⟨fun c hc => ?_, List.pairwise_append.2 ⟨h1.apart, h3.apart, fun c hc d hd k hk e => ?_⟩⟩
  · rcases List.mem_append.1 hc with hc | hc
    · exact h1.all c hc
    · exact h3.all c hc
  · rw [← stItems_map] at hd h2
    obtain ⟨t, ht, rfl⟩ := List.mem_map.1 hd
    have := (h2.all _ (List.mem_map_of_mem ht)).2 k e
    have := hlt c hc k hk
    omega

/-- what the picking loop holds -/
abbrev CutL (w W : World) (rb hb ob : Nat) (ov : Value) (ps : List SO) (sv : Value) (ss : List SO) : Prop :=
  Sep w.heap.size W (boxC ob #[ov] 24 :: stRow w.heap.size ov ps :: boxC rb #[.slice none 0 0] 24 :: boxC hb #[sv] 24 :: stRow w.heap.size sv ss :: stParts w.heap.size ss)
theorem CutL.start {w w4 : World} {rb : Nat} {sv : Value} {ss : List SO} {B' : Nat} (hr : w4.heap[rb]? = some (.cells #[.slice none 0 0] 24 (0, 0))) (h0 : w.heap.size ≤ rb) (h1 : rb < B') (h2 : Sep B' w4 (stRow B' sv ss :: stParts B' ss)) (hB : w.heap.size ≤ B') (hB' : B' ≤ w4.heap.size) (z : Value) (hz : z = .slice none 0 0) :
    CutL w ((w4.alloc (.cells #[sv] 24)).alloc (.cells #[z] 24)) rb w4.heap.size (w4.heap.size + 1) (.slice none 0 0) [] sv ss := by
  subst hz
  have a1 : Sep w.heap.size w4 [boxC rb #[.slice none 0 0] 24] := Sep.one hr (fun k hk => by cases hk; omega)
  have a2 := a1.joinM (fun c hc k hk => by rw [List.mem_singleton] at hc; subst hc; cases hk; exact h1) h2 hB
  have a3 := a2.add (c := boxC w4.heap.size #[sv] 24) ((Below.refl _ w4).alloc (Nat.le_refl _) (.cells #[sv] 24)) (heap_alloc_new _ _) (fun k hk => by cases hk; simp) (by omega)
  have a4 := a3.perm (List.Perm.swap _ _ _)
  have hB1 : w.heap.size ≤ (w4.alloc (.cells #[sv] 24)).heap.size := by simp; omega
  have a5 := a4.add (c := stRow w.heap.size (.slice none 0 0) []) (Below.refl _ _) (World.ownsRow_nil _ _ _ _) (fun k hk => by cases hk) hB1
  exact a5.add (c := boxC (w4.heap.size + 1) #[.slice none 0 0] 24) ((Below.refl _ _).alloc (Nat.le_refl _) (.cells #[.slice none 0 0] 24)) (by
    have := heap_alloc_new (w4.alloc (.cells #[sv] 24)) (.cells #[.slice none 0 0] 24)
    rwa [World.size_alloc] at this) (fun k hk => by cases hk; simp) hB1

section
variable {w W : World} {rb hb ob : Nat} {ov sv : Value} {ps ss : List SO}
end
def SO.zero : SO := ⟨.slice none 0 0, 0, 0, []⟩
/-- what the turning loops hold -/
abbrev CutF (w W : World) (l : List Int) (rb ob : Nat) (ov : Value) (ps : List SO) (l1 l2 : List CO) : Prop :=
  Sep w.heap.size W ((boxC ob #[ov] 24 :: stRow w.heap.size ov ps :: boxC rb #[.slice none 0 0] 24 :: ps.map (chRow w.heap.size)) ++ ((l1.map (cutCO l)).map (brRow w.heap.size) ++ l2.map (brRow w.heap.size)))
abbrev CutG (w W : World) (l : List Int) (rb ob : Nat) (ov : Value) (ps : List SO) (l1 : List CO) (c : CO) (q : Nat) (l2 : List CO) : Prop :=
  Sep w.heap.size W ((boxC ob #[ov] 24 :: stRow w.heap.size ov ps :: boxC rb #[.slice none 0 0] 24 :: ps.map (chRow w.heap.size)) ++ ((l1.map (cutCO l)).map (brRow w.heap.size) ++ brRow w.heap.size (cutTo l q c) :: l2.map (brRow w.heap.size)))
theorem CutG.of {w W : World} {l : List Int} {rb ob : Nat} {ov : Value} {ps : List SO} {l1 l2 : List CO} {c : CO} (h : CutF w W l rb ob ov ps l1 (c :: l2)) : CutG w W l rb ob ov ps l1 c 0 l2 := h
theorem CutG.all {w W : World} {l : List Int} {rb ob : Nat} {ov : Value} {ps : List SO} {l1 l2 : List CO} {c : CO} (h : CutG w W l rb ob ov ps l1 c c.brs.length l2) : CutF w W l rb ob ov ps (l1 ++ [c]) l2 := by
  unfold CutF
  unfold CutG at h
  rw [cutTo_all] at h
  rw [List.map_append, List.map_append, List.append_assoc]
  exact h
theorem CutF.of {w W : World} {l : List Int} {rb hb ob : Nat} {ov sv : Value} {ps ss : List SO} (h : CutL w W rb hb ob ov ps sv ss) (hs : ps.Sublist ss) : CutF w W l rb ob ov ps [] (ps.flatMap (·.chs)) := by
  have h1 : Sep w.heap.size W (boxC ob #[ov] 24 :: stRow w.heap.size ov ps :: boxC rb #[.slice none 0 0] 24 :: stParts w.heap.size ps) := Sep.sub h (((((flat_sub _ hs).cons _).cons _).cons_cons _).cons_cons _ |>.cons_cons _)
  exact h1.perm (((stParts_perm _ ps).cons _).cons _ |>.cons _)
theorem CutF.done {w W : World} {l : List Int} {rb ob : Nat} {ov : Value} {ps : List SO} (h : CutF w W l rb ob ov ps (ps.flatMap (·.chs)) []) : Sep w.heap.size W (boxC ob #[ov] 24 :: stRow w.heap.size ov (ps.map (cutSO l)) :: boxC rb #[.slice none 0 0] 24 :: stParts w.heap.size (ps.map (cutSO l))) := by
  refine Sep.perm h ?_
  rw [stRow_cut]
  refine List.Perm.cons _ (List.Perm.cons _ (List.Perm.cons _ ?_))
  rw [List.map_nil, List.append_nil]
  exact (stParts_cut _ l ps).symm
end Go.Proofs.YtoffbdlgmnpblaaGreat

/- Reference: Few; the law's few. -/
namespace Go.Proofs.YtoffbdlgmnpblaaGreat
open Go.RowKit
set_option maxHeartbeats 4000000
set_option maxRecDepth 100000

def fewC (c : Ch) : Bool := decide (c.brs.length ≤ 10)
def fewS (s : St) : Bool := decide (s.chs.length ≤ 10) && s.chs.all fewC
/-- a small model -/
def fewB (m : List St) : Bool := decide (m.length ≤ 45) && m.all fewS

theorem Few_calls (m : List St) (v : Value) (D : Nat → Prop) (w : World) (hD : Lo D w) (h : ModelC w D v m) :
    Calls Tryz.prog 67 #[.int .i64 40, v] w fun e w' => e = .returned (.bool (fewB m)) ∧ Below w.heap.size w w' := by
  obtain ⟨u, rfl, h⟩ := h
  obtain ⟨A, c, rfl, h1, h2, -⟩ := h.form
  unfold maxLen at h2
  have H := Lib.hid h
  clear h
  by_cases hlen : 45 < m.length
  · have HV := Lib.hid (show fewB m = false by unfold fewB; rw [decide_eq_false (show ¬ (m.length ≤ 45) by omega)]; rfl)
    have d1 : decide ((40 : Int) < (m.length : Int)) = true := decide_eq_true (by omega)
    have d2 : decide ((m.length : Int) ≤ 40) = false := decide_eq_false (by omega)
    have d3 : decide ((45 : Int) < (m.length : Int)) = true := decide_eq_true (by omega)
    go_enter Tryz.func67, Tryz.ntmps67
    go_wp2
    go_ret
    exact ⟨ret_bool HV.out.symm, (Below.refl _ _).alloc (Nat.le_refl _) _⟩
  · have HV := Lib.hid (show fewB m = m.all fewS by unfold fewB; rw [decide_eq_true (show (m.length ≤ 45) by omega)]; rfl)
    have hl2 : m.length ≤ 45 := by omega
    have hB0 := (Below.refl w.heap.size w).alloc (Nat.le_refl _) (.cells #[.slice A m.length c] 24)
    have d3 : decide ((45 : Int) < (m.length : Int)) = false := decide_eq_false (by omega)
    clear hlen
    go_enter Tryz.func67, Tryz.ntmps67
    go_upto_region 1 with fail
    go_cut [25] from 9 to 25 (fun b wx => b = .bool false ∧ wx = w.alloc (.cells #[.slice A m.length c] 24))
    case first =>
      by_cases h40 : 40 < m.length
      · have d1 : decide ((40 : Int) < (m.length : Int)) = true := decide_eq_true (by omega)
        have d2 : decide ((m.length : Int) ≤ 40) = false := decide_eq_false (by omega)
        go_wp2_with fail
        go_meet
        exact ⟨rfl, rfl⟩
      · have d1 : decide ((40 : Int) < (m.length : Int)) = false := decide_eq_false (by omega)
        go_wp2_with fail
        go_meet
        exact ⟨rfl, rfl⟩
    case rest =>
      obtain ⟨rfl, rfl⟩ := hcut
      go_wp2
      go_loopw [29] (fun k W => ∃ (j : Nat), j ≤ m.length ∧ k = .int .i64 (j : Int) ∧ Hid ((m.take j).all fewS = true) ∧ Below w.heap.size w W) (fun k _ => m.length - (intOf k).toNat)
      case atStart => exact ⟨0, Nat.zero_le _, rfl, rfl, hB0⟩
      case round =>
        obtain ⟨j, hj, rfl, HA, hBW⟩ := hrel
        by_cases hlt : j < m.length
        · obtain ⟨s, hs⟩ : ∃ s, m[j]? = some s := ⟨_, List.getElem?_eq_getElem hlt⟩
          obtain ⟨ad, B, p, d, rfl, hDa, q0, q1, q2, hsc⟩ := H.out.st_up hD hBW j s hs
          obtain ⟨rfl, hp1, hp2⟩ := hsc.len
          unfold maxLen at hp2
          have HS := Lib.hid hs
          have HC := Lib.hid hsc
          clear hs hsc
          have hBW1 : Below w.heap.size w (wr.alloc (.cells #[.int .i64 s.owner, .int .i64 s.mark, .slice B s.chs.length d] 79)) := hBW.alloc hBW.size _
          by_cases hok : s.chs.length ≤ 10
          · have HOK := Lib.hid (show fewS s = s.chs.all fewC by unfold fewS; rw [decide_eq_true hok]; rfl)
            go_wp2
            go_loopw [40] (fun k W => ∃ (i : Nat), i ≤ s.chs.length ∧ k = .int .i64 (i : Int) ∧ Hid ((s.chs.take i).all fewC = true) ∧ Below w.heap.size w W) (fun k _ => s.chs.length - (intOf k).toNat)
            case atStart => exact ⟨0, Nat.zero_le _, rfl, rfl, hBW1⟩
            case round =>
              obtain ⟨i, hi, rfl, HA2, hBW2⟩ := hrel
              by_cases hlt2 : i < s.chs.length
              · obtain ⟨x, hx⟩ : ∃ x, s.chs[i]? = some x := ⟨_, List.getElem?_eq_getElem hlt2⟩
                have HX := Lib.hid hx
                obtain ⟨ad2, B2, p2, d2, rfl, hDa2, r0, r1, r2, hxc⟩ := HC.out.ch_up hD hBW2 i x hx
                obtain ⟨rfl, hx1, hx2⟩ := hxc.len
                unfold maxLen at hx2
                have hBW3 : Below w.heap.size w (wr.alloc (.cells #[.int .i64 x.rw.top, .int .i64 x.rw.low, .slice B2 x.brs.length d2] 97)) := hBW2.alloc hBW2.size _
                clear hx hxc
                by_cases hv : x.brs.length ≤ 10
                · have HF := Lib.hid (all_take fewC _ _ _ HX.out HA2.out (decide_eq_true hv))
                  go_wp2
                  exact ⟨⟨i + 1, by omega, by go_num, HF, hBW3⟩, by simp [intOf]; omega⟩
                · have HF := Lib.hid (show fewB m = false by rw [HV.out]; exact all_no _ _ _ _ HS.out (by rw [HOK.out]; exact all_no fewC _ _ _ HX.out (decide_eq_false hv)))
                  go_wp2
                  go_ret
                  exact ⟨ret_bool HF.out.symm, hBW3⟩
              · obtain rfl : i = s.chs.length := by omega
                have HF := Lib.hid (all_take fewS _ _ _ HS.out HA.out (by rw [HOK.out]; have := HA2.out; rwa [List.take_length] at this))
                clear hlt2
                go_wp2
                exact ⟨⟨j + 1, by omega, by go_num, HF, hBW2⟩, by simp [intOf]; omega⟩
          · have HF := Lib.hid (show fewB m = false by rw [HV.out]; exact all_no _ _ _ _ HS.out (by unfold fewS; rw [decide_eq_false hok]; rfl))
            go_wp2
            go_ret
            exact ⟨ret_bool HF.out.symm, hBW1⟩
        · obtain rfl : j = m.length := by omega
          have HF := Lib.hid (show fewB m = true by rw [HV.out, ← HA.out, List.take_length])
          clear hlt
          go_wp2
          go_ret
          exact ⟨ret_bool HF.out.symm, hBW⟩

def few5 (m : List St) (l : List Int) : Bool := fewB m && decide (l.length ≤ 60)
theorem few5_calls (m : List St) (l : List Int) (v u : Value) (D : Nat → Prop) (w : World) (hD : Lo D w) (h : ModelC w D v m) (hl : Sl (Kind.int .i64) w D u l) :
    Calls Tryz.prog 13 #[v, u] w fun e w' => e = .returned (.bool (few5 m l)) ∧ Below w.heap.size w w' := by
  obtain ⟨mv, rfl, hmm⟩ := h
  have HM : Hid (ModelC w D (.agg #[mv]) m) := ⟨mv, rfl, hmm⟩
  obtain ⟨A, c, rfl, h1, h2, -⟩ := hmm.form
  obtain ⟨B, d, rfl, l1, l2, -⟩ := hl.ints
  unfold maxLen at h2 l2
  clear hmm hl
  have hB0 := (Below.refl w.heap.size w).alloc (Nat.le_refl _) (.cells #[.slice A m.length c] 24)
  go_enter Tryz.func13, Tryz.ntmps13
  go_wp2_with fail
  refine (Few_calls m _ D _ (hD.up hB0.size) (HM.out.same (hD.same hB0))).mono ?_
  rintro e w1 ⟨rfl, hb1⟩
  have hB1 := hB0.trans (hb1.mono hB0.size)
  cases hv : fewB m with
  | false =>
    have HV := Lib.hid (show few5 m l = false by unfold few5; rw [hv]; rfl)
    clear hv
    go_wp2
    go_ret
    exact ⟨ret_bool HV.out.symm, hB1⟩
  | true =>
    have HV := Lib.hid (show few5 m l = decide (l.length ≤ 60) by unfold few5; rw [hv]; rfl)
    have HI := Lib.hid (show decide ((l.length : Int) ≤ 60) = decide (l.length ≤ 60) from by rw [decide_eq_decide]; omega)
    clear hv
    go_wp2
    go_ret
    exact ⟨ret_bool (by rw [HV.out, ← HI.out]), hB1⟩

end Go.Proofs.YtoffbdlgmnpblaaGreat

/- Numbers of a set of blocks are turned; the law's spoil. -/
namespace Go.Proofs.YtoffbdlgmnpblaaGreat
open Go.RowKit
set_option maxHeartbeats 4000000
set_option maxRecDepth 100000

/-- only numbers in the named blocks have turned -/
structure Turned (D : Nat → Prop) (w w' : World) : Prop where
  os : w'.os = w.os
  tape : w'.tape = w.tape
  output : w'.output = w.output
  size : w'.heap.size = w.heap.size
  out : ∀ b, ¬ D b → w'.heap[b]? = w.heap[b]?
  cell : ∀ p : Addr, w'.cell? p = w.cell? p ∨ ∃ x y, w.cell? p = some (.int .i64 x) ∧ w'.cell? p = some (.int .i64 y)
  frozen : ∀ p : Addr, w'.frozen? p = w.frozen? p
theorem Turned.refl (D : Nat → Prop) (w : World) : Turned D w w := ⟨rfl, rfl, rfl, rfl, fun _ _ => rfl, fun _ => .inl rfl, fun _ => rfl⟩
theorem Turned.trans {D : Nat → Prop} {a b c : World} (h : Turned D a b) (k : Turned D b c) : Turned D a c where
  os := k.os.trans h.os
  tape := k.tape.trans h.tape
  output := k.output.trans h.output
  size := k.size.trans h.size
  out b hb := (k.out b hb).trans (h.out b hb)
  cell p := by
    rcases k.cell p with hk | ⟨x, y, h1, h2⟩
    · rw [hk]; exact h.cell p
    · rcases h.cell p with hh | ⟨x', y', h3, h4⟩
      · exact .inr ⟨x, y, by rw [← hh]; exact h1, h2⟩
      · exact .inr ⟨x', y, h3, h2⟩
  frozen p := (k.frozen p).trans (h.frozen p)
theorem Turned.mono {D D' : Nat → Prop} {a b : World} (h : Turned D a b) (hD : ∀ k, D k → D' k) : Turned D' a b := ⟨h.os, h.tape, h.output, h.size, fun b hb => h.out b fun e => hb (hD b e), h.cell, h.frozen⟩
theorem Turned.set {D : Nat → Prop} {w : World} {p : Addr} {x : Int} (hc : w.cell? p = some (.int .i64 x)) (hp : D p.block) (y : Int) : Turned D w (w.setCell p (.int .i64 y)) where
  os := rfl
  tape := rfl
  output := rfl
  size := by simp [World.setCell]
  out b hb := Below.heap_setCell _ _ _ _ (fun e => hb (e ▸ hp))
  cell q := by
    by_cases h : p = q
    · subst h; exact .inr ⟨x, y, hc, World.cell?_setCell_same _ _ _ hc⟩
    · exact .inl (World.cell?_setCell_other _ _ _ _ h)
  frozen q := World.frozen?_setCell _ _ _ _
theorem Turned.below {D : Nat → Prop} {w w' : World} {B : Nat} (h : Turned D w w') (hD : ∀ k, D k → B ≤ k) : Below B w w' :=
  ⟨h.os, h.tape, h.output, Nat.le_of_eq h.size.symm, fun k hk => h.out k fun e => by have := hD k e; omega⟩
theorem Soft.at {w : World} {p : Addr} (h : Soft w p.block) : w.frozen? p = false := h p.off

/-- numbers still read as numbers -/
theorem Sl.turned {w w' : World} {D D' : Nat → Prop} {v : Value} {xs : List Int} (h : Sl (Kind.int .i64) w D v xs) (ht : Turned D' w w') : ∃ xs' : List Int, xs'.length = xs.length ∧ Sl (Kind.int .i64) w' D v xs' := by
  obtain ⟨A, c, rfl, h1, h2, h3⟩ := h.ints
  by_cases hp : 0 < xs.length
  · obtain ⟨ad, rfl, hd, hc⟩ := h3 hp
    have hex : ∀ i, i < xs.length → ∃ y, w'.cell? (ad.add i) = some (.int .i64 y) := fun i hi => by
      rcases ht.cell (ad.add i) with e | ⟨x, y, -, e⟩
      · exact ⟨_, e.trans (hc i hi)⟩
      · exact ⟨y, e⟩
    let f : Nat → Int := fun i => match w'.cell? (ad.add i) with
      | some (.int _ y) => y
      | _ => 0
    have hf : ∀ i, i < xs.length → w'.cell? (ad.add i) = some (.int .i64 (f i)) := fun i hi => by
      obtain ⟨y, hy⟩ := hex i hi
      have : f i = y := by simp only [f, hy]
      rw [this]; exact hy
    obtain ⟨ys, hys⟩ : ∃ ys : List Int, ys = (List.range xs.length).map f := ⟨_, rfl⟩
    have hl : ys.length = xs.length := by rw [hys]; simp
    refine ⟨ys, hl, ?_⟩
    rw [← hl]
    refine Sl.of_ints (by rw [hl]; exact h1) h2 fun _ => ⟨ad, rfl, hd, fun i hi => ?_⟩
    rw [hl] at hi
    have : Dig.gd ys i = f i := by rw [hys]; simp [Dig.gd, hi]
    rw [this]
    exact hf i hi
  · have : xs = [] := List.eq_nil_of_length_eq_zero (by omega)
    subst this
    exact ⟨[], rfl, ⟨A, c, rfl, h1, h2, fun i x hx => by simp at hx⟩⟩

/-- rows of numbers still read as rows of numbers -/
theorem Rows2.turned {w w' : World} {D D' : Nat → Prop} {v : Value} {xss : List (List Int)} (h : Rows2 w D v xss) (ht : Turned D' w w') : ∃ xss' : List (List Int), xss'.length = xss.length ∧ (∀ (i : Nat) (xs : List Int), xss[i]? = some xs → ∃ xs' : List Int, xss'[i]? = some xs' ∧ xs'.length = xs.length) ∧ Rows2 w' D v xss' := by
  obtain ⟨A, c, rfl, h1, h2, h3⟩ := h
  have hrow : ∀ i, i < xss.length → ∃ xs' : List Int, ∀ xs, xss[i]? = some xs → xs'.length = xs.length ∧ ∃ ad u, A = some ad ∧ D ad.block ∧ w'.cell? ((ad.add (i * 1)).add 0) = some u ∧ Sl (Kind.int .i64) w' D u xs' := by
    intro i hi
    obtain ⟨ad, cs, e, hd, ⟨u, rfl, hu⟩, hat⟩ := h3 i xss[i] (List.getElem?_eq_getElem hi)
    obtain ⟨xs', hl, hs⟩ := hu.turned ht
    refine ⟨xs', fun xs hx => ?_⟩
    rw [List.getElem?_eq_getElem hi] at hx
    injection hx with hx
    subst hx
    refine ⟨hl, ad, u, e, hd, ?_, hs⟩
    have hc := hat 0 u rfl
    obtain ⟨A', n', c', rfl, -⟩ : ∃ A' n' c', u = .slice A' n' c' ∧ True := by
      obtain ⟨A', c', e', -, -, -⟩ := hu.form
      exact ⟨A', _, c', e', trivial⟩
    rcases ht.cell ((ad.add (i * 1)).add 0) with e' | ⟨x, y, e', -⟩
    · exact e'.trans hc
    · rw [show (Kind.slice (Kind.int IntKind.i64)).sz = 1 from rfl] at hc
      rw [hc] at e'
      cases e'
  let f : Nat → List Int := fun i => if hi : i < xss.length then Classical.choose (hrow i hi) else []
  have hf : ∀ i xs, xss[i]? = some xs → (f i).length = xs.length ∧ ∃ ad u, A = some ad ∧ D ad.block ∧ w'.cell? ((ad.add (i * 1)).add 0) = some u ∧ Sl (Kind.int .i64) w' D u (f i) := by
    intro i xs hx
    have hi := (List.getElem?_eq_some_iff.1 hx).1
    have := Classical.choose_spec (hrow i hi) xs hx
    simp only [f, dif_pos hi]
    exact this
  have hg : ∀ i, i < xss.length → ((List.range xss.length).map f)[i]? = some (f i) := fun i hi => by simp [hi]
  refine ⟨(List.range xss.length).map f, by simp, fun i xs hx => ⟨f i, hg i (List.getElem?_eq_some_iff.1 hx).1, (hf i xs hx).1⟩, A, c, by simp, by simpa using h1, h2, fun i y hy => ?_⟩
  have hi : i < xss.length := by have := (List.getElem?_eq_some_iff.1 hy).1; simpa using this
  rw [hg i hi] at hy
  injection hy with hy
  subst hy
  obtain ⟨-, ad, u, e, hd, hc, hs⟩ := hf i xss[i] (List.getElem?_eq_getElem hi)
  refine ⟨ad, [u], e, hd, ⟨u, rfl, hs⟩, fun j z hj => ?_⟩
  cases j with
  | zero => simp at hj; subst hj; exact hc
  | succ j => simp at hj

end Go.Proofs.YtoffbdlgmnpblaaGreat

/- The law's spoil. -/
namespace Go.Proofs.YtoffbdlgmnpblaaGreat
open Go.RowKit
set_option maxHeartbeats 4000000
set_option maxRecDepth 100000

theorem Rows2.at' {w : World} {D : Nat → Prop} {A : Option Addr} {n c : Nat} {xss : List (List Int)} (h : Rows2 w D (.slice A n c) xss) (i : Nat) (xs : List Int) (hx : xss[i]? = some xs) : ∃ ad u, A = some ad ∧ D ad.block ∧ w.cell? (ad.add i) = some u ∧ Sl (Kind.int .i64) w D u xs := by
  obtain ⟨A', c', e, h1, h2, h3⟩ := h
  injection e with e1 e2 e3
  subst e1
  obtain ⟨ad, cs, e, hd, ⟨u, rfl, hu⟩, hat⟩ := h3 i xs hx
  have hc := hat 0 u rfl
  rw [add_of_add, show i * (Kind.slice (Kind.int IntKind.i64)).sz + 0 = i from by show i * 1 + 0 = i; omega] at hc
  exact ⟨ad, u, e, hd, hc, hu⟩

end Go.Proofs.YtoffbdlgmnpblaaGreat

/- The law's copies. -/
namespace Go.Proofs.YtoffbdlgmnpblaaGreat
open Go.RowKit
set_option maxHeartbeats 4000000
set_option maxRecDepth 100000

theorem RowsC.snoc {W w3 w5 : World} {B : Nat} {v v3 v5 : Value} {ps : List (Value × List Int)} {xs : List Int} {ob : Obj} (h : RowsC W B v ps) (_hB : B ≤ W.heap.size) (hb : Below W.heap.size W w3)
    (ho3 : w3.ownsRow B 3 1 v3 xs.length (ints xs)) (hk3 : ∀ k, v3.ownBlock = some k → W.heap.size ≤ k)
    (hg5 : (w3.alloc ob).grownBy w5 v.ownBlock) (ho5 : w5.ownsRow B 31 1 v5 (ps.length + 1) (ps.map (·.1) ++ [v3])) (ha5 : v5.ownBlock = v.ownBlock ∨ v5.ownBlock = some (w3.alloc ob).heap.size) :
    RowsC w5 B v5 (ps ++ [(v3, xs)]) := by
  have hs3 := hb.size
  have hz : (w3.alloc ob).heap.size = w3.heap.size + 1 := by simp
  refine ⟨by rw [List.length_append, List.map_append]; exact ho5, fun p hp => ?_⟩
  rcases List.mem_append.1 hp with hp | hp
  · obtain ⟨h1, h2⟩ := h.row p hp
    refine ⟨own_kept h1 fun k hk => ?_, fun k hk e => ?_⟩
    · have hlt := (h1.lt k hk).2
      rw [hg5.block k (by omega) (fun e => h2 k hk e.symm), heap_alloc_old _ _ (by omega)]
      exact hb.block k hlt
    · have hlt := (h1.lt k hk).2
      rcases ha5 with ha | ha
      · exact h2 k hk (ha ▸ e)
      · rw [ha] at e; injection e with e; omega
  · rw [List.mem_singleton] at hp
    subst hp
    refine ⟨own_kept ho3 fun k hk => ?_, fun k hk e => ?_⟩
    · have hlt := (ho3.lt k hk).2
      have hge := hk3 k hk
      rw [hg5.block k (by omega) (fun e => by have := (h.own.lt k e.symm).2; omega), heap_alloc_old _ _ hlt]
    · have hlt := (ho3.lt k hk).2
      have hge := hk3 k hk
      rcases ha5 with ha | ha
      · rw [ha] at e; have := (h.own.lt k e).2; omega
      · rw [ha] at e; injection e with e; omega

end Go.Proofs.YtoffbdlgmnpblaaGreat
