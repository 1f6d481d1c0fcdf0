/- Part 19: Sep Kep Kpt Cpy Ct1. -/
import Derived.Test.YtoffbdlgmnpblaaGreatJ18
import Derived.Laws.AppendOwnNone
import Derived.WalkSpells
import Derived.Deep.RegionHeld3
import Derived.Deep.RegionLaw

/- Parts of memory that lie apart; models of the call's own. -/
namespace Go.Proofs.YtoffbdlgmnpblaaGreat
open Go.RowKit
set_option maxHeartbeats 1000000

/-- a part of memory in one block -/
structure Cmp where
  blk : Option Nat
  P : World → Prop
  loc : ∀ {W W' : World}, (∀ k, blk = some k → W'.heap[k]? = W.heap[k]?) → P W → P W'

/-- the parts hold, each in a block of its own from B on -/
structure Sep (B : Nat) (W : World) (l : List Cmp) : Prop where
  all : ∀ c ∈ l, c.P W ∧ ∀ k, c.blk = some k → B ≤ k ∧ k < W.heap.size
  apart : l.Pairwise (fun c d => ∀ k, c.blk = some k → d.blk ≠ some k)

section
variable {B : Nat} {W W' : World} {l l' : List Cmp} {c c' : Cmp}
theorem Sep.nil (B : Nat) (W : World) : Sep B W [] := ⟨fun _ h => (List.not_mem_nil h).elim, .nil⟩
theorem Sep.kept (h : Sep B W l) (hb : ∀ k, B ≤ k → k < W.heap.size → W'.heap[k]? = W.heap[k]?) (hs : W.heap.size ≤ W'.heap.size) : Sep B W' l :=
  ⟨fun c hc => ⟨c.loc (fun k hk => hb k ((h.all c hc).2 k hk).1 ((h.all c hc).2 k hk).2) (h.all c hc).1, fun k hk => ⟨((h.all c hc).2 k hk).1, Nat.lt_of_lt_of_le ((h.all c hc).2 k hk).2 hs⟩⟩, h.apart⟩
theorem Sep.below (h : Sep B W l) (hb : Below W.heap.size W W') : Sep B W' l := h.kept (fun k _ hk => hb.block k hk) hb.size
theorem Sep.perm (h : Sep B W l) (hp : l.Perm l') : Sep B W l' :=
  ⟨fun c hc => h.all c (hp.mem_iff.2 hc), hp.pairwise h.apart (fun {_ _} hxy k hk e => hxy k e hk)⟩
theorem Sep.sub (h : Sep B W l) (hp : l'.Sublist l) : Sep B W l' := ⟨fun c hc => h.all c (hp.subset hc), h.apart.sublist hp⟩
theorem Sep.get (h : Sep B W l) (hc : c ∈ l) : c.P W := (h.all c hc).1
theorem Sep.lt (h : Sep B W l) (hc : c ∈ l) {k : Nat} (hk : c.blk = some k) : B ≤ k ∧ k < W.heap.size := (h.all c hc).2 k hk
/-- the first part turns -/
theorem Sep.upd (h : Sep B W (c :: l)) (hg : W.grownBy W' c.blk) (hP : c'.P W') (ha : c'.blk = c.blk ∨ ∀ k, c'.blk = some k → W.heap.size ≤ k ∧ k < W'.heap.size) (hB : B ≤ W.heap.size) : Sep B W' (c' :: l) := by
  obtain ⟨hall, hap⟩ := h
  obtain ⟨h1, h2⟩ := List.pairwise_cons.1 hap
  refine ⟨fun d hd => ?_, List.pairwise_cons.2 ⟨fun d hd k hk e => ?_, h2⟩⟩
  · rcases List.mem_cons.1 hd with rfl | hd
    · refine ⟨hP, fun k hk => ?_⟩
      rcases ha with ha | ha
      · have := (hall c (List.mem_cons_self ..)).2 k (ha ▸ hk)
        exact ⟨this.1, Nat.lt_of_lt_of_le this.2 hg.size⟩
      · exact ⟨Nat.le_trans hB (ha k hk).1, (ha k hk).2⟩
    · have hd' := hall d (List.mem_cons_of_mem _ hd)
      exact ⟨d.loc (fun k hk => hg.block k (hd'.2 k hk).2 fun e => h1 d hd k e.symm hk) hd'.1, fun k hk => ⟨(hd'.2 k hk).1, Nat.lt_of_lt_of_le (hd'.2 k hk).2 hg.size⟩⟩
  · rcases ha with ha | ha
    · exact h1 d hd k (ha ▸ hk) e
    · have := ((hall d (List.mem_cons_of_mem _ hd)).2 k e).2
      have := (ha k hk).1
      omega
/-- a part is made -/
theorem Sep.add (h : Sep B W l) (hb : Below W.heap.size W W') (hP : c.P W') (ha : ∀ k, c.blk = some k → W.heap.size ≤ k ∧ k < W'.heap.size) (hB : B ≤ W.heap.size) : Sep B W' (c :: l) := by
  have h' := h.below hb
  refine ⟨fun d hd => ?_, List.pairwise_cons.2 ⟨fun d hd k hk e => ?_, h'.apart⟩⟩
  · rcases List.mem_cons.1 hd with rfl | hd
    · exact ⟨hP, fun k hk => ⟨Nat.le_trans hB (ha k hk).1, (ha k hk).2⟩⟩
    · exact h'.all d hd
  · have := (h.lt hd e).2
    have := (ha k hk).1
    omega
end

def rowC (B : Nat) (e : TypeId) (sz : Nat) (v : Value) (n : Nat) (vs : List Value) : Cmp where
  blk := v.ownBlock
  P W := W.ownsRow B e sz v n vs
  loc hb h := own_kept h hb
def boxC (b : Nat) (cs : Array Value) (t : TypeId) : Cmp where
  blk := some b
  P W := W.heap[b]? = some (.cells cs t (0, 0))
  loc hb h := (hb _ rfl).trans h

/-! ### models of the call's own -/
structure CO where
  v : Value
  rw : Num
  brs : List Br
structure SO where
  v : Value
  owner : Int
  mark : Int
  chs : List CO
def CO.ch (c : CO) : Ch := ⟨c.rw, c.brs⟩
def SO.st (s : SO) : St := ⟨s.owner, s.mark, s.chs.map CO.ch⟩
def bcells (l : List Br) : List Value := l.flatMap fun b => [.int .i64 b.to, .int .i64 b.ch.top, .int .i64 b.ch.low]
def ccells (l : List CO) : List Value := l.flatMap fun c => [.int .i64 c.rw.top, .int .i64 c.rw.low, c.v]
def scells (l : List SO) : List Value := l.flatMap fun s => [.int .i64 s.owner, .int .i64 s.mark, s.v]
theorem flat3_len {α : Type} (f g h : α → Value) : ∀ l : List α, (l.flatMap fun a => [f a, g a, h a]).length = l.length * 3
  | [] => rfl
  | a :: l => by rw [List.flatMap_cons, List.length_append, flat3_len f g h l]; simp; omega
theorem bcells_len (l : List Br) : (bcells l).length = l.length * 3 := flat3_len _ _ _ l
theorem flat3_at {α : Type} (f g h : α → Value) : ∀ (l : List α) (i : Nat) (a : α), l[i]? = some a → (l.flatMap fun a => [f a, g a, h a])[i * 3]? = some (f a) ∧ (l.flatMap fun a => [f a, g a, h a])[i * 3 + 1]? = some (g a) ∧ (l.flatMap fun a => [f a, g a, h a])[i * 3 + 2]? = some (h a)
  | [], i, a, hh => by simp at hh
  | b :: l, 0, a, hh => by
    have : b = a := by simpa using hh
    subst this
    simp
  | b :: l, i + 1, a, hh => by
    have ih := flat3_at f g h l i a (by simpa using hh)
    have e : ∀ j, (([f b, g b, h b] ++ l.flatMap fun a => [f a, g a, h a]))[3 + j]? = (l.flatMap fun a => [f a, g a, h a])[j]? := fun j => by
      rw [List.getElem?_append_right (by simp)]; congr 1; simp
    rw [List.flatMap_cons, show (i + 1) * 3 = 3 + i * 3 by omega, show 3 + i * 3 + 1 = 3 + (i * 3 + 1) by omega, show 3 + i * 3 + 2 = 3 + (i * 3 + 2) by omega, e, e, e]
    exact ih

abbrev brRow (B : Nat) (c : CO) : Cmp := rowC B 103 3 c.v c.brs.length (bcells c.brs)
abbrev chRow (B : Nat) (s : SO) : Cmp := rowC B 97 3 s.v s.chs.length (ccells s.chs)
abbrev stRow (B : Nat) (sv : Value) (ss : List SO) : Cmp := rowC B 79 3 sv ss.length (scells ss)
def chParts (B : Nat) (s : SO) : List Cmp := chRow B s :: s.chs.map (brRow B)
def stParts (B : Nat) (ss : List SO) : List Cmp := ss.flatMap (chParts B)

/-- a row of three-cell elements reads as a slice -/
theorem own_sl3 {α β : Type} {K : Kind β} {W : World} {B : Nat} {e : TypeId} {v : Value} {l : List α} {f g h : α → Value} {D : Nat → Prop} (tf : α → β) (hK : K.sz = 3)
    (ho : W.ownsRow B e 3 v l.length (l.flatMap fun a => [f a, g a, h a])) (hD : ∀ k, v.ownBlock = some k → D k) (hr : ∀ a ∈ l, K.R W D [f a, g a, h a] (tf a)) : Sl K W D v (l.map tf) := by
  obtain ⟨A, c, rfl, h1, h2, h3⟩ := own_form ho
  refine ⟨A, c, by rw [List.length_map], by rw [List.length_map]; exact h1, h2, fun i x hx => ?_⟩
  rw [List.getElem?_map] at hx
  obtain ⟨a, ha, rfl⟩ := Option.map_eq_some_iff.1 hx
  have hlt := (List.getElem?_eq_some_iff.1 ha).1
  obtain ⟨ad, e, -, -, hob, hat⟩ := h3 (by omega)
  obtain ⟨e0, e1, e2⟩ := flat3_at f g h l i a ha
  refine ⟨ad, _, e, hD _ hob, hr a (List.mem_of_getElem? ha), fun j u hj => ?_⟩
  rw [add_of_add, hK]
  match j, hj with
  | 0, hj => simp at hj; subst hj; exact hat _ _ e0
  | 1, hj => simp at hj; subst hj; exact hat _ _ e1
  | 2, hj => simp at hj; subst hj; exact hat _ _ e2
  | j + 3, hj => simp at hj

/-- the blocks of the call's own, that may be written -/
def DB (B : Nat) (W : World) (b : Nat) : Prop := B ≤ b ∧ b < W.heap.size ∧ Soft W b
theorem own_DB {W : World} {B : Nat} {e : TypeId} {sz : Nat} {v : Value} {n : Nat} {vs : List Value} (h : W.ownsRow B e sz v n vs) : ∀ k, v.ownBlock = some k → DB B W k := fun k hk => ⟨(h.lt k hk).1, (h.lt k hk).2, own_soft h k hk⟩
theorem own_br {W : World} {B : Nat} {c : CO} (h : (brRow B c).P W) : Sl Kind.br W (DB B W) c.v c.brs := by
  have := own_sl3 (K := Kind.br) (D := DB B W) id rfl (f := fun b : Br => .int .i64 b.to) (g := fun b => .int .i64 b.ch.top) (h := fun b => .int .i64 b.ch.low) h (own_DB h) (fun a _ => rfl)
  simpa using this
theorem own_ch {W : World} {B : Nat} {s : SO} (h : (chRow B s).P W) (hb : ∀ c ∈ s.chs, (brRow B c).P W) : Sl Kind.ch W (DB B W) s.v (s.chs.map CO.ch) :=
  own_sl3 (K := Kind.ch) (D := DB B W) CO.ch rfl (f := fun c : CO => .int .i64 c.rw.top) (g := fun c => .int .i64 c.rw.low) (h := fun c => c.v) h (own_DB h) (fun c hc => ⟨c.v, rfl, own_br (hb c hc)⟩)
theorem own_st {W : World} {B : Nat} {sv : Value} {ss : List SO} (h : (stRow B sv ss).P W) (hc : ∀ s ∈ ss, (chRow B s).P W) (hb : ∀ s ∈ ss, ∀ c ∈ s.chs, (brRow B c).P W) : Sl Kind.st W (DB B W) sv (ss.map SO.st) :=
  own_sl3 (K := Kind.st) (D := DB B W) SO.st rfl (f := fun s : SO => .int .i64 s.owner) (g := fun s => .int .i64 s.mark) (h := fun s => s.v) h (own_DB h) (fun s hs => ⟨s.v, rfl, own_ch (hc s hs) (hb s hs)⟩)
theorem Sep.model {W : World} {B : Nat} {sv : Value} {ss : List SO} {l : List Cmp} (h : Sep B W (stRow B sv ss :: stParts B ss ++ l)) : Sl Kind.st W (DB B W) sv (ss.map SO.st) := by
  refine own_st (h.get (List.mem_cons_self ..)) (fun s hs => h.get ?_) (fun s hs c hc => h.get ?_)
  · exact List.mem_append_left _ (List.mem_cons_of_mem _ (List.mem_flatMap.2 ⟨s, hs, List.mem_cons_self ..⟩))
  · exact List.mem_append_left _ (List.mem_cons_of_mem _ (List.mem_flatMap.2 ⟨s, hs, List.mem_cons_of_mem _ (List.mem_map.2 ⟨c, hc, rfl⟩)⟩))

/-- what the tables say of slices of three-cell structs -/
structure Elem3 (P : Program) (t e : TypeId) (z : Value) (bytes : Nat) : Prop where
  ht : P.underlying t = some (.slice e)
  hi : ∃ i, P.info? e = some i ∧ i.zero = some z ∧ i.size = 3 ∧ i.bytes = bytes
  hz : z.cells.size = 3
theorem Elem3.mk' {P : Program} {t e : TypeId} {z : Value} {bytes : Nat} (ht : P.underlying t = some (.slice e)) (hi : (P.info? e).map (fun i => (i.zero, i.size, i.bytes)) = some (some z, 3, bytes)) (hz : z.cells.size = 3) : Elem3 P t e z bytes := by
  refine ⟨ht, ?_, hz⟩
  cases h : P.info? e with
  | none => rw [h] at hi; cases hi
  | some i =>
    rw [h] at hi
    simp only [Option.map_some, Option.some.injEq, Prod.mk.injEq] at hi
    exact ⟨i, rfl, hi.1, hi.2.1, hi.2.2⟩
theorem elem_br : Elem3 Tryz.prog 95 103 (.agg #[.int .i64 0, .int .i64 0, .int .i64 0]) 24 := Elem3.mk' Tryz.underlying95 (by kernel_rfl) rfl
theorem elem_ch : Elem3 Tryz.prog 77 97 (.agg #[.int .i64 0, .int .i64 0, .slice none 0 0]) 40 := Elem3.mk' Tryz.underlying77 (by kernel_rfl) rfl
theorem elem_st : Elem3 Tryz.prog 22 79 (.agg #[.int .i64 0, .int .i64 0, .slice none 0 0]) 40 := Elem3.mk' Tryz.underlying22 (by kernel_rfl) rfl

/-- append of one element of three cells -/
theorem run_app3 {P : Program} {w : World} {t e ty : TypeId} {z : Value} {bytes : Nat} (E : Elem3 P t e z bytes) (base : Nat) (v : Value) (n : Nat) (vs : List Value) (hown : w.ownsRow base e 3 v n vs)
    (b c : Nat) (x y u : Value) (hc : w.heap[b]? = some (.cells #[x, y, u] e (0, 0))) (h1 : x.oneCell' = true) (h2 : y.oneCell' = true) (h3 : u.oneCell' = true) (hb : (n + 1) * bytes ≤ 140737488355328) (hn : n + 1 ≤ 140737488355328) (hbase : base ≤ w.heap.size) :
    ∃ v' w', (Builtin.append_ #[t, t] ty #[v, .slice (some ⟨b, 0, none⟩) 1 c]).run P w = .ok v' w' ∧ w'.ownsRow base e 3 v' (n + 1) (vs ++ [x, y, u]) ∧ w.grownBy w' v.ownBlock ∧ (v'.ownBlock = v.ownBlock ∨ v'.ownBlock = some w.heap.size) := by
  obtain ⟨i, hi, hz, hsz, hby⟩ := E.hi
  have hat : ∀ j u', [x, y, u][j]? = some u' → w.cell? ((⟨b, 0, none⟩ : Addr).add j) = some u' := by
    intro j u' hj
    have e : (⟨b, 0, none⟩ : Addr).add j = ⟨b, j, none⟩ := by unfold Addr.add; split <;> simp_all
    rw [e]
    simp only [World.cell?, hc]
    simpa using hj
  obtain ⟨v', w', hr, r2, r3, _, r5⟩ := run_append_own_at (P := P) w base t ty e i z 3 bytes E.ht hi hz hsz hby E.hz (by decide) v n vs hown ⟨b, 0, none⟩ 1 c [x, y, u] rfl hat (by simp [h1, h2, h3]) (by simp only [maxLen]; omega) hb hbase
  exact ⟨v', w', hr, r2, r3, r5⟩
theorem wpList_app3 {P : Program} {w : World} {ops : Array Oper} {rest : List Oper} {o : Oper} {a : Act} {Q : Exit → Act → World → Prop} {t e : TypeId} {z : Value} {bytes : Nat} (E : Elem3 P t e z bytes)
    (hgd : o.guard = none) (s x : Operand) (ho : o.op = .call { callee := .builtin .append, args := #[s, x], argTypes := #[t, t] })
    (base : Nat) (v : Value) (n : Nat) (vs : List Value) (hs : a.eval s = v) (hown : w.ownsRow base e 3 v n vs)
    (b c : Nat) (x0 x1 x2 : Value) (hx : a.eval x = .slice (some ⟨b, 0, none⟩) 1 c) (hc : w.heap[b]? = some (.cells #[x0, x1, x2] e (0, 0))) (h0 : x0.oneCell' = true) (h1 : x1.oneCell' = true) (h2 : x2.oneCell' = true)
    (hb : (n + 1) * bytes ≤ 140737488355328) (hn : n + 1 ≤ 140737488355328) (hbase : base ≤ w.heap.size)
    (h : ∀ v' w', w'.ownsRow base e 3 v' (n + 1) (vs ++ [x0, x1, x2]) → w.grownBy w' v.ownBlock → (v'.ownBlock = v.ownBlock ∨ v'.ownBlock = some w.heap.size) → wpList P ops Q rest (a.put o.dst v') w') : wpList P ops Q (o :: rest) a w := by
  refine wpList_plain hgd fun _ hK => ?_
  obtain ⟨v', w', hr, r2, r3, r5⟩ := run_app3 (P := P) (ty := o.type) E base v n vs hown b c x0 x1 x2 hc h0 h1 h2 hb hn hbase
  unfold Oper.wp execOp
  simp only [ho, resolve, invoke, builtin, Sem.run_bind, Sem.run_pure, Result.andThen_ok, List.map_toArray, List.map_cons, List.map_nil, hs, hx, hr]
  exact hK _ _ (h v' w' r2 r3 r5)
theorem step_app3 {P : Program} {ops : Array Oper} {o : Oper} {a : Act} {w : World} {K : Act → World → Prop} {Q : Exit → Act → World → Prop} {F : Prop} {t e : TypeId} {z : Value} {bytes : Nat} (E : Elem3 P t e z bytes)
    (hgd : o.guard = none) (s x : Operand) (ho : o.op = .call { callee := .builtin .append, args := #[s, x], argTypes := #[t, t] })
    (base : Nat) (v : Value) (n : Nat) (vs : List Value) (hs : a.eval s = v) (hown : w.ownsRow base e 3 v n vs)
    (b c : Nat) (x0 x1 x2 : Value) (hx : a.eval x = .slice (some ⟨b, 0, none⟩) 1 c) (hc : w.heap[b]? = some (.cells #[x0, x1, x2] e (0, 0))) (h0 : x0.oneCell' = true) (h1 : x1.oneCell' = true) (h2 : x2.oneCell' = true)
    (hb : (n + 1) * bytes ≤ 140737488355328) (hn : n + 1 ≤ 140737488355328) (hbase : base ≤ w.heap.size)
    (h : ∀ v' w', w'.ownsRow base e 3 v' (n + 1) (vs ++ [x0, x1, x2]) → w.grownBy w' v.ownBlock → (v'.ownBlock = v.ownBlock ∨ v'.ownBlock = some w.heap.size) → K (a.put o.dst v') w') :
    if Region.wanted o (yielded ops a.tmps) = true then Oper.wp P o a w K Q else F := by
  have hw : Region.wanted o (yielded ops a.tmps) = true := by simp [Region.wanted, hgd]
  rw [if_pos hw]
  obtain ⟨v', w', hr, r2, r3, r5⟩ := run_app3 (P := P) (ty := o.type) E base v n vs hown b c x0 x1 x2 hc h0 h1 h2 hb hn hbase
  unfold Oper.wp execOp
  simp only [ho, resolve, invoke, builtin, Sem.run_bind, Sem.run_pure, Result.andThen_ok, List.map_toArray, List.map_cons, List.map_nil, hs, hx, hr]
  exact h v' w' r2 r3 r5

theorem cells_of {W : World} {b : Nat} {cs : Array Value} {t : TypeId} (h : W.heap[b]? = some (.cells cs t (0, 0))) : ∀ o, W.cell? ⟨b, o, none⟩ = cs[o]? ∧ W.frozen? ⟨b, o, none⟩ = false := by
  intro o
  constructor
  · simp [World.cell?, h]
  · simp [World.frozen?, h]
theorem set_of {W : World} {b : Nat} {cs : Array Value} {t : TypeId} (h : W.heap[b]? = some (.cells cs t (0, 0))) (o : Nat) (u : Value) : (W.setCell ⟨b, o, none⟩ u).heap[b]? = some (.cells (cs.setIfInBounds o u) t (0, 0)) := by
  simp [World.setCell, Array.getElem?_modify, h]
theorem own_lt_new {W W' : World} {B : Nat} {e : TypeId} {sz : Nat} {v v0 : Value} {n : Nat} {vs : List Value} (ho : W'.ownsRow B e sz v n vs) (ha : v.ownBlock = v0.ownBlock ∨ v.ownBlock = some W.heap.size) : v.ownBlock = v0.ownBlock ∨ ∀ k, v.ownBlock = some k → W.heap.size ≤ k ∧ k < W'.heap.size :=
  ha.imp id fun e k hk => ⟨by rw [e] at hk; cases hk; exact Nat.le_refl _, (ho.lt k hk).2⟩

/-- a choice is appended to the choices of a state in the making -/
theorem Sep.addChoice {B : Nat} {W w4 w5 : World} {xb : Nat} {o m : Int} {xv v4 v5 : Value} {cs : List CO} {rest : List Cmp} {rw' : Num} {brs : List Br}
    (h : Sep B W (boxC xb #[.int .i64 o, .int .i64 m, xv] 79 :: chRow B ⟨xv, o, m, cs⟩ :: (cs.map (brRow B) ++ rest))) (hB : B ≤ W.heap.size)
    (hb4 : Below W.heap.size W w4) (ho4 : w4.ownsRow W.heap.size 103 3 v4 brs.length (bcells brs)) {ob : Obj}
    (hg5 : (w4.alloc ob).grownBy w5 xv.ownBlock) (ho5 : w5.ownsRow B 97 3 v5 (cs.length + 1) (ccells cs ++ [.int .i64 rw'.top, .int .i64 rw'.low, v4])) (ha5 : v5.ownBlock = xv.ownBlock ∨ v5.ownBlock = some (w4.alloc ob).heap.size) :
    Sep B (w5.setCell ⟨xb, 2, none⟩ v5) (boxC xb #[.int .i64 o, .int .i64 m, v5] 79 :: chRow B ⟨v5, o, m, cs ++ [(⟨v4, rw', brs⟩ : CO)]⟩ :: ((cs ++ [(⟨v4, rw', brs⟩ : CO)]).map (brRow B) ++ rest)) := by
  have hB4 : B ≤ w4.heap.size := Nat.le_trans hB hb4.size
  have h1 : Sep B w4 (brRow B (⟨v4, rw', brs⟩ : CO) :: boxC xb #[.int .i64 o, .int .i64 m, xv] 79 :: chRow B ⟨xv, o, m, cs⟩ :: (cs.map (brRow B) ++ rest)) :=
    h.add hb4 (own_lower ho4 hB) (fun k hk => ⟨(ho4.lt k hk).1, (ho4.lt k hk).2⟩) hB
  have h2 := h1.below ((Below.refl w4.heap.size w4).alloc (Nat.le_refl _) ob)
  have h3 : Sep B (w4.alloc ob) (chRow B ⟨xv, o, m, cs⟩ :: brRow B (⟨v4, rw', brs⟩ : CO) :: boxC xb #[.int .i64 o, .int .i64 m, xv] 79 :: (cs.map (brRow B) ++ rest)) := h2.perm (List.perm_middle (l₁ := [brRow B (⟨v4, rw', brs⟩ : CO), boxC xb #[.int .i64 o, .int .i64 m, xv] 79]))
  have h4 := h3.upd (c' := chRow B ⟨v5, o, m, cs ++ [(⟨v4, rw', brs⟩ : CO)]⟩) hg5 (by
    show w5.ownsRow B _ 3 v5 (cs ++ [(⟨v4, rw', brs⟩ : CO)]).length (ccells (cs ++ [(⟨v4, rw', brs⟩ : CO)]))
    rw [show ccells (cs ++ [(⟨v4, rw', brs⟩ : CO)]) = ccells cs ++ [.int .i64 rw'.top, .int .i64 rw'.low, v4] from by simp [ccells], List.length_append]
    exact ho5) (own_lt_new ho5 ha5) (by simp; omega)
  have h5 : Sep B w5 (boxC xb #[.int .i64 o, .int .i64 m, xv] 79 :: chRow B ⟨v5, o, m, cs ++ [(⟨v4, rw', brs⟩ : CO)]⟩ :: brRow B (⟨v4, rw', brs⟩ : CO) :: (cs.map (brRow B) ++ rest)) := h4.perm (List.perm_middle (l₁ := [chRow B ⟨v5, o, m, cs ++ [(⟨v4, rw', brs⟩ : CO)]⟩, brRow B (⟨v4, rw', brs⟩ : CO)]))
  have hbx : w5.heap[xb]? = some (.cells #[.int .i64 o, .int .i64 m, xv] 79 (0, 0)) := h5.get (List.mem_cons_self ..)
  have hB5 : B ≤ w5.heap.size := by have := hg5.size; simp at this; omega
  have h6 := h5.upd (c' := boxC xb #[.int .i64 o, .int .i64 m, v5] 79) (grown_set w5 xb 2 v5) (set_of hbx 2 v5) (.inl rfl) hB5
  refine h6.perm (List.Perm.cons _ (List.Perm.cons _ ?_))
  rw [List.map_append, List.map_singleton, List.append_assoc]
  exact List.perm_middle.symm

/-- a state is appended to the states of a model in the making -/
theorem Sep.addState {B : Nat} {W w5 : World} {xb ob : Nat} {o m : Int} {xv sv v5 : Value} {cs : List CO} {ss : List SO} {sx rb : Cmp} {obj : Obj}
    (h : Sep B W (boxC xb #[.int .i64 o, .int .i64 m, xv] 79 :: chRow B ⟨xv, o, m, cs⟩ :: (cs.map (brRow B) ++ (sx :: boxC ob #[sv] 24 :: rb :: stRow B sv ss :: stParts B ss)))) (hB : B ≤ W.heap.size)
    (hg5 : (W.alloc obj).grownBy w5 sv.ownBlock) (ho5 : w5.ownsRow B 79 3 v5 (ss.length + 1) (scells ss ++ [.int .i64 o, .int .i64 m, xv])) (ha5 : v5.ownBlock = sv.ownBlock ∨ v5.ownBlock = some (W.alloc obj).heap.size) :
    Sep B (w5.setCell ⟨ob, 0, none⟩ v5) (boxC ob #[v5] 24 :: rb :: stRow B v5 (ss ++ [⟨xv, o, m, cs⟩]) :: stParts B (ss ++ [⟨xv, o, m, cs⟩])) := by
  have h1 : Sep B W (chRow B ⟨xv, o, m, cs⟩ :: (cs.map (brRow B) ++ (sx :: boxC ob #[sv] 24 :: rb :: stRow B sv ss :: stParts B ss))) := h.sub (List.sublist_cons_self _ _)
  have h2 : Sep B W ((chRow B ⟨xv, o, m, cs⟩ :: cs.map (brRow B)) ++ (boxC ob #[sv] 24 :: rb :: stRow B sv ss :: stParts B ss)) := h1.sub ((List.Sublist.append_left (List.sublist_cons_self _ _) (chRow B ⟨xv, o, m, cs⟩ :: cs.map (brRow B))))
  have h3 : Sep B W (stRow B sv ss :: boxC ob #[sv] 24 :: rb :: (stParts B ss ++ chParts B ⟨xv, o, m, cs⟩)) := by
    refine h2.perm ?_
    show (chParts B ⟨xv, o, m, cs⟩ ++ (boxC ob #[sv] 24 :: rb :: stRow B sv ss :: stParts B ss)).Perm _
    refine List.perm_append_comm.trans ?_
    exact (List.perm_middle (l₁ := [boxC ob #[sv] 24, rb]) (l₂ := stParts B ss ++ chParts B ⟨xv, o, m, cs⟩))
  have h4 := (h3.below ((Below.refl W.heap.size W).alloc (Nat.le_refl _) obj)).upd (c' := stRow B v5 (ss ++ [⟨xv, o, m, cs⟩])) hg5 (by
    show w5.ownsRow B _ 3 v5 (ss ++ [_]).length (scells (ss ++ [_]))
    rw [show scells (ss ++ [(⟨xv, o, m, cs⟩ : SO)]) = scells ss ++ [.int .i64 o, .int .i64 m, xv] from by simp [scells], List.length_append]
    exact ho5) (own_lt_new ho5 ha5) (by simp; omega)
  have h5 : Sep B w5 (boxC ob #[sv] 24 :: stRow B v5 (ss ++ [⟨xv, o, m, cs⟩]) :: rb :: (stParts B ss ++ chParts B ⟨xv, o, m, cs⟩)) := h4.perm (List.Perm.swap _ _ _)
  have hbx : w5.heap[ob]? = some (.cells #[sv] 24 (0, 0)) := h5.get (List.mem_cons_self ..)
  have hB5 : B ≤ w5.heap.size := by have := hg5.size; simp at this; omega
  have h6 := h5.upd (c' := boxC ob #[v5] 24) (grown_set w5 ob 0 v5) (set_of hbx 0 v5) (.inl rfl) hB5
  refine h6.perm (List.Perm.cons _ ?_)
  rw [show stParts B (ss ++ [(⟨xv, o, m, cs⟩ : SO)]) = stParts B ss ++ chParts B ⟨xv, o, m, cs⟩ from by simp [stParts]]
  exact List.Perm.swap _ _ _

end Go.Proofs.YtoffbdlgmnpblaaGreat

/- Package model: Own, Kept, Copy. -/
namespace Go.Proofs.YtoffbdlgmnpblaaGreat
open Go.RowKit
set_option maxHeartbeats 4000000
set_option maxRecDepth 100000

theorem bcells_at {l : List Br} : ∀ {j : Nat} {u : Value}, (bcells l)[j]? = some u → ∃ b, l[j / 3]? = some b ∧ [Value.int .i64 b.to, .int .i64 b.ch.top, .int .i64 b.ch.low][j % 3]? = some u := by
  intro j u h
  have hlt := (List.getElem?_eq_some_iff.1 h).1
  rw [bcells_len] at hlt
  obtain ⟨b, hb⟩ : ∃ b, l[j / 3]? = some b := ⟨_, List.getElem?_eq_getElem (by omega)⟩
  obtain ⟨e0, e1, e2⟩ := flat3_at (fun b : Br => Value.int .i64 b.to) (fun b => .int .i64 b.ch.top) (fun b => .int .i64 b.ch.low) l (j / 3) b hb
  refine ⟨b, hb, ?_⟩
  have hj : j = j / 3 * 3 + j % 3 := by omega
  have h3 : j % 3 = 0 ∨ j % 3 = 1 ∨ j % 3 = 2 := by omega
  rcases h3 with h3 | h3 | h3
  · rw [h3] at hj ⊢; rw [hj, Nat.add_zero] at h; rw [← h]; exact e0.symm
  · rw [h3] at hj ⊢; rw [hj] at h; rw [← h]; exact e1.symm
  · rw [h3] at hj ⊢; rw [hj] at h; rw [← h]; exact e2.symm
theorem Sl.br_cells {w : World} {D : Nat → Prop} {ad : Addr} {n c : Nat} {l : List Br} (h : Sl Kind.br w D (.slice (some ad) n c) l) : ∀ j u, (bcells l)[j]? = some u → w.cell? (ad.add j) = some u := by
  intro j u hj
  obtain ⟨b, hb, hu⟩ := bcells_at hj
  obtain ⟨A', c', e, -, -, h3⟩ := h
  injection e with e1 e2 e3
  subst e1
  obtain ⟨ad', cs, e, -, hr, hat⟩ := h3 _ b hb
  injection e with e
  subst e
  have hr : cs = [.int .i64 b.to, .int .i64 b.ch.top, .int .i64 b.ch.low] := hr
  subst hr
  have := hat _ _ hu
  rw [add_of_add, show j / 3 * Kind.br.sz + j % 3 = j from by show j / 3 * 3 + j % 3 = j; omega] at this
  exact this
theorem bcells_one {l : List Br} : ∀ u ∈ bcells l, u.oneCell' = true := by
  intro u hu
  obtain ⟨b, -, hb⟩ := List.mem_flatMap.1 hu
  simp only [List.mem_cons, List.not_mem_nil, or_false] at hb
  rcases hb with rfl | rfl | rfl <;> rfl

theorem own_empty (w : World) (B : Nat) (hB : B ≤ w.heap.size) (e : TypeId) (sz : Nat) : (w.alloc (.cells #[] e)).ownsRow B e sz (.slice (some ⟨w.heap.size, 0, none⟩) 0 0) 0 [] :=
  ⟨by simp, .inr ⟨w.heap.size, 0, #[], rfl, hB, heap_alloc_new w _, Nat.le_refl _, Nat.zero_le _, by simp, by simp⟩⟩

/-- three cells of a block, through a region -/
abbrev Held3 (b : Nat) (x y z : Value) (V : World) : Prop := V.cell? ⟨b, 0, none⟩ = some x ∧ V.cell? ⟨b, 1, none⟩ = some y ∧ V.cell? ⟨b, 2, none⟩ = some z ∧ b < V.heap.size
theorem Held3.below {b : Nat} {x y z : Value} {V V' : World} (h : Held3 b x y z V) (hb : Below V.heap.size V V') : Held3 b x y z V' := by
  obtain ⟨h1, h2, h3, h4⟩ := h
  exact ⟨(hb.cell (p := ⟨b, 0, none⟩) h4).trans h1, (hb.cell (p := ⟨b, 1, none⟩) h4).trans h2, (hb.cell (p := ⟨b, 2, none⟩) h4).trans h3, Nat.lt_of_lt_of_le h4 hb.size⟩
end Go.Proofs.YtoffbdlgmnpblaaGreat

/- Package model: Kept, Copy. -/
namespace Go.Proofs.YtoffbdlgmnpblaaGreat
open Go.RowKit
set_option maxHeartbeats 4000000
set_option maxRecDepth 100000

/-- the first choices of a state that are kept -/
def keptTo (keep : Nat → Nat → Bool) (i : Nat) (chs : List Ch) (k : Nat) : List Ch := ((chs.take k).zipIdx.filter fun p => keep i p.2).map (·.1)
def keptSt (keep : Nat → Nat → Bool) (i : Nat) (s : St) : St := ⟨s.owner, s.mark, keptTo keep i s.chs s.chs.length⟩
def keptM (keep : Nat → Nat → Bool) (m : List St) : List St := m.zipIdx.map fun p => keptSt keep p.2 p.1
theorem keptTo_yes {keep : Nat → Nat → Bool} {i : Nat} {chs : List Ch} {k : Nat} {x : Ch} (h : chs[k]? = some x) (hk : keep i k = true) : keptTo keep i chs (k + 1) = keptTo keep i chs k ++ [x] := by
  obtain ⟨hlt, e⟩ := List.getElem?_eq_some_iff.1 h
  unfold keptTo
  rw [List.take_add_one, h, List.zipIdx_append, List.filter_append, List.map_append]
  simp [List.length_take, Nat.min_eq_left (Nat.le_of_lt hlt), hk]
theorem keptM_snoc {keep : Nat → Nat → Bool} {m : List St} {j : Nat} {s : St} (h : m[j]? = some s) : keptM keep (m.take (j + 1)) = keptM keep (m.take j) ++ [keptSt keep j s] := by
  obtain ⟨hlt, e⟩ := List.getElem?_eq_some_iff.1 h
  unfold keptM
  rw [List.take_add_one, h, List.zipIdx_append, List.map_append]
  simp [List.length_take, Nat.min_eq_left (Nat.le_of_lt hlt)]
theorem keptTo_all (i : Nat) (chs : List Ch) (k : Nat) : keptTo (fun _ _ => true) i chs k = chs.take k := by
  unfold keptTo
  rw [List.filter_eq_self.2 (fun _ _ => rfl), List.zipIdx_map_fst]
theorem keptM_all (m : List St) : keptM (fun _ _ => true) m = m := by
  unfold keptM
  have e : ∀ p : St × Nat, keptSt (fun _ _ => true) p.2 p.1 = p.1 := fun p => by
    unfold keptSt
    rw [keptTo_all, List.take_length]
  rw [show (fun p : St × Nat => keptSt (fun _ _ => true) p.2 p.1) = Prod.fst from funext e, List.zipIdx_map_fst]

/-- what the choices' loop holds -/
abbrev KRow (w W : World) (rb ob xb : Nat) (o m : Int) (xv : Value) (cs : List CO) (sx : Cmp) (sv : Value) (ss : List SO) : Prop :=
  Sep w.heap.size W (boxC xb #[.int .i64 o, .int .i64 m, xv] 79 :: chRow w.heap.size ⟨xv, o, m, cs⟩ :: (cs.map (brRow w.heap.size) ++ (sx :: boxC ob #[sv] 24 :: boxC rb #[.slice none 0 0] 24 :: stRow w.heap.size sv ss :: stParts w.heap.size ss)))
/-- what the states' loop holds -/
abbrev KOut (w W : World) (rb ob : Nat) (sv : Value) (ss : List SO) : Prop :=
  Sep w.heap.size W (boxC ob #[sv] 24 :: boxC rb #[.slice none 0 0] 24 :: stRow w.heap.size sv ss :: stParts w.heap.size ss)
theorem KOut.start (w : World) (a b c : Value) (hb : b = .slice none 0 0) (hc : c = .slice none 0 0) (t : TypeId) : KOut w (((w.alloc (.cells #[a] t)).alloc (.cells #[b] 24)).alloc (.cells #[c] 24)) (w.heap.size + 1) (w.heap.size + 1 + 1) (.slice none 0 0) [] := by
  subst hb hc
  have h0 : Sep w.heap.size w [stRow w.heap.size (.slice none 0 0) []] := (Sep.nil _ _).add (c := stRow w.heap.size (.slice none 0 0) []) (Below.refl _ _) (World.ownsRow_nil _ _ _ _) (fun k hk => by cases hk) (Nat.le_refl _)
  have h1 := h0.below ((Below.refl w.heap.size w).alloc (Nat.le_refl _) (.cells #[a] t))
  have h2 := h1.add (c := boxC (w.heap.size + 1) #[.slice none 0 0] 24) ((Below.refl _ (w.alloc (.cells #[a] t))).alloc (Nat.le_refl _) (.cells #[.slice none 0 0] 24)) (by
    have := heap_alloc_new (w.alloc (.cells #[a] t)) (.cells #[.slice none 0 0] 24)
    rwa [World.size_alloc] at this) (fun k hk => by cases hk; simp) (by simp)
  exact h2.add (c := boxC (w.heap.size + 1 + 1) #[.slice none 0 0] 24) ((Below.refl _ _).alloc (Nat.le_refl _) (.cells #[.slice none 0 0] 24)) (by
    have := heap_alloc_new ((w.alloc (.cells #[a] t)).alloc (.cells #[.slice none 0 0] 24)) (.cells #[.slice none 0 0] 24)
    rwa [World.size_alloc, World.size_alloc] at this) (fun k hk => by cases hk; simp) (by simp; omega)
/-- a state is opened -/
theorem KOut.open {w W : World} {rb ob : Nat} {sv : Value} {ss : List SO} (h : KOut w W rb ob sv ss) (hB : w.heap.size ≤ W.heap.size) (o m : Int) (u z : Value) (hz : z = .slice none 0 0) :
    KRow w ((W.alloc (.cells #[.int .i64 o, .int .i64 m, u] 79)).alloc (.cells #[.int .i64 o, .int .i64 m, z] 79)) rb ob (W.heap.size + 1) o m (.slice none 0 0) [] (boxC W.heap.size #[.int .i64 o, .int .i64 m, u] 79) sv ss := by
  subst hz
  have h1 := Sep.add h (c := boxC W.heap.size #[.int .i64 o, .int .i64 m, u] 79) ((Below.refl _ W).alloc (Nat.le_refl _) (.cells #[.int .i64 o, .int .i64 m, u] 79)) (heap_alloc_new _ _) (fun k hk => by cases hk; simp) hB
  have hB1 : w.heap.size ≤ (W.alloc (.cells #[.int .i64 o, .int .i64 m, u] 79)).heap.size := by simp; omega
  have h2 := h1.add (c := chRow w.heap.size ⟨.slice none 0 0, o, m, []⟩) (Below.refl _ _) (World.ownsRow_nil _ _ _ _) (fun k hk => by cases hk) hB1
  exact h2.add (c := boxC (W.heap.size + 1) #[.int .i64 o, .int .i64 m, .slice none 0 0] 79) ((Below.refl _ _).alloc (Nat.le_refl _) (.cells #[.int .i64 o, .int .i64 m, .slice none 0 0] 79)) (by
    have := heap_alloc_new (W.alloc (.cells #[.int .i64 o, .int .i64 m, u] 79)) (.cells #[.int .i64 o, .int .i64 m, .slice none 0 0] 79)
    rwa [World.size_alloc] at this) (fun k hk => by cases hk; simp) hB1

section
variable {w W : World} {rb ob xb : Nat} {o m : Int} {xv sv : Value} {cs : List CO} {sx : Cmp} {ss : List SO}
theorem k_x (h : KRow w W rb ob xb o m xv cs sx sv ss) : W.heap[xb]? = some (.cells #[.int .i64 o, .int .i64 m, xv] 79 (0, 0)) := h.get (List.mem_cons_self ..)
theorem k_ch (h : KRow w W rb ob xb o m xv cs sx sv ss) : W.ownsRow w.heap.size 97 3 xv cs.length (ccells cs) := h.get (c := chRow w.heap.size ⟨xv, o, m, cs⟩) (List.mem_cons_of_mem _ (List.mem_cons_self ..))
theorem k_ob (h : KRow w W rb ob xb o m xv cs sx sv ss) : W.heap[ob]? = some (.cells #[sv] 24 (0, 0)) := h.get (c := boxC ob #[sv] 24) (List.mem_cons_of_mem _ (List.mem_cons_of_mem _ (List.mem_append_right _ (List.mem_cons_of_mem _ (List.mem_cons_self ..)))))
theorem k_st (h : KRow w W rb ob xb o m xv cs sx sv ss) : W.ownsRow w.heap.size 79 3 sv ss.length (scells ss) := h.get (c := stRow w.heap.size sv ss) (List.mem_cons_of_mem _ (List.mem_cons_of_mem _ (List.mem_append_right _ (List.mem_cons_of_mem _ (List.mem_cons_of_mem _ (List.mem_cons_of_mem _ (List.mem_cons_self ..)))))))
theorem k_lt (h : KRow w W rb ob xb o m xv cs sx sv ss) : w.heap.size ≤ ob ∧ ob < W.heap.size ∧ w.heap.size ≤ xb ∧ xb < W.heap.size ∧ (∀ k, xv.ownBlock = some k → w.heap.size ≤ k ∧ k ≠ xb ∧ k ≠ ob) ∧ (∀ k, sv.ownBlock = some k → w.heap.size ≤ k ∧ k ≠ xb ∧ k ≠ ob) := by
  have mo : boxC ob #[sv] 24 ∈ (boxC xb #[.int .i64 o, .int .i64 m, xv] 79 :: chRow w.heap.size ⟨xv, o, m, cs⟩ :: (cs.map (brRow w.heap.size) ++ (sx :: boxC ob #[sv] 24 :: boxC rb #[.slice none 0 0] 24 :: stRow w.heap.size sv ss :: stParts w.heap.size ss))) := List.mem_cons_of_mem _ (List.mem_cons_of_mem _ (List.mem_append_right _ (List.mem_cons_of_mem _ (List.mem_cons_self ..))))
  have h1 := Sep.lt h mo (k := ob) rfl
  have h2 := Sep.lt h (List.mem_cons_self ..) (k := xb) rfl
  have ap := h.apart
  obtain ⟨a1, ap2⟩ := List.pairwise_cons.1 ap
  obtain ⟨a2, ap3⟩ := List.pairwise_cons.1 ap2
  have ap4 := (List.pairwise_append.1 ap3).2.1
  obtain ⟨-, ap5⟩ := List.pairwise_cons.1 ap4
  obtain ⟨a4, -⟩ := List.pairwise_cons.1 ap5
  refine ⟨h1.1, h1.2, h2.1, h2.2, fun k hk => ⟨(h.lt (c := chRow w.heap.size ⟨xv, o, m, cs⟩) (List.mem_cons_of_mem _ (List.mem_cons_self ..)) hk).1, fun e => ?_, fun e => ?_⟩, fun k hk => ⟨(h.lt (c := stRow w.heap.size sv ss) (List.mem_cons_of_mem _ (List.mem_cons_of_mem _ (List.mem_append_right _ (List.mem_cons_of_mem _ (List.mem_cons_of_mem _ (List.mem_cons_of_mem _ (List.mem_cons_self ..))))))) hk).1, fun e => ?_, fun e => ?_⟩⟩
  · subst e; exact a1 (chRow w.heap.size ⟨xv, o, m, cs⟩) (List.mem_cons_self ..) k rfl hk
  · subst e; exact a2 (boxC k #[sv] 24) (List.mem_append_right _ (List.mem_cons_of_mem _ (List.mem_cons_self ..))) k hk rfl
  · subst e; exact a1 (stRow w.heap.size sv ss) (List.mem_cons_of_mem _ (List.mem_append_right _ (List.mem_cons_of_mem _ (List.mem_cons_of_mem _ (List.mem_cons_of_mem _ (List.mem_cons_self ..)))))) k rfl hk
  · subst e; exact a4 (stRow w.heap.size sv ss) (List.mem_cons_of_mem _ (List.mem_cons_self ..)) k rfl hk
end
theorem keptTo_len (keep : Nat → Nat → Bool) (i : Nat) (chs : List Ch) (k : Nat) : (keptTo keep i chs k).length ≤ chs.length := by
  unfold keptTo
  rw [List.length_map]
  refine Nat.le_trans (List.length_filter_le _ _) ?_
  rw [List.length_zipIdx, List.length_take]
  omega
/-- three cells of a box -/
theorem held_box {W : World} {b : Nat} {x y z : Value} {t : TypeId} (h : W.heap[b]? = some (.cells #[x, y, z] t (0, 0))) (hb : b < W.heap.size) : Held3 b x y z W :=
  ⟨(cells_of h 0).1, (cells_of h 1).1, (cells_of h 2).1, hb⟩

end Go.Proofs.YtoffbdlgmnpblaaGreat

/- Package model: Copy. -/
namespace Go.Proofs.YtoffbdlgmnpblaaGreat
open Go.RowKit
set_option maxHeartbeats 4000000
set_option maxRecDepth 100000

def rowOf (B : Nat) (t : TypeId × Value × Nat × List Value) : Cmp := rowC B t.1 3 t.2.1 t.2.2.1 t.2.2.2
theorem Sep.lower {B B' : Nat} {W : World} {l : List (TypeId × Value × Nat × List Value)} (h : Sep B W (l.map (rowOf B))) (hB : B' ≤ B) : Sep B' W (l.map (rowOf B')) := by
  refine ⟨fun c hc => ?_, List.pairwise_map.2 (List.pairwise_map.1 h.apart)⟩
  obtain ⟨t, ht, rfl⟩ := List.mem_map.1 hc
  obtain ⟨h1, h2⟩ := h.all _ (List.mem_map_of_mem ht)
  exact ⟨own_lower h1 hB, fun k hk => ⟨Nat.le_trans hB (h2 k hk).1, (h2 k hk).2⟩⟩
def chItems (s : SO) : List (TypeId × Value × Nat × List Value) := (97, s.v, s.chs.length, ccells s.chs) :: s.chs.map fun c => (103, c.v, c.brs.length, bcells c.brs)
def stItems (sv : Value) (ss : List SO) : List (TypeId × Value × Nat × List Value) := (79, sv, ss.length, scells ss) :: ss.flatMap chItems
theorem stItems_map (B : Nat) (sv : Value) (ss : List SO) : (stItems sv ss).map (rowOf B) = stRow B sv ss :: stParts B ss := by
  have h : ∀ l : List SO, (l.flatMap chItems).map (rowOf B) = stParts B l := by
    intro l
    induction l with
    | nil => rfl
    | cons s l ih =>
      rw [List.flatMap_cons, List.map_append, ih]
      show _ = chParts B s ++ stParts B l
      congr 1
      unfold chItems chParts
      rw [List.map_cons, List.map_map]
      rfl
  unfold stItems
  rw [List.map_cons, h]
  rfl
theorem Sep.lowerM {B B' : Nat} {W : World} {sv : Value} {ss : List SO} (h : Sep B W (stRow B sv ss :: stParts B ss)) (hB : B' ≤ B) : Sep B' W (stRow B' sv ss :: stParts B' ss) := by
  rw [← stItems_map] at h ⊢
  exact h.lower hB

/-- a cell below the parts is written -/
theorem Sep.upd' {B : Nat} {W : World} {l : List Cmp} (h : Sep B W l) (b : Nat) (hb : b < B) (o : Nat) (u : Value) : Sep B (W.setCell ⟨b, o, none⟩ u) l :=
  h.kept (fun k hk _ => Below.heap_setCell _ _ _ _ (by show k ≠ b; omega)) (by simp [World.setCell])

end Go.Proofs.YtoffbdlgmnpblaaGreat

/- Package slices: Index; what graph.Cut needs of memory. -/
namespace Go.Proofs.YtoffbdlgmnpblaaGreat
open Go.RowKit
set_option maxHeartbeats 4000000
set_option maxRecDepth 100000

/-! ### the plain functions -/
def placeOf (l : List Int) (t : Int) : Int := idxI (fun x => decide (t = x)) l
def cutBr (l : List Int) (b : Br) : Br := ⟨placeOf l b.to, b.ch⟩
def cutTo (l : List Int) (q : Nat) (c : CO) : CO := ⟨c.v, c.rw, (c.brs.take q).map (cutBr l) ++ c.brs.drop q⟩
def cutCO (l : List Int) (c : CO) : CO := ⟨c.v, c.rw, c.brs.map (cutBr l)⟩
def cutSO (l : List Int) (s : SO) : SO := ⟨s.v, s.owner, s.mark, s.chs.map (cutCO l)⟩
theorem cutTo_all (l : List Int) (c : CO) : cutTo l c.brs.length c = cutCO l c := by
  unfold cutTo cutCO
  rw [List.take_length, List.drop_length, List.append_nil]
theorem ccells_cut (l : List Int) (cs : List CO) : ccells (cs.map (cutCO l)) = ccells cs := by
  unfold ccells
  rw [List.flatMap_map]
  rfl
theorem scells_cut (l : List Int) (ss : List SO) : scells (ss.map (cutSO l)) = scells ss := by
  unfold scells
  rw [List.flatMap_map]
  rfl
/-! ### states picked by a rising list -/
theorem flat_sub {α β : Type} (f : α → List β) {l l' : List α} (h : l.Sublist l') : (l.flatMap f).Sublist (l'.flatMap f) := by
  induction h with
  | slnil => exact List.Sublist.refl _
  | cons a _ ih => rw [List.flatMap_cons]; exact ih.trans (List.sublist_append_right _ _)
  | cons_cons a _ ih => rw [List.flatMap_cons, List.flatMap_cons]; exact (List.Sublist.refl _).append ih

/-- the parts of states: the rows of choices, then the rows of branches -/
theorem stParts_perm (B : Nat) : ∀ ss : List SO, (stParts B ss).Perm (ss.map (chRow B) ++ (ss.flatMap (·.chs)).map (brRow B))
  | [] => List.Perm.refl _
  | s :: ss => by
    have ih := stParts_perm B ss
    show (chParts B s ++ stParts B ss).Perm _
    rw [List.flatMap_cons, List.map_append, List.map_cons]
    show (chRow B s :: (s.chs.map (brRow B) ++ stParts B ss)).Perm (chRow B s :: (ss.map (chRow B) ++ (s.chs.map (brRow B) ++ (ss.flatMap (·.chs)).map (brRow B))))
    refine List.Perm.cons _ ?_
    refine (List.Perm.append_left _ ih).trans ?_
    rw [← List.append_assoc, ← List.append_assoc]
    exact List.Perm.append_right _ List.perm_append_comm
theorem chRow_cut (B : Nat) (l : List Int) (s : SO) : chRow B (cutSO l s) = chRow B s := by
  show rowC B _ 3 s.v (s.chs.map (cutCO l)).length (ccells (s.chs.map (cutCO l))) = _
  rw [ccells_cut, List.length_map]
theorem stRow_cut (B : Nat) (l : List Int) (v : Value) (ss : List SO) : stRow B v (ss.map (cutSO l)) = stRow B v ss := by
  show rowC B _ 3 v (ss.map (cutSO l)).length (scells (ss.map (cutSO l))) = _
  rw [scells_cut, List.length_map]
theorem stParts_cut (B : Nat) (l : List Int) (ss : List SO) : (stParts B (ss.map (cutSO l))).Perm (ss.map (chRow B) ++ ((ss.flatMap (·.chs)).map (cutCO l)).map (brRow B)) := by
  refine (stParts_perm B _).trans (List.Perm.of_eq ?_)
  congr 1
  · rw [List.map_map]; exact List.map_congr_left fun s _ => chRow_cut B l s
  · congr 1
    rw [List.flatMap_map, List.map_flatMap]
    rfl

/-! ### a cell of a row of three-cell elements -/
/-! ### slices.Index -/
end Go.Proofs.YtoffbdlgmnpblaaGreat
