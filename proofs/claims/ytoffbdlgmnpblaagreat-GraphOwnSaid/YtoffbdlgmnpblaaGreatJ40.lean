/- Part 40 of 55: Sep. -/
import Derived.Test.YtoffbdlgmnpblaaGreatJ39

/- Parts of memory that lie apart; models of the call's own. -/
namespace Go.Proofs.YtoffbdlgmnpblaaGreat
open Go.RowKit
set_option maxHeartbeats 1000000

/-- a part of memory in one block -/
structure Cmp where
  blk : Option Nat
  P : World → Prop
  loc : ∀ {W W' : World}, (∀ k, blk = some k → W'.heap[k]? = W.heap[k]?) → P W → P W'

/-- the parts hold, each in a block of its own from B on -/
structure Sep (B : Nat) (W : World) (l : List Cmp) : Prop where
  all : ∀ c ∈ l, c.P W ∧ ∀ k, c.blk = some k → B ≤ k ∧ k < W.heap.size
  apart : l.Pairwise (fun c d => ∀ k, c.blk = some k → d.blk ≠ some k)

section
variable {B : Nat} {W W' : World} {l l' : List Cmp} {c c' : Cmp}
theorem Sep.nil (B : Nat) (W : World) : Sep B W [] := ⟨fun _ h => (List.not_mem_nil h).elim, .nil⟩
theorem Sep.kept (h : Sep B W l) (hb : ∀ k, B ≤ k → k < W.heap.size → W'.heap[k]? = W.heap[k]?) (hs : W.heap.size ≤ W'.heap.size) : Sep B W' l :=
  ⟨fun c hc => ⟨c.loc (fun k hk => hb k ((h.all c hc).2 k hk).1 ((h.all c hc).2 k hk).2) (h.all c hc).1, fun k hk => ⟨((h.all c hc).2 k hk).1, Nat.lt_of_lt_of_le ((h.all c hc).2 k hk).2 hs⟩⟩, h.apart⟩
theorem Sep.below (h : Sep B W l) (hb : Below W.heap.size W W') : Sep B W' l := h.kept (fun k _ hk => hb.block k hk) hb.size
theorem Sep.perm (h : Sep B W l) (hp : l.Perm l') : Sep B W l' :=
  ⟨fun c hc => h.all c (hp.mem_iff.2 hc), hp.pairwise h.apart (fun {_ _} hxy k hk e => hxy k e hk)⟩
theorem Sep.sub (h : Sep B W l) (hp : l'.Sublist l) : Sep B W l' := ⟨fun c hc => h.all c (hp.subset hc), h.apart.sublist hp⟩
theorem Sep.get (h : Sep B W l) (hc : c ∈ l) : c.P W := (h.all c hc).1
theorem Sep.lt (h : Sep B W l) (hc : c ∈ l) {k : Nat} (hk : c.blk = some k) : B ≤ k ∧ k < W.heap.size := (h.all c hc).2 k hk
/-- the first part turns -/
theorem Sep.upd (h : Sep B W (c :: l)) (hg : W.grownBy W' c.blk) (hP : c'.P W') (ha : c'.blk = c.blk ∨ ∀ k, c'.blk = some k → W.heap.size ≤ k ∧ k < W'.heap.size) (hB : B ≤ W.heap.size) : Sep B W' (c' :: l) := by
  obtain ⟨hall, hap⟩ := h
  obtain ⟨h1, h2⟩ := List.pairwise_cons.1 hap
  refine ⟨fun d hd => ?_, List.pairwise_cons.2 ⟨fun d hd k hk e => ?_, h2⟩⟩
  · rcases List.mem_cons.1 hd with rfl | hd
    · refine ⟨hP, fun k hk => ?_⟩
      rcases ha with ha | ha
      · have := (hall c (List.mem_cons_self ..)).2 k (ha ▸ hk)
        exact ⟨this.1, Nat.lt_of_lt_of_le this.2 hg.size⟩
      · exact ⟨Nat.le_trans hB (ha k hk).1, (ha k hk).2⟩
    · have hd' := hall d (List.mem_cons_of_mem _ hd)
      exact ⟨d.loc (fun k hk => hg.block k (hd'.2 k hk).2 fun e => h1 d hd k e.symm hk) hd'.1, fun k hk => ⟨(hd'.2 k hk).1, Nat.lt_of_lt_of_le (hd'.2 k hk).2 hg.size⟩⟩
  · rcases ha with ha | ha
    · exact h1 d hd k (ha ▸ hk) e
    · have := ((hall d (List.mem_cons_of_mem _ hd)).2 k e).2
      have := (ha k hk).1
      omega
/-- a part is made -/
theorem Sep.add (h : Sep B W l) (hb : Below W.heap.size W W') (hP : c.P W') (ha : ∀ k, c.blk = some k → W.heap.size ≤ k ∧ k < W'.heap.size) (hB : B ≤ W.heap.size) : Sep B W' (c :: l) := by
  have h' := h.below hb
  refine ⟨fun d hd => ?_, List.pairwise_cons.2 ⟨fun d hd k hk e => ?_, h'.apart⟩⟩
  · rcases List.mem_cons.1 hd with rfl | hd
    · exact ⟨hP, fun k hk => ⟨Nat.le_trans hB (ha k hk).1, (ha k hk).2⟩⟩
    · exact h'.all d hd
  · have := (h.lt hd e).2
    have := (ha k hk).1
    omega
/-- outside of the parts nothing turns where one of them does -/
theorem Sep.below_of (h : Sep B W (c :: l)) {w : World} {b : Nat} (hw : Below b w W) (hbB : b ≤ B) (hg : W.grownBy W' c.blk) (hbW : b ≤ W.heap.size) : Below b w W' :=
  hw.grown hg hbW fun _ hk => Nat.le_trans hbB (h.lt (List.mem_cons_self ..) hk).1
theorem Sep.mid (h : Sep B W (l ++ c :: l')) : Sep B W (c :: (l ++ l')) := h.perm List.perm_middle
theorem Sep.unmid (h : Sep B W (c :: (l ++ l'))) : Sep B W (l ++ c :: l') := h.perm List.perm_middle.symm
end

def rowC (B : Nat) (e : TypeId) (sz : Nat) (v : Value) (n : Nat) (vs : List Value) : Cmp where
  blk := v.ownBlock
  P W := W.ownsRow B e sz v n vs
  loc hb h := own_kept h hb
def boxC (b : Nat) (cs : Array Value) (t : TypeId) : Cmp where
  blk := some b
  P W := W.heap[b]? = some (.cells cs t (0, 0))
  loc hb h := (hb _ rfl).trans h

/-! ### models of the call's own -/
structure CO where
  v : Value
  rw : Num
  brs : List Br
structure SO where
  v : Value
  owner : Int
  mark : Int
  chs : List CO
def CO.ch (c : CO) : Ch := ⟨c.rw, c.brs⟩
def SO.st (s : SO) : St := ⟨s.owner, s.mark, s.chs.map CO.ch⟩
def bcells (l : List Br) : List Value := l.flatMap fun b => [.int .i64 b.to, .int .i64 b.ch.top, .int .i64 b.ch.low]
def ccells (l : List CO) : List Value := l.flatMap fun c => [.int .i64 c.rw.top, .int .i64 c.rw.low, c.v]
def scells (l : List SO) : List Value := l.flatMap fun s => [.int .i64 s.owner, .int .i64 s.mark, s.v]
theorem flat3_len {α : Type} (f g h : α → Value) : ∀ l : List α, (l.flatMap fun a => [f a, g a, h a]).length = l.length * 3
  | [] => rfl
  | a :: l => by rw [List.flatMap_cons, List.length_append, flat3_len f g h l]; simp; omega
theorem bcells_len (l : List Br) : (bcells l).length = l.length * 3 := flat3_len _ _ _ l
theorem ccells_len (l : List CO) : (ccells l).length = l.length * 3 := flat3_len _ _ _ l
theorem scells_len (l : List SO) : (scells l).length = l.length * 3 := flat3_len _ _ _ l
theorem flat3_snoc {α : Type} (f g h : α → Value) (l : List α) (a : α) : ((l ++ [a]).flatMap fun a => [f a, g a, h a]) = (l.flatMap fun a => [f a, g a, h a]) ++ [f a, g a, h a] := by simp
theorem flat3_at {α : Type} (f g h : α → Value) : ∀ (l : List α) (i : Nat) (a : α), l[i]? = some a → (l.flatMap fun a => [f a, g a, h a])[i * 3]? = some (f a) ∧ (l.flatMap fun a => [f a, g a, h a])[i * 3 + 1]? = some (g a) ∧ (l.flatMap fun a => [f a, g a, h a])[i * 3 + 2]? = some (h a)
  | [], i, a, hh => by simp at hh
  | b :: l, 0, a, hh => by
    have : b = a := by simpa using hh
    subst this
    simp
  | b :: l, i + 1, a, hh => by
    have ih := flat3_at f g h l i a (by simpa using hh)
    have e : ∀ j, (([f b, g b, h b] ++ l.flatMap fun a => [f a, g a, h a]))[3 + j]? = (l.flatMap fun a => [f a, g a, h a])[j]? := fun j => by
      rw [List.getElem?_append_right (by simp)]; congr 1; simp
    rw [List.flatMap_cons, show (i + 1) * 3 = 3 + i * 3 by omega, show 3 + i * 3 + 1 = 3 + (i * 3 + 1) by omega, show 3 + i * 3 + 2 = 3 + (i * 3 + 2) by omega, e, e, e]
    exact ih

abbrev brRow (B : Nat) (c : CO) : Cmp := rowC B 103 3 c.v c.brs.length (bcells c.brs)
abbrev chRow (B : Nat) (s : SO) : Cmp := rowC B 97 3 s.v s.chs.length (ccells s.chs)
abbrev stRow (B : Nat) (sv : Value) (ss : List SO) : Cmp := rowC B 79 3 sv ss.length (scells ss)
def chParts (B : Nat) (s : SO) : List Cmp := chRow B s :: s.chs.map (brRow B)
def stParts (B : Nat) (ss : List SO) : List Cmp := ss.flatMap (chParts B)

/-- a row of three-cell elements reads as a slice -/
theorem own_sl3 {α β : Type} {K : Kind β} {W : World} {B : Nat} {e : TypeId} {v : Value} {l : List α} {f g h : α → Value} {D : Nat → Prop} (tf : α → β) (hK : K.sz = 3)
    (ho : W.ownsRow B e 3 v l.length (l.flatMap fun a => [f a, g a, h a])) (hD : ∀ k, v.ownBlock = some k → D k) (hr : ∀ a ∈ l, K.R W D [f a, g a, h a] (tf a)) : Sl K W D v (l.map tf) := by
  obtain ⟨A, c, rfl, h1, h2, h3⟩ := own_form ho
  refine ⟨A, c, by rw [List.length_map], by rw [List.length_map]; exact h1, h2, fun i x hx => ?_⟩
  rw [List.getElem?_map] at hx
  obtain ⟨a, ha, rfl⟩ := Option.map_eq_some_iff.1 hx
  have hlt := (List.getElem?_eq_some_iff.1 ha).1
  obtain ⟨ad, e, -, -, hob, hat⟩ := h3 (by omega)
  obtain ⟨e0, e1, e2⟩ := flat3_at f g h l i a ha
  refine ⟨ad, _, e, hD _ hob, hr a (List.mem_of_getElem? ha), fun j u hj => ?_⟩
  rw [add_of_add, hK]
  match j, hj with
  | 0, hj => simp at hj; subst hj; exact hat _ _ e0
  | 1, hj => simp at hj; subst hj; exact hat _ _ e1
  | 2, hj => simp at hj; subst hj; exact hat _ _ e2
  | j + 3, hj => simp at hj

/-- the blocks of the call's own, that may be written -/
def DB (B : Nat) (W : World) (b : Nat) : Prop := B ≤ b ∧ b < W.heap.size ∧ Soft W b
theorem own_DB {W : World} {B : Nat} {e : TypeId} {sz : Nat} {v : Value} {n : Nat} {vs : List Value} (h : W.ownsRow B e sz v n vs) : ∀ k, v.ownBlock = some k → DB B W k := fun k hk => ⟨(h.lt k hk).1, (h.lt k hk).2, own_soft h k hk⟩
theorem own_br {W : World} {B : Nat} {c : CO} (h : (brRow B c).P W) : Sl Kind.br W (DB B W) c.v c.brs := by
  have := own_sl3 (K := Kind.br) (D := DB B W) id rfl (f := fun b : Br => .int .i64 b.to) (g := fun b => .int .i64 b.ch.top) (h := fun b => .int .i64 b.ch.low) h (own_DB h) (fun a _ => rfl)
  simpa using this
theorem own_ch {W : World} {B : Nat} {s : SO} (h : (chRow B s).P W) (hb : ∀ c ∈ s.chs, (brRow B c).P W) : Sl Kind.ch W (DB B W) s.v (s.chs.map CO.ch) :=
  own_sl3 (K := Kind.ch) (D := DB B W) CO.ch rfl (f := fun c : CO => .int .i64 c.rw.top) (g := fun c => .int .i64 c.rw.low) (h := fun c => c.v) h (own_DB h) (fun c hc => ⟨c.v, rfl, own_br (hb c hc)⟩)
theorem own_st {W : World} {B : Nat} {sv : Value} {ss : List SO} (h : (stRow B sv ss).P W) (hc : ∀ s ∈ ss, (chRow B s).P W) (hb : ∀ s ∈ ss, ∀ c ∈ s.chs, (brRow B c).P W) : Sl Kind.st W (DB B W) sv (ss.map SO.st) :=
  own_sl3 (K := Kind.st) (D := DB B W) SO.st rfl (f := fun s : SO => .int .i64 s.owner) (g := fun s => .int .i64 s.mark) (h := fun s => s.v) h (own_DB h) (fun s hs => ⟨s.v, rfl, own_ch (hc s hs) (hb s hs)⟩)
theorem Sep.model {W : World} {B : Nat} {sv : Value} {ss : List SO} {l : List Cmp} (h : Sep B W (stRow B sv ss :: stParts B ss ++ l)) : Sl Kind.st W (DB B W) sv (ss.map SO.st) := by
  refine own_st (h.get (List.mem_cons_self ..)) (fun s hs => h.get ?_) (fun s hs c hc => h.get ?_)
  · exact List.mem_append_left _ (List.mem_cons_of_mem _ (List.mem_flatMap.2 ⟨s, hs, List.mem_cons_self ..⟩))
  · exact List.mem_append_left _ (List.mem_cons_of_mem _ (List.mem_flatMap.2 ⟨s, hs, List.mem_cons_of_mem _ (List.mem_map.2 ⟨c, hc, rfl⟩)⟩))

/-- what the tables say of slices of three-cell structs -/
structure Elem3 (P : Program) (t e : TypeId) (z : Value) (bytes : Nat) : Prop where
  ht : P.underlying t = some (.slice e)
  hi : ∃ i, P.info? e = some i ∧ i.zero = some z ∧ i.size = 3 ∧ i.bytes = bytes
  hz : z.cells.size = 3
theorem Elem3.mk' {P : Program} {t e : TypeId} {z : Value} {bytes : Nat} (ht : P.underlying t = some (.slice e)) (hi : (P.info? e).map (fun i => (i.zero, i.size, i.bytes)) = some (some z, 3, bytes)) (hz : z.cells.size = 3) : Elem3 P t e z bytes := by
  refine ⟨ht, ?_, hz⟩
  cases h : P.info? e with
  | none => rw [h] at hi; cases hi
  | some i =>
    rw [h] at hi
    simp only [Option.map_some, Option.some.injEq, Prod.mk.injEq] at hi
    exact ⟨i, rfl, hi.1, hi.2.1, hi.2.2⟩
theorem elem_br : Elem3 Tryz.prog 95 103 (.agg #[.int .i64 0, .int .i64 0, .int .i64 0]) 24 := Elem3.mk' Tryz.underlying95 (by kernel_rfl) rfl
theorem elem_ch : Elem3 Tryz.prog 77 97 (.agg #[.int .i64 0, .int .i64 0, .slice none 0 0]) 40 := Elem3.mk' Tryz.underlying77 (by kernel_rfl) rfl
theorem elem_st : Elem3 Tryz.prog 22 79 (.agg #[.int .i64 0, .int .i64 0, .slice none 0 0]) 40 := Elem3.mk' Tryz.underlying22 (by kernel_rfl) rfl

/-- append of one element of three cells -/
theorem run_app3 {P : Program} {w : World} {t e ty : TypeId} {z : Value} {bytes : Nat} (E : Elem3 P t e z bytes) (base : Nat) (v : Value) (n : Nat) (vs : List Value) (hown : w.ownsRow base e 3 v n vs)
    (b c : Nat) (x y u : Value) (hc : w.heap[b]? = some (.cells #[x, y, u] e (0, 0))) (h1 : x.oneCell' = true) (h2 : y.oneCell' = true) (h3 : u.oneCell' = true) (hb : (n + 1) * bytes ≤ 140737488355328) (hn : n + 1 ≤ 140737488355328) (hbase : base ≤ w.heap.size) :
    ∃ v' w', (Builtin.append_ #[t, t] ty #[v, .slice (some ⟨b, 0, none⟩) 1 c]).run P w = .ok v' w' ∧ w'.ownsRow base e 3 v' (n + 1) (vs ++ [x, y, u]) ∧ w.grownBy w' v.ownBlock ∧ (v'.ownBlock = v.ownBlock ∨ v'.ownBlock = some w.heap.size) := by
  obtain ⟨i, hi, hz, hsz, hby⟩ := E.hi
  have hat : ∀ j u', [x, y, u][j]? = some u' → w.cell? ((⟨b, 0, none⟩ : Addr).add j) = some u' := by
    intro j u' hj
    have e : (⟨b, 0, none⟩ : Addr).add j = ⟨b, j, none⟩ := by unfold Addr.add; split <;> simp_all
    rw [e]
    simp only [World.cell?, hc]
    simpa using hj
  obtain ⟨v', w', hr, r2, r3, _, r5⟩ := run_append_own_at (P := P) w base t ty e i z 3 bytes E.ht hi hz hsz hby E.hz (by decide) v n vs hown ⟨b, 0, none⟩ 1 c [x, y, u] rfl hat (by simp [h1, h2, h3]) (by simp only [maxLen]; omega) hb hbase
  exact ⟨v', w', hr, r2, r3, r5⟩
theorem wpList_app3 {P : Program} {w : World} {ops : Array Oper} {rest : List Oper} {o : Oper} {a : Act} {Q : Exit → Act → World → Prop} {t e : TypeId} {z : Value} {bytes : Nat} (E : Elem3 P t e z bytes)
    (hgd : o.guard = none) (s x : Operand) (ho : o.op = .call { callee := .builtin .append, args := #[s, x], argTypes := #[t, t] })
    (base : Nat) (v : Value) (n : Nat) (vs : List Value) (hs : a.eval s = v) (hown : w.ownsRow base e 3 v n vs)
    (b c : Nat) (x0 x1 x2 : Value) (hx : a.eval x = .slice (some ⟨b, 0, none⟩) 1 c) (hc : w.heap[b]? = some (.cells #[x0, x1, x2] e (0, 0))) (h0 : x0.oneCell' = true) (h1 : x1.oneCell' = true) (h2 : x2.oneCell' = true)
    (hb : (n + 1) * bytes ≤ 140737488355328) (hn : n + 1 ≤ 140737488355328) (hbase : base ≤ w.heap.size)
    (h : ∀ v' w', w'.ownsRow base e 3 v' (n + 1) (vs ++ [x0, x1, x2]) → w.grownBy w' v.ownBlock → (v'.ownBlock = v.ownBlock ∨ v'.ownBlock = some w.heap.size) → wpList P ops Q rest (a.put o.dst v') w') : wpList P ops Q (o :: rest) a w := by
  refine wpList_plain hgd fun _ hK => ?_
  obtain ⟨v', w', hr, r2, r3, r5⟩ := run_app3 (P := P) (ty := o.type) E base v n vs hown b c x0 x1 x2 hc h0 h1 h2 hb hn hbase
  unfold Oper.wp execOp
  simp only [ho, resolve, invoke, builtin, Sem.run_bind, Sem.run_pure, Result.andThen_ok, List.map_toArray, List.map_cons, List.map_nil, hs, hx, hr]
  exact hK _ _ (h v' w' r2 r3 r5)
theorem step_app3 {P : Program} {ops : Array Oper} {o : Oper} {a : Act} {w : World} {K : Act → World → Prop} {Q : Exit → Act → World → Prop} {F : Prop} {t e : TypeId} {z : Value} {bytes : Nat} (E : Elem3 P t e z bytes)
    (hgd : o.guard = none) (s x : Operand) (ho : o.op = .call { callee := .builtin .append, args := #[s, x], argTypes := #[t, t] })
    (base : Nat) (v : Value) (n : Nat) (vs : List Value) (hs : a.eval s = v) (hown : w.ownsRow base e 3 v n vs)
    (b c : Nat) (x0 x1 x2 : Value) (hx : a.eval x = .slice (some ⟨b, 0, none⟩) 1 c) (hc : w.heap[b]? = some (.cells #[x0, x1, x2] e (0, 0))) (h0 : x0.oneCell' = true) (h1 : x1.oneCell' = true) (h2 : x2.oneCell' = true)
    (hb : (n + 1) * bytes ≤ 140737488355328) (hn : n + 1 ≤ 140737488355328) (hbase : base ≤ w.heap.size)
    (h : ∀ v' w', w'.ownsRow base e 3 v' (n + 1) (vs ++ [x0, x1, x2]) → w.grownBy w' v.ownBlock → (v'.ownBlock = v.ownBlock ∨ v'.ownBlock = some w.heap.size) → K (a.put o.dst v') w') :
    if Region.wanted o (yielded ops a.tmps) = true then Oper.wp P o a w K Q else F := by
  have hw : Region.wanted o (yielded ops a.tmps) = true := by simp [Region.wanted, hgd]
  rw [if_pos hw]
  obtain ⟨v', w', hr, r2, r3, r5⟩ := run_app3 (P := P) (ty := o.type) E base v n vs hown b c x0 x1 x2 hc h0 h1 h2 hb hn hbase
  unfold Oper.wp execOp
  simp only [ho, resolve, invoke, builtin, Sem.run_bind, Sem.run_pure, Result.andThen_ok, List.map_toArray, List.map_cons, List.map_nil, hs, hx, hr]
  exact h v' w' r2 r3 r5

theorem cells_of {W : World} {b : Nat} {cs : Array Value} {t : TypeId} (h : W.heap[b]? = some (.cells cs t (0, 0))) : ∀ o, W.cell? ⟨b, o, none⟩ = cs[o]? ∧ W.frozen? ⟨b, o, none⟩ = false := by
  intro o
  constructor
  · simp [World.cell?, h]
  · simp [World.frozen?, h]
theorem set_of {W : World} {b : Nat} {cs : Array Value} {t : TypeId} (h : W.heap[b]? = some (.cells cs t (0, 0))) (o : Nat) (u : Value) : (W.setCell ⟨b, o, none⟩ u).heap[b]? = some (.cells (cs.setIfInBounds o u) t (0, 0)) := by
  simp [World.setCell, Array.getElem?_modify, h]
theorem own_lt_new {W W' : World} {B : Nat} {e : TypeId} {sz : Nat} {v v0 : Value} {n : Nat} {vs : List Value} (ho : W'.ownsRow B e sz v n vs) (ha : v.ownBlock = v0.ownBlock ∨ v.ownBlock = some W.heap.size) : v.ownBlock = v0.ownBlock ∨ ∀ k, v.ownBlock = some k → W.heap.size ≤ k ∧ k < W'.heap.size :=
  ha.imp id fun e k hk => ⟨by rw [e] at hk; cases hk; exact Nat.le_refl _, (ho.lt k hk).2⟩

/-- a choice is appended to the choices of a state in the making -/
theorem Sep.addChoice {B : Nat} {W w4 w5 : World} {xb : Nat} {o m : Int} {xv v4 v5 : Value} {cs : List CO} {rest : List Cmp} {rw' : Num} {brs : List Br}
    (h : Sep B W (boxC xb #[.int .i64 o, .int .i64 m, xv] 79 :: chRow B ⟨xv, o, m, cs⟩ :: (cs.map (brRow B) ++ rest))) (hB : B ≤ W.heap.size)
    (hb4 : Below W.heap.size W w4) (ho4 : w4.ownsRow W.heap.size 103 3 v4 brs.length (bcells brs)) {ob : Obj}
    (hg5 : (w4.alloc ob).grownBy w5 xv.ownBlock) (ho5 : w5.ownsRow B 97 3 v5 (cs.length + 1) (ccells cs ++ [.int .i64 rw'.top, .int .i64 rw'.low, v4])) (ha5 : v5.ownBlock = xv.ownBlock ∨ v5.ownBlock = some (w4.alloc ob).heap.size) :
    Sep B (w5.setCell ⟨xb, 2, none⟩ v5) (boxC xb #[.int .i64 o, .int .i64 m, v5] 79 :: chRow B ⟨v5, o, m, cs ++ [(⟨v4, rw', brs⟩ : CO)]⟩ :: ((cs ++ [(⟨v4, rw', brs⟩ : CO)]).map (brRow B) ++ rest)) := by
  have hB4 : B ≤ w4.heap.size := Nat.le_trans hB hb4.size
  have h1 : Sep B w4 (brRow B (⟨v4, rw', brs⟩ : CO) :: boxC xb #[.int .i64 o, .int .i64 m, xv] 79 :: chRow B ⟨xv, o, m, cs⟩ :: (cs.map (brRow B) ++ rest)) :=
    h.add hb4 (own_lower ho4 hB) (fun k hk => ⟨(ho4.lt k hk).1, (ho4.lt k hk).2⟩) hB
  have h2 := h1.below ((Below.refl w4.heap.size w4).alloc (Nat.le_refl _) ob)
  have h3 : Sep B (w4.alloc ob) (chRow B ⟨xv, o, m, cs⟩ :: brRow B (⟨v4, rw', brs⟩ : CO) :: boxC xb #[.int .i64 o, .int .i64 m, xv] 79 :: (cs.map (brRow B) ++ rest)) := h2.perm (List.perm_middle (l₁ := [brRow B (⟨v4, rw', brs⟩ : CO), boxC xb #[.int .i64 o, .int .i64 m, xv] 79]))
  have h4 := h3.upd (c' := chRow B ⟨v5, o, m, cs ++ [(⟨v4, rw', brs⟩ : CO)]⟩) hg5 (by
    show w5.ownsRow B _ 3 v5 (cs ++ [(⟨v4, rw', brs⟩ : CO)]).length (ccells (cs ++ [(⟨v4, rw', brs⟩ : CO)]))
    rw [show ccells (cs ++ [(⟨v4, rw', brs⟩ : CO)]) = ccells cs ++ [.int .i64 rw'.top, .int .i64 rw'.low, v4] from by simp [ccells], List.length_append]
    exact ho5) (own_lt_new ho5 ha5) (by simp; omega)
  have h5 : Sep B w5 (boxC xb #[.int .i64 o, .int .i64 m, xv] 79 :: chRow B ⟨v5, o, m, cs ++ [(⟨v4, rw', brs⟩ : CO)]⟩ :: brRow B (⟨v4, rw', brs⟩ : CO) :: (cs.map (brRow B) ++ rest)) := h4.perm (List.perm_middle (l₁ := [chRow B ⟨v5, o, m, cs ++ [(⟨v4, rw', brs⟩ : CO)]⟩, brRow B (⟨v4, rw', brs⟩ : CO)]))
  have hbx : w5.heap[xb]? = some (.cells #[.int .i64 o, .int .i64 m, xv] 79 (0, 0)) := h5.get (List.mem_cons_self ..)
  have hB5 : B ≤ w5.heap.size := by have := hg5.size; simp at this; omega
  have h6 := h5.upd (c' := boxC xb #[.int .i64 o, .int .i64 m, v5] 79) (grown_set w5 xb 2 v5) (set_of hbx 2 v5) (.inl rfl) hB5
  refine h6.perm (List.Perm.cons _ (List.Perm.cons _ ?_))
  rw [List.map_append, List.map_singleton, List.append_assoc]
  exact List.perm_middle.symm

/-- a state is appended to the states of a model in the making -/
theorem Sep.addState {B : Nat} {W w5 : World} {xb ob : Nat} {o m : Int} {xv sv v5 : Value} {cs : List CO} {ss : List SO} {sx rb : Cmp} {obj : Obj}
    (h : Sep B W (boxC xb #[.int .i64 o, .int .i64 m, xv] 79 :: chRow B ⟨xv, o, m, cs⟩ :: (cs.map (brRow B) ++ (sx :: boxC ob #[sv] 24 :: rb :: stRow B sv ss :: stParts B ss)))) (hB : B ≤ W.heap.size)
    (hg5 : (W.alloc obj).grownBy w5 sv.ownBlock) (ho5 : w5.ownsRow B 79 3 v5 (ss.length + 1) (scells ss ++ [.int .i64 o, .int .i64 m, xv])) (ha5 : v5.ownBlock = sv.ownBlock ∨ v5.ownBlock = some (W.alloc obj).heap.size) :
    Sep B (w5.setCell ⟨ob, 0, none⟩ v5) (boxC ob #[v5] 24 :: rb :: stRow B v5 (ss ++ [⟨xv, o, m, cs⟩]) :: stParts B (ss ++ [⟨xv, o, m, cs⟩])) := by
  have h1 : Sep B W (chRow B ⟨xv, o, m, cs⟩ :: (cs.map (brRow B) ++ (sx :: boxC ob #[sv] 24 :: rb :: stRow B sv ss :: stParts B ss))) := h.sub (List.sublist_cons_self _ _)
  have h2 : Sep B W ((chRow B ⟨xv, o, m, cs⟩ :: cs.map (brRow B)) ++ (boxC ob #[sv] 24 :: rb :: stRow B sv ss :: stParts B ss)) := h1.sub ((List.Sublist.append_left (List.sublist_cons_self _ _) (chRow B ⟨xv, o, m, cs⟩ :: cs.map (brRow B))))
  have h3 : Sep B W (stRow B sv ss :: boxC ob #[sv] 24 :: rb :: (stParts B ss ++ chParts B ⟨xv, o, m, cs⟩)) := by
    refine h2.perm ?_
    show (chParts B ⟨xv, o, m, cs⟩ ++ (boxC ob #[sv] 24 :: rb :: stRow B sv ss :: stParts B ss)).Perm _
    refine List.perm_append_comm.trans ?_
    exact (List.perm_middle (l₁ := [boxC ob #[sv] 24, rb]) (l₂ := stParts B ss ++ chParts B ⟨xv, o, m, cs⟩))
  have h4 := (h3.below ((Below.refl W.heap.size W).alloc (Nat.le_refl _) obj)).upd (c' := stRow B v5 (ss ++ [⟨xv, o, m, cs⟩])) hg5 (by
    show w5.ownsRow B _ 3 v5 (ss ++ [_]).length (scells (ss ++ [_]))
    rw [show scells (ss ++ [(⟨xv, o, m, cs⟩ : SO)]) = scells ss ++ [.int .i64 o, .int .i64 m, xv] from by simp [scells], List.length_append]
    exact ho5) (own_lt_new ho5 ha5) (by simp; omega)
  have h5 : Sep B w5 (boxC ob #[sv] 24 :: stRow B v5 (ss ++ [⟨xv, o, m, cs⟩]) :: rb :: (stParts B ss ++ chParts B ⟨xv, o, m, cs⟩)) := h4.perm (List.Perm.swap _ _ _)
  have hbx : w5.heap[ob]? = some (.cells #[sv] 24 (0, 0)) := h5.get (List.mem_cons_self ..)
  have hB5 : B ≤ w5.heap.size := by have := hg5.size; simp at this; omega
  have h6 := h5.upd (c' := boxC ob #[v5] 24) (grown_set w5 ob 0 v5) (set_of hbx 0 v5) (.inl rfl) hB5
  refine h6.perm (List.Perm.cons _ ?_)
  rw [show stParts B (ss ++ [(⟨xv, o, m, cs⟩ : SO)]) = stParts B ss ++ chParts B ⟨xv, o, m, cs⟩ from by simp [stParts]]
  exact List.Perm.swap _ _ _

end Go.Proofs.YtoffbdlgmnpblaaGreat
