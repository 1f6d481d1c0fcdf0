/- Part 28 of 55: Tr1. -/
import Derived.Test.YtoffbdlgmnpblaaGreatJ25
import Derived.Test.YtoffbdlgmnpblaaGreatJ27

/- The finder of components in memory: its parts, and how each of them turns alone. -/
namespace Go.Proofs.YtoffbdlgmnpblaaGreat
open Go.RowKit
open Tar (TS)
set_option maxHeartbeats 1000000

def OwnBs (W : World) (B g n : Nat) (d : List Bool) : Prop := W.ownsRow B 4 1 (.slice (some ⟨g, 0, none⟩) n n) n (d.map .bool)

theorem own_kept {W W' : World} {B : Nat} {e : TypeId} {sz : Nat} {v : Value} {n : Nat} {vs : List Value} (h : W.ownsRow B e sz v n vs) (hb : ∀ k, v.ownBlock = some k → W'.heap[k]? = W.heap[k]?) : W'.ownsRow B e sz v n vs := by
  obtain ⟨h1, h2⟩ := h
  refine ⟨h1, ?_⟩
  rcases h2 with h2 | ⟨k, cap, cur, hvk, hbk, hck, h5⟩
  · exact .inl h2
  · exact .inr ⟨k, cap, cur, hvk, hbk, (hb k (by rw [hvk]; rfl)).trans hck, h5⟩

/-- where the parts lie, and what they hold -/
structure Fp where
  n : Nat
  F : Nat
  gi : Nat
  gl : Nat
  gn : Nat
  p : Nat
  nx : Value
  ov : Value
  outv : Value
  ovb : Value
  outb : Value
  ws : List Value
  vs : List Value
  t : TS

def Fp.comp (x : Fp) (B : Nat) (W : World) : Nat → Prop
  | 0 => OwnInts W B x.gi x.n x.t.idx
  | 1 => OwnInts W B x.gl x.n x.t.low
  | 2 => OwnBs W B x.gn x.n x.t.on
  | 3 => B ≤ x.F ∧ W.heap[x.F]? = some (.cells #[x.nx, .slice (some ⟨x.gi, 0, none⟩) x.n x.n, .slice (some ⟨x.gl, 0, none⟩) x.n x.n, x.ovb, .slice (some ⟨x.gn, 0, none⟩) x.n x.n, x.outb] 127 (0, 0))
  | 4 => B ≤ x.p ∧ W.heap[x.p]? = some (.cells #[.int .i64 x.t.cnt] 3 (0, 0))
  | 5 => W.ownsRow B 3 1 x.ov x.t.opn.length (ints x.t.opn.reverse)
  | 6 => W.ownsRow B 31 1 x.outv x.ws.length x.ws
  | r + 7 => ∀ v xs, x.vs[r]? = some v → x.t.out[r]? = some xs → W.ownsRow B 3 1 v xs.length (ints xs)
def Fp.blk (x : Fp) : Nat → Option Nat
  | 0 => some x.gi
  | 1 => some x.gl
  | 2 => some x.gn
  | 3 => some x.F
  | 4 => some x.p
  | 5 => x.ov.ownBlock
  | 6 => x.outv.ownBlock
  | r + 7 => (x.vs[r]?).bind Value.ownBlock
structure FinC (x : Fp) (B : Nat) (W : World) : Prop where
  comps : ∀ j, x.comp B W j
  dis : ∀ (i j k : Nat), i ≠ j → x.blk i = some k → x.blk j ≠ some k
  rl : x.vs.length = x.t.out.length

/-- block k is none of the parts -/
def Off (x : Fp) (k : Nat) : Prop := ∀ j, x.blk j ≠ some k

section
variable {x x' : Fp} {B : Nat} {W W' : World}
theorem comp_kept {j : Nat} (h : x.comp B W j) (hb : ∀ k, x.blk j = some k → W'.heap[k]? = W.heap[k]?) : x.comp B W' j := by
  match j, h, hb with
  | 0, h, hb => exact own_kept h hb
  | 1, h, hb => exact own_kept h hb
  | 2, h, hb => exact own_kept h hb
  | 3, h, hb => exact ⟨h.1, (hb _ rfl).trans h.2⟩
  | 4, h, hb => exact ⟨h.1, (hb _ rfl).trans h.2⟩
  | 5, h, hb => exact own_kept h hb
  | 6, h, hb => exact own_kept h hb
  | r + 7, h, hb => exact fun v xs hv hx => own_kept (h v xs hv hx) fun k hk => hb k (by simp [Fp.blk, hv, hk])
theorem FinC.lt (h : FinC x B W) {j k : Nat} (hk : x.blk j = some k) : B ≤ k ∧ k < W.heap.size := by
  have hc := h.comps j
  match j, hc, hk with
  | 0, hc, hk => cases hk; exact hc.lt
  | 1, hc, hk => cases hk; exact hc.lt
  | 2, hc, hk => cases hk; exact World.ownsRow.lt hc _ rfl
  | 3, hc, hk => cases hk; exact ⟨hc.1, (Array.getElem?_eq_some_iff.1 hc.2).1⟩
  | 4, hc, hk => cases hk; exact ⟨hc.1, (Array.getElem?_eq_some_iff.1 hc.2).1⟩
  | 5, hc, hk => exact World.ownsRow.lt hc _ hk
  | 6, hc, hk => exact World.ownsRow.lt hc _ hk
  | r + 7, hc, hk =>
    simp only [Fp.blk, Option.bind_eq_some_iff] at hk
    obtain ⟨v, hv, hk⟩ := hk
    have hr : r < x.t.out.length := by have := (List.getElem?_eq_some_iff.1 hv).1; have := h.rl; omega
    exact World.ownsRow.lt (hc v _ hv (List.getElem?_eq_getElem hr)) _ hk
theorem FinC.kept (h : FinC x B W) (hb : ∀ k, (∃ j, x.blk j = some k) → W'.heap[k]? = W.heap[k]?) : FinC x B W' :=
  ⟨fun j => comp_kept (h.comps j) fun k hk => hb k ⟨j, hk⟩, h.dis, h.rl⟩
theorem FinC.below (h : FinC x B W) (hb : Below W.heap.size W W') : FinC x B W' := h.kept fun k ⟨_, hk⟩ => hb.block k (h.lt hk).2
/-- one part has turned -/
theorem FinC.upd' (h : FinC x B W) (i : Nat) (hs : ∀ j, j ≠ i → (∀ W, x.comp B W j → x'.comp B W j) ∧ x'.blk j = x.blk j) (hi : x'.comp B W' i) (hg : W.grownBy W' (x.blk i)) (ha : ∀ k, x'.blk i = some k → x.blk i = some k ∨ W.heap.size ≤ k ∨ Off x k) (hrl : x'.vs.length = x'.t.out.length) : FinC x' B W' := by
  have hk2 : ∀ j k, j ≠ i → x.blk j = some k → W'.heap[k]? = W.heap[k]? := fun j k hj hk => hg.block k (h.lt hk).2 fun e => h.dis j i k hj hk e.symm
  have hmix : ∀ j k, j ≠ i → x'.blk j = some k → x'.blk i ≠ some k := by
    intro j k hj hk e
    rw [(hs j hj).2] at hk
    rcases ha k e with ha | ha | ha
    · exact h.dis j i k hj hk ha
    · have := (h.lt hk).2; omega
    · exact ha j hk
  refine ⟨fun j => ?_, fun a b k hab hk e => ?_, hrl⟩
  · by_cases hj : j = i
    · subst hj; exact hi
    · exact (hs j hj).1 _ (comp_kept (h.comps j) fun k hk => hk2 j k hj hk)
  · by_cases h1 : a = i
    · subst h1
      exact hmix b k (fun e => hab e.symm) e hk
    · by_cases h2 : b = i
      · subst h2
        exact hmix a k h1 hk e
      · rw [(hs a h1).2] at hk
        rw [(hs b h2).2] at e
        exact h.dis a b k hab hk e
theorem FinC.upd (h : FinC x B W) (i : Nat) (hs : ∀ j, j ≠ i → (∀ W, x.comp B W j → x'.comp B W j) ∧ x'.blk j = x.blk j) (hi : x'.comp B W' i) (hg : W.grownBy W' (x.blk i)) (ha : x'.blk i = x.blk i ∨ ∀ k, x'.blk i = some k → W.heap.size ≤ k) (hrl : x'.vs.length = x'.t.out.length) : FinC x' B W' :=
  h.upd' i hs hi hg (fun k hk => by
    rcases ha with ha | ha
    · exact .inl (ha ▸ hk)
    · exact .inr (.inl (ha k hk))) hrl

/-- the parts turn, nothing else -/
structure Evo (x : Fp) (W : World) (x' : Fp) (W' : World) : Prop where
  os : W'.os = W.os
  tape : W'.tape = W.tape
  output : W'.output = W.output
  size : W.heap.size ≤ W'.heap.size
  block : ∀ k, k < W.heap.size → Off x k → W'.heap[k]? = W.heap[k]?
  blks : ∀ j k, x'.blk j = some k → (∃ i, x.blk i = some k) ∨ W.heap.size ≤ k
theorem Evo.refl (x : Fp) (W : World) : Evo x W x W := ⟨rfl, rfl, rfl, Nat.le_refl _, fun _ _ _ => rfl, fun j _ h => .inl ⟨j, h⟩⟩
theorem Evo.off {k : Nat} (h : Evo x W x' W') (hk : Off x k) (hlt : k < W.heap.size) : Off x' k := fun j e => by
  rcases h.blks j k e with ⟨i, hi⟩ | h1
  · exact hk i hi
  · omega
theorem Evo.trans {x'' : Fp} {W'' : World} (h : Evo x W x' W') (k : Evo x' W' x'' W'') : Evo x W x'' W'' := by
  refine ⟨k.os.trans h.os, k.tape.trans h.tape, k.output.trans h.output, Nat.le_trans h.size k.size, fun b hb ho => (k.block b (Nat.lt_of_lt_of_le hb h.size) (h.off ho hb)).trans (h.block b hb ho), fun j b hj => ?_⟩
  rcases k.blks j b hj with ⟨i, hi⟩ | h1
  · exact h.blks i b hi
  · exact .inr (Nat.le_trans h.size h1)
theorem Evo.of_below (x : Fp) (hb : Below W.heap.size W W') : Evo x W x W' := ⟨hb.os, hb.tape, hb.output, hb.size, fun k hk _ => hb.block k hk, fun j _ h => .inl ⟨j, h⟩⟩
theorem Evo.of_grown (i : Nat) (hs : ∀ j, j ≠ i → x'.blk j = x.blk j) (hg : W.grownBy W' (x.blk i)) (ha : x'.blk i = x.blk i ∨ ∀ k, x'.blk i = some k → W.heap.size ≤ k) : Evo x W x' W' := by
  refine ⟨hg.os, hg.tape, hg.output, hg.size, fun k hk ho => hg.block k hk fun e => ho i e.symm, fun j k hj => ?_⟩
  by_cases e : j = i
  · subst e
    rcases ha with ha | ha
    · exact .inl ⟨j, by rw [← ha]; exact hj⟩
    · exact .inr (ha k hj)
  · exact .inl ⟨j, by rw [← hs j e]; exact hj⟩
theorem grown_set (W : World) (b i : Nat) (u : Value) : W.grownBy (W.setCell ⟨b, i, none⟩ u) (some b) :=
  ⟨rfl, rfl, rfl, by simp [World.setCell], fun k _ hne => Below.heap_setCell W ⟨b, i, none⟩ u k fun e => hne (by rw [e])⟩
end

/-! ### each part -/
section
variable {x : Fp} {B : Nat} {W : World}
theorem Fp.same_but {x x' : Fp} {i : Nat} (h : ∀ j, j ≠ i → (∀ B W, x.comp B W j → x'.comp B W j) ∧ x'.blk j = x.blk j) : ∀ j, j ≠ i → (∀ W, x.comp B W j → x'.comp B W j) ∧ x'.blk j = x.blk j := fun j hj => ⟨fun W => (h j hj).1 B W, (h j hj).2⟩
theorem FinC.setIdx (h : FinC x B W) {s : Int} (h0 : 0 ≤ s) (h1 : s < (x.n : Int)) (y : Int) :
    FinC { x with t := { x.t with idx := x.t.idx.set s.toNat y } } B (W.setCell ⟨x.gi, s.toNat, none⟩ (.int .i64 y)) ∧ Evo x W { x with t := { x.t with idx := x.t.idx.set s.toNat y } } (W.setCell ⟨x.gi, s.toNat, none⟩ (.int .i64 y)) := by
  refine ⟨h.upd 0 (fun j hj => ?_) (OwnInts.set (h.comps 0) (by omega) y) (grown_set W x.gi _ _) (.inl rfl) h.rl, Evo.of_grown 0 (fun j hj => ?_) (grown_set W x.gi _ _) (.inl rfl)⟩
  · match j, hj with
    | 1, _ | 2, _ | 3, _ | 4, _ | 5, _ | 6, _ => exact ⟨fun _ h => h, rfl⟩
    | r + 7, _ => exact ⟨fun _ h => h, rfl⟩
  · match j, hj with
    | 1, _ | 2, _ | 3, _ | 4, _ | 5, _ | 6, _ => rfl
    | r + 7, _ => rfl
theorem FinC.setLow (h : FinC x B W) {s : Int} (h0 : 0 ≤ s) (h1 : s < (x.n : Int)) (y : Int) :
    FinC { x with t := { x.t with low := x.t.low.set s.toNat y } } B (W.setCell ⟨x.gl, s.toNat, none⟩ (.int .i64 y)) ∧ Evo x W { x with t := { x.t with low := x.t.low.set s.toNat y } } (W.setCell ⟨x.gl, s.toNat, none⟩ (.int .i64 y)) := by
  refine ⟨h.upd 1 (fun j hj => ?_) (OwnInts.set (h.comps 1) (by omega) y) (grown_set W x.gl _ _) (.inl rfl) h.rl, Evo.of_grown 1 (fun j hj => ?_) (grown_set W x.gl _ _) (.inl rfl)⟩
  · match j, hj with
    | 0, _ | 2, _ | 3, _ | 4, _ | 5, _ | 6, _ => exact ⟨fun _ h => h, rfl⟩
    | r + 7, _ => exact ⟨fun _ h => h, rfl⟩
  · match j, hj with
    | 0, _ | 2, _ | 3, _ | 4, _ | 5, _ | 6, _ => rfl
    | r + 7, _ => rfl
theorem OwnBs.set {W : World} {B g n : Nat} {d : List Bool} (h : OwnBs W B g n d) {i : Nat} (hi : i < n) (y : Bool) : OwnBs (W.setCell ⟨g, i, none⟩ (.bool y)) B g n (d.set i y) := by
  have := own_set h i hi (.bool y)
  rw [show (d.map Value.bool).set i (.bool y) = (d.set i y).map .bool by simp [List.map_set]] at this
  exact this
theorem FinC.setOn (h : FinC x B W) {s : Int} (h0 : 0 ≤ s) (h1 : s < (x.n : Int)) (y : Bool) :
    FinC { x with t := { x.t with on := x.t.on.set s.toNat y } } B (W.setCell ⟨x.gn, s.toNat, none⟩ (.bool y)) ∧ Evo x W { x with t := { x.t with on := x.t.on.set s.toNat y } } (W.setCell ⟨x.gn, s.toNat, none⟩ (.bool y)) := by
  refine ⟨h.upd 2 (fun j hj => ?_) (OwnBs.set (h.comps 2) (by omega) y) (grown_set W x.gn _ _) (.inl rfl) h.rl, Evo.of_grown 2 (fun j hj => ?_) (grown_set W x.gn _ _) (.inl rfl)⟩
  · match j, hj with
    | 0, _ | 1, _ | 3, _ | 4, _ | 5, _ | 6, _ => exact ⟨fun _ h => h, rfl⟩
    | r + 7, _ => exact ⟨fun _ h => h, rfl⟩
  · match j, hj with
    | 0, _ | 1, _ | 3, _ | 4, _ | 5, _ | 6, _ => rfl
    | r + 7, _ => rfl
theorem FinC.setCnt (h : FinC x B W) (y : Int) :
    FinC { x with t := { x.t with cnt := y } } B (W.setCell ⟨x.p, 0, none⟩ (.int .i64 y)) ∧ Evo x W { x with t := { x.t with cnt := y } } (W.setCell ⟨x.p, 0, none⟩ (.int .i64 y)) := by
  have hc : B ≤ x.p ∧ W.heap[x.p]? = some (.cells #[.int .i64 x.t.cnt] 3 (0, 0)) := h.comps 4
  refine ⟨h.upd 4 (fun j hj => ?_) ⟨hc.1, by simp [World.setCell, Array.getElem?_modify, hc.2]⟩ (grown_set W x.p _ _) (.inl rfl) h.rl, Evo.of_grown 4 (fun j hj => ?_) (grown_set W x.p _ _) (.inl rfl)⟩
  · match j, hj with
    | 0, _ | 1, _ | 2, _ | 3, _ | 5, _ | 6, _ => exact ⟨fun _ h => h, rfl⟩
    | r + 7, _ => exact ⟨fun _ h => h, rfl⟩
  · match j, hj with
    | 0, _ | 1, _ | 2, _ | 3, _ | 5, _ | 6, _ => rfl
    | r + 7, _ => rfl
/-- the field 'open' -/
theorem FinC.boxOpn (h : FinC x B W) (u : Value) :
    FinC { x with ovb := u } B (W.setCell ⟨x.F, 3, none⟩ u) ∧ Evo x W { x with ovb := u } (W.setCell ⟨x.F, 3, none⟩ u) := by
  have hc := h.comps 3
  refine ⟨h.upd 3 (fun j hj => ?_) ⟨hc.1, by simp [World.setCell, Array.getElem?_modify, hc.2]⟩ (grown_set W x.F _ _) (.inl rfl) h.rl, Evo.of_grown 3 (fun j hj => ?_) (grown_set W x.F _ _) (.inl rfl)⟩
  · match j, hj with
    | 0, _ | 1, _ | 2, _ | 4, _ | 5, _ | 6, _ => exact ⟨fun _ h => h, rfl⟩
    | r + 7, _ => exact ⟨fun _ h => h, rfl⟩
  · match j, hj with
    | 0, _ | 1, _ | 2, _ | 4, _ | 5, _ | 6, _ => rfl
    | r + 7, _ => rfl
theorem FinC.boxOut (h : FinC x B W) (u : Value) :
    FinC { x with outb := u } B (W.setCell ⟨x.F, 5, none⟩ u) ∧ Evo x W { x with outb := u } (W.setCell ⟨x.F, 5, none⟩ u) := by
  have hc := h.comps 3
  refine ⟨h.upd 3 (fun j hj => ?_) ⟨hc.1, by simp [World.setCell, Array.getElem?_modify, hc.2]⟩ (grown_set W x.F _ _) (.inl rfl) h.rl, Evo.of_grown 3 (fun j hj => ?_) (grown_set W x.F _ _) (.inl rfl)⟩
  · match j, hj with
    | 0, _ | 1, _ | 2, _ | 4, _ | 5, _ | 6, _ => exact ⟨fun _ h => h, rfl⟩
    | r + 7, _ => exact ⟨fun _ h => h, rfl⟩
  · match j, hj with
    | 0, _ | 1, _ | 2, _ | 4, _ | 5, _ | 6, _ => rfl
    | r + 7, _ => rfl
/-- the open states -/
theorem FinC.newOpn (h : FinC x B W) {W' : World} {ov' : Value} {o : List Int} (hr : W'.ownsRow B 3 1 ov' o.length (ints o.reverse)) (hg : W.grownBy W' x.ov.ownBlock) (ha : ov'.ownBlock = x.ov.ownBlock ∨ ∀ k, ov'.ownBlock = some k → W.heap.size ≤ k) :
    FinC { x with ov := ov', t := { x.t with opn := o } } B W' ∧ Evo x W { x with ov := ov', t := { x.t with opn := o } } W' := by
  refine ⟨h.upd 5 (fun j hj => ?_) hr hg ha h.rl, Evo.of_grown 5 (fun j hj => ?_) hg ha⟩
  · match j, hj with
    | 0, _ | 1, _ | 2, _ | 3, _ | 4, _ | 6, _ => exact ⟨fun _ h => h, rfl⟩
    | r + 7, _ => exact ⟨fun _ h => h, rfl⟩
  · match j, hj with
    | 0, _ | 1, _ | 2, _ | 3, _ | 4, _ | 6, _ => rfl
    | r + 7, _ => rfl
/-- the components' slices -/
theorem FinC.newOut (h : FinC x B W) {W' : World} {v' : Value} {ws' : List Value} (hr : W'.ownsRow B 31 1 v' ws'.length ws') (hg : W.grownBy W' x.outv.ownBlock) (ha : v'.ownBlock = x.outv.ownBlock ∨ ∀ k, v'.ownBlock = some k → W.heap.size ≤ k) :
    FinC { x with outv := v', ws := ws' } B W' ∧ Evo x W { x with outv := v', ws := ws' } W' := by
  refine ⟨h.upd 6 (fun j hj => ?_) hr hg ha h.rl, Evo.of_grown 6 (fun j hj => ?_) hg ha⟩
  · match j, hj with
    | 0, _ | 1, _ | 2, _ | 3, _ | 4, _ | 5, _ => exact ⟨fun _ h => h, rfl⟩
    | r + 7, _ => exact ⟨fun _ h => h, rfl⟩
  · match j, hj with
    | 0, _ | 1, _ | 2, _ | 3, _ | 4, _ | 5, _ => rfl
    | r + 7, _ => rfl
/-- one more component -/
theorem FinC.addRow (h : FinC x B W) {v : Value} {p : List Int} (hr : W.ownsRow B 3 1 v p.length (ints p)) (ho : ∀ k, v.ownBlock = some k → Off x k) :
    FinC { x with vs := x.vs ++ [v], t := { x.t with out := x.t.out ++ [p] } } B W := by
  have hrl := h.rl
  refine h.upd' (x.vs.length + 7) (fun j hj => ?_) ?_ (World.grownBy.refl _ _) (fun k hk => .inr (.inr (ho k ?_))) (by simp [hrl])
  · match j, hj with
    | 0, _ | 1, _ | 2, _ | 3, _ | 4, _ | 5, _ | 6, _ => exact ⟨fun _ h => h, rfl⟩
    | r + 7, hj =>
      have hne : r ≠ x.vs.length := fun e => hj (by rw [e])
      refine ⟨fun W hc u ys hu hy => ?_, ?_⟩
      · rcases Nat.lt_or_ge r x.vs.length with hlt | hge
        · rw [List.getElem?_append_left hlt] at hu
          rw [List.getElem?_append_left (by omega)] at hy
          exact hc u ys hu hy
        · rw [List.getElem?_eq_none (by simp; omega)] at hu; cases hu
      · show ((x.vs ++ [v])[r]?).bind Value.ownBlock = (x.vs[r]?).bind Value.ownBlock
        rcases Nat.lt_or_ge r x.vs.length with hlt | hge
        · rw [List.getElem?_append_left hlt]
        · rw [List.getElem?_eq_none (by simp; omega), List.getElem?_eq_none (by omega)]
  · intro u ys hu hy
    simp at hu
    rw [hrl] at hy
    simp at hy
    subst hu; subst hy
    exact hr
  · simpa [Fp.blk] using hk
/-- cells that are read -/
theorem FinC.box (h : FinC x B W) : (W.cell? ⟨x.F, 0, none⟩ = some x.nx ∧ W.cell? ⟨x.F, 1, none⟩ = some (.slice (some ⟨x.gi, 0, none⟩) x.n x.n) ∧ W.cell? ⟨x.F, 2, none⟩ = some (.slice (some ⟨x.gl, 0, none⟩) x.n x.n) ∧ W.cell? ⟨x.F, 3, none⟩ = some x.ovb ∧ W.cell? ⟨x.F, 4, none⟩ = some (.slice (some ⟨x.gn, 0, none⟩) x.n x.n) ∧ W.cell? ⟨x.F, 5, none⟩ = some x.outb) ∧ ∀ i, W.frozen? ⟨x.F, i, none⟩ = false := by
  have hc := (h.comps 3).2
  refine ⟨⟨?_, ?_, ?_, ?_, ?_, ?_⟩, fun i => ?_⟩ <;> simp [World.cell?, World.frozen?, hc]
theorem FinC.cnt (h : FinC x B W) : W.cell? ⟨x.p, 0, none⟩ = some (.int .i64 x.t.cnt) ∧ W.frozen? ⟨x.p, 0, none⟩ = false := by
  have hc := (h.comps 4).2
  constructor <;> simp [World.cell?, World.frozen?, hc]
theorem FinC.idx (h : FinC x B W) {s : Int} (h0 : 0 ≤ s) (h1 : s < (x.n : Int)) : W.cell? ⟨x.gi, s.toNat, none⟩ = some (.int .i64 (Bfs.at' x.t.idx s)) ∧ W.frozen? ⟨x.gi, s.toNat, none⟩ = false := OwnInts.cellAt (h.comps 0) h0 h1
theorem FinC.low (h : FinC x B W) {s : Int} (h0 : 0 ≤ s) (h1 : s < (x.n : Int)) : W.cell? ⟨x.gl, s.toNat, none⟩ = some (.int .i64 (Bfs.at' x.t.low s)) ∧ W.frozen? ⟨x.gl, s.toNat, none⟩ = false := OwnInts.cellAt (h.comps 1) h0 h1
theorem FinC.on (h : FinC x B W) {s : Int} (h0 : 0 ≤ s) (h1 : s < (x.n : Int)) : W.cell? ⟨x.gn, s.toNat, none⟩ = some (.bool (Tar.onAt x.t.on s)) ∧ W.frozen? ⟨x.gn, s.toNat, none⟩ = false := by
  have hc : OwnBs W B x.gn x.n x.t.on := h.comps 2
  have hl : x.t.on.length = x.n := by have := hc.1; simpa using this
  refine own_cell hc s.toNat _ ?_
  have : s.toNat < x.t.on.length := by omega
  unfold Tar.onAt
  simp [List.getD_eq_getElem?_getD, this]
end

section
variable {x x' : Fp} {B : Nat} {W W' : World}
theorem Evo.cell (h : Evo x W x' W') {k : Nat} (hk : Off x k) (hlt : k < W.heap.size) (o : Nat) : W'.cell? ⟨k, o, none⟩ = W.cell? ⟨k, o, none⟩ := World.cell?_of_block (w := W) (a := ⟨k, o, none⟩) (h.block k hlt hk)
theorem Evo.frozen (h : Evo x W x' W') {k : Nat} (hk : Off x k) (hlt : k < W.heap.size) (o : Nat) : W'.frozen? ⟨k, o, none⟩ = W.frozen? ⟨k, o, none⟩ := World.frozen?_of_block (w := W) (a := ⟨k, o, none⟩) (h.block k hlt hk)
theorem FinC.drew (h : FinC x B W) : FinC x B W.drew := h.kept fun _ _ => rfl
theorem Evo.drew (h : Evo x W x' W') : Evo x W x' W'.drew := ⟨h.os, h.tape, h.output, h.size, h.block, h.blks⟩
end

end Go.Proofs.YtoffbdlgmnpblaaGreat
