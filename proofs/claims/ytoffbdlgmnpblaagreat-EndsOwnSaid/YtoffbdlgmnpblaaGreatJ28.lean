/- Part 28: Enh. -/
import Derived.Test.YtoffbdlgmnpblaaGreatJ27
import Derived.Test.YtoffbdlgmnpblaaGreatJ11
import Derived.Test.YtoffbdlgmnpblaaGreatJ15

/- Package ends: turned. -/
namespace Go.Proofs.YtoffbdlgmnpblaaGreat
open Go.RowKit
set_option maxHeartbeats 4000000
set_option maxRecDepth 100000

/-- sums of chances in an array of the call's own -/
structure SumA (W : World) (g B : Nat) (xs : List Rat) : Prop where
  len : xs.length = 40
  lt : g < B
  low : B ≤ W.heap.size
  ex : ∃ cs : Array Value, W.heap[g]? = some (.cells cs 159 (0, 0)) ∧ cs.size = 160 ∧ ∀ (i : Nat) (x : Rat), xs[i]? = some x → ∃ s A n c s' A' n' c', cs[i * 4]? = some (.int .i64 s) ∧ cs[i * 4 + 1]? = some (.slice A n c) ∧ cs[i * 4 + 2]? = some (.int .i64 s') ∧ cs[i * 4 + 3]? = some (.slice A' n' c') ∧
    RatC W (fun k => B ≤ k ∧ k < W.heap.size) (.agg #[.int .i64 s, .slice A n c, .int .i64 s', .slice A' n' c']) x
theorem flat4 {α : Type} (a b c d : α) : ∀ (n i : Nat), i < n → ((List.replicate n [a, b, c, d]).flatten)[i * 4]? = some a ∧ ((List.replicate n [a, b, c, d]).flatten)[i * 4 + 1]? = some b ∧ ((List.replicate n [a, b, c, d]).flatten)[i * 4 + 2]? = some c ∧ ((List.replicate n [a, b, c, d]).flatten)[i * 4 + 3]? = some d
  | 0, i, h => absurd h (Nat.not_lt_zero _)
  | n + 1, 0, _ => by rw [List.replicate_succ, List.flatten_cons]; exact ⟨rfl, rfl, rfl, rfl⟩
  | n + 1, i + 1, h => by
    have ih := flat4 a b c d n i (by omega)
    have e : ∀ j, ((List.replicate (n + 1) [a, b, c, d]).flatten)[4 + j]? = ((List.replicate n [a, b, c, d]).flatten)[j]? := fun j => by
      rw [List.replicate_succ, List.flatten_cons, List.getElem?_append_right (by simp)]; congr 1; simp
    rw [show (i + 1) * 4 = 4 + i * 4 by omega, show 4 + i * 4 + 1 = 4 + (i * 4 + 1) by omega, show 4 + i * 4 + 2 = 4 + (i * 4 + 2) by omega, show 4 + i * 4 + 3 = 4 + (i * 4 + 3) by omega, e, e, e, e]
    exact ih
theorem zero_cells : Tryz.zeroCells159.size = 160 ∧ ∀ i, i < 40 → Tryz.zeroCells159[i * 4]? = some (.int .i64 0) ∧ Tryz.zeroCells159[i * 4 + 1]? = some (.slice none 0 0) ∧ Tryz.zeroCells159[i * 4 + 2]? = some (.int .i64 0) ∧ Tryz.zeroCells159[i * 4 + 3]? = some (.slice none 0 0) := by
  have h : Tryz.zeroCells159 = ((List.replicate 40 [Value.int .i64 0, .slice none 0 0, .int .i64 0, .slice none 0 0]).flatten).toArray := by kernel_rfl
  rw [h]
  exact ⟨by simp, fun i hi => by simpa only [List.getElem?_toArray] using flat4 _ _ _ _ 40 i hi⟩
theorem SumA.new (w : World) : SumA (w.alloc (.cells Tryz.zeroCells159 159)) w.heap.size (w.heap.size + 1) (List.replicate 40 0) := by
  refine ⟨by simp, by omega, by simp, _, heap_alloc_new _ _, zero_cells.1, fun i x hx => ?_⟩
  have hi : i < 40 := by have := (List.getElem?_eq_some_iff.1 hx).1; simpa using this
  have e : x = 0 := by rw [List.getElem?_replicate, if_pos hi] at hx; injection hx with h; exact h.symm
  subst e
  obtain ⟨h0, h1, h2, h3⟩ := zero_cells.2 i hi
  exact ⟨0, none, 0, 0, 0, none, 0, 0, h0, h1, h2, h3, _, _, _, _, _, _, _, _, 0, rfl, IntC.small (by decide) (by decide), IntC.small (by decide) (by decide), .inr ⟨rfl, rfl⟩⟩
theorem SumA.below {W W' : World} {g B : Nat} {xs : List Rat} (h : SumA W g B xs) (hb : Below W.heap.size W W') : SumA W' g B xs := by
  obtain ⟨h1, h2, h3, cs, hc, hs, hx⟩ := h
  have hg : g < W.heap.size := (Array.getElem?_eq_some_iff.1 hc).1
  refine ⟨h1, h2, Nat.le_trans h3 hb.size, cs, (hb.block g hg).trans hc, hs, fun i x hi => ?_⟩
  obtain ⟨s, A, n, c, s', A', n', c', e0, e1, e2, e3, hr⟩ := hx i x hi
  exact ⟨s, A, n, c, s', A', n', c', e0, e1, e2, e3, (hr.below (lo_from B W) hb).mono fun k hk => ⟨hk.1, Nat.lt_of_lt_of_le hk.2 hb.size⟩⟩
theorem SumA.cells {W : World} {g B : Nat} {xs : List Rat} (h : SumA W g B xs) {i : Nat} {x : Rat} (hi : xs[i]? = some x) : ∃ s A n c s' A' n' c', (W.cell? ⟨g, i * 4, none⟩ = some (.int .i64 s) ∧ W.cell? ⟨g, i * 4 + 1, none⟩ = some (.slice A n c) ∧ W.cell? ⟨g, i * 4 + 2, none⟩ = some (.int .i64 s') ∧ W.cell? ⟨g, i * 4 + 3, none⟩ = some (.slice A' n' c')) ∧
    RatC W (fun k => B ≤ k ∧ k < W.heap.size) (.agg #[.int .i64 s, .slice A n c, .int .i64 s', .slice A' n' c']) x := by
  obtain ⟨h1, h2, h3, cs, hc, hs, hx⟩ := h
  obtain ⟨s, A, n, c, s', A', n', c', e0, e1, e2, e3, hr⟩ := hx i x hi
  refine ⟨s, A, n, c, s', A', n', c', ⟨?_, ?_, ?_, ?_⟩, hr⟩
  · exact (cells_of hc _).1.trans e0
  · exact (cells_of hc _).1.trans e1
  · exact (cells_of hc _).1.trans e2
  · exact (cells_of hc _).1.trans e3
theorem SumA.soft {W : World} {g B : Nat} {xs : List Rat} (h : SumA W g B xs) : ∀ o, W.frozen? ⟨g, o, none⟩ = false := by
  obtain ⟨h1, h2, h3, cs, hc, hs, hx⟩ := h
  exact fun o => (cells_of hc o).2
theorem SumA.block {W : World} {g B : Nat} {xs : List Rat} (h : SumA W g B xs) : g < W.heap.size := by
  obtain ⟨h1, h2, h3, cs, hc, hs, hx⟩ := h
  exact (Array.getElem?_eq_some_iff.1 hc).1
/-- the four stores of a sum -/
abbrev set4at (W : World) (g o : Nat) (a b c d : Value) : World := (((W.setCell ⟨g, o, none⟩ a).setCell ⟨g, o + 1, none⟩ b).setCell ⟨g, o + 2, none⟩ c).setCell ⟨g, o + 3, none⟩ d
theorem SumA.store {W : World} {g B : Nat} {xs : List Rat} (h : SumA W g B xs) {p : Nat} (hp : p < 40) {y : Rat} {s : Int} {A : Option Addr} {n c : Nat} {s' : Int} {A' : Option Addr} {n' c' : Nat} (hr : RatC W (fun k => B ≤ k ∧ k < W.heap.size) (.agg #[.int .i64 s, .slice A n c, .int .i64 s', .slice A' n' c']) y) :
    SumA (set4at W g (p * 4) (.int .i64 s) (.slice A n c) (.int .i64 s') (.slice A' n' c')) g B (xs.set p y) := by
  obtain ⟨h1, h2, h3, cs, hc, hs, hx⟩ := h
  have hset := set_of (set_of (set_of (set_of hc (p * 4) (.int .i64 s)) (p * 4 + 1) (.slice A n c)) (p * 4 + 2) (.int .i64 s')) (p * 4 + 3) (.slice A' n' c')
  have hsame : Same (fun k => B ≤ k ∧ k < W.heap.size) W (set4at W g (p * 4) (.int .i64 s) (.slice A n c) (.int .i64 s') (.slice A' n' c')) := fun k hk => by
    have hne : k ≠ g := by have := hk.1; omega
    exact (Below.heap_setCell _ _ _ _ hne).trans ((Below.heap_setCell _ _ _ _ hne).trans ((Below.heap_setCell _ _ _ _ hne).trans (Below.heap_setCell _ _ _ _ hne)))
  have hsz : (set4at W g (p * 4) (.int .i64 s) (.slice A n c) (.int .i64 s') (.slice A' n' c')).heap.size = W.heap.size := by simp [World.setCell]
  refine ⟨by rw [List.length_set, h1], h2, by rw [hsz]; exact h3, _, hset, by simp [hs], fun i x hi => ?_⟩
  have hmono : ∀ k, (B ≤ k ∧ k < W.heap.size) → (B ≤ k ∧ k < (set4at W g (p * 4) (.int .i64 s) (.slice A n c) (.int .i64 s') (.slice A' n' c')).heap.size) := fun k hk => by rw [hsz]; exact hk
  by_cases e : i = p
  · subst e
    rw [List.getElem?_set_self (by omega)] at hi
    injection hi with hi
    subst hi
    refine ⟨s, A, n, c, s', A', n', c', ?_, ?_, ?_, ?_, (hr.same hsame).mono hmono⟩
    all_goals simp only [Array.getElem?_setIfInBounds, Array.size_setIfInBounds, hs]
    all_goals simp (disch := omega)
    all_goals omega
  · rw [List.getElem?_set_ne (Ne.symm e)] at hi
    obtain ⟨t, A2, n2, c2, t', A3, n3, c3, e0, e1, e2, e3, hr2⟩ := hx i x hi
    have hne : ∀ j k, j < 4 → k < 4 → ¬ (p * 4 + j = i * 4 + k) := fun j k hj hk => by omega
    refine ⟨t, A2, n2, c2, t', A3, n3, c3, ?_, ?_, ?_, ?_, (hr2.same hsame).mono hmono⟩
    all_goals simp only [Array.getElem?_setIfInBounds, Array.size_setIfInBounds]
    · have a0 := hne 0 0 (by omega) (by omega); have a1 := hne 1 0 (by omega) (by omega); have a2 := hne 2 0 (by omega) (by omega); have a3 := hne 3 0 (by omega) (by omega)
      simp only [Nat.add_zero] at a0 a1 a2 a3
      simp [a0, a1, a2, a3, e0]
    · have a0 := hne 0 1 (by omega) (by omega); have a1 := hne 1 1 (by omega) (by omega); have a2 := hne 2 1 (by omega) (by omega); have a3 := hne 3 1 (by omega) (by omega)
      simp only [Nat.add_zero] at a0
      simp only [if_neg a0, if_neg a1, if_neg a2, if_neg a3, e1]
    · have a0 := hne 0 2 (by omega) (by omega); have a1 := hne 1 2 (by omega) (by omega); have a2 := hne 2 2 (by omega) (by omega); have a3 := hne 3 2 (by omega) (by omega)
      simp only [Nat.add_zero] at a0
      simp only [if_neg a0, if_neg a1, if_neg a2, if_neg a3, e2]
    · have a0 := hne 0 3 (by omega) (by omega); have a1 := hne 1 3 (by omega) (by omega); have a2 := hne 2 3 (by omega) (by omega); have a3 := hne 3 3 (by omega) (by omega)
      simp only [Nat.add_zero] at a0
      simp only [if_neg a0, if_neg a1, if_neg a2, if_neg a3, e3]

/-- a number out of the array -/
theorem extract4 {cs : Array Value} {k : Nat} {v0 v1 v2 v3 : Value} (h0 : cs[k]? = some v0) (h1 : cs[k + 1]? = some v1) (h2 : cs[k + 2]? = some v2) (h3 : cs[k + 3]? = some v3) : cs.extract k (k + 4) = #[v0, v1, v2, v3] := by
  have hs : k + 3 < cs.size := (Array.getElem?_eq_some_iff.1 h3).1
  apply Array.ext_getElem?
  intro j
  rw [Array.getElem?_extract]
  match j with
  | 0 => simpa [show 0 < min (k + 4) cs.size - k by omega] using h0
  | 1 => simpa [show 1 < min (k + 4) cs.size - k by omega] using h1
  | 2 => simpa [show 2 < min (k + 4) cs.size - k by omega] using h2
  | 3 => simpa [show 3 < min (k + 4) cs.size - k by omega] using h3
  | j + 4 => simp [show ¬ (j + 4 < min (k + 4) cs.size - k) by omega]
theorem wpList_index40 {w : World} {ops : Array Oper} {rest : List Oper} {o : Oper} {a : Act} {Q : Exit → Act → World → Prop} (hgd : o.guard = none) (x i : Operand) (ho : o.op = .index 159 x i) (cs : Array Value) (hx : a.eval x = .agg cs) (k : Nat) (hi : a.eval i = .int .i64 (k : Int)) (hk : k < 40)
    {v0 v1 v2 v3 : Value} (h0 : cs[k * 4]? = some v0) (h1 : cs[k * 4 + 1]? = some v1) (h2 : cs[k * 4 + 2]? = some v2) (h3 : cs[k * 4 + 3]? = some v3)
    (h : wpList Tryz.prog ops Q rest (a.put o.dst (.agg #[v0, v1, v2, v3])) w) : wpList Tryz.prog ops Q (o :: rest) a w := by
  refine wpList_plain hgd fun _ hK => ?_
  have he := extract4 h0 h1 h2 h3
  have hr : (Instr.index 159 (.agg cs) (.int .i64 (k : Int))).run Tryz.prog w = .ok (.agg #[v0, v1, v2, v3]) w := by
    unfold Instr.index
    simp only [asIntOf, Sem.run_bind, Sem.run_pure, Result.andThen_ok, run_underlying Tryz.underlying159]
    have e9 : (if (0 : Int) ≤ (k : Int) ∧ (k : Int) < ((40 : Nat) : Int) then (do let s ← sizeOf 158; part 158 cs ((k : Int).toNat * s)) else boundsPanic IntKind.i64 (k : Int) ((40 : Nat) : Int) BoundsCode.index : Sem Value) = (do let s ← sizeOf 158; part 158 cs ((k : Int).toNat * s)) := if_pos ⟨by omega, by omega⟩
    rw [e9]
    simp only [part, Sem.run_bind, Tryz.sizeOf158, Tryz.isAgg158, Result.andThen_ok, if_true, Sem.run_pure, Int.toNat_natCast, he]
  unfold Oper.wp execOp
  simp only [ho, hx, hi, Sem.run_bind, hr, Result.andThen_ok, Sem.run_pure]
  exact hK _ _ h

/-! ### what is meant -/
def addAt (xs : List Rat) (p : Nat) (y : Rat) : List Rat := xs.set p (xs.getD p 0 + y)
def placeAt (pl : List Int) (b : Br) : Nat := (pl.getD b.to.toNat 0).toNat
def sumsOf (pl : List Int) (brs : List Br) : List Rat := brs.foldl (fun xs b => addAt xs (placeAt pl b) (ratOf b.ch)) (List.replicate 40 0)
theorem sumsOf_succ (pl : List Int) (l : List Br) (j : Nat) (b : Br) (h : l[j]? = some b) : sumsOf pl (l.take (j + 1)) = addAt (sumsOf pl (l.take j)) (placeAt pl b) (ratOf b.ch) := by
  rw [List.take_add_one, h]
  simp [sumsOf, List.foldl_append]
def turnBrs : List (Rat × Nat) → List Br → Option (List Br)
  | [], acc => some acc
  | (x, t) :: r, acc => if x.num = 0 then turnBrs r acc else if outOk x then turnBrs r (acc ++ [⟨(t : Int), outN x⟩]) else none
def turnedOf (x : Ch) (pl : List Int) : Option Ch := (turnBrs (sumsOf pl x.brs).zipIdx []).map fun bs => ⟨x.rw, bs⟩
def turnCh (x : Ch) (pl : List Int) : Ch := (turnedOf x pl).getD ⟨⟨0, 0⟩, []⟩
def turnE (x : Ch) (pl : List Int) : Int := if (turnedOf x pl).isSome then 0 else 3

end Go.Proofs.YtoffbdlgmnpblaaGreat
