/- Part 48 of 55: Own. -/
import Derived.Test.YtoffbdlgmnpblaaGreatJ47

/- Results that lie in blocks of their own call; the blocks that are spoilt and those that are not. -/
namespace Go.Proofs.YtoffbdlgmnpblaaGreat
open Go.RowKit
set_option maxHeartbeats 1000000

section
variable {B B' : Nat} {W W' : World} {k : Nat}
theorem DB.next (h : DB B W k) (hb : Below W.heap.size W W') : DB B W' k := ⟨h.1, Nat.lt_of_lt_of_le h.2.1 hb.size, h.2.2.same (hb.block k h.2.1)⟩
theorem DB.low (h : DB B' W k) (hB : B ≤ B') : DB B W k := ⟨Nat.le_trans hB h.1, h.2⟩
theorem DB.lo : Lo (DB B W) W := fun _ h => h.2.1
theorem DB.same (hb : Below W.heap.size W W') : Same (DB B W) W W' := fun k hk => hb.block k hk.2.1
theorem Sl.carry {α : Type} {K : Kind α} {v : Value} {xs : List α} (h : Sl K W (DB B W) v xs) (hb : Below W.heap.size W W') : Sl K W' (DB B W') v xs := (h.same (DB.same hb)).mono fun _ hk => DB.next hk hb
theorem Sl.born {α : Type} {K : Kind α} {w : World} {v : Value} {xs : List α} (h : Sl K W (nws w W) v xs) (hB : B ≤ w.heap.size) : Sl K W (DB B W) v xs := h.mono fun _ hk => DB.low hk hB
theorem Sl.sunk {α : Type} {K : Kind α} {v : Value} {xs : List α} (h : Sl K W (DB B' W) v xs) (hB : B ≤ B') : Sl K W (DB B W) v xs := h.mono fun _ hk => DB.low hk hB
end

/-- a row of rows of numbers from its cells -/
theorem rows_of_cells {W : World} {D : Nat → Prop} {b n : Nat} {us : List Value} {xss : List (List Int)} (hl : us.length = xss.length) (hn : xss.length = n) (hm : n ≤ maxLen) (hD : D b)
    (hc : ∀ (j : Nat) u, us[j]? = some u → W.cell? ⟨b, j, none⟩ = some u) (h : ∀ (j : Nat) u xs, us[j]? = some u → xss[j]? = some xs → Sl (Kind.int .i64) W D u xs) : Rows2 W D (.slice (some ⟨b, 0, none⟩) n n) xss := by
  subst hn
  refine ⟨some ⟨b, 0, none⟩, xss.length, rfl, Nat.le_refl _, hm, fun i xs hx => ?_⟩
  have hi : i < us.length := by have := (List.getElem?_eq_some_iff.1 hx).1; omega
  refine ⟨⟨b, 0, none⟩, [us[i]], rfl, hD, ⟨us[i], rfl, h i _ xs (List.getElem?_eq_getElem hi) hx⟩, fun j u hj => ?_⟩
  cases j with
  | zero =>
    simp at hj
    subst hj
    have := hc i us[i] (List.getElem?_eq_getElem hi)
    by_cases h0 : i = 0 <;> simpa [Addr.add, Kind.slice, h0] using this
  | succ j => simp at hj

theorem five {α : Type} {p : Nat → α → Prop} {a b c d e : α} (h0 : p 0 a) (h1 : p 1 b) (h2 : p 2 c) (h3 : p 3 d) (h4 : p 4 e) : ∀ (j : Nat) u, [a, b, c, d, e][j]? = some u → p j u := fun j u hj => by
  match j, hj with
  | 0, hj => simp at hj; subst hj; exact h0
  | 1, hj => simp at hj; subst hj; exact h1
  | 2, hj => simp at hj; subst hj; exact h2
  | 3, hj => simp at hj; subst hj; exact h3
  | 4, hj => simp at hj; subst hj; exact h4
  | j + 5, hj => simp at hj

/-- the block of a new array may be written -/
theorem soft_new (w : World) (cs : Array Value) (t : TypeId) : Soft (w.alloc (.cells cs t)) w.heap.size := fun o => by
  have := (cells_of (heap_alloc_new w (.cells cs t)) o).2
  exact this
theorem DB.new {B : Nat} {w : World} (cs : Array Value) (t : TypeId) (hB : B ≤ w.heap.size) : DB B (w.alloc (.cells cs t)) w.heap.size := ⟨hB, by simp, soft_new w cs t⟩

theorem soft_of_block {W : World} {b : Nat} {cs : Array Value} {t : TypeId} (h : W.heap[b]? = some (.cells cs t (0, 0))) : Soft W b := fun o => (cells_of h o).2

/-- several new blocks -/
def allocs (w : World) (os : List Obj) : World := os.foldl World.alloc w
theorem allocs_size : ∀ (os : List Obj) (w : World), (allocs w os).heap.size = w.heap.size + os.length
  | [], _ => rfl
  | o :: os, w => by
    have := allocs_size os (w.alloc o)
    show (allocs (w.alloc o) os).heap.size = _
    rw [this]; simp; omega
theorem allocs_below : ∀ (os : List Obj) (w : World), Below w.heap.size w (allocs w os)
  | [], w => Below.refl _ w
  | o :: os, w => by
    have h1 := (Below.refl w.heap.size w).alloc (Nat.le_refl _) o
    exact h1.trans ((allocs_below os (w.alloc o)).mono (by simp))
theorem allocs_at : ∀ (os : List Obj) (w : World) (i : Nat) (o : Obj), os[i]? = some o → (allocs w os).heap[w.heap.size + i]? = some o
  | [], _, _, _, h => by simp at h
  | o :: os, w, 0, o', h => by
    have e : o = o' := by simpa using h
    subst e
    have h1 := (allocs_below os (w.alloc o)).block w.heap.size (by simp)
    exact h1.trans (heap_alloc_new w o)
  | o :: os, w, i + 1, o', h => by
    have h1 := allocs_at os (w.alloc o) i o' (by simpa using h)
    have h2 : (w.alloc o).heap.size + i = w.heap.size + (i + 1) := by simp; omega
    rw [h2] at h1
    exact h1

/-- numbers from their block -/
theorem ints_of_block {W : World} {D : Nat → Prop} {b n : Nat} {cs : Array Value} {t : TypeId} {fr : Nat × Nat} (xs : List Int) (hb : W.heap[b]? = some (.cells cs t fr)) (hD : D b) (hn : xs.length = n) (hm : n ≤ maxLen) (hcs : cs.toList = ints xs) :
    Sl (Kind.int .i64) W D (.slice (some ⟨b, 0, none⟩) n n) xs := by
  subst hn
  refine Sl.of_ints (Nat.le_refl _) hm fun _ => ⟨⟨b, 0, none⟩, rfl, hD, fun i hi => ?_⟩
  have e : (⟨b, 0, none⟩ : Addr).add i = ⟨b, i, none⟩ := by unfold Addr.add; split <;> simp_all
  rw [e]
  simp only [World.cell?, hb]
  rw [← Array.getElem?_toList, hcs]
  simp [ints, Dig.gd, hi]
/-- rows of numbers from their block -/
theorem rows_of_block {W : World} {D : Nat → Prop} {b n : Nat} {cs : Array Value} {t : TypeId} {fr : Nat × Nat} (us : List Value) (xss : List (List Int)) (hb : W.heap[b]? = some (.cells cs t fr)) (hD : D b) (hl : us.length = xss.length) (hn : xss.length = n) (hm : n ≤ maxLen) (hcs : cs.toList = us)
    (h : ∀ (j : Nat) u xs, us[j]? = some u → xss[j]? = some xs → Sl (Kind.int .i64) W D u xs) : Rows2 W D (.slice (some ⟨b, 0, none⟩) n n) xss :=
  rows_of_cells hl hn hm hD (fun j u hu => by
    simp only [World.cell?, hb]
    rw [← Array.getElem?_toList, hcs]; exact hu) h

end Go.Proofs.YtoffbdlgmnpblaaGreat
