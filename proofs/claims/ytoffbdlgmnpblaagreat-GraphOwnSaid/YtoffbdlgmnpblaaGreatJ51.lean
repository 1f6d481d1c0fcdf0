/- Part 51 of 55: Bnd Aw0 Dic Lw1. -/
import Derived.Test.YtoffbdlgmnpblaaGreatJ49
import Derived.Test.YtoffbdlgmnpblaaGreatJ50
import Derived.KernelRfl
import Derived.Test.YtoffbdlgmnpblaaGreatJ48
import Derived.Test.YtoffbdlgmnpblaaGreatJ25

/- The lengths of the results. -/
namespace Go.Proofs.YtoffbdlgmnpblaaGreat
open Go.RowKit
set_option maxHeartbeats 1000000

theorem edges_bd (m : List St) : (edgesOf m).length ≤ 100000 ∧ ∀ xs ∈ edgesOf m, xs.length ≤ 100000 := by
  unfold edgesOf
  split
  · rename_i hv
    have hf := Fine.of_valid hv
    have := hf.len
    exact ⟨by rw [List.length_map]; omega, fun xs hxs => by have := nextOf_len hf xs hxs; omega⟩
  · exact ⟨by simp, fun xs hxs => (List.not_mem_nil hxs).elim⟩
theorem parts_bd {m : List St} (hv : validB m = true) : (partsOf (m.map nextOf)).length ≤ 100000 ∧ ∀ xs ∈ partsOf (m.map nextOf), xs.length ≤ 100000 := by
  have hf := Fine.of_valid hv
  have hlen := hf.len
  have he := Edges.of_fine hf
  refine ⟨?_, fun xs hxs => ?_⟩
  · have h1 : (partsOf (m.map nextOf)).length = (Tar.found (m.map nextOf)).length := (Lex.lsort_perm _).length_eq
    have h2 := (Tar.upTo_rest (b := 64) (fun xs hxs => nextOf_len hf xs hxs) (Bfs.row_in he.ins) (m.map nextOf).length (Nat.le_refl _)).bd.u
    rw [List.length_map] at h2
    have h3 : (Tar.found (m.map nextOf)).length = (Tar.upTo (m.map nextOf) (m.map nextOf).length).out.length := rfl
    rw [List.length_map] at h3
    omega
  · have h := (found_in (b := 64) (fun xs hxs => nextOf_len hf xs hxs) he.ins xs hxs).2.2
    rw [List.length_map] at h
    omega
theorem comps_bd (m : List St) : (compsOf m).length ≤ 100000 ∧ ∀ xs ∈ compsOf m, xs.length ≤ 100000 := by
  unfold compsOf
  split
  · rename_i hv; exact parts_bd hv
  · exact ⟨by simp, fun xs hxs => (List.not_mem_nil hxs).elim⟩
theorem bot_bd (m : List St) : (botOf m).length ≤ 100000 ∧ ∀ xs ∈ botOf m, xs.length ≤ 100000 := by
  unfold botOf bottomsOf'
  split
  · rename_i hv
    obtain ⟨h1, h2⟩ := parts_bd hv
    exact ⟨Nat.le_trans (List.length_filter_le _ _) h1, fun xs hxs => h2 xs (List.mem_filter.1 hxs).1⟩
  · exact ⟨by simp, fun xs hxs => (List.not_mem_nil hxs).elim⟩
theorem periods_bd (m : List St) : (periodsOf m).length ≤ 100000 := by
  unfold periodsOf
  split
  · rename_i hv; rw [List.length_map]; exact (parts_bd hv).1
  · simp
theorem reach_bd (xss : List (List Int)) (l : List Int) : (reachOf xss l).length ≤ xss.length := by
  unfold reachOf markedBy
  exact Nat.le_trans (List.length_filter_le _ _) (by simp)
theorem asked_valid {m : List St} {l : List Int} (h : askedB m l = true) : validB m = true := by
  unfold askedB at h
  simp only [Bool.and_eq_true] at h
  exact h.1
theorem from_bd (m : List St) (l : List Int) : (fromOf m l).length ≤ 100000 := by
  unfold fromOf
  split
  · rename_i hv
    have := (Fine.of_valid (asked_valid hv)).len
    have h := reach_bd (m.map nextOf) l
    rw [List.length_map] at h
    omega
  · simp
theorem to_bd (m : List St) (l : List Int) : (toOf m l).length ≤ 100000 := by
  unfold toOf
  split
  · rename_i hv
    have := (Fine.of_valid (asked_valid hv)).len
    have h := reach_bd (Bfs.turn (m.map nextOf)) l
    rw [Bfs.turn_len, List.length_map] at h
    omega
  · simp
theorem dist_bd (m : List St) (l : List Int) : (distOf m l).length ≤ 100000 := by
  unfold distOf
  split
  · rename_i hv
    have := (Fine.of_valid (asked_valid hv)).len
    rw [Bfs.depths_len, Bfs.turn_len, List.length_map]
    omega
  · simp
theorem path_bd (m : List St) (s t : Int) : (pathOf m s t).length ≤ 100000 := by
  unfold pathOf
  split
  · rename_i he
    unfold pathErr at he
    split at he
    · rename_i hv
      split at he
      · rename_i hr
        obtain ⟨r1, r2, r3, r4⟩ := hr
        have hf := Fine.of_valid hv
        have hlen := hf.len
        have htl : (Bfs.turn (m.map nextOf)).length = m.length := by rw [Bfs.turn_len, List.length_map]
        have hsp := Bfs.depths_spec (next := Bfs.turn (m.map nextOf)) (l := [t]) (fun x hx => by have e : x = t := (by simpa using hx); rw [e, htl]; exact ⟨r3, r4⟩) (Bfs.turn_in (Edges.of_fine hf).ins)
        rw [htl] at hsp
        have := hsp.low s r1 r2
        rw [Bfs.pathTo_len]
        omega
      · cases he
    · cases he
  · simp

end Go.Proofs.YtoffbdlgmnpblaaGreat

/- What the example of the chapter answers. -/
namespace Go.Proofs.YtoffbdlgmnpblaaGreat
open Go.RowKit
set_option maxRecDepth 100000

def one : Num := ⟨0, 1⟩
def diceM : List St :=
  [⟨0, 0, [⟨one, [⟨1, ⟨2, 3⟩⟩, ⟨2, ⟨1, 3⟩⟩]⟩, ⟨one, [⟨0, ⟨1, 2⟩⟩, ⟨1, ⟨1, 4⟩⟩, ⟨2, ⟨1, 4⟩⟩]⟩]⟩, ⟨0, 0, [⟨one, [⟨1, ⟨1, 1⟩⟩]⟩]⟩, ⟨0, 1, [⟨one, [⟨2, ⟨1, 1⟩⟩]⟩]⟩]

theorem found3 : Tar.found [[0, 1, 2], [1], [2]] = [[1], [2], [0]] := by
  have h : Tar.found [[0, 1, 2], [1], [2]] = [Tar.isort [1], Tar.isort [2], Tar.isort [0]] := by kernel_rfl
  rw [h]
  simp [Tar.isort, List.mergeSort_singleton]
theorem parts3 : partsOf [[0, 1, 2], [1], [2]] = [[0], [1], [2]] := by
  unfold partsOf
  rw [found3]
  exact (Lex.lsort_of (by decide) (by decide)).symm
theorem sort3 : isort ([1, 2, 0] : List Int) = [0, 1, 2] := by
  unfold isort
  refine (List.Perm.eq_of_pairwise (le := fun a b => decide (a ≤ b) = true) (fun a b _ _ h k => ?_) (l₁ := [0, 1, 2]) (by decide) ?_ ((by decide : ([0, 1, 2] : List Int).Perm [1, 2, 0]).trans (List.mergeSort_perm _ _).symm)).symm
  · simp at h k; omega
  · exact List.pairwise_mergeSort (fun a b c h k => by simp at *; omega) (fun a b => by simp; omega) _
theorem dice_next : diceM.map nextOf = [[0, 1, 2], [1], [2]] := by
  have h : diceM.map nextOf = [isort [1, 2, 0], isort [1], isort [2]] := by kernel_rfl
  rw [h, sort3]
  simp [isort, List.mergeSort_singleton]
theorem dice_valid : validB diceM = true := by decide +kernel
theorem dice_comps : compsOf diceM = [[0], [1], [2]] := by
  unfold compsOf; rw [if_pos dice_valid, dice_next, parts3]
theorem dice_bot : botOf diceM = [[1], [2]] := by
  unfold botOf bottomsOf'; rw [if_pos dice_valid, dice_next, parts3]; decide
theorem dice_periods : periodsOf diceM = [1, 1, 1] := by
  unfold periodsOf; rw [if_pos dice_valid, dice_next, parts3]; kernel_rfl
end Go.Proofs.YtoffbdlgmnpblaaGreat

/- The law's num and dice. -/
namespace Go.Proofs.YtoffbdlgmnpblaaGreat
open Go.RowKit
set_option maxHeartbeats 4000000
set_option maxRecDepth 100000

theorem num5_calls (a b : Int) (w : World) :
    Calls Tryz.prog 121 #[.int .i64 a, .int .i64 b] w fun e w' => e = .returned (.agg #[.int .i64 a, .int .i64 b]) ∧ w' = w.alloc (.cells #[.int .i64 a, .int .i64 b] 94) := by
  have e0 := (cells_of (heap_alloc_new w (.cells #[.int .i64 a, .int .i64 b] 94)) 0).1
  have e1 := (cells_of (heap_alloc_new w (.cells #[.int .i64 a, .int .i64 b] 94)) 1).1
  go_enter Tryz.func121, Tryz.ntmps121
  go_wp2
  exact bodyPost_ret (v := .agg #[.int .i64 a, .int .i64 b]) (by simp [results, Tryz.results121, go_sem, e0, e1]) rfl ⟨rfl, rfl⟩

/-- a slice of three-cell elements from its block -/
theorem sl3_of_block {α β : Type} {K : Kind β} {W : World} {D : Nat → Prop} {b n : Nat} {cs : Array Value} {t : TypeId} {fr : Nat × Nat} (l : List α) {f g h : α → Value} (tf : α → β) (hK : K.sz = 3)
    (hb : W.heap[b]? = some (.cells cs t fr)) (hD : D b) (hn : l.length = n) (hm : n ≤ maxLen) (hcs : cs.toList = l.flatMap fun a => [f a, g a, h a]) (hr : ∀ a ∈ l, K.R W D [f a, g a, h a] (tf a)) :
    Sl K W D (.slice (some ⟨b, 0, none⟩) n n) (l.map tf) := by
  subst hn
  have hc : ∀ i u, (l.flatMap fun a => [f a, g a, h a])[i]? = some u → W.cell? ⟨b, i, none⟩ = some u := fun i u hu => by
    rw [← hcs] at hu
    simp only [World.cell?, hb]
    rw [← Array.getElem?_toList]; exact hu
  refine ⟨some ⟨b, 0, none⟩, l.length, by rw [List.length_map], by rw [List.length_map]; exact Nat.le_refl _, hm, fun i x hx => ?_⟩
  rw [List.getElem?_map] at hx
  obtain ⟨a, ha, rfl⟩ := Option.map_eq_some_iff.1 hx
  obtain ⟨e0, e1, e2⟩ := flat3_at f g h l i a ha
  refine ⟨⟨b, 0, none⟩, _, rfl, hD, hr a (List.mem_of_getElem? ha), fun j u hj => ?_⟩
  rw [add_of_add, hK, show (⟨b, 0, none⟩ : Addr).add (i * 3 + j) = ⟨b, i * 3 + j, none⟩ by unfold Addr.add; split <;> simp_all]
  match j, hj with
  | 0, hj => simp at hj; subst hj; exact hc _ _ e0
  | 1, hj => simp at hj; subst hj; exact hc _ _ e1
  | 2, hj => simp at hj; subst hj; exact hc _ _ e2
  | j + 3, hj => simp at hj
theorem br_of_block {W : World} {D : Nat → Prop} {b n : Nat} {cs : Array Value} {t : TypeId} {fr : Nat × Nat} (l : List Br) (hb : W.heap[b]? = some (.cells cs t fr)) (hD : D b) (hn : l.length = n) (hm : n ≤ maxLen) (hcs : cs.toList = bcells l) :
    Sl Kind.br W D (.slice (some ⟨b, 0, none⟩) n n) l := by
  have := sl3_of_block (K := Kind.br) l id rfl hb hD hn hm hcs fun a _ => rfl
  simpa using this
theorem ch_of_block {W : World} {D : Nat → Prop} {b n : Nat} {cs : Array Value} {t : TypeId} {fr : Nat × Nat} (l : List CO) (hb : W.heap[b]? = some (.cells cs t fr)) (hD : D b) (hn : l.length = n) (hm : n ≤ maxLen) (hcs : cs.toList = ccells l)
    (h : ∀ c ∈ l, Sl Kind.br W D c.v c.brs) : Sl Kind.ch W D (.slice (some ⟨b, 0, none⟩) n n) (l.map CO.ch) :=
  sl3_of_block (K := Kind.ch) l CO.ch rfl hb hD hn hm hcs fun c hc => ⟨c.v, rfl, h c hc⟩
theorem st_of_block {W : World} {D : Nat → Prop} {b n : Nat} {cs : Array Value} {t : TypeId} {fr : Nat × Nat} (l : List SO) (hb : W.heap[b]? = some (.cells cs t fr)) (hD : D b) (hn : l.length = n) (hm : n ≤ maxLen) (hcs : cs.toList = scells l)
    (h : ∀ s ∈ l, Sl Kind.ch W D s.v (s.chs.map CO.ch)) : Sl Kind.st W D (.slice (some ⟨b, 0, none⟩) n n) (l.map SO.st) :=
  sl3_of_block (K := Kind.st) l SO.st rfl hb hD hn hm hcs fun s hs => ⟨s.v, rfl, h s hs⟩

/-- the blocks that dice makes -/
def diceBlocks (n : Nat) : List Obj :=
  [.cells #[.slice (some ⟨n + 1 + 1 + 1 + 1 + 1 + 1 + 1 + 1 + 1 + 1 + 1 + 1 + 1 + 1 + 1 + 1 + 1 + 1 + 1, 0, none⟩) 3 3] 24,
   .cells #[.int .i64 0, .int .i64 1] 94,
   .cells #[.int .i64 2, .int .i64 3] 94,
   .cells #[.int .i64 1, .int .i64 3] 94,
   .cells #[.int .i64 1, .int .i64 2, .int .i64 3, .int .i64 2, .int .i64 1, .int .i64 3] 103,
   .cells #[.int .i64 0, .int .i64 1] 94,
   .cells #[.int .i64 1, .int .i64 2] 94,
   .cells #[.int .i64 1, .int .i64 4] 94,
   .cells #[.int .i64 1, .int .i64 4] 94,
   .cells #[.int .i64 0, .int .i64 1, .int .i64 2, .int .i64 1, .int .i64 1, .int .i64 4, .int .i64 2, .int .i64 1, .int .i64 4] 103,
   .cells #[.int .i64 0, .int .i64 1, .slice (some ⟨n + 1 + 1 + 1 + 1, 0, none⟩) 2 2, .int .i64 0, .int .i64 1, .slice (some ⟨n + 1 + 1 + 1 + 1 + 1 + 1 + 1 + 1 + 1, 0, none⟩) 3 3] 97,
   .cells #[.int .i64 0, .int .i64 1] 94,
   .cells #[.int .i64 1, .int .i64 1] 94,
   .cells #[.int .i64 1, .int .i64 1, .int .i64 1] 103,
   .cells #[.int .i64 0, .int .i64 1, .slice (some ⟨n + 1 + 1 + 1 + 1 + 1 + 1 + 1 + 1 + 1 + 1 + 1 + 1 + 1, 0, none⟩) 1 1] 97,
   .cells #[.int .i64 0, .int .i64 1] 94,
   .cells #[.int .i64 1, .int .i64 1] 94,
   .cells #[.int .i64 2, .int .i64 1, .int .i64 1] 103,
   .cells #[.int .i64 0, .int .i64 1, .slice (some ⟨n + 1 + 1 + 1 + 1 + 1 + 1 + 1 + 1 + 1 + 1 + 1 + 1 + 1 + 1 + 1 + 1 + 1, 0, none⟩) 1 1] 97,
   .cells #[.int .i64 0, .int .i64 0, .slice (some ⟨n + 1 + 1 + 1 + 1 + 1 + 1 + 1 + 1 + 1 + 1, 0, none⟩) 2 2, .int .i64 0, .int .i64 0, .slice (some ⟨n + 1 + 1 + 1 + 1 + 1 + 1 + 1 + 1 + 1 + 1 + 1 + 1 + 1 + 1, 0, none⟩) 1 1, .int .i64 0, .int .i64 1, .slice (some ⟨n + 1 + 1 + 1 + 1 + 1 + 1 + 1 + 1 + 1 + 1 + 1 + 1 + 1 + 1 + 1 + 1 + 1 + 1, 0, none⟩) 1 1] 79]
theorem dice_model (w : World) : ModelC (allocs w (diceBlocks w.heap.size)) (nws w (allocs w (diceBlocks w.heap.size))) (.agg #[.slice (some ⟨w.heap.size + 1 + 1 + 1 + 1 + 1 + 1 + 1 + 1 + 1 + 1 + 1 + 1 + 1 + 1 + 1 + 1 + 1 + 1 + 1, 0, none⟩) 3 3]) diceM := by
  have hD : ∀ (i : Nat) cs t, (diceBlocks w.heap.size)[i]? = some (.cells cs t) → (allocs w (diceBlocks w.heap.size)).heap[w.heap.size + i]? = some (.cells cs t (0, 0)) ∧ nws w (allocs w (diceBlocks w.heap.size)) (w.heap.size + i) := fun i cs t h => by
    have h1 := allocs_at (diceBlocks w.heap.size) w i _ h
    exact ⟨h1, Nat.le_add_right _ _, (Array.getElem?_eq_some_iff.1 h1).1, soft_of_block h1⟩
  obtain ⟨b4, d4⟩ := hD 4 _ _ rfl
  obtain ⟨b9, d9⟩ := hD 9 _ _ rfl
  obtain ⟨b10, d10⟩ := hD 10 _ _ rfl
  obtain ⟨b13, d13⟩ := hD 13 _ _ rfl
  obtain ⟨b14, d14⟩ := hD 14 _ _ rfl
  obtain ⟨b17, d17⟩ := hD 17 _ _ rfl
  obtain ⟨b18, d18⟩ := hD 18 _ _ rfl
  obtain ⟨b19, d19⟩ := hD 19 _ _ rfl
  generalize hW : allocs w (diceBlocks w.heap.size) = W at *
  generalize hN : w.heap.size = n at *
  have r4 : Sl Kind.br W (nws w W) (.slice (some ⟨n + 4, 0, none⟩) 2 2) [⟨1, ⟨2, 3⟩⟩, ⟨2, ⟨1, 3⟩⟩] := br_of_block _ b4 d4 rfl (by decide) rfl
  have r9 : Sl Kind.br W (nws w W) (.slice (some ⟨n + 9, 0, none⟩) 3 3) [⟨0, ⟨1, 2⟩⟩, ⟨1, ⟨1, 4⟩⟩, ⟨2, ⟨1, 4⟩⟩] := br_of_block _ b9 d9 rfl (by decide) rfl
  have r13 : Sl Kind.br W (nws w W) (.slice (some ⟨n + 13, 0, none⟩) 1 1) [⟨1, ⟨1, 1⟩⟩] := br_of_block _ b13 d13 rfl (by decide) rfl
  have r17 : Sl Kind.br W (nws w W) (.slice (some ⟨n + 17, 0, none⟩) 1 1) [⟨2, ⟨1, 1⟩⟩] := br_of_block _ b17 d17 rfl (by decide) rfl
  have r10 := ch_of_block (n := 2) (D := nws w W) [⟨.slice (some ⟨n + 4, 0, none⟩) 2 2, one, [⟨1, ⟨2, 3⟩⟩, ⟨2, ⟨1, 3⟩⟩]⟩, ⟨.slice (some ⟨n + 9, 0, none⟩) 3 3, one, [⟨0, ⟨1, 2⟩⟩, ⟨1, ⟨1, 4⟩⟩, ⟨2, ⟨1, 4⟩⟩]⟩] b10 d10 rfl (by decide) rfl (by
    intro c hc
    simp only [List.mem_cons, List.not_mem_nil, or_false] at hc
    rcases hc with rfl | rfl
    · exact r4
    · exact r9)
  have r14 := ch_of_block (n := 1) (D := nws w W) [⟨.slice (some ⟨n + 13, 0, none⟩) 1 1, one, [⟨1, ⟨1, 1⟩⟩]⟩] b14 d14 rfl (by decide) rfl (by
    intro c hc
    simp only [List.mem_cons, List.not_mem_nil, or_false] at hc
    subst hc
    exact r13)
  have r18 := ch_of_block (n := 1) (D := nws w W) [⟨.slice (some ⟨n + 17, 0, none⟩) 1 1, one, [⟨2, ⟨1, 1⟩⟩]⟩] b18 d18 rfl (by decide) rfl (by
    intro c hc
    simp only [List.mem_cons, List.not_mem_nil, or_false] at hc
    subst hc
    exact r17)
  have r19 := st_of_block (n := 3) (D := nws w W) [⟨.slice (some ⟨n + 10, 0, none⟩) 2 2, 0, 0, [⟨.slice (some ⟨n + 4, 0, none⟩) 2 2, one, [⟨1, ⟨2, 3⟩⟩, ⟨2, ⟨1, 3⟩⟩]⟩, ⟨.slice (some ⟨n + 9, 0, none⟩) 3 3, one, [⟨0, ⟨1, 2⟩⟩, ⟨1, ⟨1, 4⟩⟩, ⟨2, ⟨1, 4⟩⟩]⟩]⟩,
      ⟨.slice (some ⟨n + 14, 0, none⟩) 1 1, 0, 0, [⟨.slice (some ⟨n + 13, 0, none⟩) 1 1, one, [⟨1, ⟨1, 1⟩⟩]⟩]⟩, ⟨.slice (some ⟨n + 18, 0, none⟩) 1 1, 0, 1, [⟨.slice (some ⟨n + 17, 0, none⟩) 1 1, one, [⟨2, ⟨1, 1⟩⟩]⟩]⟩] b19 d19 rfl (by decide) rfl (by
    intro c hc
    simp only [List.mem_cons, List.not_mem_nil, or_false] at hc
    rcases hc with rfl | rfl | rfl
    · exact r10
    · exact r14
    · exact r18)
  exact ⟨_, rfl, r19⟩

theorem dice_calls (w : World) :
    Calls Tryz.prog 68 #[] w fun e w' => ∃ v, e = .returned v ∧ Below w.heap.size w w' ∧ ModelC w' (nws w w') v diceM := by
  have e0 := (cells_of (allocs_at (diceBlocks w.heap.size) w 0 _ rfl) 0).1
  simp only [allocs, diceBlocks, List.foldl, Nat.add_zero] at e0
  have HP : Hid (Below w.heap.size w (allocs w (diceBlocks w.heap.size)) ∧ ModelC (allocs w (diceBlocks w.heap.size)) (nws w (allocs w (diceBlocks w.heap.size))) (.agg #[.slice (some ⟨w.heap.size + 1 + 1 + 1 + 1 + 1 + 1 + 1 + 1 + 1 + 1 + 1 + 1 + 1 + 1 + 1 + 1 + 1 + 1 + 1, 0, none⟩) 3 3]) diceM) := ⟨allocs_below _ w, dice_model w⟩
  have E0 := Lib.hid e0
  clear e0
  go_enter Tryz.func68, Tryz.ntmps68
  go_wp2_with (go_at_call 121; refine (num5_calls _ _ _).mono ?_; rintro e w' ⟨rfl, rfl⟩)
  have e0 := E0.out
  refine bodyPost_ret (v := .agg #[.slice (some ⟨w.heap.size + 1 + 1 + 1 + 1 + 1 + 1 + 1 + 1 + 1 + 1 + 1 + 1 + 1 + 1 + 1 + 1 + 1 + 1 + 1, 0, none⟩) 3 3]) (by simp [results, Tryz.results68, go_sem, e0]) rfl ⟨_, rfl, ?_, ?_⟩
  · exact HP.out.1
  · exact HP.out.2

end Go.Proofs.YtoffbdlgmnpblaaGreat

/- The laws' own words: lists and lists of lists are compared; sizes are asked. -/
namespace Go.Proofs.YtoffbdlgmnpblaaGreat
open Go.RowKit
set_option maxHeartbeats 4000000
set_option maxRecDepth 100000

theorem take_snoc_eq {α : Type} {xs ys : List α} {j : Nat} {x y : α} (hx : xs[j]? = some x) (hy : ys[j]? = some y) (h : xs.take j = ys.take j) (e : x = y) : xs.take (j + 1) = ys.take (j + 1) := by
  rw [List.take_add_one, List.take_add_one, hx, hy, h, e]
theorem ne_of_at {α : Type} {xs ys : List α} {j : Nat} {x y : α} (hx : xs[j]? = some x) (hy : ys[j]? = some y) (e : x ≠ y) : xs ≠ ys := by
  intro h
  rw [h, hy] at hx
  exact e (Option.some.inj hx).symm

theorem List_calls (xs ys : List Int) (u v : Value) (D : Nat → Prop) (w : World) (hx : Sl (Kind.int .i64) w D u xs) (hy : Sl (Kind.int .i64) w D v ys) (hn : xs.length ≤ 1000000) (_hm : ys.length ≤ 1000000) :
    Calls Tryz.prog 22 #[u, v] w fun e w' => e = .returned (.bool (decide (xs = ys))) ∧ Drawn w w' := by
  obtain ⟨A, c, rfl, h1, h2, h3⟩ := hx.ints
  obtain ⟨B, d, rfl, k1, k2, k3⟩ := hy.ints
  unfold maxLen at h2 k2
  have H3 := Lib.hid h3
  have K3 := Lib.hid k3
  clear hx hy h3 k3
  by_cases hl : xs.length = ys.length
  · rw [← hl] at k1 _hm ⊢
    have HLL := Lib.hid hl
    have HKK := Lib.hid (show 0 < xs.length → ∃ ad, B = some ad ∧ D ad.block ∧ ∀ i, i < xs.length → w.cell? (ad.add i) = some (.int .i64 (Dig.gd ys i)) by rw [hl]; exact K3.out)
    clear hl K3
    go_enter Tryz.func22, Tryz.ntmps22
    go_wp2
    go_loopw [13] (fun k W => ∃ j : Nat, j ≤ xs.length ∧ k = .int .i64 (j : Int) ∧ Drawn w W ∧ Hid (xs.take j = ys.take j)) (fun k _ => xs.length - (intOf k).toNat)
    case atStart => exact ⟨0, Nat.zero_le _, rfl, Drawn.refl _, rfl⟩
    case round =>
      obtain ⟨j, hj, rfl, ⟨nd, rfl⟩, HL⟩ := hrel
      by_cases hlt : j < xs.length
      · obtain ⟨ad, rfl, -, hc⟩ := H3.out (by omega)
        obtain ⟨bd, rfl, -, hd⟩ := HKK.out (by omega)
        have q1 := hc j hlt
        have q2 := hd j hlt
        have hx := List.getElem?_eq_getElem hlt
        have hy := List.getElem?_eq_getElem (show j < ys.length by have := HLL.out; omega)
        rw [Dig.gd_of hx] at q1
        rw [Dig.gd_of hy] at q2
        have HX := Lib.hid hx
        have HY := Lib.hid hy
        generalize xs[j] = x at *
        generalize ys[j] = y at *
        clear hc hd hx hy
        by_cases e : x = y
        · have HS := Lib.hid (take_snoc_eq HX.out HY.out HL.out e)
          have hb : (x != y) = false := by rw [e]; simp
          clear e
          go_wp2
          go_quiet (fail)
          go_wp2
          refine ⟨⟨j + 1, by omega, by go_num, ?_, HS⟩, by simp [intOf]; omega⟩
          exact ⟨_, rfl⟩
        · have HS := Lib.hid (show decide (xs = ys) = false from decide_eq_false (ne_of_at HX.out HY.out e))
          have hb : (x != y) = true := by rw [bne_iff_ne]; exact e
          clear e
          go_wp2
          go_quiet (fail)
          go_wp2
          go_ret
          exact ⟨ret_bool HS.out.symm, by first | exact ⟨_, rfl⟩ | exact ⟨_, World.drewN_drewN _ _ _⟩⟩
      · obtain rfl : j = xs.length := by omega
        have HS := Lib.hid (show decide (xs = ys) = true from decide_eq_true (by
          have := HL.out
          rw [List.take_length, HLL.out, List.take_length] at this; exact this))
        clear hlt
        go_wp2
        go_ret
        exact ⟨ret_bool HS.out.symm, ⟨nd, rfl⟩⟩
  · have hb1 : ((xs.length : Int) != (ys.length : Int)) = true := by rw [bne_iff_ne]; omega
    have hb2 : (xs.length != ys.length) = true := by rw [bne_iff_ne]; exact hl
    have HS := Lib.hid (show decide (xs = ys) = false from decide_eq_false fun e => hl (by rw [e]))
    clear hl
    go_enter Tryz.func22, Tryz.ntmps22
    go_wp2
    go_ret
    exact ⟨ret_bool HS.out.symm, Drawn.refl _⟩

theorem cell_drewN (w : World) (n : Nat) (a : Addr) : (w.drewN n).cell? a = w.cell? a := rfl

theorem Lists_calls (xss yss : List (List Int)) (u v : Value) (D : Nat → Prop) (w : World) (hx : Rows2 w D u xss) (hy : Rows2 w D v yss) (_hn : xss.length ≤ 1000000) (_hm : yss.length ≤ 1000000) (hxl : ∀ l ∈ xss, l.length ≤ 1000000) (hyl : ∀ l ∈ yss, l.length ≤ 1000000) :
    Calls Tryz.prog 21 #[u, v] w fun e w' => e = .returned (.bool (decide (xss = yss))) ∧ Drawn w w' := by
  have at_row : ∀ {A : Option Addr} {c : Nat} {n : Nat} {zss : List (List Int)}, Rows2 w D (.slice A n c) zss → ∀ j z, zss[j]? = some z → ∃ ad r, A = some ad ∧ w.cell? (ad.add j) = some r ∧ Sl (Kind.int .i64) w D r z := by
    intro A c n zss h j z hz
    obtain ⟨A', c', e, -, -, h3⟩ := h
    injection e with e1 e2 e3
    subst e1
    obtain ⟨ad, cs', ea, hd, ⟨r, rfl, hr⟩, hat⟩ := h3 j z hz
    have h0 := hat 0 r rfl
    rw [add_of_add, show j * (Kind.slice (Kind.int .i64)).sz + 0 = j from by show j * 1 + 0 = j; omega] at h0
    exact ⟨ad, r, ea, h0, hr⟩
  obtain ⟨A, c, rfl, h1, h2, -⟩ := hx.form
  obtain ⟨B, d, rfl, k1, k2, -⟩ := hy.form
  unfold maxLen at h2 k2
  have HX0 := Lib.hid (at_row hx)
  have HY0 := Lib.hid (at_row hy)
  have HXL := Lib.hid hxl
  have HYL := Lib.hid hyl
  clear hx hy at_row hxl hyl
  by_cases hl : xss.length = yss.length
  · rw [← hl] at k1 _hm ⊢
    have HLL := Lib.hid hl
    clear hl
    go_enter Tryz.func21, Tryz.ntmps21
    go_wp2
    go_loopw [13] (fun k W => ∃ j : Nat, j ≤ xss.length ∧ k = .int .i64 (j : Int) ∧ Drawn w W ∧ Hid (xss.take j = yss.take j)) (fun k _ => xss.length - (intOf k).toNat)
    case atStart => exact ⟨0, Nat.zero_le _, rfl, Drawn.refl _, rfl⟩
    case round =>
      obtain ⟨j, hj, rfl, ⟨nd, rfl⟩, HL⟩ := hrel
      by_cases hlt : j < xss.length
      · have hx := List.getElem?_eq_getElem hlt
        have hy := List.getElem?_eq_getElem (show j < yss.length by have := HLL.out; omega)
        have HX := Lib.hid hx
        have HY := Lib.hid hy
        obtain ⟨ad, r, rfl, q1, s1⟩ := HX0.out j _ hx
        obtain ⟨bd, r', rfl, q2, s2⟩ := HY0.out j _ hy
        have b1 := HXL.out _ (List.getElem_mem hlt)
        have b2 := HYL.out _ (List.getElem_mem (show j < yss.length by have := HLL.out; omega))
        have S1 := Lib.hid s1
        have S2 := Lib.hid s2
        generalize xss[j] = x at *
        generalize yss[j] = y at *
        clear s1 s2 hx hy
        have hcall : ∀ n, Calls Tryz.prog 22 #[r, r'] (w.drewN (nd + n)) fun e w' => e = .returned (.bool (decide (x = y))) ∧ ∃ m, w' = w.drewN (nd + m) := fun n =>
          (List_calls x y r r' D (w.drewN (nd + n)) (S1.out.same fun _ _ => rfl) (S2.out.same fun _ _ => rfl) b1 b2).mono fun _ _ ⟨he, m, hm⟩ => ⟨he, n + m, by rw [hm, World.drewN_drewN, Nat.add_assoc]⟩
        have HCA := Lib.hid hcall
        clear hcall b1 b2
        by_cases e : x = y
        · have HS := Lib.hid (take_snoc_eq HX.out HY.out HL.out e)
          have hb : decide (x = y) = true := decide_eq_true e
          clear e
          go_wp2
          go_quiet ((go_at_call 22; exact HCA.out _))
          rw [hb]
          clear hb
          go_wp2
          exact ⟨⟨j + 1, by omega, by go_num, ⟨_, rfl⟩, HS⟩, by simp [intOf]; omega⟩
        · have HS := Lib.hid (show decide (xss = yss) = false from decide_eq_false (ne_of_at HX.out HY.out e))
          have hb : decide (x = y) = false := decide_eq_false e
          clear e
          go_wp2
          go_quiet ((go_at_call 22; exact HCA.out _))
          rw [hb]
          clear hb
          go_wp2
          go_ret
          exact ⟨ret_bool HS.out.symm, by first | exact ⟨_, rfl⟩ | exact ⟨_, World.drewN_drewN _ _ _⟩⟩
      · obtain rfl : j = xss.length := by omega
        have HS := Lib.hid (show decide (xss = yss) = true from decide_eq_true (by
          have := HL.out
          rw [List.take_length, HLL.out, List.take_length] at this; exact this))
        clear hlt
        go_wp2
        go_ret
        exact ⟨ret_bool HS.out.symm, ⟨nd, rfl⟩⟩
  · have hb1 : ((xss.length : Int) != (yss.length : Int)) = true := by rw [bne_iff_ne]; omega
    have hb2 : (xss.length != yss.length) = true := by rw [bne_iff_ne]; exact hl
    have HS := Lib.hid (show decide (xss = yss) = false from decide_eq_false fun e => hl (by rw [e]))
    clear hl
    go_enter Tryz.func21, Tryz.ntmps21
    go_wp2
    go_ret
    exact ⟨ret_bool HS.out.symm, Drawn.refl _⟩

end Go.Proofs.YtoffbdlgmnpblaaGreat
