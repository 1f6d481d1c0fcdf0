/- Part 34: Eo4 Eo5 Ivs. -/
import Derived.Test.YtoffbdlgmnpblaaGreatJ33
import Derived.KernelRfl
import Derived.Test.YtoffbdlgmnpblaaGreatJ32

/- The law's num and dice. -/
namespace Go.Proofs.YtoffbdlgmnpblaaGreat
open Go.RowKit
set_option maxHeartbeats 4000000
set_option maxRecDepth 100000

def one : Num := ⟨0, 1⟩
def diceM : List St :=
  [⟨0, 0, [⟨one, [⟨1, ⟨2, 3⟩⟩, ⟨2, ⟨1, 3⟩⟩]⟩, ⟨one, [⟨0, ⟨1, 2⟩⟩, ⟨1, ⟨1, 4⟩⟩, ⟨2, ⟨1, 4⟩⟩]⟩]⟩, ⟨0, 0, [⟨one, [⟨1, ⟨1, 1⟩⟩]⟩]⟩, ⟨0, 1, [⟨one, [⟨2, ⟨1, 1⟩⟩]⟩]⟩]

theorem dice_valid : validB diceM = true := by decide +kernel
theorem num8_calls (a b : Int) (w : World) :
    Calls Tryz.prog 141 #[.int .i64 a, .int .i64 b] w fun e w' => e = .returned (.agg #[.int .i64 a, .int .i64 b]) ∧ w' = w.alloc (.cells #[.int .i64 a, .int .i64 b] 94) := by
  have e0 := (cells_of (heap_alloc_new w (.cells #[.int .i64 a, .int .i64 b] 94)) 0).1
  have e1 := (cells_of (heap_alloc_new w (.cells #[.int .i64 a, .int .i64 b] 94)) 1).1
  go_enter Tryz.func141, Tryz.ntmps141
  go_wp2
  exact bodyPost_ret (v := .agg #[.int .i64 a, .int .i64 b]) (by simp [results, Tryz.results141, go_sem, e0, e1]) rfl ⟨rfl, rfl⟩

/-- a slice of three-cell elements from its block -/
theorem sl3_of_block {α β : Type} {K : Kind β} {W : World} {D : Nat → Prop} {b n : Nat} {cs : Array Value} {t : TypeId} {fr : Nat × Nat} (l : List α) {f g h : α → Value} (tf : α → β) (hK : K.sz = 3)
    (hb : W.heap[b]? = some (.cells cs t fr)) (hD : D b) (hn : l.length = n) (hm : n ≤ maxLen) (hcs : cs.toList = l.flatMap fun a => [f a, g a, h a]) (hr : ∀ a ∈ l, K.R W D [f a, g a, h a] (tf a)) :
    Sl K W D (.slice (some ⟨b, 0, none⟩) n n) (l.map tf) := by
  subst hn
  have hc : ∀ i u, (l.flatMap fun a => [f a, g a, h a])[i]? = some u → W.cell? ⟨b, i, none⟩ = some u := fun i u hu => by
    rw [← hcs] at hu
    simp only [World.cell?, hb]
    rw [← Array.getElem?_toList]; exact hu
  refine ⟨some ⟨b, 0, none⟩, l.length, by rw [List.length_map], by rw [List.length_map]; exact Nat.le_refl _, hm, fun i x hx => ?_⟩
  rw [List.getElem?_map] at hx
  obtain ⟨a, ha, rfl⟩ := Option.map_eq_some_iff.1 hx
  obtain ⟨e0, e1, e2⟩ := flat3_at f g h l i a ha
  refine ⟨⟨b, 0, none⟩, _, rfl, hD, hr a (List.mem_of_getElem? ha), fun j u hj => ?_⟩
  rw [add_of_add, hK, show (⟨b, 0, none⟩ : Addr).add (i * 3 + j) = ⟨b, i * 3 + j, none⟩ by unfold Addr.add; split <;> simp_all]
  match j, hj with
  | 0, hj => simp at hj; subst hj; exact hc _ _ e0
  | 1, hj => simp at hj; subst hj; exact hc _ _ e1
  | 2, hj => simp at hj; subst hj; exact hc _ _ e2
  | j + 3, hj => simp at hj
theorem br_of_block {W : World} {D : Nat → Prop} {b n : Nat} {cs : Array Value} {t : TypeId} {fr : Nat × Nat} (l : List Br) (hb : W.heap[b]? = some (.cells cs t fr)) (hD : D b) (hn : l.length = n) (hm : n ≤ maxLen) (hcs : cs.toList = bcells l) :
    Sl Kind.br W D (.slice (some ⟨b, 0, none⟩) n n) l := by
  have := sl3_of_block (K := Kind.br) l id rfl hb hD hn hm hcs fun a _ => rfl
  simpa using this
theorem ch_of_block {W : World} {D : Nat → Prop} {b n : Nat} {cs : Array Value} {t : TypeId} {fr : Nat × Nat} (l : List CO) (hb : W.heap[b]? = some (.cells cs t fr)) (hD : D b) (hn : l.length = n) (hm : n ≤ maxLen) (hcs : cs.toList = ccells l)
    (h : ∀ c ∈ l, Sl Kind.br W D c.v c.brs) : Sl Kind.ch W D (.slice (some ⟨b, 0, none⟩) n n) (l.map CO.ch) :=
  sl3_of_block (K := Kind.ch) l CO.ch rfl hb hD hn hm hcs fun c hc => ⟨c.v, rfl, h c hc⟩
theorem st_of_block {W : World} {D : Nat → Prop} {b n : Nat} {cs : Array Value} {t : TypeId} {fr : Nat × Nat} (l : List SO) (hb : W.heap[b]? = some (.cells cs t fr)) (hD : D b) (hn : l.length = n) (hm : n ≤ maxLen) (hcs : cs.toList = scells l)
    (h : ∀ s ∈ l, Sl Kind.ch W D s.v (s.chs.map CO.ch)) : Sl Kind.st W D (.slice (some ⟨b, 0, none⟩) n n) (l.map SO.st) :=
  sl3_of_block (K := Kind.st) l SO.st rfl hb hD hn hm hcs fun s hs => ⟨s.v, rfl, h s hs⟩

/-- the blocks that dice makes -/
def diceBlocks (n : Nat) : List Obj :=
  [.cells #[.slice (some ⟨n + 1 + 1 + 1 + 1 + 1 + 1 + 1 + 1 + 1 + 1 + 1 + 1 + 1 + 1 + 1 + 1 + 1 + 1 + 1, 0, none⟩) 3 3] 24,
   .cells #[.int .i64 0, .int .i64 1] 94,
   .cells #[.int .i64 2, .int .i64 3] 94,
   .cells #[.int .i64 1, .int .i64 3] 94,
   .cells #[.int .i64 1, .int .i64 2, .int .i64 3, .int .i64 2, .int .i64 1, .int .i64 3] 103,
   .cells #[.int .i64 0, .int .i64 1] 94,
   .cells #[.int .i64 1, .int .i64 2] 94,
   .cells #[.int .i64 1, .int .i64 4] 94,
   .cells #[.int .i64 1, .int .i64 4] 94,
   .cells #[.int .i64 0, .int .i64 1, .int .i64 2, .int .i64 1, .int .i64 1, .int .i64 4, .int .i64 2, .int .i64 1, .int .i64 4] 103,
   .cells #[.int .i64 0, .int .i64 1, .slice (some ⟨n + 1 + 1 + 1 + 1, 0, none⟩) 2 2, .int .i64 0, .int .i64 1, .slice (some ⟨n + 1 + 1 + 1 + 1 + 1 + 1 + 1 + 1 + 1, 0, none⟩) 3 3] 97,
   .cells #[.int .i64 0, .int .i64 1] 94,
   .cells #[.int .i64 1, .int .i64 1] 94,
   .cells #[.int .i64 1, .int .i64 1, .int .i64 1] 103,
   .cells #[.int .i64 0, .int .i64 1, .slice (some ⟨n + 1 + 1 + 1 + 1 + 1 + 1 + 1 + 1 + 1 + 1 + 1 + 1 + 1, 0, none⟩) 1 1] 97,
   .cells #[.int .i64 0, .int .i64 1] 94,
   .cells #[.int .i64 1, .int .i64 1] 94,
   .cells #[.int .i64 2, .int .i64 1, .int .i64 1] 103,
   .cells #[.int .i64 0, .int .i64 1, .slice (some ⟨n + 1 + 1 + 1 + 1 + 1 + 1 + 1 + 1 + 1 + 1 + 1 + 1 + 1 + 1 + 1 + 1 + 1, 0, none⟩) 1 1] 97,
   .cells #[.int .i64 0, .int .i64 0, .slice (some ⟨n + 1 + 1 + 1 + 1 + 1 + 1 + 1 + 1 + 1 + 1, 0, none⟩) 2 2, .int .i64 0, .int .i64 0, .slice (some ⟨n + 1 + 1 + 1 + 1 + 1 + 1 + 1 + 1 + 1 + 1 + 1 + 1 + 1 + 1, 0, none⟩) 1 1, .int .i64 0, .int .i64 1, .slice (some ⟨n + 1 + 1 + 1 + 1 + 1 + 1 + 1 + 1 + 1 + 1 + 1 + 1 + 1 + 1 + 1 + 1 + 1 + 1, 0, none⟩) 1 1] 79]
theorem dice_model (w : World) : ModelC (allocs w (diceBlocks w.heap.size)) (nws w (allocs w (diceBlocks w.heap.size))) (.agg #[.slice (some ⟨w.heap.size + 1 + 1 + 1 + 1 + 1 + 1 + 1 + 1 + 1 + 1 + 1 + 1 + 1 + 1 + 1 + 1 + 1 + 1 + 1, 0, none⟩) 3 3]) diceM := by
  have hD : ∀ (i : Nat) cs t, (diceBlocks w.heap.size)[i]? = some (.cells cs t) → (allocs w (diceBlocks w.heap.size)).heap[w.heap.size + i]? = some (.cells cs t (0, 0)) ∧ nws w (allocs w (diceBlocks w.heap.size)) (w.heap.size + i) := fun i cs t h => by
    have h1 := allocs_at (diceBlocks w.heap.size) w i _ h
    exact ⟨h1, Nat.le_add_right _ _, (Array.getElem?_eq_some_iff.1 h1).1, soft_of_block h1⟩
  obtain ⟨b4, d4⟩ := hD 4 _ _ rfl
  obtain ⟨b9, d9⟩ := hD 9 _ _ rfl
  obtain ⟨b10, d10⟩ := hD 10 _ _ rfl
  obtain ⟨b13, d13⟩ := hD 13 _ _ rfl
  obtain ⟨b14, d14⟩ := hD 14 _ _ rfl
  obtain ⟨b17, d17⟩ := hD 17 _ _ rfl
  obtain ⟨b18, d18⟩ := hD 18 _ _ rfl
  obtain ⟨b19, d19⟩ := hD 19 _ _ rfl
  generalize hW : allocs w (diceBlocks w.heap.size) = W at *
  generalize hN : w.heap.size = n at *
  have r4 : Sl Kind.br W (nws w W) (.slice (some ⟨n + 4, 0, none⟩) 2 2) [⟨1, ⟨2, 3⟩⟩, ⟨2, ⟨1, 3⟩⟩] := br_of_block _ b4 d4 rfl (by decide) rfl
  have r9 : Sl Kind.br W (nws w W) (.slice (some ⟨n + 9, 0, none⟩) 3 3) [⟨0, ⟨1, 2⟩⟩, ⟨1, ⟨1, 4⟩⟩, ⟨2, ⟨1, 4⟩⟩] := br_of_block _ b9 d9 rfl (by decide) rfl
  have r13 : Sl Kind.br W (nws w W) (.slice (some ⟨n + 13, 0, none⟩) 1 1) [⟨1, ⟨1, 1⟩⟩] := br_of_block _ b13 d13 rfl (by decide) rfl
  have r17 : Sl Kind.br W (nws w W) (.slice (some ⟨n + 17, 0, none⟩) 1 1) [⟨2, ⟨1, 1⟩⟩] := br_of_block _ b17 d17 rfl (by decide) rfl
  have r10 := ch_of_block (n := 2) (D := nws w W) [⟨.slice (some ⟨n + 4, 0, none⟩) 2 2, one, [⟨1, ⟨2, 3⟩⟩, ⟨2, ⟨1, 3⟩⟩]⟩, ⟨.slice (some ⟨n + 9, 0, none⟩) 3 3, one, [⟨0, ⟨1, 2⟩⟩, ⟨1, ⟨1, 4⟩⟩, ⟨2, ⟨1, 4⟩⟩]⟩] b10 d10 rfl (by decide) rfl (by
    intro c hc
    simp only [List.mem_cons, List.not_mem_nil, or_false] at hc
    rcases hc with rfl | rfl
    · exact r4
    · exact r9)
  have r14 := ch_of_block (n := 1) (D := nws w W) [⟨.slice (some ⟨n + 13, 0, none⟩) 1 1, one, [⟨1, ⟨1, 1⟩⟩]⟩] b14 d14 rfl (by decide) rfl (by
    intro c hc
    simp only [List.mem_cons, List.not_mem_nil, or_false] at hc
    subst hc
    exact r13)
  have r18 := ch_of_block (n := 1) (D := nws w W) [⟨.slice (some ⟨n + 17, 0, none⟩) 1 1, one, [⟨2, ⟨1, 1⟩⟩]⟩] b18 d18 rfl (by decide) rfl (by
    intro c hc
    simp only [List.mem_cons, List.not_mem_nil, or_false] at hc
    subst hc
    exact r17)
  have r19 := st_of_block (n := 3) (D := nws w W) [⟨.slice (some ⟨n + 10, 0, none⟩) 2 2, 0, 0, [⟨.slice (some ⟨n + 4, 0, none⟩) 2 2, one, [⟨1, ⟨2, 3⟩⟩, ⟨2, ⟨1, 3⟩⟩]⟩, ⟨.slice (some ⟨n + 9, 0, none⟩) 3 3, one, [⟨0, ⟨1, 2⟩⟩, ⟨1, ⟨1, 4⟩⟩, ⟨2, ⟨1, 4⟩⟩]⟩]⟩,
      ⟨.slice (some ⟨n + 14, 0, none⟩) 1 1, 0, 0, [⟨.slice (some ⟨n + 13, 0, none⟩) 1 1, one, [⟨1, ⟨1, 1⟩⟩]⟩]⟩, ⟨.slice (some ⟨n + 18, 0, none⟩) 1 1, 0, 1, [⟨.slice (some ⟨n + 17, 0, none⟩) 1 1, one, [⟨2, ⟨1, 1⟩⟩]⟩]⟩] b19 d19 rfl (by decide) rfl (by
    intro c hc
    simp only [List.mem_cons, List.not_mem_nil, or_false] at hc
    rcases hc with rfl | rfl | rfl
    · exact r10
    · exact r14
    · exact r18)
  exact ⟨_, rfl, r19⟩

theorem dice_calls (w : World) :
    Calls Tryz.prog 97 #[] w fun e w' => ∃ v, e = .returned v ∧ Below w.heap.size w w' ∧ ModelC w' (nws w w') v diceM := by
  have e0 := (cells_of (allocs_at (diceBlocks w.heap.size) w 0 _ rfl) 0).1
  simp only [allocs, diceBlocks, List.foldl, Nat.add_zero] at e0
  have HP : Hid (Below w.heap.size w (allocs w (diceBlocks w.heap.size)) ∧ ModelC (allocs w (diceBlocks w.heap.size)) (nws w (allocs w (diceBlocks w.heap.size))) (.agg #[.slice (some ⟨w.heap.size + 1 + 1 + 1 + 1 + 1 + 1 + 1 + 1 + 1 + 1 + 1 + 1 + 1 + 1 + 1 + 1 + 1 + 1 + 1, 0, none⟩) 3 3]) diceM) := ⟨allocs_below _ w, dice_model w⟩
  have E0 := Lib.hid e0
  clear e0
  go_enter Tryz.func97, Tryz.ntmps97
  go_wp2_with (go_at_call 141; refine (num8_calls _ _ _).mono ?_; rintro e w' ⟨rfl, rfl⟩)
  have e0 := E0.out
  refine bodyPost_ret (v := .agg #[.slice (some ⟨w.heap.size + 1 + 1 + 1 + 1 + 1 + 1 + 1 + 1 + 1 + 1 + 1 + 1 + 1 + 1 + 1 + 1 + 1 + 1 + 1, 0, none⟩) 3 3]) (by simp [results, Tryz.results97, go_sem, e0]) rfl ⟨_, rfl, ?_, ?_⟩
  · exact HP.out.1
  · exact HP.out.2

end Go.Proofs.YtoffbdlgmnpblaaGreat

/- The law's example of ends holds. -/
namespace Go.Proofs.YtoffbdlgmnpblaaGreat
open Go.RowKit
set_option maxHeartbeats 4000000
set_option maxRecDepth 100000

theorem partsE1 : partsOf [[1, 2, 0, 1, 2], [1], [2]] = [[0], [1], [2]] := by
  have h : Tar.found [[1, 2, 0, 1, 2], [1], [2]] = [Tar.isort [1], Tar.isort [2], Tar.isort [0]] := by kernel_rfl
  unfold partsOf
  rw [h]
  simp only [Tar.isort, List.mergeSort_singleton]
  exact (Lex.lsort_of (by decide) (by decide)).symm
theorem partsE2 : partsOf [[], [], [2]] = [[0], [1], [2]] := by
  have h : Tar.found [[], [], [2]] = [Tar.isort [0], Tar.isort [1], Tar.isort [2]] := by kernel_rfl
  unfold partsOf
  rw [h]
  simp only [Tar.isort, List.mergeSort_singleton]
  exact (Lex.lsort_of (by decide) (by decide)).symm
theorem partsE3 : partsOf [[], [1], []] = [[0], [1], [2]] := by
  have h : Tar.found [[], [1], []] = [Tar.isort [0], Tar.isort [1], Tar.isort [2]] := by kernel_rfl
  unfold partsOf
  rw [h]
  simp only [Tar.isort, List.mergeSort_singleton]
  exact (Lex.lsort_of (by decide) (by decide)).symm
theorem eparts_dice1 : epartsOf diceM [0, 1, 2] = [[0], [1], [2]] := by
  unfold epartsOf
  rw [show edgesE diceM ([0, 1, 2].zip (staysL diceM [0, 1, 2])) = [[1, 2, 0, 1, 2], [1], [2]] from by kernel_rfl, partsE1]
  rfl
theorem eparts_dice2 : epartsOf diceM [2] = [[2]] := by
  unfold epartsOf
  rw [show edgesE diceM ([2].zip (staysL diceM [2])) = [[], [], [2]] from by kernel_rfl, partsE2]
  rfl
theorem eparts_dice3 : epartsOf diceM [1] = [[1]] := by
  unfold epartsOf
  rw [show edgesE diceM ([1].zip (staysL diceM [1])) = [[], [1], []] from by kernel_rfl, partsE3]
  rfl
theorem raw_dice : insideRaw diceM [0, 1, 2] = [([2], [[0]]), ([1], [[0]])] := by
  have s1 := Enp.stepI_at (rest := restOf diceM) (parts := epartsOf diceM) (cho := staysL diceM) [] [0, 1, 2] []
  rw [show restOf diceM [0, 1, 2] = [0, 1, 2] from by kernel_rfl, eparts_dice1] at s1
  have s2 := Enp.stepI_at (rest := restOf diceM) (parts := epartsOf diceM) (cho := staysL diceM) [[0], [1]] [2] []
  rw [show restOf diceM [2] = [2] from by kernel_rfl, eparts_dice2, show staysL diceM [2] = [[0]] from by kernel_rfl] at s2
  have s3 := Enp.stepI_at (rest := restOf diceM) (parts := epartsOf diceM) (cho := staysL diceM) [[0]] [1] [([2], [[0]])]
  rw [show restOf diceM [1] = [1] from by kernel_rfl, eparts_dice3, show staysL diceM [1] = [[0]] from by kernel_rfl] at s3
  have s4 := Enp.stepI_at (rest := restOf diceM) (parts := epartsOf diceM) (cho := staysL diceM) [] [0] [([2], [[0]]), ([1], [[0]])]
  rw [show restOf diceM [0] = [] from by kernel_rfl] at s4
  unfold insideRaw Enp.runI
  show (Enp.stepsI (restOf diceM) (epartsOf diceM) (staysL diceM) 6 ([[0, 1, 2]], [])).2 = _
  simp only [Enp.stepsI]
  rw [show (([[0, 1, 2]], []) : Enp.IS) = ([] ++ [[0, 1, 2]], []) from rfl, s1]
  rw [if_neg (by decide), if_neg (by decide), show (([] ++ [[0], [1], [2]], []) : Enp.IS) = ([[0], [1]] ++ [[2]], []) from rfl, s2]
  rw [if_neg (by decide), if_pos (by decide), show (([[0], [1]], [] ++ [([2], [[0]])]) : Enp.IS) = ([[0]] ++ [[1]], [([2], [[0]])]) from rfl, s3]
  rw [if_neg (by decide), if_pos (by decide), show (([[0]], [([2], [[0]])] ++ [([1], [[0]])]) : Enp.IS) = ([] ++ [[0]], [([2], [[0]]), ([1], [[0]])]) from rfl, s4]
  rfl
theorem max_dice : maxOf diceM = [([1], [[0]]), ([2], [[0]])] := by
  unfold maxOf foundOf insideOf
  rw [if_pos dice_valid, show allStates diceM.length = [0, 1, 2] from by kernel_rfl, raw_dice]
  kernel_rfl

/-- what the literals lay -/
def litE (n : Nat) : List Obj := [.cells #[.int .i64 1] 3, .cells #[.int .i64 0] 3, .cells #[.slice (some ⟨n + 1, 0, none⟩) 1 1] 31, .cells #[.int .i64 2] 3, .cells #[.int .i64 0] 3, .cells #[.slice (some ⟨n + 1 + 1 + 1 + 1, 0, none⟩) 1 1] 31,
  .cells #[.slice (some ⟨n, 0, none⟩) 1 1, .slice (some ⟨n + 1 + 1, 0, none⟩) 1 1, .slice (some ⟨n + 1 + 1 + 1, 0, none⟩) 1 1, .slice (some ⟨n + 1 + 1 + 1 + 1 + 1, 0, none⟩) 1 1] 55]
theorem at_litE {w : World} {os : List Obj} {i : Nat} {o : Obj} (h : os[i]? = some o) : (allocs w os).heap[w.heap.size + i]? = some o ∧ w.heap.size + i < (allocs w os).heap.size := by
  have h1 := allocs_at os w i o h
  exact ⟨h1, (Array.getElem?_eq_some_iff.1 h1).1⟩
theorem row1_of_block {W : World} {D : Nat → Prop} {b : Nat} {t : TypeId} {u : Value} {x : List Int} (hb : W.heap[b]? = some (.cells #[u] t (0, 0))) (hD : D b) (hu : Sl (Kind.int .i64) W D u x) : Rows2 W D (.slice (some ⟨b, 0, none⟩) 1 1) [x] := by
  refine rows_of_block [u] [x] hb hD (n := 1) rfl rfl (by decide) rfl fun j a xs ha hx => ?_
  cases j with
  | zero => simp at ha hx; subst ha hx; exact hu
  | succ j => simp at ha
theorem ends_litE (w : World) : Sl Kind.en (allocs w (litE w.heap.size)) (· < (allocs w (litE w.heap.size)).heap.size) (.slice (some ⟨w.heap.size + 1 + 1 + 1 + 1 + 1 + 1, 0, none⟩) 2 2) [([1], [[0]]), ([2], [[0]])] := by
  obtain ⟨a0, d0⟩ := at_litE (w := w) (os := litE w.heap.size) (i := 0) rfl
  obtain ⟨a1, d1⟩ := at_litE (w := w) (os := litE w.heap.size) (i := 1) rfl
  obtain ⟨a2, d2⟩ := at_litE (w := w) (os := litE w.heap.size) (i := 2) rfl
  obtain ⟨a3, d3⟩ := at_litE (w := w) (os := litE w.heap.size) (i := 3) rfl
  obtain ⟨a4, d4⟩ := at_litE (w := w) (os := litE w.heap.size) (i := 4) rfl
  obtain ⟨a5, d5⟩ := at_litE (w := w) (os := litE w.heap.size) (i := 5) rfl
  obtain ⟨a6, d6⟩ := at_litE (w := w) (os := litE w.heap.size) (i := 6) rfl
  generalize hW : allocs w (litE w.heap.size) = W at *
  generalize hN : w.heap.size = n at *
  have r0 : Sl (Kind.int .i64) W (· < W.heap.size) (.slice (some ⟨n, 0, none⟩) 1 1) [1] := ints_of_block [1] a0 d0 rfl (by decide) rfl
  have r1 : Sl (Kind.int .i64) W (· < W.heap.size) (.slice (some ⟨n + 1, 0, none⟩) 1 1) [0] := ints_of_block [0] a1 d1 rfl (by decide) rfl
  have r3 : Sl (Kind.int .i64) W (· < W.heap.size) (.slice (some ⟨n + 1 + 1 + 1, 0, none⟩) 1 1) [2] := ints_of_block [2] a3 d3 rfl (by decide) rfl
  have r4 : Sl (Kind.int .i64) W (· < W.heap.size) (.slice (some ⟨n + 1 + 1 + 1 + 1, 0, none⟩) 1 1) [0] := ints_of_block [0] a4 d4 rfl (by decide) rfl
  have r2 := row1_of_block (D := (· < W.heap.size)) a2 d2 r1
  have r5 := row1_of_block (D := (· < W.heap.size)) a5 d5 r4
  have hc : ∀ i u, [Value.slice (some ⟨n, 0, none⟩) 1 1, .slice (some ⟨n + 1 + 1, 0, none⟩) 1 1, .slice (some ⟨n + 1 + 1 + 1, 0, none⟩) 1 1, .slice (some ⟨n + 1 + 1 + 1 + 1 + 1, 0, none⟩) 1 1][i]? = some u → W.cell? ⟨n + 6, i, none⟩ = some u := fun i u hu => by
    simp only [World.cell?, a6]
    simpa using hu
  refine ⟨some ⟨n + 6, 0, none⟩, 2, rfl, Nat.le_refl _, by decide, fun i x hx => ?_⟩
  have hadd : ∀ k, (⟨n + 6, 0, none⟩ : Addr).add k = ⟨n + 6, k, none⟩ := fun k => by unfold Addr.add; split <;> simp_all
  match i, hx with
  | 0, hx =>
    simp at hx; subst hx
    refine ⟨⟨n + 6, 0, none⟩, _, rfl, d6, ⟨_, _, rfl, r0, r2⟩, fun j u hj => ?_⟩
    rw [add_of_add, hadd]
    match j, hj with
    | 0, hj => exact hc 0 u hj
    | 1, hj => exact hc 1 u hj
    | j + 2, hj => simp at hj
  | 1, hx =>
    simp at hx; subst hx
    refine ⟨⟨n + 6, 0, none⟩, _, rfl, d6, ⟨_, _, rfl, r3, r5⟩, fun j u hj => ?_⟩
    rw [add_of_add, hadd]
    match j, hj with
    | 0, hj => exact hc 2 u hj
    | 1, hj => exact hc 3 u hj
    | j + 2, hj => simp at hj
  | i + 2, hx => simp at hx

theorem awake8_calls (w : World) :
    Calls Tryz.prog 46 #[] w fun e w' => e = .returned (.bool true) ∧ Below w.heap.size w w' := by
  have hv : err (validB diceM) = 0 := by rw [dice_valid]; rfl
  have HV := Lib.hid hv
  clear hv
  go_enter Tryz.func46, Tryz.ntmps46
  go_wp2_with fail
  refine (dice_calls w).mono ?_
  rintro e w1 ⟨v1, rfl, hb1, hm1⟩
  have HM := Lib.hid hm1
  clear hm1
  go_wp2_with fail
  refine (Maximal_calls diceM v1 _ w1 (fun k hk => hk.2.1) HM.out).mono ?_
  rintro e w2 ⟨cv, he, hb2, hc2⟩
  rw [HV.out] at he
  subst he
  rw [max_dice] at hc2
  have HC := Lib.hid hc2
  obtain ⟨CA, cn, cc, rfl⟩ := hc2.shape
  have HB2 := Lib.hid (hb1.trans (hb2.mono hb1.size))
  clear hb1 hb2 hc2 HM
  go_wp2_with fail
  refine (same8_calls _ _ _ w2 (fun k hk => hk.2.1) HC.out (by decide)).mono ?_
  rintro e w3 ⟨sv, rfl, hb3, hs3⟩
  have HS3 := Lib.hid hs3
  obtain ⟨SA, sn, sc, rfl⟩ := hs3.shape
  have HB3 := Lib.hid (HB2.out.trans (hb3.mono HB2.out.size))
  clear hb3 hs3 HC HB2
  go_wp2_with fail
  have HB4 := Lib.hid (allocs_below (litE w3.heap.size) w3)
  refine (Same_calls [([1], [[0]]), ([2], [[0]])] [([1], [[0]]), ([2], [[0]])] _ _ _ _ (allocs w3 (litE w3.heap.size)) (Sl.on HS3.out HB4.out) (ends_litE w3)).mono ?_
  rintro e w5 ⟨he, hd⟩
  rw [decide_eq_true rfl] at he
  subst he
  have HB5 := Lib.hid (HB3.out.trans ((HB4.out.trans ((hd.below _).mono HB4.out.size)).mono HB3.out.size))
  clear hd HS3 HB4 HB3
  go_wp2
  go_ret
  exact ⟨rfl, HB5.out⟩

end Go.Proofs.YtoffbdlgmnpblaaGreat

/- What single operations leave. -/
namespace Go.Proofs.YtoffbdlgmnpblaaGreat
open Go.RowKit
set_option maxHeartbeats 4000000
set_option maxRecDepth 100000

section
variable {o : Oper} {ρ : Operand → Value} {w : World} {R : Value → World → Prop}
theorem st_move {P : Program} {x : Operand} (ho : o.op = .move x ∨ o.op = .assign x) (h : R (ρ x) w) : StepR P o ρ w R := by
  unfold StepR execOp
  rcases ho with ho | ho <;> simp only [ho, Sem.run_pure] <;> exact h
theorem st_load24 {x : Operand} {b : Nat} {u : Value} (ho : o.op = .load 24 x) (hx : ρ x = .pointer (some ⟨b, 0, none⟩)) (hc : w.cell? ⟨b, 0, none⟩ = some u) (h : R (.agg #[u]) w) : StepR Tryz.prog o ρ w R := by
  have hr : (Instr.loadAt 24 (.pointer (some ⟨b, 0, none⟩))).run Tryz.prog w = .ok (.agg #[u]) w := by
    go_simp
  unfold StepR execOp
  simp only [ho, hx, Sem.run_bind, hr, Sem.run_pure, Result.andThen_ok]
  exact h
theorem st_load53 {x : Operand} {b : Nat} {u v : Value} (ho : o.op = .load 53 x) (hx : ρ x = .pointer (some ⟨b, 0, none⟩)) (hc : w.cell? ⟨b, 0, none⟩ = some u) (hd : w.cell? ⟨b, 1, none⟩ = some v) (h : R (.agg #[u, v]) w) : StepR Tryz.prog o ρ w R := by
  have hr : (Instr.loadAt 53 (.pointer (some ⟨b, 0, none⟩))).run Tryz.prog w = .ok (.agg #[u, v]) w := by
    go_simp
  unfold StepR execOp
  simp only [ho, hx, Sem.run_bind, hr, Sem.run_pure, Result.andThen_ok]
  exact h
theorem st_build0 (ho : o.op = .buildSlice 31 0 #[]) (h : R (.slice (some ⟨w.heap.size, 0, none⟩) 0 0) (w.alloc (.cells #[] 3))) : StepR Tryz.prog o ρ w R := by
  have hr : (Instr.buildSlice 31 0 #[]).run Tryz.prog w = .ok (.slice (some ⟨w.heap.size, 0, none⟩) 0 0) (w.alloc (.cells #[] 3)) := by
    go_simp
  unfold StepR execOp
  simp only [ho, List.map_toArray, List.map_nil, Sem.run_bind, hr, Sem.run_pure, Result.andThen_ok]
  exact h
theorem st_build1 {x : Operand} {a b : Value} (ho : o.op = .buildSlice 66 1 #[(0, x)]) (hx : ρ x = .agg #[a, b]) (h : R (.slice (some ⟨w.heap.size, 0, none⟩) 1 1) (w.alloc (.cells #[a, b] 53))) (_h1 : a.oneCell' = true) (_h2 : b.oneCell' = true) : StepR Tryz.prog o ρ w R := by
  have hr : (Instr.buildSlice 66 1 #[(0, .agg #[a, b])]).run Tryz.prog w = .ok (.slice (some ⟨w.heap.size, 0, none⟩) 1 1) (w.alloc (.cells #[a, b] 53)) := by
    go_simp
  unfold StepR execOp
  simp only [ho, List.map_toArray, List.map_cons, List.map_nil, hx, Sem.run_bind, hr, Sem.run_pure, Result.andThen_ok]
  exact h
theorem st_alloc (ho : o.op = .alloc 24) (h : R (.pointer (some ⟨w.heap.size, 0, none⟩)) (w.alloc (.cells #[.slice none 0 0] 24))) : StepR Tryz.prog o ρ w R := by
  have hr : (Instr.alloc 24 true (.tuple #[])).run Tryz.prog w = .ok (.pointer (some ⟨w.heap.size, 0, none⟩)) (w.alloc (.cells #[.slice none 0 0] 24)) := by
    go_simp
  unfold StepR execOp
  simp only [ho, Sem.run_bind, hr, Sem.run_pure, Result.andThen_ok]
  exact h
theorem st_store {x y : Operand} {b : Nat} {u : Value} {A : Option Addr} {n c : Nat} (ho : o.op = .store 24 x y) (hx : ρ x = .pointer (some ⟨b, 0, none⟩)) (hy : ρ y = .agg #[.slice A n c]) (hc : w.cell? ⟨b, 0, none⟩ = some u) (hf : w.frozen? ⟨b, 0, none⟩ = false) (h : R undef (w.setCell ⟨b, 0, none⟩ (.slice A n c))) : StepR Tryz.prog o ρ w R := by
  have hr : (Instr.storeAt 24 (.pointer (some ⟨b, 0, none⟩)) (.agg #[.slice A n c])).run Tryz.prog w = .ok () (w.setCell ⟨b, 0, none⟩ (.slice A n c)) := by
    go_simp
  unfold StepR execOp
  simp only [ho, hx, hy, Sem.run_bind, hr, Sem.run_pure, Result.andThen_ok]
  exact h
theorem st_call {P : Program} {f : Nat} {x : Operand} {t : TypeId} {v : Value} (ho : o.op = .call { callee := .value (.func f), args := #[x], argTypes := #[t] }) (he : ∀ args w, (callFunc f args).run P w = .ok (.enter f args) w) (hx : ρ x = v) (hf : ρ (.func f) = .func (.func f) #[] #[])
    (h : Calls P f #[v] w fun e w' => ∃ v, e = .returned v ∧ R v w') : StepR P o ρ w R := by
  unfold StepR execOp
  simp only [ho, resolve, invoke, hx, hf, List.map_toArray, List.map_cons, List.map_nil, Sem.run_bind, Sem.run_pure, Result.andThen_ok, Deferred.ofValue, Array.append_empty, he]
  exact h
theorem run_appE (ty : TypeId) (b : Nat) (u : Value) (xs : List Int) {D : Nat → Prop} (hu : Sl (Kind.int .i64) w D u xs) (hl : xs.length ≤ 17592186044416) :
    ∃ v' w', (Builtin.append_ #[31, 31] ty #[.slice (some ⟨b, 0, none⟩) 0 0, u]).run Tryz.prog w = .ok v' w' ∧ Below w.heap.size w w' ∧ Sl (Kind.int .i64) w' (DB w.heap.size w') v' xs := by
  obtain ⟨i, hi, hz, hsz, hby'⟩ := elem_i64.hi
  obtain ⟨A, c, rfl, h1, h2, h3⟩ := hu.ints
  by_cases hx : xs = []
  · subst hx
    refine ⟨.slice (some ⟨b, 0, none⟩) 0 0, w, ?_, Below.refl _ _, ⟨some ⟨b, 0, none⟩, 0, rfl, Nat.le_refl _, Nat.zero_le _, fun i x hx => by simp at hx⟩⟩
    rcases A with _ | ad <;> simp [Builtin.append_, run_underlying elem_i64.ht, sizeOf, typeInfo, hi, Builtin.lenOf, Builtin.firstCells, storeCells, loadCells, loadCellsFrom]
  · obtain ⟨ad, rfl, -, hc⟩ := h3 (List.length_pos_iff.2 hx)
    have hat : ∀ j u', (ints xs)[j]? = some u' → w.cell? (ad.add j) = some u' := by
      intro j u' hj
      unfold ints at hj
      rw [List.getElem?_map] at hj
      obtain ⟨z, hz', rfl⟩ := Option.map_eq_some_iff.1 hj
      rw [hc j (List.getElem?_eq_some_iff.1 hz').1]
      simp [Dig.gd, hz']
    obtain ⟨v', w', hr, r2, r3⟩ := run_append_arg_grows (P := Tryz.prog) w 31 ty 3 i _ 1 8 elem_i64.ht hi hz hsz hby' elem_i64.hz (by decide) ⟨b, 0, none⟩ 0 0 [] rfl (fun j u hj => by simp at hj) ad xs.length c (ints xs) (by simp [ints]) hat (by have := List.length_pos_iff.2 hx; omega) (by simp only [maxLen]; omega) (by omega)
    refine ⟨v', w', hr, ⟨r3.os, r3.tape, r3.output, r3.size, fun k hk => r3.block k hk (by simp)⟩, ?_⟩
    have := own_intsS (xs := xs) (by simpa [ints] using r2)
    exact this
theorem st_append {x y : Operand} {b : Nat} {u : Value} {xs : List Int} {D : Nat → Prop} (ho : o.op = .call { callee := .builtin .append, args := #[x, y], argTypes := #[31, 31] }) (hx : ρ x = .slice (some ⟨b, 0, none⟩) 0 0) (hy : ρ y = u)
    (hu : Sl (Kind.int .i64) w D u xs) (hl : xs.length ≤ 17592186044416) (h : ∀ v' w', Below w.heap.size w w' → Sl (Kind.int .i64) w' (DB w.heap.size w') v' xs → R v' w') : StepR Tryz.prog o ρ w R := by
  obtain ⟨v', w', hr, hb, hs⟩ := run_appE o.type b u xs hu hl
  unfold StepR execOp
  simp only [ho, resolve, invoke, builtin, Sem.run_bind, Sem.run_pure, Result.andThen_ok, List.map_toArray, List.map_cons, List.map_nil, hx, hy, hr]
  exact h _ _ hb hs
end

end Go.Proofs.YtoffbdlgmnpblaaGreat
