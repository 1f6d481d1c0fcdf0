/- Part 42: Dic Lw1 Awk Gs1. -/
import Derived.Test.YtoffbdlgmnpblaaGreatJ41
import Derived.Test.YtoffbdlgmnpblaaGreatJ14
import Derived.Test.YtoffbdlgmnpblaaGreatJ40
import Derived.Test.YtoffbdlgmnpblaaGreatJ38

/- The law's num and dice. -/
namespace Go.Proofs.YtoffbdlgmnpblaaGreat
open Go.RowKit
set_option maxHeartbeats 4000000
set_option maxRecDepth 100000

theorem num5_calls (a b : Int) (w : World) :
    Calls Tryz.prog 121 #[.int .i64 a, .int .i64 b] w fun e w' => e = .returned (.agg #[.int .i64 a, .int .i64 b]) ∧ w' = w.alloc (.cells #[.int .i64 a, .int .i64 b] 94) := by
  have e0 := (cells_of (heap_alloc_new w (.cells #[.int .i64 a, .int .i64 b] 94)) 0).1
  have e1 := (cells_of (heap_alloc_new w (.cells #[.int .i64 a, .int .i64 b] 94)) 1).1
  go_enter Tryz.func121, Tryz.ntmps121
  go_wp2
  exact bodyPost_ret (v := .agg #[.int .i64 a, .int .i64 b]) (by simp [results, Tryz.results121, go_sem, e0, e1]) rfl ⟨rfl, rfl⟩

/-- a slice of three-cell elements from its block -/
theorem sl3_of_block {α β : Type} {K : Kind β} {W : World} {D : Nat → Prop} {b n : Nat} {cs : Array Value} {t : TypeId} {fr : Nat × Nat} (l : List α) {f g h : α → Value} (tf : α → β) (hK : K.sz = 3)
    (hb : W.heap[b]? = some (.cells cs t fr)) (hD : D b) (hn : l.length = n) (hm : n ≤ maxLen) (hcs : cs.toList = l.flatMap fun a => [f a, g a, h a]) (hr : ∀ a ∈ l, K.R W D [f a, g a, h a] (tf a)) :
    Sl K W D (.slice (some ⟨b, 0, none⟩) n n) (l.map tf) := by
  subst hn
  have hc : ∀ i u, (l.flatMap fun a => [f a, g a, h a])[i]? = some u → W.cell? ⟨b, i, none⟩ = some u := fun i u hu => by
    rw [← hcs] at hu
    simp only [World.cell?, hb]
    rw [← Array.getElem?_toList]; exact hu
  refine ⟨some ⟨b, 0, none⟩, l.length, by rw [List.length_map], by rw [List.length_map]; exact Nat.le_refl _, hm, fun i x hx => ?_⟩
  rw [List.getElem?_map] at hx
  obtain ⟨a, ha, rfl⟩ := Option.map_eq_some_iff.1 hx
  obtain ⟨e0, e1, e2⟩ := flat3_at f g h l i a ha
  refine ⟨⟨b, 0, none⟩, _, rfl, hD, hr a (List.mem_of_getElem? ha), fun j u hj => ?_⟩
  rw [add_of_add, hK, show (⟨b, 0, none⟩ : Addr).add (i * 3 + j) = ⟨b, i * 3 + j, none⟩ by unfold Addr.add; split <;> simp_all]
  match j, hj with
  | 0, hj => simp at hj; subst hj; exact hc _ _ e0
  | 1, hj => simp at hj; subst hj; exact hc _ _ e1
  | 2, hj => simp at hj; subst hj; exact hc _ _ e2
  | j + 3, hj => simp at hj
theorem br_of_block {W : World} {D : Nat → Prop} {b n : Nat} {cs : Array Value} {t : TypeId} {fr : Nat × Nat} (l : List Br) (hb : W.heap[b]? = some (.cells cs t fr)) (hD : D b) (hn : l.length = n) (hm : n ≤ maxLen) (hcs : cs.toList = bcells l) :
    Sl Kind.br W D (.slice (some ⟨b, 0, none⟩) n n) l := by
  have := sl3_of_block (K := Kind.br) l id rfl hb hD hn hm hcs fun a _ => rfl
  simpa using this
theorem ch_of_block {W : World} {D : Nat → Prop} {b n : Nat} {cs : Array Value} {t : TypeId} {fr : Nat × Nat} (l : List CO) (hb : W.heap[b]? = some (.cells cs t fr)) (hD : D b) (hn : l.length = n) (hm : n ≤ maxLen) (hcs : cs.toList = ccells l)
    (h : ∀ c ∈ l, Sl Kind.br W D c.v c.brs) : Sl Kind.ch W D (.slice (some ⟨b, 0, none⟩) n n) (l.map CO.ch) :=
  sl3_of_block (K := Kind.ch) l CO.ch rfl hb hD hn hm hcs fun c hc => ⟨c.v, rfl, h c hc⟩
theorem st_of_block {W : World} {D : Nat → Prop} {b n : Nat} {cs : Array Value} {t : TypeId} {fr : Nat × Nat} (l : List SO) (hb : W.heap[b]? = some (.cells cs t fr)) (hD : D b) (hn : l.length = n) (hm : n ≤ maxLen) (hcs : cs.toList = scells l)
    (h : ∀ s ∈ l, Sl Kind.ch W D s.v (s.chs.map CO.ch)) : Sl Kind.st W D (.slice (some ⟨b, 0, none⟩) n n) (l.map SO.st) :=
  sl3_of_block (K := Kind.st) l SO.st rfl hb hD hn hm hcs fun s hs => ⟨s.v, rfl, h s hs⟩

/-- the blocks that dice makes -/
def diceBlocks (n : Nat) : List Obj :=
  [.cells #[.slice (some ⟨n + 1 + 1 + 1 + 1 + 1 + 1 + 1 + 1 + 1 + 1 + 1 + 1 + 1 + 1 + 1 + 1 + 1 + 1 + 1, 0, none⟩) 3 3] 24,
   .cells #[.int .i64 0, .int .i64 1] 94,
   .cells #[.int .i64 2, .int .i64 3] 94,
   .cells #[.int .i64 1, .int .i64 3] 94,
   .cells #[.int .i64 1, .int .i64 2, .int .i64 3, .int .i64 2, .int .i64 1, .int .i64 3] 103,
   .cells #[.int .i64 0, .int .i64 1] 94,
   .cells #[.int .i64 1, .int .i64 2] 94,
   .cells #[.int .i64 1, .int .i64 4] 94,
   .cells #[.int .i64 1, .int .i64 4] 94,
   .cells #[.int .i64 0, .int .i64 1, .int .i64 2, .int .i64 1, .int .i64 1, .int .i64 4, .int .i64 2, .int .i64 1, .int .i64 4] 103,
   .cells #[.int .i64 0, .int .i64 1, .slice (some ⟨n + 1 + 1 + 1 + 1, 0, none⟩) 2 2, .int .i64 0, .int .i64 1, .slice (some ⟨n + 1 + 1 + 1 + 1 + 1 + 1 + 1 + 1 + 1, 0, none⟩) 3 3] 97,
   .cells #[.int .i64 0, .int .i64 1] 94,
   .cells #[.int .i64 1, .int .i64 1] 94,
   .cells #[.int .i64 1, .int .i64 1, .int .i64 1] 103,
   .cells #[.int .i64 0, .int .i64 1, .slice (some ⟨n + 1 + 1 + 1 + 1 + 1 + 1 + 1 + 1 + 1 + 1 + 1 + 1 + 1, 0, none⟩) 1 1] 97,
   .cells #[.int .i64 0, .int .i64 1] 94,
   .cells #[.int .i64 1, .int .i64 1] 94,
   .cells #[.int .i64 2, .int .i64 1, .int .i64 1] 103,
   .cells #[.int .i64 0, .int .i64 1, .slice (some ⟨n + 1 + 1 + 1 + 1 + 1 + 1 + 1 + 1 + 1 + 1 + 1 + 1 + 1 + 1 + 1 + 1 + 1, 0, none⟩) 1 1] 97,
   .cells #[.int .i64 0, .int .i64 0, .slice (some ⟨n + 1 + 1 + 1 + 1 + 1 + 1 + 1 + 1 + 1 + 1, 0, none⟩) 2 2, .int .i64 0, .int .i64 0, .slice (some ⟨n + 1 + 1 + 1 + 1 + 1 + 1 + 1 + 1 + 1 + 1 + 1 + 1 + 1 + 1, 0, none⟩) 1 1, .int .i64 0, .int .i64 1, .slice (some ⟨n + 1 + 1 + 1 + 1 + 1 + 1 + 1 + 1 + 1 + 1 + 1 + 1 + 1 + 1 + 1 + 1 + 1 + 1, 0, none⟩) 1 1] 79]
theorem dice_model (w : World) : ModelC (allocs w (diceBlocks w.heap.size)) (nws w (allocs w (diceBlocks w.heap.size))) (.agg #[.slice (some ⟨w.heap.size + 1 + 1 + 1 + 1 + 1 + 1 + 1 + 1 + 1 + 1 + 1 + 1 + 1 + 1 + 1 + 1 + 1 + 1 + 1, 0, none⟩) 3 3]) diceM := by
  have hD : ∀ (i : Nat) cs t, (diceBlocks w.heap.size)[i]? = some (.cells cs t) → (allocs w (diceBlocks w.heap.size)).heap[w.heap.size + i]? = some (.cells cs t (0, 0)) ∧ nws w (allocs w (diceBlocks w.heap.size)) (w.heap.size + i) := fun i cs t h => by
    have h1 := allocs_at (diceBlocks w.heap.size) w i _ h
    exact ⟨h1, Nat.le_add_right _ _, (Array.getElem?_eq_some_iff.1 h1).1, soft_of_block h1⟩
  obtain ⟨b4, d4⟩ := hD 4 _ _ rfl
  obtain ⟨b9, d9⟩ := hD 9 _ _ rfl
  obtain ⟨b10, d10⟩ := hD 10 _ _ rfl
  obtain ⟨b13, d13⟩ := hD 13 _ _ rfl
  obtain ⟨b14, d14⟩ := hD 14 _ _ rfl
  obtain ⟨b17, d17⟩ := hD 17 _ _ rfl
  obtain ⟨b18, d18⟩ := hD 18 _ _ rfl
  obtain ⟨b19, d19⟩ := hD 19 _ _ rfl
  generalize hW : allocs w (diceBlocks w.heap.size) = W at *
  generalize hN : w.heap.size = n at *
  have r4 : Sl Kind.br W (nws w W) (.slice (some ⟨n + 4, 0, none⟩) 2 2) [⟨1, ⟨2, 3⟩⟩, ⟨2, ⟨1, 3⟩⟩] := br_of_block _ b4 d4 rfl (by decide) rfl
  have r9 : Sl Kind.br W (nws w W) (.slice (some ⟨n + 9, 0, none⟩) 3 3) [⟨0, ⟨1, 2⟩⟩, ⟨1, ⟨1, 4⟩⟩, ⟨2, ⟨1, 4⟩⟩] := br_of_block _ b9 d9 rfl (by decide) rfl
  have r13 : Sl Kind.br W (nws w W) (.slice (some ⟨n + 13, 0, none⟩) 1 1) [⟨1, ⟨1, 1⟩⟩] := br_of_block _ b13 d13 rfl (by decide) rfl
  have r17 : Sl Kind.br W (nws w W) (.slice (some ⟨n + 17, 0, none⟩) 1 1) [⟨2, ⟨1, 1⟩⟩] := br_of_block _ b17 d17 rfl (by decide) rfl
  have r10 := ch_of_block (n := 2) (D := nws w W) [⟨.slice (some ⟨n + 4, 0, none⟩) 2 2, one, [⟨1, ⟨2, 3⟩⟩, ⟨2, ⟨1, 3⟩⟩]⟩, ⟨.slice (some ⟨n + 9, 0, none⟩) 3 3, one, [⟨0, ⟨1, 2⟩⟩, ⟨1, ⟨1, 4⟩⟩, ⟨2, ⟨1, 4⟩⟩]⟩] b10 d10 rfl (by decide) rfl (by
    intro c hc
    simp only [List.mem_cons, List.not_mem_nil, or_false] at hc
    rcases hc with rfl | rfl
    · exact r4
    · exact r9)
  have r14 := ch_of_block (n := 1) (D := nws w W) [⟨.slice (some ⟨n + 13, 0, none⟩) 1 1, one, [⟨1, ⟨1, 1⟩⟩]⟩] b14 d14 rfl (by decide) rfl (by
    intro c hc
    simp only [List.mem_cons, List.not_mem_nil, or_false] at hc
    subst hc
    exact r13)
  have r18 := ch_of_block (n := 1) (D := nws w W) [⟨.slice (some ⟨n + 17, 0, none⟩) 1 1, one, [⟨2, ⟨1, 1⟩⟩]⟩] b18 d18 rfl (by decide) rfl (by
    intro c hc
    simp only [List.mem_cons, List.not_mem_nil, or_false] at hc
    subst hc
    exact r17)
  have r19 := st_of_block (n := 3) (D := nws w W) [⟨.slice (some ⟨n + 10, 0, none⟩) 2 2, 0, 0, [⟨.slice (some ⟨n + 4, 0, none⟩) 2 2, one, [⟨1, ⟨2, 3⟩⟩, ⟨2, ⟨1, 3⟩⟩]⟩, ⟨.slice (some ⟨n + 9, 0, none⟩) 3 3, one, [⟨0, ⟨1, 2⟩⟩, ⟨1, ⟨1, 4⟩⟩, ⟨2, ⟨1, 4⟩⟩]⟩]⟩,
      ⟨.slice (some ⟨n + 14, 0, none⟩) 1 1, 0, 0, [⟨.slice (some ⟨n + 13, 0, none⟩) 1 1, one, [⟨1, ⟨1, 1⟩⟩]⟩]⟩, ⟨.slice (some ⟨n + 18, 0, none⟩) 1 1, 0, 1, [⟨.slice (some ⟨n + 17, 0, none⟩) 1 1, one, [⟨2, ⟨1, 1⟩⟩]⟩]⟩] b19 d19 rfl (by decide) rfl (by
    intro c hc
    simp only [List.mem_cons, List.not_mem_nil, or_false] at hc
    rcases hc with rfl | rfl | rfl
    · exact r10
    · exact r14
    · exact r18)
  exact ⟨_, rfl, r19⟩

theorem dice_calls (w : World) :
    Calls Tryz.prog 68 #[] w fun e w' => ∃ v, e = .returned v ∧ Below w.heap.size w w' ∧ ModelC w' (nws w w') v diceM := by
  have e0 := (cells_of (allocs_at (diceBlocks w.heap.size) w 0 _ rfl) 0).1
  simp only [allocs, diceBlocks, List.foldl, Nat.add_zero] at e0
  have HP : Hid (Below w.heap.size w (allocs w (diceBlocks w.heap.size)) ∧ ModelC (allocs w (diceBlocks w.heap.size)) (nws w (allocs w (diceBlocks w.heap.size))) (.agg #[.slice (some ⟨w.heap.size + 1 + 1 + 1 + 1 + 1 + 1 + 1 + 1 + 1 + 1 + 1 + 1 + 1 + 1 + 1 + 1 + 1 + 1 + 1, 0, none⟩) 3 3]) diceM) := ⟨allocs_below _ w, dice_model w⟩
  have E0 := Lib.hid e0
  clear e0
  go_enter Tryz.func68, Tryz.ntmps68
  go_wp2_with (go_at_call 121; refine (num5_calls _ _ _).mono ?_; rintro e w' ⟨rfl, rfl⟩)
  have e0 := E0.out
  refine bodyPost_ret (v := .agg #[.slice (some ⟨w.heap.size + 1 + 1 + 1 + 1 + 1 + 1 + 1 + 1 + 1 + 1 + 1 + 1 + 1 + 1 + 1 + 1 + 1 + 1 + 1, 0, none⟩) 3 3]) (by simp [results, Tryz.results68, go_sem, e0]) rfl ⟨_, rfl, ?_, ?_⟩
  · exact HP.out.1
  · exact HP.out.2

end Go.Proofs.YtoffbdlgmnpblaaGreat

/- The laws' own words: lists and lists of lists are compared; sizes are asked. -/
namespace Go.Proofs.YtoffbdlgmnpblaaGreat
open Go.RowKit
set_option maxHeartbeats 4000000
set_option maxRecDepth 100000

theorem take_snoc_eq {α : Type} {xs ys : List α} {j : Nat} {x y : α} (hx : xs[j]? = some x) (hy : ys[j]? = some y) (h : xs.take j = ys.take j) (e : x = y) : xs.take (j + 1) = ys.take (j + 1) := by
  rw [List.take_add_one, List.take_add_one, hx, hy, h, e]
theorem ne_of_at {α : Type} {xs ys : List α} {j : Nat} {x y : α} (hx : xs[j]? = some x) (hy : ys[j]? = some y) (e : x ≠ y) : xs ≠ ys := by
  intro h
  rw [h, hy] at hx
  exact e (Option.some.inj hx).symm

theorem List_calls (xs ys : List Int) (u v : Value) (D : Nat → Prop) (w : World) (hx : Sl (Kind.int .i64) w D u xs) (hy : Sl (Kind.int .i64) w D v ys) (hn : xs.length ≤ 1000000) (_hm : ys.length ≤ 1000000) :
    Calls Tryz.prog 22 #[u, v] w fun e w' => e = .returned (.bool (decide (xs = ys))) ∧ Drawn w w' := by
  obtain ⟨A, c, rfl, h1, h2, h3⟩ := hx.ints
  obtain ⟨B, d, rfl, k1, k2, k3⟩ := hy.ints
  unfold maxLen at h2 k2
  have H3 := Lib.hid h3
  have K3 := Lib.hid k3
  clear hx hy h3 k3
  by_cases hl : xs.length = ys.length
  · rw [← hl] at k1 _hm ⊢
    have HLL := Lib.hid hl
    have HKK := Lib.hid (show 0 < xs.length → ∃ ad, B = some ad ∧ D ad.block ∧ ∀ i, i < xs.length → w.cell? (ad.add i) = some (.int .i64 (Dig.gd ys i)) by rw [hl]; exact K3.out)
    clear hl K3
    go_enter Tryz.func22, Tryz.ntmps22
    go_wp2
    go_loopw [13] (fun k W => ∃ j : Nat, j ≤ xs.length ∧ k = .int .i64 (j : Int) ∧ Drawn w W ∧ Hid (xs.take j = ys.take j)) (fun k _ => xs.length - (intOf k).toNat)
    case atStart => exact ⟨0, Nat.zero_le _, rfl, Drawn.refl _, rfl⟩
    case round =>
      obtain ⟨j, hj, rfl, ⟨nd, rfl⟩, HL⟩ := hrel
      by_cases hlt : j < xs.length
      · obtain ⟨ad, rfl, -, hc⟩ := H3.out (by omega)
        obtain ⟨bd, rfl, -, hd⟩ := HKK.out (by omega)
        have q1 := hc j hlt
        have q2 := hd j hlt
        have hx := List.getElem?_eq_getElem hlt
        have hy := List.getElem?_eq_getElem (show j < ys.length by have := HLL.out; omega)
        rw [Dig.gd_of hx] at q1
        rw [Dig.gd_of hy] at q2
        have HX := Lib.hid hx
        have HY := Lib.hid hy
        generalize xs[j] = x at *
        generalize ys[j] = y at *
        clear hc hd hx hy
        by_cases e : x = y
        · have HS := Lib.hid (take_snoc_eq HX.out HY.out HL.out e)
          have hb : (x != y) = false := by rw [e]; simp
          clear e
          go_wp2
          go_quiet (fail)
          go_wp2
          refine ⟨⟨j + 1, by omega, by go_num, ?_, HS⟩, by simp [intOf]; omega⟩
          exact ⟨_, rfl⟩
        · have HS := Lib.hid (show decide (xs = ys) = false from decide_eq_false (ne_of_at HX.out HY.out e))
          have hb : (x != y) = true := by rw [bne_iff_ne]; exact e
          clear e
          go_wp2
          go_quiet (fail)
          go_wp2
          go_ret
          exact ⟨ret_bool HS.out.symm, by first | exact ⟨_, rfl⟩ | exact ⟨_, World.drewN_drewN _ _ _⟩⟩
      · obtain rfl : j = xs.length := by omega
        have HS := Lib.hid (show decide (xs = ys) = true from decide_eq_true (by
          have := HL.out
          rw [List.take_length, HLL.out, List.take_length] at this; exact this))
        clear hlt
        go_wp2
        go_ret
        exact ⟨ret_bool HS.out.symm, ⟨nd, rfl⟩⟩
  · have hb1 : ((xs.length : Int) != (ys.length : Int)) = true := by rw [bne_iff_ne]; omega
    have hb2 : (xs.length != ys.length) = true := by rw [bne_iff_ne]; exact hl
    have HS := Lib.hid (show decide (xs = ys) = false from decide_eq_false fun e => hl (by rw [e]))
    clear hl
    go_enter Tryz.func22, Tryz.ntmps22
    go_wp2
    go_ret
    exact ⟨ret_bool HS.out.symm, Drawn.refl _⟩

theorem Lists_calls (xss yss : List (List Int)) (u v : Value) (D : Nat → Prop) (w : World) (hx : Rows2 w D u xss) (hy : Rows2 w D v yss) (_hn : xss.length ≤ 1000000) (_hm : yss.length ≤ 1000000) (hxl : ∀ l ∈ xss, l.length ≤ 1000000) (hyl : ∀ l ∈ yss, l.length ≤ 1000000) :
    Calls Tryz.prog 21 #[u, v] w fun e w' => e = .returned (.bool (decide (xss = yss))) ∧ Drawn w w' := by
  have at_row : ∀ {A : Option Addr} {c : Nat} {n : Nat} {zss : List (List Int)}, Rows2 w D (.slice A n c) zss → ∀ j z, zss[j]? = some z → ∃ ad r, A = some ad ∧ w.cell? (ad.add j) = some r ∧ Sl (Kind.int .i64) w D r z := by
    intro A c n zss h j z hz
    obtain ⟨A', c', e, -, -, h3⟩ := h
    injection e with e1 e2 e3
    subst e1
    obtain ⟨ad, cs', ea, hd, ⟨r, rfl, hr⟩, hat⟩ := h3 j z hz
    have h0 := hat 0 r rfl
    rw [add_of_add, show j * (Kind.slice (Kind.int .i64)).sz + 0 = j from by show j * 1 + 0 = j; omega] at h0
    exact ⟨ad, r, ea, h0, hr⟩
  obtain ⟨A, c, rfl, h1, h2, -⟩ := hx.form
  obtain ⟨B, d, rfl, k1, k2, -⟩ := hy.form
  unfold maxLen at h2 k2
  have HX0 := Lib.hid (at_row hx)
  have HY0 := Lib.hid (at_row hy)
  have HXL := Lib.hid hxl
  have HYL := Lib.hid hyl
  clear hx hy at_row hxl hyl
  by_cases hl : xss.length = yss.length
  · rw [← hl] at k1 _hm ⊢
    have HLL := Lib.hid hl
    clear hl
    go_enter Tryz.func21, Tryz.ntmps21
    go_wp2
    go_loopw [13] (fun k W => ∃ j : Nat, j ≤ xss.length ∧ k = .int .i64 (j : Int) ∧ Drawn w W ∧ Hid (xss.take j = yss.take j)) (fun k _ => xss.length - (intOf k).toNat)
    case atStart => exact ⟨0, Nat.zero_le _, rfl, Drawn.refl _, rfl⟩
    case round =>
      obtain ⟨j, hj, rfl, ⟨nd, rfl⟩, HL⟩ := hrel
      by_cases hlt : j < xss.length
      · have hx := List.getElem?_eq_getElem hlt
        have hy := List.getElem?_eq_getElem (show j < yss.length by have := HLL.out; omega)
        have HX := Lib.hid hx
        have HY := Lib.hid hy
        obtain ⟨ad, r, rfl, q1, s1⟩ := HX0.out j _ hx
        obtain ⟨bd, r', rfl, q2, s2⟩ := HY0.out j _ hy
        have b1 := HXL.out _ (List.getElem_mem hlt)
        have b2 := HYL.out _ (List.getElem_mem (show j < yss.length by have := HLL.out; omega))
        have S1 := Lib.hid s1
        have S2 := Lib.hid s2
        generalize xss[j] = x at *
        generalize yss[j] = y at *
        clear s1 s2 hx hy
        have hcall : ∀ n, Calls Tryz.prog 22 #[r, r'] (w.drewN (nd + n)) fun e w' => e = .returned (.bool (decide (x = y))) ∧ ∃ m, w' = w.drewN (nd + m) := fun n =>
          (List_calls x y r r' D (w.drewN (nd + n)) (S1.out.same fun _ _ => rfl) (S2.out.same fun _ _ => rfl) b1 b2).mono fun _ _ ⟨he, m, hm⟩ => ⟨he, n + m, by rw [hm, World.drewN_drewN, Nat.add_assoc]⟩
        have HCA := Lib.hid hcall
        clear hcall b1 b2
        by_cases e : x = y
        · have HS := Lib.hid (take_snoc_eq HX.out HY.out HL.out e)
          have hb : decide (x = y) = true := decide_eq_true e
          clear e
          go_wp2
          go_quiet ((go_at_call 22; exact HCA.out _))
          rw [hb]
          clear hb
          go_wp2
          exact ⟨⟨j + 1, by omega, by go_num, ⟨_, rfl⟩, HS⟩, by simp [intOf]; omega⟩
        · have HS := Lib.hid (show decide (xss = yss) = false from decide_eq_false (ne_of_at HX.out HY.out e))
          have hb : decide (x = y) = false := decide_eq_false e
          clear e
          go_wp2
          go_quiet ((go_at_call 22; exact HCA.out _))
          rw [hb]
          clear hb
          go_wp2
          go_ret
          exact ⟨ret_bool HS.out.symm, by first | exact ⟨_, rfl⟩ | exact ⟨_, World.drewN_drewN _ _ _⟩⟩
      · obtain rfl : j = xss.length := by omega
        have HS := Lib.hid (show decide (xss = yss) = true from decide_eq_true (by
          have := HL.out
          rw [List.take_length, HLL.out, List.take_length] at this; exact this))
        clear hlt
        go_wp2
        go_ret
        exact ⟨ret_bool HS.out.symm, ⟨nd, rfl⟩⟩
  · have hb1 : ((xss.length : Int) != (yss.length : Int)) = true := by rw [bne_iff_ne]; omega
    have hb2 : (xss.length != yss.length) = true := by rw [bne_iff_ne]; exact hl
    have HS := Lib.hid (show decide (xss = yss) = false from decide_eq_false fun e => hl (by rw [e]))
    clear hl
    go_enter Tryz.func21, Tryz.ntmps21
    go_wp2
    go_ret
    exact ⟨ret_bool HS.out.symm, Drawn.refl _⟩

end Go.Proofs.YtoffbdlgmnpblaaGreat

/- The law's example holds. -/
namespace Go.Proofs.YtoffbdlgmnpblaaGreat
open Go.RowKit
set_option maxHeartbeats 4000000
set_option maxRecDepth 100000

theorem three {α β : Type} {p : Nat → α → β → Prop} {a b c : α} {x y z : β} (h0 : p 0 a x) (h1 : p 1 b y) (h2 : p 2 c z) : ∀ (j : Nat) u v, [a, b, c][j]? = some u → [x, y, z][j]? = some v → p j u v := fun j u v hu hv => by
  match j, hu, hv with
  | 0, hu, hv => simp at hu hv; subst hu hv; exact h0
  | 1, hu, hv => simp at hu hv; subst hu hv; exact h1
  | 2, hu, hv => simp at hu hv; subst hu hv; exact h2
  | j + 3, hu, hv => simp at hu

/-- what the literals lay -/
def lit3 (n : Nat) : List Obj := [.cells #[.int .i64 0] 3, .cells #[.int .i64 1] 3, .cells #[.int .i64 2] 3, .cells #[.slice (some ⟨n, 0, none⟩) 1 1, .slice (some ⟨n + 1, 0, none⟩) 1 1, .slice (some ⟨n + 1 + 1, 0, none⟩) 1 1] 31]
def lit2 (n : Nat) : List Obj := [.cells #[.int .i64 1] 3, .cells #[.int .i64 2] 3, .cells #[.slice (some ⟨n, 0, none⟩) 1 1, .slice (some ⟨n + 1, 0, none⟩) 1 1] 31]
def lit1 : List Obj := [.cells #[.int .i64 1, .int .i64 1, .int .i64 1] 3]
theorem at_lit {w : World} {os : List Obj} {i : Nat} {o : Obj} (h : os[i]? = some o) : (allocs w os).heap[w.heap.size + i]? = some o ∧ w.heap.size + i < (allocs w os).heap.size := by
  have h1 := allocs_at os w i o h
  exact ⟨h1, (Array.getElem?_eq_some_iff.1 h1).1⟩
theorem rows_lit3 (w : World) : Rows2 (allocs w (lit3 w.heap.size)) (· < (allocs w (lit3 w.heap.size)).heap.size) (.slice (some ⟨w.heap.size + 1 + 1 + 1, 0, none⟩) 3 3) [[0], [1], [2]] := by
  obtain ⟨a0, d0⟩ := at_lit (w := w) (os := lit3 w.heap.size) (i := 0) rfl
  obtain ⟨a1, d1⟩ := at_lit (w := w) (os := lit3 w.heap.size) (i := 1) rfl
  obtain ⟨a2, d2⟩ := at_lit (w := w) (os := lit3 w.heap.size) (i := 2) rfl
  obtain ⟨a3, d3⟩ := at_lit (w := w) (os := lit3 w.heap.size) (i := 3) rfl
  refine rows_of_block _ _ a3 d3 (n := 3) rfl rfl (by decide) rfl (three ?_ ?_ ?_)
  · exact ints_of_block [0] a0 d0 rfl (by decide) rfl
  · exact ints_of_block [1] a1 d1 rfl (by decide) rfl
  · exact ints_of_block [2] a2 d2 rfl (by decide) rfl
theorem rows_lit2 (w : World) : Rows2 (allocs w (lit2 w.heap.size)) (· < (allocs w (lit2 w.heap.size)).heap.size) (.slice (some ⟨w.heap.size + 1 + 1, 0, none⟩) 2 2) [[1], [2]] := by
  obtain ⟨a0, d0⟩ := at_lit (w := w) (os := lit2 w.heap.size) (i := 0) rfl
  obtain ⟨a1, d1⟩ := at_lit (w := w) (os := lit2 w.heap.size) (i := 1) rfl
  obtain ⟨a3, d3⟩ := at_lit (w := w) (os := lit2 w.heap.size) (i := 2) rfl
  refine rows_of_block _ _ a3 d3 (n := 2) rfl rfl (by decide) rfl ?_
  intro j u xs hu hx
  match j, hu, hx with
  | 0, hu, hx => simp at hu hx; subst hu hx; exact ints_of_block [1] a0 d0 rfl (by decide) rfl
  | 1, hu, hx => simp at hu hx; subst hu hx; exact ints_of_block [2] a1 d1 rfl (by decide) rfl
  | j + 2, hu, hx => simp at hu
theorem ints_lit1 (w : World) : Sl (Kind.int .i64) (allocs w lit1) (· < (allocs w lit1).heap.size) (.slice (some ⟨w.heap.size, 0, none⟩) 3 3) [1, 1, 1] := by
  obtain ⟨a0, d0⟩ := at_lit (w := w) (os := lit1) (i := 0) rfl
  exact ints_of_block [1, 1, 1] a0 d0 rfl (by decide) rfl
/-- a result moves on to where a literal is laid -/
theorem Sl.onto {α : Type} {K : Kind α} {a w W : World} {v : Value} {xs : List α} (h : Sl K w (nws a w) v xs) (hb : Below w.heap.size w W) : Sl K W (· < W.heap.size) v xs :=
  (h.same fun k hk => hb.block k hk.2.1).mono fun _ hk => Nat.lt_of_lt_of_le hk.2.1 hb.size

theorem awake_calls (w : World) :
    Calls Tryz.prog 14 #[] w fun e w' => e = .returned (.bool true) ∧ Below w.heap.size w w' := by
  have hv : err (validB diceM) = 0 := by rw [dice_valid]; rfl
  have HV := Lib.hid hv
  clear hv
  go_enter Tryz.func14, Tryz.ntmps14
  go_wp2_with fail
  refine (dice_calls w).mono ?_
  rintro e w1 ⟨v1, rfl, hb1, hm1⟩
  have HM := Lib.hid hm1
  clear hm1
  go_wp2_with fail
  refine (Components_calls diceM v1 _ w1 (fun k hk => hk.2.1) HM.out).mono ?_
  rintro e w2 ⟨cv, he, hb2, hc2⟩
  rw [HV.out] at he
  subst he
  rw [dice_comps] at hc2
  have HC := Lib.hid hc2
  have HB2 := Lib.hid (hb1.trans (hb2.mono hb1.size))
  clear hb1 hb2 hc2 HM
  go_wp2_with fail
  refine (dice_calls w2).mono ?_
  rintro e w3 ⟨v3, rfl, hb3, hm3⟩
  have HM := Lib.hid hm3
  clear hm3
  go_wp2_with fail
  refine (Bottom_calls diceM v3 _ w3 (fun k hk => hk.2.1) HM.out).mono ?_
  rintro e w4 ⟨bv, he, hb4, hc4⟩
  rw [HV.out] at he
  subst he
  rw [dice_bot] at hc4
  have HBo := Lib.hid hc4
  have HB24 := Lib.hid (hb3.trans (hb4.mono hb3.size))
  clear hb3 hb4 hc4 HM
  go_wp2_with fail
  refine (dice_calls w4).mono ?_
  rintro e w5 ⟨v5, rfl, hb5, hm5⟩
  have HM := Lib.hid hm5
  clear hm5
  go_wp2_with fail
  refine (Period_calls diceM v5 _ w5 (fun k hk => hk.2.1) HM.out).mono ?_
  rintro e w6 ⟨pv, he, hb6, hc6⟩
  rw [HV.out] at he
  subst he
  rw [dice_periods] at hc6
  have HP := Lib.hid hc6
  have HB46 := Lib.hid (hb5.trans (hb6.mono hb5.size))
  clear hb5 hb6 hc6 HM
  go_wp2_with fail
  have HX := Lib.hid (Sl.onto HC.out (HB24.out.trans ((HB46.out.trans ((allocs_below (lit3 w6.heap.size) w6).mono HB46.out.size)).mono HB24.out.size)))
  refine (Lists_calls [[0], [1], [2]] [[0], [1], [2]] cv _ _ (allocs w6 (lit3 w6.heap.size)) HX.out (rows_lit3 w6) (by decide) (by decide) (by decide) (by decide)).mono ?_
  rintro e w7 ⟨he, hd⟩
  rw [decide_eq_true rfl] at he
  subst he
  have HB67 := Lib.hid ((allocs_below (lit3 w6.heap.size) w6).trans ((hd.below _).mono (allocs_below (lit3 w6.heap.size) w6).size))
  clear hd HX HC
  go_wp2_with fail
  have HB27 := Lib.hid (HB24.out.trans ((HB46.out.trans (HB67.out.mono HB46.out.size)).mono HB24.out.size))
  have HX := Lib.hid (Sl.onto HBo.out (HB46.out.trans ((HB67.out.trans ((allocs_below (lit2 w7.heap.size) w7).mono HB67.out.size)).mono HB46.out.size)))
  refine (Lists_calls [[1], [2]] [[1], [2]] bv _ _ (allocs w7 (lit2 w7.heap.size)) HX.out (rows_lit2 w7) (by decide) (by decide) (by decide) (by decide)).mono ?_
  rintro e w8 ⟨he, hd⟩
  rw [decide_eq_true rfl] at he
  subst he
  have HB78 := Lib.hid ((allocs_below (lit2 w7.heap.size) w7).trans ((hd.below _).mono (allocs_below (lit2 w7.heap.size) w7).size))
  clear hd HX HBo
  go_wp2_with fail
  have HX := Lib.hid (Sl.onto HP.out (HB67.out.trans ((HB78.out.trans ((allocs_below lit1 w8).mono HB78.out.size)).mono HB67.out.size)))
  refine (List_calls [1, 1, 1] [1, 1, 1] pv _ _ (allocs w8 lit1) HX.out (ints_lit1 w8) (by decide) (by decide)).mono ?_
  rintro e w9 ⟨he, hd⟩
  rw [decide_eq_true rfl] at he
  subst he
  have HB89 := Lib.hid ((allocs_below lit1 w8).trans ((hd.below _).mono (allocs_below lit1 w8).size))
  clear hd HX HP
  go_wp2
  go_ret
  have hB7 := HB2.out.trans (HB27.out.mono HB2.out.size)
  have hB8 := hB7.trans (HB78.out.mono hB7.size)
  exact ⟨rfl, hB8.trans (HB89.out.mono hB8.size)⟩

end Go.Proofs.YtoffbdlgmnpblaaGreat

/- GraphSets: the reference's and the program's Edges, From, To, Distance agree. -/
namespace Go.Proofs.YtoffbdlgmnpblaaGreat
open Go.RowKit
set_option maxHeartbeats 4000000
set_option maxRecDepth 100000

/-- a list in a later world -/
theorem ints_later {w w1 : World} {D : Nat → Prop} {B : Nat} {v : Value} {xs : List Int} (h : Sl (Kind.int .i64) w D v xs) (hD : ∀ k, D k → k < w.heap.size) (hb : Below w.heap.size w w1) (hB : w.heap.size ≤ B) : Sl (Kind.int .i64) w1 (· < B) v xs :=
  (h.same fun k hk => hb.block k (hD k hk)).mono fun k hk => Nat.lt_of_lt_of_le (hD k hk) hB
theorem rows_later {w w1 : World} {D : Nat → Prop} {B : Nat} {v : Value} {xs : List (List Int)} (h : Rows2 w D v xs) (hD : ∀ k, D k → k < w.heap.size) (hb : Below w.heap.size w w1) (hB : w.heap.size ≤ B) : Rows2 w1 (· < B) v xs :=
  (h.same fun k hk => hb.block k (hD k hk)).mono fun k hk => Nat.lt_of_lt_of_le (hD k hk) hB
theorem list_same (xs : List Int) (u v : Value) (D : Nat → Prop) (w : World) (hx : Sl (Kind.int .i64) w D u xs) (hy : Sl (Kind.int .i64) w D v xs) (hn : xs.length ≤ 100000) :
    Calls Tryz.prog 22 #[u, v] w fun e w' => e = .returned (.bool true) ∧ Drawn w w' :=
  (List_calls xs xs u v D w hx hy (by omega) (by omega)).mono fun e w' h => by rw [decide_eq_true rfl] at h; exact h
theorem lists_same (xss : List (List Int)) (u v : Value) (D : Nat → Prop) (w : World) (hx : Rows2 w D u xss) (hy : Rows2 w D v xss) (hn : xss.length ≤ 100000 ∧ ∀ xs ∈ xss, xs.length ≤ 100000) :
    Calls Tryz.prog 21 #[u, v] w fun e w' => e = .returned (.bool true) ∧ Drawn w w' :=
  (Lists_calls xss xss u v D w hx hy (by omega) (by omega) (fun l hl => by have := hn.2 l hl; omega) (fun l hl => by have := hn.2 l hl; omega)).mono fun e w' h => by rw [decide_eq_true rfl] at h; exact h

theorem GraphSets_calls (m : List St) (l : List Int) (v u : Value) (w : World) (h : ModelC w (· < w.heap.size) v m) (hl : Sl (Kind.int .i64) w (· < w.heap.size) u l) :
    Calls Tryz.prog 4 #[v, u] w fun e w' => e = .returned (.bool true) ∧ Below w.heap.size w w' := by
  obtain ⟨mv, rfl, hmm⟩ := h
  have HM : Hid (ModelC w (· < w.heap.size) (.agg #[mv]) m) := ⟨mv, rfl, hmm⟩
  obtain ⟨A, c, rfl, h1, h2, -⟩ := hmm.form
  obtain ⟨LA, lc, rfl, l1, l2, -⟩ := hl.ints
  have HL := Lib.hid hl
  unfold maxLen at h2 l2
  have hlo : Lo (· < w.heap.size) w := fun _ hk => hk
  have HLO := Lib.hid hlo
  obtain ⟨W0, hW0, hb0, hz0, hx0⟩ := rb1 w #[.slice A m.length c] 24
  have HB0 := Lib.hid hb0
  have HX0 := Lib.hid hx0
  have HW0 := Lib.hid hW0
  have hz : w.heap.size < W0.heap.size := by omega
  clear hmm hl hlo hb0 hx0 hW0 hz0
  obtain ⟨c0, -⟩ := blk_at HX0.out 0
  go_enter Tryz.func4, Tryz.ntmps4
  go_upto_region 1 with fail
  rw [← HW0.out]
  clear HW0
  go_wp2_with fail
  refine (few5_calls m l _ _ (· < w.heap.size) W0 (HLO.out.up HB0.out.size) (HM.out.same (HLO.out.same HB0.out)) (HL.out.same (HLO.out.same HB0.out))).mono ?_
  rintro e w1 ⟨rfl, hb1⟩
  have HB1 := Lib.hid (HB0.out.trans (hb1.mono HB0.out.size))
  have HX1 := Lib.hid ((hb1.block w.heap.size hz).trans HX0.out)
  have hz1 : w.heap.size < w1.heap.size := Nat.lt_of_lt_of_le hz hb1.size
  clear hb1 c0 HB0 HX0 hz
  obtain ⟨c0, -⟩ := blk_at HX1.out 0
  cases hf : few5 m l with
  | false =>
    clear hf
    go_wp2_with fail
    refine (awake_calls w1).mono ?_
    rintro e w2 ⟨rfl, hb2⟩
    go_wp2
    go_ret
    exact ⟨rfl, HB1.out.trans (hb2.mono HB1.out.size)⟩
  | true =>
    clear hf
    obtain ⟨E1, hE1⟩ : ∃ E1, E1 = err (validB m) := ⟨_, rfl⟩
    obtain ⟨E2, hE2⟩ : ∃ E2, E2 = err (askedB m l) := ⟨_, rfl⟩
    have HE1 := Lib.hid hE1
    have HE2 := Lib.hid hE2
    clear hE1 hE2
    go_wp2_with fail
    refine (REdges_calls m _ (· < w.heap.size) w1 (HLO.out.up HB1.out.size) (HM.out.same (HLO.out.same HB1.out))).mono ?_
    rintro e w2 ⟨v2, rfl, hb2, hr2⟩
    rw [← HE1.out]
    have HB2 := Lib.hid (HB1.out.trans (hb2.mono HB1.out.size))
    have HX2 := Lib.hid ((hb2.block w.heap.size hz1).trans HX1.out)
    have hz2 : w.heap.size < w2.heap.size := Nat.lt_of_lt_of_le hz1 hb2.size
    have HC2 := Lib.hid hb2
    have HR2 := Lib.hid hr2
    clear hb2 hr2 c0 HX1
    obtain ⟨c0, -⟩ := blk_at HX2.out 0
    go_wp2_with fail
    refine (RFrom_calls m l _ _ (· < w.heap.size) w2 (HLO.out.up HB2.out.size) (HM.out.same (HLO.out.same HB2.out)) (HL.out.same (HLO.out.same HB2.out))).mono ?_
    rintro e w3 ⟨v3, rfl, hb3, hr3⟩
    rw [← HE2.out]
    have HB3 := Lib.hid (HB2.out.trans (hb3.mono HB2.out.size))
    have HX3 := Lib.hid ((hb3.block w.heap.size hz2).trans HX2.out)
    have hz3 : w.heap.size < w3.heap.size := Nat.lt_of_lt_of_le hz2 hb3.size
    have HC3 := Lib.hid hb3
    have HR3 := Lib.hid hr3
    clear hb3 hr3 c0 HX2
    obtain ⟨c0, -⟩ := blk_at HX3.out 0
    go_wp2_with fail
    refine (RTo2_calls m l _ _ (· < w.heap.size) w3 (HLO.out.up HB3.out.size) (HM.out.same (HLO.out.same HB3.out)) (HL.out.same (HLO.out.same HB3.out))).mono ?_
    rintro e w4 ⟨v4, rfl, hb4, hr4⟩
    rw [← HE2.out]
    have HB4 := Lib.hid (HB3.out.trans (hb4.mono HB3.out.size))
    have HX4 := Lib.hid ((hb4.block w.heap.size hz3).trans HX3.out)
    have hz4 : w.heap.size < w4.heap.size := Nat.lt_of_lt_of_le hz3 hb4.size
    have HC4 := Lib.hid hb4
    have HR4 := Lib.hid hr4
    clear hb4 hr4 c0 HX3
    obtain ⟨c0, -⟩ := blk_at HX4.out 0
    go_wp2_with fail
    refine (RDistance_calls m l _ _ (· < w.heap.size) w4 (HLO.out.up HB4.out.size) (HM.out.same (HLO.out.same HB4.out)) (HL.out.same (HLO.out.same HB4.out))).mono ?_
    rintro e w5 ⟨v5, rfl, hb5, hr5⟩
    rw [← HE2.out]
    have HB5 := Lib.hid (HB4.out.trans (hb5.mono HB4.out.size))
    have HX5 := Lib.hid ((hb5.block w.heap.size hz4).trans HX4.out)
    have hz5 : w.heap.size < w5.heap.size := Nat.lt_of_lt_of_le hz4 hb5.size
    have HC5 := Lib.hid hb5
    have HR5 := Lib.hid hr5
    clear hb5 hr5 c0 HX4
    obtain ⟨c0, -⟩ := blk_at HX5.out 0
    go_wp2_with fail
    refine (Edges_calls m _ (· < w.heap.size) w5 (HLO.out.up HB5.out.size) (HM.out.same (HLO.out.same HB5.out))).mono ?_
    rintro e w6 ⟨v6, rfl, hb6, hr6⟩
    rw [← HE1.out]
    have HB6 := Lib.hid (HB5.out.trans (hb6.mono HB5.out.size))
    have HX6 := Lib.hid ((hb6.block w.heap.size hz5).trans HX5.out)
    have hz6 : w.heap.size < w6.heap.size := Nat.lt_of_lt_of_le hz5 hb6.size
    have HC6 := Lib.hid hb6
    have HR6 := Lib.hid hr6
    clear hb6 hr6 c0 HX5
    obtain ⟨c0, -⟩ := blk_at HX6.out 0
    go_wp2_with fail
    refine (From_calls m l _ _ (· < w.heap.size) w6 (HLO.out.up HB6.out.size) (HM.out.same (HLO.out.same HB6.out)) (HL.out.same (HLO.out.same HB6.out))).mono ?_
    rintro e w7 ⟨v7, rfl, hb7, hr7⟩
    rw [← HE2.out]
    have HB7 := Lib.hid (HB6.out.trans (hb7.mono HB6.out.size))
    have HX7 := Lib.hid ((hb7.block w.heap.size hz6).trans HX6.out)
    have hz7 : w.heap.size < w7.heap.size := Nat.lt_of_lt_of_le hz6 hb7.size
    have HC7 := Lib.hid hb7
    have HR7 := Lib.hid hr7
    clear hb7 hr7 c0 HX6
    obtain ⟨c0, -⟩ := blk_at HX7.out 0
    go_wp2_with fail
    refine (To_calls m l _ _ (· < w.heap.size) w7 (HLO.out.up HB7.out.size) (HM.out.same (HLO.out.same HB7.out)) (HL.out.same (HLO.out.same HB7.out))).mono ?_
    rintro e w8 ⟨v8, rfl, hb8, hr8⟩
    rw [← HE2.out]
    have HB8 := Lib.hid (HB7.out.trans (hb8.mono HB7.out.size))
    have HX8 := Lib.hid ((hb8.block w.heap.size hz7).trans HX7.out)
    have hz8 : w.heap.size < w8.heap.size := Nat.lt_of_lt_of_le hz7 hb8.size
    have HC8 := Lib.hid hb8
    have HR8 := Lib.hid hr8
    clear hb8 hr8 c0 HX7
    obtain ⟨c0, -⟩ := blk_at HX8.out 0
    go_wp2_with fail
    refine (Distance_calls m l _ _ (· < w.heap.size) w8 (HLO.out.up HB8.out.size) (HM.out.same (HLO.out.same HB8.out)) (HL.out.same (HLO.out.same HB8.out))).mono ?_
    rintro e w9 ⟨v9, rfl, hb9, hr9⟩
    rw [← HE2.out]
    have HB9 := Lib.hid (HB8.out.trans (hb9.mono HB8.out.size))
    have HX9 := Lib.hid ((hb9.block w.heap.size hz8).trans HX8.out)
    have hz9 : w.heap.size < w9.heap.size := Nat.lt_of_lt_of_le hz8 hb9.size
    have HC9 := Lib.hid hb9
    have HR9 := Lib.hid hr9
    clear hb9 hr9 c0 HX8
    obtain ⟨c0, -⟩ := blk_at HX9.out 0
    have HT9 := Lib.hid (Below.refl w9.heap.size w9)
    have HT8 := Lib.hid (HC9.out.trans (HT9.out.mono HC9.out.size))
    have HT7 := Lib.hid (HC8.out.trans (HT8.out.mono HC8.out.size))
    have HT6 := Lib.hid (HC7.out.trans (HT7.out.mono HC7.out.size))
    have HT5 := Lib.hid (HC6.out.trans (HT6.out.mono HC6.out.size))
    have HT4 := Lib.hid (HC5.out.trans (HT5.out.mono HC5.out.size))
    have HT3 := Lib.hid (HC4.out.trans (HT4.out.mono HC4.out.size))
    have HT2 := Lib.hid (HC3.out.trans (HT3.out.mono HC3.out.size))
    have HQ2 := Lib.hid (rows_later HR2.out (fun k hk => hk.2.1) HT2.out HT2.out.size)
    have HQ3 := Lib.hid (ints_later HR3.out (fun k hk => hk.2.1) HT3.out HT3.out.size)
    have HQ4 := Lib.hid (ints_later HR4.out (fun k hk => hk.2.1) HT4.out HT4.out.size)
    have HQ5 := Lib.hid (ints_later HR5.out (fun k hk => hk.2.1) HT5.out HT5.out.size)
    have HQ6 := Lib.hid (rows_later HR6.out (fun k hk => hk.2.1) HT6.out HT6.out.size)
    have HQ7 := Lib.hid (ints_later HR7.out (fun k hk => hk.2.1) HT7.out HT7.out.size)
    have HQ8 := Lib.hid (ints_later HR8.out (fun k hk => hk.2.1) HT8.out HT8.out.size)
    have HQ9 := Lib.hid (ints_later HR9.out (fun k hk => hk.2.1) HT9.out HT9.out.size)
    clear HR2 HC2 HR3 HC3 HR4 HC4 HR5 HC5 HR6 HC6 HR7 HC7 HR8 HC8 HR9 HC9 HT2 HT3 HT4 HT5 HT6 HT7 HT8 HT9 c0 HX9
    have HD0 := Lib.hid (Drawn.refl w9)
    go_wp2_with fail
    refine (lists_same _ _ _ (· < w9.heap.size) w9 (HQ6.out.same (HD0.out.same _)) (HQ2.out.same (HD0.out.same _)) (edges_bd m)).mono ?_
    rintro e w20 ⟨rfl, hd20⟩
    have HD1 := Lib.hid (HD0.out.trans hd20)
    clear hd20
    go_wp2_with fail
    refine (list_same _ _ _ (· < w9.heap.size) w20 (HQ7.out.same (HD1.out.same _)) (HQ3.out.same (HD1.out.same _)) (from_bd m l)).mono ?_
    rintro e w21 ⟨rfl, hd21⟩
    have HD2 := Lib.hid (HD1.out.trans hd21)
    clear hd21
    go_wp2_with fail
    refine (list_same _ _ _ (· < w9.heap.size) w21 (HQ8.out.same (HD2.out.same _)) (HQ4.out.same (HD2.out.same _)) (to_bd m l)).mono ?_
    rintro e w22 ⟨rfl, hd22⟩
    have HD3 := Lib.hid (HD2.out.trans hd22)
    clear hd22
    go_wp2_with fail
    refine (list_same _ _ _ (· < w9.heap.size) w22 (HQ9.out.same (HD3.out.same _)) (HQ5.out.same (HD3.out.same _)) (dist_bd m l)).mono ?_
    rintro e w23 ⟨rfl, hd23⟩
    have HD4 := Lib.hid (HD3.out.trans hd23)
    clear hd23
    have HBZ := Lib.hid (HB9.out.trans (HD4.out.below w.heap.size))
    go_wp2_with fail
    refine (awake_calls w23).mono ?_
    rintro e w30 ⟨rfl, hb30⟩
    go_wp2
    go_ret
    exact ⟨rfl, HBZ.out.trans (hb30.mono HBZ.out.size)⟩
end Go.Proofs.YtoffbdlgmnpblaaGreat
