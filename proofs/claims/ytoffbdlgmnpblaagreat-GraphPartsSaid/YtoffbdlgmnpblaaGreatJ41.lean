/- Part 41: Dic Lw1 Awk Gs1 Rf27. -/
import Derived.Test.YtoffbdlgmnpblaaGreatJ40
import Derived.Test.YtoffbdlgmnpblaaGreatJ13
import Derived.Test.YtoffbdlgmnpblaaGreatJ39
import Derived.Test.YtoffbdlgmnpblaaGreatJ37

/- The law's num and dice. -/
namespace Go.Proofs.YtoffbdlgmnpblaaGreat
open Go.RowKit
set_option maxHeartbeats 4000000
set_option maxRecDepth 100000

theorem num5_calls (a b : Int) (w : World) :
    Calls Tryz.prog 121 #[.int .i64 a, .int .i64 b] w fun e w' => e = .returned (.agg #[.int .i64 a, .int .i64 b]) ∧ w' = w.alloc (.cells #[.int .i64 a, .int .i64 b] 94) := by
  have e0 := (cells_of (heap_alloc_new w (.cells #[.int .i64 a, .int .i64 b] 94)) 0).1
  have e1 := (cells_of (heap_alloc_new w (.cells #[.int .i64 a, .int .i64 b] 94)) 1).1
  go_enter Tryz.func121, Tryz.ntmps121
  go_wp2
  exact bodyPost_ret (v := .agg #[.int .i64 a, .int .i64 b]) (by simp [results, Tryz.results121, go_sem, e0, e1]) rfl ⟨rfl, rfl⟩

/-- a slice of three-cell elements from its block -/
theorem sl3_of_block {α β : Type} {K : Kind β} {W : World} {D : Nat → Prop} {b n : Nat} {cs : Array Value} {t : TypeId} {fr : Nat × Nat} (l : List α) {f g h : α → Value} (tf : α → β) (hK : K.sz = 3)
    (hb : W.heap[b]? = some (.cells cs t fr)) (hD : D b) (hn : l.length = n) (hm : n ≤ maxLen) (hcs : cs.toList = l.flatMap fun a => [f a, g a, h a]) (hr : ∀ a ∈ l, K.R W D [f a, g a, h a] (tf a)) :
    Sl K W D (.slice (some ⟨b, 0, none⟩) n n) (l.map tf) := by
  subst hn
  have hc : ∀ i u, (l.flatMap fun a => [f a, g a, h a])[i]? = some u → W.cell? ⟨b, i, none⟩ = some u := fun i u hu => by
    rw [← hcs] at hu
    simp only [World.cell?, hb]
    rw [← Array.getElem?_toList]; exact hu
  refine ⟨some ⟨b, 0, none⟩, l.length, by rw [List.length_map], by rw [List.length_map]; exact Nat.le_refl _, hm, fun i x hx => ?_⟩
  rw [List.getElem?_map] at hx
  obtain ⟨a, ha, rfl⟩ := Option.map_eq_some_iff.1 hx
  obtain ⟨e0, e1, e2⟩ := flat3_at f g h l i a ha
  refine ⟨⟨b, 0, none⟩, _, rfl, hD, hr a (List.mem_of_getElem? ha), fun j u hj => ?_⟩
  rw [add_of_add, hK, show (⟨b, 0, none⟩ : Addr).add (i * 3 + j) = ⟨b, i * 3 + j, none⟩ by unfold Addr.add; split <;> simp_all]
  match j, hj with
  | 0, hj => simp at hj; subst hj; exact hc _ _ e0
  | 1, hj => simp at hj; subst hj; exact hc _ _ e1
  | 2, hj => simp at hj; subst hj; exact hc _ _ e2
  | j + 3, hj => simp at hj
theorem br_of_block {W : World} {D : Nat → Prop} {b n : Nat} {cs : Array Value} {t : TypeId} {fr : Nat × Nat} (l : List Br) (hb : W.heap[b]? = some (.cells cs t fr)) (hD : D b) (hn : l.length = n) (hm : n ≤ maxLen) (hcs : cs.toList = bcells l) :
    Sl Kind.br W D (.slice (some ⟨b, 0, none⟩) n n) l := by
  have := sl3_of_block (K := Kind.br) l id rfl hb hD hn hm hcs fun a _ => rfl
  simpa using this
theorem ch_of_block {W : World} {D : Nat → Prop} {b n : Nat} {cs : Array Value} {t : TypeId} {fr : Nat × Nat} (l : List CO) (hb : W.heap[b]? = some (.cells cs t fr)) (hD : D b) (hn : l.length = n) (hm : n ≤ maxLen) (hcs : cs.toList = ccells l)
    (h : ∀ c ∈ l, Sl Kind.br W D c.v c.brs) : Sl Kind.ch W D (.slice (some ⟨b, 0, none⟩) n n) (l.map CO.ch) :=
  sl3_of_block (K := Kind.ch) l CO.ch rfl hb hD hn hm hcs fun c hc => ⟨c.v, rfl, h c hc⟩
theorem st_of_block {W : World} {D : Nat → Prop} {b n : Nat} {cs : Array Value} {t : TypeId} {fr : Nat × Nat} (l : List SO) (hb : W.heap[b]? = some (.cells cs t fr)) (hD : D b) (hn : l.length = n) (hm : n ≤ maxLen) (hcs : cs.toList = scells l)
    (h : ∀ s ∈ l, Sl Kind.ch W D s.v (s.chs.map CO.ch)) : Sl Kind.st W D (.slice (some ⟨b, 0, none⟩) n n) (l.map SO.st) :=
  sl3_of_block (K := Kind.st) l SO.st rfl hb hD hn hm hcs fun s hs => ⟨s.v, rfl, h s hs⟩

/-- the blocks that dice makes -/
def diceBlocks (n : Nat) : List Obj :=
  [.cells #[.slice (some ⟨n + 1 + 1 + 1 + 1 + 1 + 1 + 1 + 1 + 1 + 1 + 1 + 1 + 1 + 1 + 1 + 1 + 1 + 1 + 1, 0, none⟩) 3 3] 24,
   .cells #[.int .i64 0, .int .i64 1] 94,
   .cells #[.int .i64 2, .int .i64 3] 94,
   .cells #[.int .i64 1, .int .i64 3] 94,
   .cells #[.int .i64 1, .int .i64 2, .int .i64 3, .int .i64 2, .int .i64 1, .int .i64 3] 103,
   .cells #[.int .i64 0, .int .i64 1] 94,
   .cells #[.int .i64 1, .int .i64 2] 94,
   .cells #[.int .i64 1, .int .i64 4] 94,
   .cells #[.int .i64 1, .int .i64 4] 94,
   .cells #[.int .i64 0, .int .i64 1, .int .i64 2, .int .i64 1, .int .i64 1, .int .i64 4, .int .i64 2, .int .i64 1, .int .i64 4] 103,
   .cells #[.int .i64 0, .int .i64 1, .slice (some ⟨n + 1 + 1 + 1 + 1, 0, none⟩) 2 2, .int .i64 0, .int .i64 1, .slice (some ⟨n + 1 + 1 + 1 + 1 + 1 + 1 + 1 + 1 + 1, 0, none⟩) 3 3] 97,
   .cells #[.int .i64 0, .int .i64 1] 94,
   .cells #[.int .i64 1, .int .i64 1] 94,
   .cells #[.int .i64 1, .int .i64 1, .int .i64 1] 103,
   .cells #[.int .i64 0, .int .i64 1, .slice (some ⟨n + 1 + 1 + 1 + 1 + 1 + 1 + 1 + 1 + 1 + 1 + 1 + 1 + 1, 0, none⟩) 1 1] 97,
   .cells #[.int .i64 0, .int .i64 1] 94,
   .cells #[.int .i64 1, .int .i64 1] 94,
   .cells #[.int .i64 2, .int .i64 1, .int .i64 1] 103,
   .cells #[.int .i64 0, .int .i64 1, .slice (some ⟨n + 1 + 1 + 1 + 1 + 1 + 1 + 1 + 1 + 1 + 1 + 1 + 1 + 1 + 1 + 1 + 1 + 1, 0, none⟩) 1 1] 97,
   .cells #[.int .i64 0, .int .i64 0, .slice (some ⟨n + 1 + 1 + 1 + 1 + 1 + 1 + 1 + 1 + 1 + 1, 0, none⟩) 2 2, .int .i64 0, .int .i64 0, .slice (some ⟨n + 1 + 1 + 1 + 1 + 1 + 1 + 1 + 1 + 1 + 1 + 1 + 1 + 1 + 1, 0, none⟩) 1 1, .int .i64 0, .int .i64 1, .slice (some ⟨n + 1 + 1 + 1 + 1 + 1 + 1 + 1 + 1 + 1 + 1 + 1 + 1 + 1 + 1 + 1 + 1 + 1 + 1, 0, none⟩) 1 1] 79]
theorem dice_model (w : World) : ModelC (allocs w (diceBlocks w.heap.size)) (nws w (allocs w (diceBlocks w.heap.size))) (.agg #[.slice (some ⟨w.heap.size + 1 + 1 + 1 + 1 + 1 + 1 + 1 + 1 + 1 + 1 + 1 + 1 + 1 + 1 + 1 + 1 + 1 + 1 + 1, 0, none⟩) 3 3]) diceM := by
  have hD : ∀ (i : Nat) cs t, (diceBlocks w.heap.size)[i]? = some (.cells cs t) → (allocs w (diceBlocks w.heap.size)).heap[w.heap.size + i]? = some (.cells cs t (0, 0)) ∧ nws w (allocs w (diceBlocks w.heap.size)) (w.heap.size + i) := fun i cs t h => by
    have h1 := allocs_at (diceBlocks w.heap.size) w i _ h
    exact ⟨h1, Nat.le_add_right _ _, (Array.getElem?_eq_some_iff.1 h1).1, soft_of_block h1⟩
  obtain ⟨b4, d4⟩ := hD 4 _ _ rfl
  obtain ⟨b9, d9⟩ := hD 9 _ _ rfl
  obtain ⟨b10, d10⟩ := hD 10 _ _ rfl
  obtain ⟨b13, d13⟩ := hD 13 _ _ rfl
  obtain ⟨b14, d14⟩ := hD 14 _ _ rfl
  obtain ⟨b17, d17⟩ := hD 17 _ _ rfl
  obtain ⟨b18, d18⟩ := hD 18 _ _ rfl
  obtain ⟨b19, d19⟩ := hD 19 _ _ rfl
  generalize hW : allocs w (diceBlocks w.heap.size) = W at *
  generalize hN : w.heap.size = n at *
  have r4 : Sl Kind.br W (nws w W) (.slice (some ⟨n + 4, 0, none⟩) 2 2) [⟨1, ⟨2, 3⟩⟩, ⟨2, ⟨1, 3⟩⟩] := br_of_block _ b4 d4 rfl (by decide) rfl
  have r9 : Sl Kind.br W (nws w W) (.slice (some ⟨n + 9, 0, none⟩) 3 3) [⟨0, ⟨1, 2⟩⟩, ⟨1, ⟨1, 4⟩⟩, ⟨2, ⟨1, 4⟩⟩] := br_of_block _ b9 d9 rfl (by decide) rfl
  have r13 : Sl Kind.br W (nws w W) (.slice (some ⟨n + 13, 0, none⟩) 1 1) [⟨1, ⟨1, 1⟩⟩] := br_of_block _ b13 d13 rfl (by decide) rfl
  have r17 : Sl Kind.br W (nws w W) (.slice (some ⟨n + 17, 0, none⟩) 1 1) [⟨2, ⟨1, 1⟩⟩] := br_of_block _ b17 d17 rfl (by decide) rfl
  have r10 := ch_of_block (n := 2) (D := nws w W) [⟨.slice (some ⟨n + 4, 0, none⟩) 2 2, one, [⟨1, ⟨2, 3⟩⟩, ⟨2, ⟨1, 3⟩⟩]⟩, ⟨.slice (some ⟨n + 9, 0, none⟩) 3 3, one, [⟨0, ⟨1, 2⟩⟩, ⟨1, ⟨1, 4⟩⟩, ⟨2, ⟨1, 4⟩⟩]⟩] b10 d10 rfl (by decide) rfl (by
    intro c hc
    simp only [List.mem_cons, List.not_mem_nil, or_false] at hc
    rcases hc with rfl | rfl
    · exact r4
    · exact r9)
  have r14 := ch_of_block (n := 1) (D := nws w W) [⟨.slice (some ⟨n + 13, 0, none⟩) 1 1, one, [⟨1, ⟨1, 1⟩⟩]⟩] b14 d14 rfl (by decide) rfl (by
    intro c hc
    simp only [List.mem_cons, List.not_mem_nil, or_false] at hc
    subst hc
    exact r13)
  have r18 := ch_of_block (n := 1) (D := nws w W) [⟨.slice (some ⟨n + 17, 0, none⟩) 1 1, one, [⟨2, ⟨1, 1⟩⟩]⟩] b18 d18 rfl (by decide) rfl (by
    intro c hc
    simp only [List.mem_cons, List.not_mem_nil, or_false] at hc
    subst hc
    exact r17)
  have r19 := st_of_block (n := 3) (D := nws w W) [⟨.slice (some ⟨n + 10, 0, none⟩) 2 2, 0, 0, [⟨.slice (some ⟨n + 4, 0, none⟩) 2 2, one, [⟨1, ⟨2, 3⟩⟩, ⟨2, ⟨1, 3⟩⟩]⟩, ⟨.slice (some ⟨n + 9, 0, none⟩) 3 3, one, [⟨0, ⟨1, 2⟩⟩, ⟨1, ⟨1, 4⟩⟩, ⟨2, ⟨1, 4⟩⟩]⟩]⟩,
      ⟨.slice (some ⟨n + 14, 0, none⟩) 1 1, 0, 0, [⟨.slice (some ⟨n + 13, 0, none⟩) 1 1, one, [⟨1, ⟨1, 1⟩⟩]⟩]⟩, ⟨.slice (some ⟨n + 18, 0, none⟩) 1 1, 0, 1, [⟨.slice (some ⟨n + 17, 0, none⟩) 1 1, one, [⟨2, ⟨1, 1⟩⟩]⟩]⟩] b19 d19 rfl (by decide) rfl (by
    intro c hc
    simp only [List.mem_cons, List.not_mem_nil, or_false] at hc
    rcases hc with rfl | rfl | rfl
    · exact r10
    · exact r14
    · exact r18)
  exact ⟨_, rfl, r19⟩

theorem dice_calls (w : World) :
    Calls Tryz.prog 68 #[] w fun e w' => ∃ v, e = .returned v ∧ Below w.heap.size w w' ∧ ModelC w' (nws w w') v diceM := by
  have e0 := (cells_of (allocs_at (diceBlocks w.heap.size) w 0 _ rfl) 0).1
  simp only [allocs, diceBlocks, List.foldl, Nat.add_zero] at e0
  have HP : Hid (Below w.heap.size w (allocs w (diceBlocks w.heap.size)) ∧ ModelC (allocs w (diceBlocks w.heap.size)) (nws w (allocs w (diceBlocks w.heap.size))) (.agg #[.slice (some ⟨w.heap.size + 1 + 1 + 1 + 1 + 1 + 1 + 1 + 1 + 1 + 1 + 1 + 1 + 1 + 1 + 1 + 1 + 1 + 1 + 1, 0, none⟩) 3 3]) diceM) := ⟨allocs_below _ w, dice_model w⟩
  have E0 := Lib.hid e0
  clear e0
  go_enter Tryz.func68, Tryz.ntmps68
  go_wp2_with (go_at_call 121; refine (num5_calls _ _ _).mono ?_; rintro e w' ⟨rfl, rfl⟩)
  have e0 := E0.out
  refine bodyPost_ret (v := .agg #[.slice (some ⟨w.heap.size + 1 + 1 + 1 + 1 + 1 + 1 + 1 + 1 + 1 + 1 + 1 + 1 + 1 + 1 + 1 + 1 + 1 + 1 + 1, 0, none⟩) 3 3]) (by simp [results, Tryz.results68, go_sem, e0]) rfl ⟨_, rfl, ?_, ?_⟩
  · exact HP.out.1
  · exact HP.out.2

end Go.Proofs.YtoffbdlgmnpblaaGreat

/- The laws' own words: lists and lists of lists are compared; sizes are asked. -/
namespace Go.Proofs.YtoffbdlgmnpblaaGreat
open Go.RowKit
set_option maxHeartbeats 4000000
set_option maxRecDepth 100000

theorem take_snoc_eq {α : Type} {xs ys : List α} {j : Nat} {x y : α} (hx : xs[j]? = some x) (hy : ys[j]? = some y) (h : xs.take j = ys.take j) (e : x = y) : xs.take (j + 1) = ys.take (j + 1) := by
  rw [List.take_add_one, List.take_add_one, hx, hy, h, e]
theorem ne_of_at {α : Type} {xs ys : List α} {j : Nat} {x y : α} (hx : xs[j]? = some x) (hy : ys[j]? = some y) (e : x ≠ y) : xs ≠ ys := by
  intro h
  rw [h, hy] at hx
  exact e (Option.some.inj hx).symm

theorem List_calls (xs ys : List Int) (u v : Value) (D : Nat → Prop) (w : World) (hx : Sl (Kind.int .i64) w D u xs) (hy : Sl (Kind.int .i64) w D v ys) (hn : xs.length ≤ 1000000) (_hm : ys.length ≤ 1000000) :
    Calls Tryz.prog 22 #[u, v] w fun e w' => e = .returned (.bool (decide (xs = ys))) ∧ Drawn w w' := by
  obtain ⟨A, c, rfl, h1, h2, h3⟩ := hx.ints
  obtain ⟨B, d, rfl, k1, k2, k3⟩ := hy.ints
  unfold maxLen at h2 k2
  have H3 := Lib.hid h3
  have K3 := Lib.hid k3
  clear hx hy h3 k3
  by_cases hl : xs.length = ys.length
  · rw [← hl] at k1 _hm ⊢
    have HLL := Lib.hid hl
    have HKK := Lib.hid (show 0 < xs.length → ∃ ad, B = some ad ∧ D ad.block ∧ ∀ i, i < xs.length → w.cell? (ad.add i) = some (.int .i64 (Dig.gd ys i)) by rw [hl]; exact K3.out)
    clear hl K3
    go_enter Tryz.func22, Tryz.ntmps22
    go_wp2
    go_loopw [13] (fun k W => ∃ j : Nat, j ≤ xs.length ∧ k = .int .i64 (j : Int) ∧ Drawn w W ∧ Hid (xs.take j = ys.take j)) (fun k _ => xs.length - (intOf k).toNat)
    case atStart => exact ⟨0, Nat.zero_le _, rfl, Drawn.refl _, rfl⟩
    case round =>
      obtain ⟨j, hj, rfl, ⟨nd, rfl⟩, HL⟩ := hrel
      by_cases hlt : j < xs.length
      · obtain ⟨ad, rfl, -, hc⟩ := H3.out (by omega)
        obtain ⟨bd, rfl, -, hd⟩ := HKK.out (by omega)
        have q1 := hc j hlt
        have q2 := hd j hlt
        have hx := List.getElem?_eq_getElem hlt
        have hy := List.getElem?_eq_getElem (show j < ys.length by have := HLL.out; omega)
        rw [Dig.gd_of hx] at q1
        rw [Dig.gd_of hy] at q2
        have HX := Lib.hid hx
        have HY := Lib.hid hy
        generalize xs[j] = x at *
        generalize ys[j] = y at *
        clear hc hd hx hy
        by_cases e : x = y
        · have HS := Lib.hid (take_snoc_eq HX.out HY.out HL.out e)
          have hb : (x != y) = false := by rw [e]; simp
          clear e
          go_wp2
          go_quiet (fail)
          go_wp2
          refine ⟨⟨j + 1, by omega, by go_num, ?_, HS⟩, by simp [intOf]; omega⟩
          exact ⟨_, rfl⟩
        · have HS := Lib.hid (show decide (xs = ys) = false from decide_eq_false (ne_of_at HX.out HY.out e))
          have hb : (x != y) = true := by rw [bne_iff_ne]; exact e
          clear e
          go_wp2
          go_quiet (fail)
          go_wp2
          go_ret
          exact ⟨ret_bool HS.out.symm, by first | exact ⟨_, rfl⟩ | exact ⟨_, World.drewN_drewN _ _ _⟩⟩
      · obtain rfl : j = xs.length := by omega
        have HS := Lib.hid (show decide (xs = ys) = true from decide_eq_true (by
          have := HL.out
          rw [List.take_length, HLL.out, List.take_length] at this; exact this))
        clear hlt
        go_wp2
        go_ret
        exact ⟨ret_bool HS.out.symm, ⟨nd, rfl⟩⟩
  · have hb1 : ((xs.length : Int) != (ys.length : Int)) = true := by rw [bne_iff_ne]; omega
    have hb2 : (xs.length != ys.length) = true := by rw [bne_iff_ne]; exact hl
    have HS := Lib.hid (show decide (xs = ys) = false from decide_eq_false fun e => hl (by rw [e]))
    clear hl
    go_enter Tryz.func22, Tryz.ntmps22
    go_wp2
    go_ret
    exact ⟨ret_bool HS.out.symm, Drawn.refl _⟩

theorem Lists_calls (xss yss : List (List Int)) (u v : Value) (D : Nat → Prop) (w : World) (hx : Rows2 w D u xss) (hy : Rows2 w D v yss) (_hn : xss.length ≤ 1000000) (_hm : yss.length ≤ 1000000) (hxl : ∀ l ∈ xss, l.length ≤ 1000000) (hyl : ∀ l ∈ yss, l.length ≤ 1000000) :
    Calls Tryz.prog 21 #[u, v] w fun e w' => e = .returned (.bool (decide (xss = yss))) ∧ Drawn w w' := by
  have at_row : ∀ {A : Option Addr} {c : Nat} {n : Nat} {zss : List (List Int)}, Rows2 w D (.slice A n c) zss → ∀ j z, zss[j]? = some z → ∃ ad r, A = some ad ∧ w.cell? (ad.add j) = some r ∧ Sl (Kind.int .i64) w D r z := by
    intro A c n zss h j z hz
    obtain ⟨A', c', e, -, -, h3⟩ := h
    injection e with e1 e2 e3
    subst e1
    obtain ⟨ad, cs', ea, hd, ⟨r, rfl, hr⟩, hat⟩ := h3 j z hz
    have h0 := hat 0 r rfl
    rw [add_of_add, show j * (Kind.slice (Kind.int .i64)).sz + 0 = j from by show j * 1 + 0 = j; omega] at h0
    exact ⟨ad, r, ea, h0, hr⟩
  obtain ⟨A, c, rfl, h1, h2, -⟩ := hx.form
  obtain ⟨B, d, rfl, k1, k2, -⟩ := hy.form
  unfold maxLen at h2 k2
  have HX0 := Lib.hid (at_row hx)
  have HY0 := Lib.hid (at_row hy)
  have HXL := Lib.hid hxl
  have HYL := Lib.hid hyl
  clear hx hy at_row hxl hyl
  by_cases hl : xss.length = yss.length
  · rw [← hl] at k1 _hm ⊢
    have HLL := Lib.hid hl
    clear hl
    go_enter Tryz.func21, Tryz.ntmps21
    go_wp2
    go_loopw [13] (fun k W => ∃ j : Nat, j ≤ xss.length ∧ k = .int .i64 (j : Int) ∧ Drawn w W ∧ Hid (xss.take j = yss.take j)) (fun k _ => xss.length - (intOf k).toNat)
    case atStart => exact ⟨0, Nat.zero_le _, rfl, Drawn.refl _, rfl⟩
    case round =>
      obtain ⟨j, hj, rfl, ⟨nd, rfl⟩, HL⟩ := hrel
      by_cases hlt : j < xss.length
      · have hx := List.getElem?_eq_getElem hlt
        have hy := List.getElem?_eq_getElem (show j < yss.length by have := HLL.out; omega)
        have HX := Lib.hid hx
        have HY := Lib.hid hy
        obtain ⟨ad, r, rfl, q1, s1⟩ := HX0.out j _ hx
        obtain ⟨bd, r', rfl, q2, s2⟩ := HY0.out j _ hy
        have b1 := HXL.out _ (List.getElem_mem hlt)
        have b2 := HYL.out _ (List.getElem_mem (show j < yss.length by have := HLL.out; omega))
        have S1 := Lib.hid s1
        have S2 := Lib.hid s2
        generalize xss[j] = x at *
        generalize yss[j] = y at *
        clear s1 s2 hx hy
        have hcall : ∀ n, Calls Tryz.prog 22 #[r, r'] (w.drewN (nd + n)) fun e w' => e = .returned (.bool (decide (x = y))) ∧ ∃ m, w' = w.drewN (nd + m) := fun n =>
          (List_calls x y r r' D (w.drewN (nd + n)) (S1.out.same fun _ _ => rfl) (S2.out.same fun _ _ => rfl) b1 b2).mono fun _ _ ⟨he, m, hm⟩ => ⟨he, n + m, by rw [hm, World.drewN_drewN, Nat.add_assoc]⟩
        have HCA := Lib.hid hcall
        clear hcall b1 b2
        by_cases e : x = y
        · have HS := Lib.hid (take_snoc_eq HX.out HY.out HL.out e)
          have hb : decide (x = y) = true := decide_eq_true e
          clear e
          go_wp2
          go_quiet ((go_at_call 22; exact HCA.out _))
          rw [hb]
          clear hb
          go_wp2
          exact ⟨⟨j + 1, by omega, by go_num, ⟨_, rfl⟩, HS⟩, by simp [intOf]; omega⟩
        · have HS := Lib.hid (show decide (xss = yss) = false from decide_eq_false (ne_of_at HX.out HY.out e))
          have hb : decide (x = y) = false := decide_eq_false e
          clear e
          go_wp2
          go_quiet ((go_at_call 22; exact HCA.out _))
          rw [hb]
          clear hb
          go_wp2
          go_ret
          exact ⟨ret_bool HS.out.symm, by first | exact ⟨_, rfl⟩ | exact ⟨_, World.drewN_drewN _ _ _⟩⟩
      · obtain rfl : j = xss.length := by omega
        have HS := Lib.hid (show decide (xss = yss) = true from decide_eq_true (by
          have := HL.out
          rw [List.take_length, HLL.out, List.take_length] at this; exact this))
        clear hlt
        go_wp2
        go_ret
        exact ⟨ret_bool HS.out.symm, ⟨nd, rfl⟩⟩
  · have hb1 : ((xss.length : Int) != (yss.length : Int)) = true := by rw [bne_iff_ne]; omega
    have hb2 : (xss.length != yss.length) = true := by rw [bne_iff_ne]; exact hl
    have HS := Lib.hid (show decide (xss = yss) = false from decide_eq_false fun e => hl (by rw [e]))
    clear hl
    go_enter Tryz.func21, Tryz.ntmps21
    go_wp2
    go_ret
    exact ⟨ret_bool HS.out.symm, Drawn.refl _⟩

end Go.Proofs.YtoffbdlgmnpblaaGreat

/- The law's example holds. -/
namespace Go.Proofs.YtoffbdlgmnpblaaGreat
open Go.RowKit
set_option maxHeartbeats 4000000
set_option maxRecDepth 100000

theorem three {α β : Type} {p : Nat → α → β → Prop} {a b c : α} {x y z : β} (h0 : p 0 a x) (h1 : p 1 b y) (h2 : p 2 c z) : ∀ (j : Nat) u v, [a, b, c][j]? = some u → [x, y, z][j]? = some v → p j u v := fun j u v hu hv => by
  match j, hu, hv with
  | 0, hu, hv => simp at hu hv; subst hu hv; exact h0
  | 1, hu, hv => simp at hu hv; subst hu hv; exact h1
  | 2, hu, hv => simp at hu hv; subst hu hv; exact h2
  | j + 3, hu, hv => simp at hu

/-- what the literals lay -/
def lit3 (n : Nat) : List Obj := [.cells #[.int .i64 0] 3, .cells #[.int .i64 1] 3, .cells #[.int .i64 2] 3, .cells #[.slice (some ⟨n, 0, none⟩) 1 1, .slice (some ⟨n + 1, 0, none⟩) 1 1, .slice (some ⟨n + 1 + 1, 0, none⟩) 1 1] 31]
def lit2 (n : Nat) : List Obj := [.cells #[.int .i64 1] 3, .cells #[.int .i64 2] 3, .cells #[.slice (some ⟨n, 0, none⟩) 1 1, .slice (some ⟨n + 1, 0, none⟩) 1 1] 31]
def lit1 : List Obj := [.cells #[.int .i64 1, .int .i64 1, .int .i64 1] 3]
theorem at_lit {w : World} {os : List Obj} {i : Nat} {o : Obj} (h : os[i]? = some o) : (allocs w os).heap[w.heap.size + i]? = some o ∧ w.heap.size + i < (allocs w os).heap.size := by
  have h1 := allocs_at os w i o h
  exact ⟨h1, (Array.getElem?_eq_some_iff.1 h1).1⟩
theorem rows_lit3 (w : World) : Rows2 (allocs w (lit3 w.heap.size)) (· < (allocs w (lit3 w.heap.size)).heap.size) (.slice (some ⟨w.heap.size + 1 + 1 + 1, 0, none⟩) 3 3) [[0], [1], [2]] := by
  obtain ⟨a0, d0⟩ := at_lit (w := w) (os := lit3 w.heap.size) (i := 0) rfl
  obtain ⟨a1, d1⟩ := at_lit (w := w) (os := lit3 w.heap.size) (i := 1) rfl
  obtain ⟨a2, d2⟩ := at_lit (w := w) (os := lit3 w.heap.size) (i := 2) rfl
  obtain ⟨a3, d3⟩ := at_lit (w := w) (os := lit3 w.heap.size) (i := 3) rfl
  refine rows_of_block _ _ a3 d3 (n := 3) rfl rfl (by decide) rfl (three ?_ ?_ ?_)
  · exact ints_of_block [0] a0 d0 rfl (by decide) rfl
  · exact ints_of_block [1] a1 d1 rfl (by decide) rfl
  · exact ints_of_block [2] a2 d2 rfl (by decide) rfl
theorem rows_lit2 (w : World) : Rows2 (allocs w (lit2 w.heap.size)) (· < (allocs w (lit2 w.heap.size)).heap.size) (.slice (some ⟨w.heap.size + 1 + 1, 0, none⟩) 2 2) [[1], [2]] := by
  obtain ⟨a0, d0⟩ := at_lit (w := w) (os := lit2 w.heap.size) (i := 0) rfl
  obtain ⟨a1, d1⟩ := at_lit (w := w) (os := lit2 w.heap.size) (i := 1) rfl
  obtain ⟨a3, d3⟩ := at_lit (w := w) (os := lit2 w.heap.size) (i := 2) rfl
  refine rows_of_block _ _ a3 d3 (n := 2) rfl rfl (by decide) rfl ?_
  intro j u xs hu hx
  match j, hu, hx with
  | 0, hu, hx => simp at hu hx; subst hu hx; exact ints_of_block [1] a0 d0 rfl (by decide) rfl
  | 1, hu, hx => simp at hu hx; subst hu hx; exact ints_of_block [2] a1 d1 rfl (by decide) rfl
  | j + 2, hu, hx => simp at hu
theorem ints_lit1 (w : World) : Sl (Kind.int .i64) (allocs w lit1) (· < (allocs w lit1).heap.size) (.slice (some ⟨w.heap.size, 0, none⟩) 3 3) [1, 1, 1] := by
  obtain ⟨a0, d0⟩ := at_lit (w := w) (os := lit1) (i := 0) rfl
  exact ints_of_block [1, 1, 1] a0 d0 rfl (by decide) rfl
/-- a result moves on to where a literal is laid -/
theorem Sl.onto {α : Type} {K : Kind α} {a w W : World} {v : Value} {xs : List α} (h : Sl K w (nws a w) v xs) (hb : Below w.heap.size w W) : Sl K W (· < W.heap.size) v xs :=
  (h.same fun k hk => hb.block k hk.2.1).mono fun _ hk => Nat.lt_of_lt_of_le hk.2.1 hb.size

theorem awake_calls (w : World) :
    Calls Tryz.prog 14 #[] w fun e w' => e = .returned (.bool true) ∧ Below w.heap.size w w' := by
  have hv : err (validB diceM) = 0 := by rw [dice_valid]; rfl
  have HV := Lib.hid hv
  clear hv
  go_enter Tryz.func14, Tryz.ntmps14
  go_wp2_with fail
  refine (dice_calls w).mono ?_
  rintro e w1 ⟨v1, rfl, hb1, hm1⟩
  have HM := Lib.hid hm1
  clear hm1
  go_wp2_with fail
  refine (Components_calls diceM v1 _ w1 (fun k hk => hk.2.1) HM.out).mono ?_
  rintro e w2 ⟨cv, he, hb2, hc2⟩
  rw [HV.out] at he
  subst he
  rw [dice_comps] at hc2
  have HC := Lib.hid hc2
  have HB2 := Lib.hid (hb1.trans (hb2.mono hb1.size))
  clear hb1 hb2 hc2 HM
  go_wp2_with fail
  refine (dice_calls w2).mono ?_
  rintro e w3 ⟨v3, rfl, hb3, hm3⟩
  have HM := Lib.hid hm3
  clear hm3
  go_wp2_with fail
  refine (Bottom_calls diceM v3 _ w3 (fun k hk => hk.2.1) HM.out).mono ?_
  rintro e w4 ⟨bv, he, hb4, hc4⟩
  rw [HV.out] at he
  subst he
  rw [dice_bot] at hc4
  have HBo := Lib.hid hc4
  have HB24 := Lib.hid (hb3.trans (hb4.mono hb3.size))
  clear hb3 hb4 hc4 HM
  go_wp2_with fail
  refine (dice_calls w4).mono ?_
  rintro e w5 ⟨v5, rfl, hb5, hm5⟩
  have HM := Lib.hid hm5
  clear hm5
  go_wp2_with fail
  refine (Period_calls diceM v5 _ w5 (fun k hk => hk.2.1) HM.out).mono ?_
  rintro e w6 ⟨pv, he, hb6, hc6⟩
  rw [HV.out] at he
  subst he
  rw [dice_periods] at hc6
  have HP := Lib.hid hc6
  have HB46 := Lib.hid (hb5.trans (hb6.mono hb5.size))
  clear hb5 hb6 hc6 HM
  go_wp2_with fail
  have HX := Lib.hid (Sl.onto HC.out (HB24.out.trans ((HB46.out.trans ((allocs_below (lit3 w6.heap.size) w6).mono HB46.out.size)).mono HB24.out.size)))
  refine (Lists_calls [[0], [1], [2]] [[0], [1], [2]] cv _ _ (allocs w6 (lit3 w6.heap.size)) HX.out (rows_lit3 w6) (by decide) (by decide) (by decide) (by decide)).mono ?_
  rintro e w7 ⟨he, hd⟩
  rw [decide_eq_true rfl] at he
  subst he
  have HB67 := Lib.hid ((allocs_below (lit3 w6.heap.size) w6).trans ((hd.below _).mono (allocs_below (lit3 w6.heap.size) w6).size))
  clear hd HX HC
  go_wp2_with fail
  have HB27 := Lib.hid (HB24.out.trans ((HB46.out.trans (HB67.out.mono HB46.out.size)).mono HB24.out.size))
  have HX := Lib.hid (Sl.onto HBo.out (HB46.out.trans ((HB67.out.trans ((allocs_below (lit2 w7.heap.size) w7).mono HB67.out.size)).mono HB46.out.size)))
  refine (Lists_calls [[1], [2]] [[1], [2]] bv _ _ (allocs w7 (lit2 w7.heap.size)) HX.out (rows_lit2 w7) (by decide) (by decide) (by decide) (by decide)).mono ?_
  rintro e w8 ⟨he, hd⟩
  rw [decide_eq_true rfl] at he
  subst he
  have HB78 := Lib.hid ((allocs_below (lit2 w7.heap.size) w7).trans ((hd.below _).mono (allocs_below (lit2 w7.heap.size) w7).size))
  clear hd HX HBo
  go_wp2_with fail
  have HX := Lib.hid (Sl.onto HP.out (HB67.out.trans ((HB78.out.trans ((allocs_below lit1 w8).mono HB78.out.size)).mono HB67.out.size)))
  refine (List_calls [1, 1, 1] [1, 1, 1] pv _ _ (allocs w8 lit1) HX.out (ints_lit1 w8) (by decide) (by decide)).mono ?_
  rintro e w9 ⟨he, hd⟩
  rw [decide_eq_true rfl] at he
  subst he
  have HB89 := Lib.hid ((allocs_below lit1 w8).trans ((hd.below _).mono (allocs_below lit1 w8).size))
  clear hd HX HP
  go_wp2
  go_ret
  have hB7 := HB2.out.trans (HB27.out.mono HB2.out.size)
  have hB8 := hB7.trans (HB78.out.mono hB7.size)
  exact ⟨rfl, hB8.trans (HB89.out.mono hB8.size)⟩

end Go.Proofs.YtoffbdlgmnpblaaGreat

/- GraphSets: the reference's and the program's Edges, From, To, Distance agree. -/
namespace Go.Proofs.YtoffbdlgmnpblaaGreat
open Go.RowKit
set_option maxHeartbeats 4000000
set_option maxRecDepth 100000

/-- a list in a later world -/
theorem ints_later {w w1 : World} {D : Nat → Prop} {B : Nat} {v : Value} {xs : List Int} (h : Sl (Kind.int .i64) w D v xs) (hD : ∀ k, D k → k < w.heap.size) (hb : Below w.heap.size w w1) (hB : w.heap.size ≤ B) : Sl (Kind.int .i64) w1 (· < B) v xs :=
  (h.same fun k hk => hb.block k (hD k hk)).mono fun k hk => Nat.lt_of_lt_of_le (hD k hk) hB
theorem rows_later {w w1 : World} {D : Nat → Prop} {B : Nat} {v : Value} {xs : List (List Int)} (h : Rows2 w D v xs) (hD : ∀ k, D k → k < w.heap.size) (hb : Below w.heap.size w w1) (hB : w.heap.size ≤ B) : Rows2 w1 (· < B) v xs :=
  (h.same fun k hk => hb.block k (hD k hk)).mono fun k hk => Nat.lt_of_lt_of_le (hD k hk) hB
theorem list_same (xs : List Int) (u v : Value) (D : Nat → Prop) (w : World) (hx : Sl (Kind.int .i64) w D u xs) (hy : Sl (Kind.int .i64) w D v xs) (hn : xs.length ≤ 100000) :
    Calls Tryz.prog 22 #[u, v] w fun e w' => e = .returned (.bool true) ∧ Drawn w w' :=
  (List_calls xs xs u v D w hx hy (by omega) (by omega)).mono fun e w' h => by rw [decide_eq_true rfl] at h; exact h
theorem lists_same (xss : List (List Int)) (u v : Value) (D : Nat → Prop) (w : World) (hx : Rows2 w D u xss) (hy : Rows2 w D v xss) (hn : xss.length ≤ 100000 ∧ ∀ xs ∈ xss, xs.length ≤ 100000) :
    Calls Tryz.prog 21 #[u, v] w fun e w' => e = .returned (.bool true) ∧ Drawn w w' :=
  (Lists_calls xss xss u v D w hx hy (by omega) (by omega) (fun l hl => by have := hn.2 l hl; omega) (fun l hl => by have := hn.2 l hl; omega)).mono fun e w' h => by rw [decide_eq_true rfl] at h; exact h

end Go.Proofs.YtoffbdlgmnpblaaGreat

/- The reference's test whether a set is closed. -/
namespace Go.Proofs.YtoffbdlgmnpblaaGreat
open Go.RowKit
set_option maxHeartbeats 4000000
set_option maxRecDepth 100000

theorem row_of {m : List St} {s : Int} {st : St} (hst : m[s.toNat]? = some st) : Bfs.row (m.map nextOf) s = nextOf st := by
  unfold Bfs.row
  rw [List.getD_eq_getElem?_getD, List.getElem?_map, hst]; rfl
/-- the flags of the targets are the row -/
theorem row_fl {m : List St} (hf : Fine m) {s : Int} {st : St} (hst : m[s.toNat]? = some st) (t : Int) : t ∈ Bfs.row (m.map nextOf) s ↔ (0 ≤ t ∧ t < (m.length : Int)) ∧ Bfs.fl (Bfs.flags m.length (targets st)) t = true := by
  rw [row_of hst, ← row_marked (hf.targets (List.mem_of_getElem? hst)), markedBy_states, List.mem_filter, Tar.mem_states]
theorem leaves_true {next : List (List Int)} {l : List Int} {s t : Int} (hs : s ∈ l) (ht : t ∈ Bfs.row next s) (hn : t ∉ l) : leaves next l = true := by
  unfold leaves
  rw [List.any_eq_true]
  refine ⟨s, hs, ?_⟩
  rw [List.any_eq_true]
  exact ⟨t, ht, by simpa using hn⟩
theorem leaves_false {next : List (List Int)} {l : List Int} (h : ∀ s ∈ l, ∀ t ∈ Bfs.row next s, t ∈ l) : leaves next l = false := by
  unfold leaves
  rw [List.any_eq_false]
  intro s hs
  rw [Bool.not_eq_true, List.any_eq_false]
  intro t ht
  simpa using h s hs t ht

theorem RClosed_calls (m : List St) (l : List Int) (v u : Value) (D : Nat → Prop) (w : World) (hD : Lo D w) (h : ModelC w D v m) (hl : Sl (Kind.int .i64) w D u l) (hf : Fine m) (hm : ∀ s ∈ l, 0 ≤ s ∧ s < (m.length : Int)) (hll : l.length ≤ 1000) :
    Calls Tryz.prog 94 #[v, u] w fun e w' => e = .returned (.bool (!leaves (m.map nextOf) l)) ∧ Below w.heap.size w w' := by
  obtain ⟨mv, rfl, hmm⟩ := h
  have HM : Hid (ModelC w D (.agg #[mv]) m) := ⟨mv, rfl, hmm⟩
  obtain ⟨A, c, rfl, h1, h2, -⟩ := hmm.form
  have HL := Lib.hid hl
  obtain ⟨B, b, rfl, l1, l2, -⟩ := hl.form
  have HU := Ints.up hl hD
  unfold maxLen at h2 l2
  have HLEN := hf.len
  have HF := Lib.hid hf
  have HI := Lib.hid hm
  obtain ⟨Z, hZ⟩ : ∃ Z, Z = leaves (m.map nextOf) l := ⟨_, rfl⟩
  rw [← hZ]
  have HZ := Lib.hid hZ
  clear hmm hf hl hm hZ
  have HX0 := Lib.hid (heap_alloc_new w (.cells #[.slice A m.length c] 24))
  have HB0 := Lib.hid ((Below.refl w.heap.size w).alloc (Nat.le_refl _) (.cells #[.slice A m.length c] 24))
  go_enter Tryz.func94, Tryz.ntmps94
  go_wp2_with fail
  refine (RFlags_calls m.length l _ D _ (hD.up HB0.out.size) (HL.out.same (hD.same HB0.out)) HI.out (by omega) (by omega)).mono ?_
  rintro e w1 ⟨rfl, hb1, ho1⟩
  rw [World.size_alloc] at ho1 ⊢
  have HB1 := Lib.hid (HB0.out.trans (hb1.mono HB0.out.size))
  have HX1 := Lib.hid ((hb1.block w.heap.size (by simp)).trans HX0.out)
  have hz1 : w.heap.size + 2 ≤ w1.heap.size := by have := ho1.lt.2; omega
  have HO1 := Lib.hid ho1
  clear hb1 ho1 HB0 HX0
  go_wp2_with fail
  go_loopw [17] (fun k W => ∃ (j : Nat), j ≤ l.length ∧ k = .int .i64 (j : Int) ∧ Hid (Below w.heap.size w W) ∧ w.heap.size + 2 ≤ W.heap.size ∧ Hid (W.heap[w.heap.size]? = some (.cells #[.slice A m.length c] 24 (0, 0))) ∧ Hid (OwnFl W (w.heap.size + 1) (w.heap.size + 1) m.length (Bfs.flags m.length l)) ∧ Hid (∀ s ∈ l.take j, ∀ t ∈ Bfs.row (m.map nextOf) s, t ∈ l)) (fun k _ => l.length - (intOf k).toNat)
  case atStart => exact ⟨0, Nat.zero_le _, rfl, HB1.out, hz1, HX1.out, HO1.out, Lib.hid (fun s hs => by cases hs)⟩
  case round =>
    clear HB1 hz1 HX1 HO1
    obtain ⟨j, hj, rfl, HBW, hsW, HXW, HO, HP⟩ := hrel
    by_cases hlt : j < l.length
    · obtain ⟨s, hs⟩ : ∃ s, l[j]? = some s := ⟨_, List.getElem?_eq_getElem hlt⟩
      obtain ⟨s0, s1⟩ := HI.out s (List.mem_of_getElem? hs)
      obtain ⟨bd, rfl, hDb, hcs⟩ := HU.out (by omega)
      have q1 := hcs _ HBW.out j _ hs
      obtain ⟨st, hst⟩ : ∃ st, m[s.toNat]? = some st := ⟨_, List.getElem?_eq_getElem (by omega)⟩
      have HS := Lib.hid hs
      have HST := Lib.hid hst
      obtain ⟨c0, -⟩ := blk_at HXW.out 0
      clear hcs hs hst
      go_wp2_with fail
      refine (RNext_calls m s st _ D wr (hD.up HBW.out.size) (HM.out.same (hD.same HBW.out)) HF.out s0 s1 HST.out).mono ?_
      rintro e w3 ⟨v3, rfl, hb3, hn3⟩
      obtain ⟨fs, hfs⟩ : ∃ fs, fs = Bfs.flags m.length (targets st) := ⟨_, rfl⟩
      have hfl : fs.length = m.length := by rw [hfs, Bfs.flags_len]
      rw [← hfs] at hn3
      have HFS := Lib.hid hfs
      obtain ⟨N3, d3, rfl, n1, n2, -⟩ := hn3.form
      unfold maxLen at n2
      rw [hfl] at hn3 n1 ⊢
      have HFL := Lib.hid hfl
      have HUN := Fls.up hn3 (fun k hk => hk.2.1)
      have HB3 := Lib.hid (HBW.out.trans (hb3.mono HBW.out.size))
      have HX3 := Lib.hid ((hb3.block w.heap.size (by omega)).trans HXW.out)
      have HO3 := Lib.hid (HO.out.below hb3)
      have hs3 : w.heap.size + 2 ≤ w3.heap.size := Nat.le_trans hsW hb3.size
      clear hb3 hn3 hfs hfl c0 q1 HBW hsW HXW HO
      go_wp2_with fail
      go_loopw [25] (fun k W => ∃ (i : Nat), i ≤ m.length ∧ k = .int .i64 (i : Int) ∧ W = w3 ∧ Hid (∀ t : Int, 0 ≤ t → t < (i : Int) → Bfs.fl fs t = true → t ∈ l)) (fun k _ => m.length - (intOf k).toNat)
      case atStart => exact ⟨0, Nat.zero_le _, rfl, by trivial, Lib.hid (fun t h0 h1 => by omega)⟩
      case round =>
        obtain ⟨i, hi, rfl, rfl, HQ⟩ := hrel
        by_cases hli : i < m.length
        · obtain ⟨x, hx⟩ : ∃ x, fs[i]? = some x := ⟨_, List.getElem?_eq_getElem (by rw [HFL.out]; exact hli)⟩
          obtain ⟨bd3, rfl, -, hcs3⟩ := HUN.out (by rw [HFL.out]; omega)
          have r1 := hcs3 _ (Below.refl _ _) i x hx
          obtain ⟨k1, -⟩ := HO3.out.cellAt (t := (i : Int)) (by omega) (by omega)
          rw [Int.toNat_natCast] at k1
          have hfx : Bfs.fl fs (i : Int) = x := by unfold Bfs.fl; rw [Int.toNat_natCast, List.getD_eq_getElem?_getD, hx]; rfl
          have HX := Lib.hid hfx
          have HIN := Lib.hid (Bfs.fl_flags (n := m.length) HI.out (x := (i : Int)) (by omega) (by omega))
          have HQ2 := Lib.hid (show (Bfs.fl fs (i : Int) = true → (i : Int) ∈ l) → ∀ t : Int, 0 ≤ t → t < ((i + 1 : Nat) : Int) → Bfs.fl fs t = true → t ∈ l from fun h t h0 h1 h2 => by
            by_cases e : t = (i : Int)
            · subst e; exact h h2
            · exact HQ.out t h0 (by omega) h2)
          clear hcs3 hx hfx HQ
          obtain ⟨y, hy⟩ : ∃ y, y = Bfs.fl (Bfs.flags m.length l) (i : Int) := ⟨_, rfl⟩
          rw [← hy] at k1 HIN
          clear hy
          cases x with
          | false =>
            have HQ3 := Lib.hid (HQ2.out fun h => by rw [HX.out] at h; cases h)
            go_wp2
            exact ⟨⟨i + 1, by omega, by go_num, by trivial, HQ3⟩, by simp [intOf]; omega⟩
          | true =>
            cases y with
            | true =>
              have HQ3 := Lib.hid (HQ2.out fun _ => of_decide_eq_true HIN.out.symm)
              go_wp2
              exact ⟨⟨i + 1, by omega, by go_num, by trivial, HQ3⟩, by simp [intOf]; omega⟩
            | false =>
              have HZ2 := Lib.hid (show false = !Z by
                rw [HZ.out, leaves_true (List.mem_of_getElem? HS.out) ((row_fl HF.out HST.out (i : Int)).2 ⟨by omega, by rw [← HFS.out]; exact HX.out⟩) (of_decide_eq_false HIN.out.symm)]; rfl)
              go_wp2
              go_ret
              exact ⟨ret_bool HZ2.out, HB3.out⟩
        · obtain rfl : i = m.length := by omega
          have HP2 := Lib.hid (show ∀ s' ∈ l.take (j + 1), ∀ t ∈ Bfs.row (m.map nextOf) s', t ∈ l by
            intro s' hs' t ht
            rw [List.take_add_one, HS.out] at hs'
            rcases List.mem_append.1 hs' with hs' | hs'
            · exact HP.out s' hs' t ht
            · have e : s' = s := by simpa using hs'
              subst e
              obtain ⟨h1, h2⟩ := (row_fl HF.out HST.out t).1 ht
              rw [← HFS.out] at h2
              exact HQ.out t h1.1 h1.2 h2)
          clear hli HQ
          go_wp2
          exact ⟨⟨j + 1, by omega, by go_num, HB3, hs3, HX3, HO3, HP2⟩, by simp [intOf]; omega⟩
    · obtain rfl : j = l.length := by omega
      have HZ2 := Lib.hid (show true = !Z by
        rw [HZ.out, leaves_false (fun s hs => HP.out s (by rw [List.take_length]; exact hs))]; rfl)
      clear hlt
      go_wp2
      go_ret
      exact ⟨ret_bool HZ2.out, HBW.out⟩
end Go.Proofs.YtoffbdlgmnpblaaGreat
