/- Part 12: Gr2 Bfs. -/
import Derived.Test.YtoffbdlgmnpblaaGreatJ02
import Derived.Test.YtoffbdlgmnpblaaGreatJ11

/- Package graph: Next: the edges of a model. -/
namespace Go.Proofs.YtoffbdlgmnpblaaGreat
open Go.RowKit
set_option maxHeartbeats 4000000
set_option maxRecDepth 100000

/-! ### What is meant -/
def add1 (L : List Int) (x : Int) : List Int := if L.contains x then L else L ++ [x]
def tos (c : Ch) : List Int := c.brs.map (·.to)
def targets (s : St) : List Int := s.chs.flatMap tos
def dd (l : List Int) : List Int := l.foldl add1 []
def isort (l : List Int) : List Int := l.mergeSort fun x y => decide (x ≤ y)
def nextOf (s : St) : List Int := isort (dd (targets s))
theorem dd_snoc (l : List Int) (x : Int) : dd (l ++ [x]) = add1 (dd l) x := by simp [dd, List.foldl_append]

/-- what Next asks of a model -/
structure Fine (m : List St) : Prop where
  len : m.length ≤ 40
  chs : ∀ s ∈ m, s.chs.length ≤ 8
  brs : ∀ s ∈ m, ∀ c ∈ s.chs, c.brs.length ≤ 8
  tos : ∀ s ∈ m, ∀ c ∈ s.chs, ∀ b ∈ c.brs, 0 ≤ b.to ∧ b.to < m.length

theorem brsOk_tos {n : Int} : ∀ {last : Int} {l : List Br}, brsOk n last l = true → ∀ b ∈ l, last < b.to ∧ b.to < n := by
  intro last l
  induction l generalizing last with
  | nil => intro _ b hb; cases hb
  | cons a l ih =>
    intro h b hb
    simp only [brsOk, Bool.and_eq_true, decide_eq_true_eq] at h
    obtain ⟨⟨h1, -⟩, h2⟩ := h
    rcases List.mem_cons.1 hb with rfl | hb
    · exact ⟨h1.1, h1.2.1⟩
    · have := ih h2 b hb; omega
theorem Fine.of_valid {m : List St} (h : validB m = true) : Fine m := by
  unfold validB at h
  simp only [Bool.and_eq_true, decide_eq_true_eq, List.all_eq_true] at h
  obtain ⟨⟨-, h2⟩, h3⟩ := h
  have hs : ∀ s ∈ m, s.chs.length ≤ 8 ∧ ∀ c ∈ s.chs, choiceB m.length c = true := by
    intro s hs
    have := h3 s hs
    unfold stB at this
    simp only [Bool.and_eq_true, decide_eq_true_eq, List.all_eq_true] at this
    exact ⟨this.1.2.2.2.2.2, this.2⟩
  have hc : ∀ s ∈ m, ∀ c ∈ s.chs, c.brs.length ≤ 8 ∧ brsOk m.length (-1) c.brs = true := by
    intro s h1 c h2
    have := (hs s h1).2 c h2
    unfold choiceB at this
    simp only [Bool.and_eq_true, decide_eq_true_eq] at this
    exact ⟨this.2.1.2, this.2.2.1⟩
  exact ⟨h2, fun s h => (hs s h).1, fun s h c h' => (hc s h c h').1, fun s h c h' b hb => by have := brsOk_tos (hc s h c h').2 b hb; omega⟩

/-! ### Rows sorted -/
theorem Sort_own (v : Value) (L : List Int) (W : World) (B : Nat) (h : W.ownsRow B 3 1 v L.length (ints L)) (hl : L.length < 1000000) :
    Calls Tryz.prog 127 #[v] W fun e W' => e = .returned (.tuple #[]) ∧ W'.ownsRow B 3 1 v L.length (ints (isort L)) ∧ W.grownBy W' v.ownBlock := by
  obtain ⟨h1, ⟨rfl, h2⟩ | ⟨g, cap, cur, rfl, hb, hg, hnc, hcm, hcs, ht⟩⟩ := h
  · have hL : L = [] := List.eq_nil_of_length_eq_zero h2
    subst hL
    refine (Tryz.slices_Sort_int_none none 0 W).mono ?_
    rintro e w' ⟨rfl, rfl⟩
    have e : isort [] = [] := by simp [isort]
    rw [e]
    exact ⟨rfl, ⟨rfl, .inl ⟨rfl, rfl⟩⟩, World.grownBy.refl _ _⟩
  · rw [Nat.mul_one] at ht hcs
    refine (Tryz.slices_Sort_int g 0 cap L W (holds_of_blockI hg ht) (Array.getElem?_eq_some_iff.1 hg).1 (by omega)).mono ?_
    rintro e w' ⟨rfl, n, os, rfl⟩
    refine ⟨rfl, ?_, grownBy_sortedI _⟩
    exact ownsRow_sortedI (List.length_mergeSort L) hb hg hnc hcm (by omega)
theorem OwnRows.turned {W w' : World} {B g : Nat} {vs : List Value} {xss : List (List Int)} (h : OwnRows W B g vs xss) {i : Nat} {v : Value} {xs ys : List Int} (hx : xss[i]? = some xs) (hv : vs[i]? = some v) (hg : W.grownBy w' v.ownBlock)
    (hr : w'.ownsRow B 3 1 v ys.length (ints ys)) : OwnRows w' B g vs (xss.set i ys) := by
  obtain ⟨hro, hne⟩ := h.row i v xs hv hx
  refine ⟨(hg.block g h.lt (fun e => hne e.symm)).trans h.cells, by simp [h.len], h.low, ?_, h.apart⟩
  intro j u zs hu hz
  by_cases hj : i = j
  · subst hj
    rw [hv] at hu; cases hu
    rw [List.getElem?_set_self (by have := (List.getElem?_eq_some_iff.1 hx).1; omega)] at hz
    cases hz
    exact ⟨hr, hne⟩
  · rw [List.getElem?_set_ne hj] at hz
    obtain ⟨hr2, hn2⟩ := h.row j u zs hu hz
    exact ⟨hr2.kept hg (by
      cases hb : u.ownBlock with
      | none => exact .inl rfl
      | some k => right; intro e; exact h.apart j i u v k (fun e => hj e.symm) hu hv hb e.symm), hn2⟩

/-- the rows so far -/
def rowsTo (m : List St) (j : Nat) : List (List Int) := (m.take j).map nextOf ++ List.replicate (m.length - j) []
theorem rowsTo_len (m : List St) (j : Nat) (h : j ≤ m.length) : (rowsTo m j).length = m.length := by simp [rowsTo]; omega
theorem rowsTo_at (m : List St) (j : Nat) (h : j < m.length) : (rowsTo m j)[j]? = some [] := by
  unfold rowsTo
  rw [List.getElem?_append_right (by simp <;> omega), List.getElem?_replicate]
  simp; omega
theorem rowsTo_succ (m : List St) (j : Nat) (s : St) (h : m[j]? = some s) : (rowsTo m j).set j (nextOf s) = rowsTo m (j + 1) := by
  have hj := (List.getElem?_eq_some_iff.1 h).1
  unfold rowsTo
  rw [List.set_append_right _ _ (by simp <;> omega), List.take_add_one, h]
  have e : m.length - j = (m.length - (j + 1)) + 1 := by omega
  have e2 : ((m.take j).map nextOf).length = j := by simp; omega
  rw [e, List.replicate_succ, e2, Nat.sub_self, List.set_cons_zero]
  simp
theorem rowsTo_all (m : List St) : rowsTo m m.length = m.map nextOf := by simp [rowsTo]

theorem OwnRows.notmap {W : World} {B g b n : Nat} {vs : List Value} {xss : List (List Int)} {s : Int → Bool} (h : OwnRows W B g vs xss) (hm : SeenM W b n s) : b ≠ g ∧ ∀ (i : Nat) (v : Value), vs[i]? = some v → v.ownBlock ≠ some b := by
  obtain ⟨es, clock, hb⟩ := hm.map_at
  refine ⟨fun e => ?_, fun i v hv e => ?_⟩
  · subst e; rw [h.cells] at hb; cases hb
  · obtain ⟨xs, hx⟩ : ∃ xs, xss[i]? = some xs := ⟨_, List.getElem?_eq_getElem (by have := (List.getElem?_eq_some_iff.1 hv).1; have := h.len; omega)⟩
    obtain ⟨⟨-, ⟨rfl, -⟩ | ⟨k, cap, cur, rfl, -, hck, -⟩⟩, -⟩ := h.row i v xs hv hx
    · simp [Value.ownBlock] at e
    · simp only [Value.ownBlock, Option.some.injEq] at e
      subst e; rw [hck] at hb; cases hb
theorem OwnRows.grown_map {W w' : World} {B g b n : Nat} {vs : List Value} {xss : List (List Int)} {s : Int → Bool} (h : OwnRows W B g vs xss) (hm : SeenM W b n s) (hg : W.grownBy w' (some b)) : OwnRows w' B g vs xss := by
  obtain ⟨n1, n2⟩ := h.notmap hm
  refine h.kept fun k hk hB hor => hg.block k hk ?_
  rintro e
  cases e
  rcases hor with rfl | ⟨i, v, hv, e⟩
  · exact n1 rfl
  · exact n2 i v hv e
theorem SeenM.grown_row {W w' : World} {B g b n : Nat} {vs : List Value} {xss : List (List Int)} {s : Int → Bool} (hm : SeenM W b n s) (h : OwnRows W B g vs xss) {i : Nat} {v : Value} (hv : vs[i]? = some v) (hg : W.grownBy w' v.ownBlock) : SeenM w' b n s :=
  hm.kept (hg.block b hm.lt fun e => (h.notmap hm).2 i v hv e.symm)
theorem SeenM.set {W : World} {b n : Nat} {s : Int → Bool} (hm : SeenM W b n s) {p : Addr} (hp : b ≠ p.block) (u : Value) : SeenM (W.setCell p u) b n s := hm.kept (Below.heap_setCell W p u b hp)
theorem below_grown {w W w' : World} {b : Nat} (h : Below w.heap.size w W) (hg : W.grownBy w' (some b)) (hb : w.heap.size ≤ b) : Below w.heap.size w w' := h.grown hg h.size (fun k e => by cases e; exact hb)

theorem set_self {α : Type} {l : List α} {i : Nat} {x : α} (h : l[i]? = some x) : l.set i x = l := by
  obtain ⟨hi, rfl⟩ := List.getElem?_eq_some_iff.1 h
  exact List.set_getElem_self hi
theorem OwnRows.drew {W : World} {B g : Nat} {vs : List Value} {xss : List (List Int)} (h : OwnRows W B g vs xss) : OwnRows W.drew B g vs xss := ⟨h.cells, h.len, h.low, h.row, h.apart⟩
theorem SeenM.drew {W : World} {b n : Nat} {s : Int → Bool} (h : SeenM W b n s) : SeenM W.drew b n s := h.kept rfl
section
variable {W w3 : World} {B g : Nat} {vs : List Value} {xss : List (List Int)} {i : Nat} {v v3 : Value} {xs : List Int} {o : Obj} {y : Int}
theorem OwnRows.app_cell (h : OwnRows W B g vs xss) (hx : xss[i]? = some xs) (hv : vs[i]? = some v) (hg : (W.alloc o).grownBy w3 v.ownBlock) : w3.cell? ⟨g, i, none⟩ = some v ∧ w3.frozen? ⟨g, i, none⟩ = false := by
  obtain ⟨hro, hne⟩ := h.row i v xs hv hx
  have h1 := h.below ((Below.refl W.heap.size W).alloc (Nat.le_refl _) o)
  obtain ⟨c1, c2⟩ := h1.cell hv
  have hb := hg.block g h1.lt (fun e => hne e.symm)
  exact ⟨(World.cell?_of_block (w := W.alloc o) (a := ⟨g, i, none⟩) hb).trans c1, (World.frozen?_of_block (w := W.alloc o) (a := ⟨g, i, none⟩) hb).trans c2⟩
theorem OwnRows.app (h : OwnRows W B g vs xss) (hx : xss[i]? = some xs) (hv : vs[i]? = some v) (hg : (W.alloc o).grownBy w3 v.ownBlock) (ho : w3.ownsRow B 3 1 v3 (xs.length + 1) (ints xs ++ [.int .i64 y])) (ha : v3.ownBlock = v.ownBlock ∨ v3.ownBlock = some (W.alloc o).heap.size) :
    OwnRows (w3.setCell ⟨g, i, none⟩ v3) B g (vs.set i v3) (xss.set i (xs ++ [y])) := by
  have h1 := h.below ((Below.refl W.heap.size W).alloc (Nat.le_refl _) o)
  refine h1.put hx hv hg (by simpa using ho) ?_
  rcases ha with e | e
  · exact .inl e
  · right; intro k hk; rw [e] at hk; cases hk; exact Nat.le_refl _
theorem SeenM.app {b n : Nat} {s : Int → Bool} (hM : SeenM W b n s) (h : OwnRows W B g vs xss) (hv : vs[i]? = some v) (hg : (W.alloc o).grownBy w3 v.ownBlock) (u : Value) : SeenM (w3.setCell ⟨g, i, none⟩ u) b n s := by
  have hb := (Below.refl W.heap.size W).alloc (Nat.le_refl _) o
  exact ((hM.below hb).grown_row (h.below hb) hv hg).set (h.notmap hM).1 u
theorem OwnRows.app_below {w : World} (h : OwnRows W B g vs xss) (hx : xss[i]? = some xs) (hv : vs[i]? = some v) (hg : (W.alloc o).grownBy w3 v.ownBlock) (hb : Below B w W) (hB : B ≤ W.heap.size) (u : Value) : Below B w (w3.setCell ⟨g, i, none⟩ u) :=
  (below_app hb hB (h.row i v xs hv hx).1 hg).setCell (by exact h.low) u
end

theorem Next_calls (m : List St) (v : Value) (D : Nat → Prop) (w : World) (hD : Lo D w) (h : ModelC w D v m) (hf : Fine m) :
    Calls Tryz.prog 73 #[v] w fun e w' => ∃ v', e = .returned v' ∧ Below w.heap.size w w' ∧ Sl (Kind.slice (Kind.int .i64)) w' (nws w w') v' (m.map nextOf) := by
  obtain ⟨u, rfl, h⟩ := h
  obtain ⟨A, c, rfl, h1, h2, -⟩ := h.form
  have hlen := hf.len
  unfold maxLen at h2
  have H := Lib.hid h
  have HF := Lib.hid hf
  clear h hf
  go_enter Tryz.func73, Tryz.ntmps73
  go_wp2_with (first | (refine wpList_mk1 elem_row rfl _ _ rfl (by intro cs h; cases h) w.heap.size _ _ (m.length : Int) (m.length : Int) rfl rfl (by omega) (by omega) (by omega) (by omega) (by simp) ?_; intro w1 hown hb1 hz1 hcells; have q0 : w1.cell? ⟨w.heap.size, 0, none⟩ = some (.slice A m.length c) := (hb1.cell (p := ⟨w.heap.size, 0, none⟩) (by simp)).trans (box_cells w _ rfl _ _ 0).1) | (refine wpList_newMap 132 rfl rfl ?_))
  have hrows : OwnRows w1 w.heap.size (w.heap.size + 1) (List.replicate m.length (.slice none 0 0)) (List.replicate m.length []) := OwnRows.new (by simpa using hcells) (by omega)
  have hrows := hrows.below ((Below.refl _ _).alloc (Nat.le_refl _) (.map #[] 0))
  have hseen := SeenM.made w1
  have hB0 : Below w.heap.size w (w1.alloc (.map #[] 0)) := (((Below.refl w.heap.size w).alloc (Nat.le_refl _) _).trans (hb1.mono (by simp))).alloc (by have := hb1.size; simp at this; omega) _
  have hz : w1.heap.size = w.heap.size + 2 := by simp at hz1; omega
  rw [hz] at hseen
  have HZ := Lib.hid hz
  have hs0 : w.heap.size + 3 ≤ (w1.alloc (.map #[] 0)).heap.size := by simp; omega
  clear hown hcells hz1 hb1 hz q0
  generalize w1.alloc (.map #[] 0) = W0 at *
  go_loopw [19] (fun k W => ∃ (j : Nat) (vs : List Value) (cnt : Nat) (s : Int → Bool), j ≤ m.length ∧ k = .int .i64 (j : Int) ∧ Below w.heap.size w W ∧ w.heap.size + 3 ≤ W.heap.size ∧ OwnRows W w.heap.size (w.heap.size + 1) vs (rowsTo m j) ∧ SeenM W (w.heap.size + 2) cnt s) (fun k _ => m.length - (intOf k).toNat)
  case atStart => exact ⟨0, _, _, _, Nat.zero_le _, rfl, hB0, hs0, hrows, hseen⟩
  case round =>
    obtain ⟨j, vs, cnt, sm, hj, rfl, hBW, hsW, hRW, hMW⟩ := hrel
    clear hrows hseen hB0 hs0
    by_cases hlt : j < m.length
    · obtain ⟨s, hs⟩ : ∃ s, m[j]? = some s := ⟨_, List.getElem?_eq_getElem hlt⟩
      obtain ⟨ad, B, p, d, rfl, hDa, q0, q1, q2, hsc⟩ := H.out.st_up hD hBW j s hs
      obtain ⟨rfl, hp1, hp2⟩ := hsc.len
      unfold maxLen at hp2
      have hsm : s ∈ m := List.mem_of_getElem? hs
      have hc8 := HF.out.chs s hsm
      have HS := Lib.hid hs
      have HC := Lib.hid hsc
      clear hs hsc
      have hBW1 : Below w.heap.size w (wr.alloc (.cells #[.int .i64 s.owner, .int .i64 s.mark, .slice B s.chs.length d] 79)) := hBW.alloc hBW.size _
      have hRW1 := hRW.below ((Below.refl wr.heap.size wr).alloc (Nat.le_refl _) (.cells #[.int .i64 s.owner, .int .i64 s.mark, .slice B s.chs.length d] 79))
      have hMW1 := hMW.below ((Below.refl wr.heap.size wr).alloc (Nat.le_refl _) (.cells #[.int .i64 s.owner, .int .i64 s.mark, .slice B s.chs.length d] 79))
      go_wp2_with (refine wpList_clear rfl _ rfl (w.heap.size + 2) cnt sm rfl hMW1 ?_; intro w2 hM2 hg2 u2; have r2 : w2.cell? ⟨wr.heap.size, 2, none⟩ = some (.slice B s.chs.length d) := hg2.cell (box_cells wr _ rfl _ _ 2).1 (by simp; omega))
      have hB2 := below_grown hBW1 hg2 (by omega)
      have hR2 := hRW1.grown_map hMW1 hg2
      have hs2 : w.heap.size + 3 ≤ w2.heap.size := by have := hg2.size; simp at this; omega
      have hA2 := rowsTo_at m j hlt
      clear hBW hRW hMW hBW1 hRW1 hMW1 q0 q1 q2 hg2 r2 hsW
      go_loopw [28] (fun k W => ∃ (i : Nat) (vs : List Value) (L : List Int), i ≤ s.chs.length ∧ k = .int .i64 (i : Int) ∧ Below w.heap.size w W ∧ w.heap.size + 3 ≤ W.heap.size ∧ OwnRows W w.heap.size (w.heap.size + 1) vs ((rowsTo m j).set j L) ∧ SeenM W (w.heap.size + 2) L.length (fun x => L.contains x) ∧ L.length ≤ 8 * i ∧ Hid (L = dd ((s.chs.take i).flatMap tos))) (fun k _ => s.chs.length - (intOf k).toNat)
      case atStart => exact ⟨0, _, [], Nat.zero_le _, rfl, hB2, hs2, by rw [set_self hA2]; exact hR2, by simpa using hM2, Nat.zero_le _, rfl⟩
      case round =>
        obtain ⟨i, vs2, L, hi, rfl, hBW, hsW, hRW, hMW, hL8, HL⟩ := hrel
        clear hB2 hR2 hs2 hM2
        by_cases hlt2 : i < s.chs.length
        · obtain ⟨x, hx⟩ : ∃ x, s.chs[i]? = some x := ⟨_, List.getElem?_eq_getElem hlt2⟩
          obtain ⟨ad2, B2, p2, d2, rfl, hDa2, q0, q1, q2, hxc⟩ := HC.out.ch_up hD hBW i x hx
          obtain ⟨rfl, hp21, hp22⟩ := hxc.len
          unfold maxLen at hp22
          have hxm : x ∈ s.chs := List.mem_of_getElem? hx
          have hb8 := HF.out.brs s hsm x hxm
          have htos := HF.out.tos s hsm x hxm
          have HT := Lib.hid htos
          have HX := Lib.hid hx
          have HXC := Lib.hid hxc
          clear hx hxc htos
          have hBW1 : Below w.heap.size w (wr.alloc (.cells #[.int .i64 x.rw.top, .int .i64 x.rw.low, .slice B2 x.brs.length d2] 97)) := hBW.alloc hBW.size _
          have hRW1 := hRW.below ((Below.refl wr.heap.size wr).alloc (Nat.le_refl _) (.cells #[.int .i64 x.rw.top, .int .i64 x.rw.low, .slice B2 x.brs.length d2] 97))
          have hMW1 := hMW.below ((Below.refl wr.heap.size wr).alloc (Nat.le_refl _) (.cells #[.int .i64 x.rw.top, .int .i64 x.rw.low, .slice B2 x.brs.length d2] 97))
          go_wp2
          have hAW := hRW.get (i := j) (xs := L) (by rw [List.getElem?_set_self (by rw [rowsTo_len m j (by omega)]; omega)])
          clear hBW hRW hMW q0 q1 q2 hAW
          have hsW1 : w.heap.size + 3 ≤ (wr.alloc (.cells #[.int .i64 x.rw.top, .int .i64 x.rw.low, .slice B2 x.brs.length d2] 97)).heap.size := by simp; omega
          have hL0 : L.length ≤ 8 * i + 0 := hL8
          have HL0 := Lib.hid (show L = dd ((s.chs.take i).flatMap tos ++ (tos x).take 0) by rw [List.take_zero, List.append_nil]; exact HL.out)
          clear hL8 HL hsW
          go_loopw [35] (fun k W => ∃ (i2 : Nat) (vs : List Value) (L : List Int), i2 ≤ x.brs.length ∧ k = .int .i64 (i2 : Int) ∧ Below w.heap.size w W ∧ w.heap.size + 3 ≤ W.heap.size ∧ OwnRows W w.heap.size (w.heap.size + 1) vs ((rowsTo m j).set j L) ∧ SeenM W (w.heap.size + 2) L.length (fun x => L.contains x) ∧ L.length ≤ 8 * i + i2 ∧ Hid (L = dd ((s.chs.take i).flatMap tos ++ (tos x).take i2))) (fun k _ => x.brs.length - (intOf k).toNat)
          case atStart => exact ⟨0, _, L, Nat.zero_le _, rfl, hBW1, hsW1, hRW1, hMW1, hL0, HL0⟩
          case round =>
            clear hBW1 hRW1 hMW1 hsW1 hL0 HL0
            clear L
            obtain ⟨i2, vs3, L, hi2, rfl, hBW, hsW, hRW, hMW, hL8, HL⟩ := hrel
            by_cases hlt3 : i2 < x.brs.length
            · obtain ⟨b, hb⟩ : ∃ b, x.brs[i2]? = some b := ⟨_, List.getElem?_eq_getElem hlt3⟩
              obtain ⟨ad3, rfl, hDa3, q0, q1, q2⟩ := HXC.out.br_up hD hBW i2 b hb
              obtain ⟨t1, t2⟩ := HT.out b (List.mem_of_getElem? hb)
              have hwf : (Lit.int .i64 b.to).wf = true := by
                simp only [Lit.wf, Bool.and_eq_true, decide_eq_true_eq]; constructor
                · show (-9223372036854775808 : Int) ≤ b.to; omega
                · show b.to ≤ (9223372036854775807 : Int); omega
              have HLs := Lib.hid (show dd ((s.chs.take i).flatMap tos ++ (tos x).take (i2 + 1)) = add1 L b.to by
                have : (tos x).take (i2 + 1) = (tos x).take i2 ++ [b.to] := by
                  rw [List.take_add_one]; simp [tos, hb]
                rw [this, ← List.append_assoc, dd_snoc, ← HL.out])
              have HW := Lib.hid hwf
              have HB := Lib.hid hb
              clear hb hwf
              have hBW1 : Below w.heap.size w (wr.alloc (.cells #[.int .i64 b.to, .int .i64 b.ch.top, .int .i64 b.ch.low] 103)) := hBW.alloc hBW.size _
              have hRW1 := hRW.below ((Below.refl wr.heap.size wr).alloc (Nat.le_refl _) (.cells #[.int .i64 b.to, .int .i64 b.ch.top, .int .i64 b.ch.low] 103))
              have hMW1 := hMW.below ((Below.refl wr.heap.size wr).alloc (Nat.le_refl _) (.cells #[.int .i64 b.to, .int .i64 b.ch.top, .int .i64 b.ch.low] 103))
              have hsW1 : w.heap.size + 3 ≤ (wr.alloc (.cells #[.int .i64 b.to, .int .i64 b.ch.top, .int .i64 b.ch.low] 103)).heap.size := by simp; omega
              cases hcon : L.contains b.to with
              | true =>
                have HC1 := Lib.hid hcon
                have HE := Lib.hid (show add1 L b.to = L by unfold add1; rw [hcon]; rfl)
                clear hcon
                go_wp2_with (at_lookup; refine wpList_seen rfl _ _ rfl (w.heap.size + 2) L.length _ rfl hMW1 b.to rfl HW.out true HC1.out ?_)
                exact ⟨⟨i2 + 1, vs3, L, by omega, by go_num, hBW1, hsW1, hRW1, hMW1, by omega, (by rw [HLs.out, HE.out] : L = dd ((s.chs.take i).flatMap tos ++ (tos x).take (i2 + 1)))⟩, by simp [intOf]; omega⟩
              | false =>
                have HC1 := Lib.hid hcon
                have HE := Lib.hid (show add1 L b.to = L ++ [b.to] by unfold add1; rw [hcon]; rfl)
                clear hcon
                have hAW := rowsTo_len m j (by omega)
                have hAx : ((rowsTo m j).set j L)[j]? = some L := by rw [List.getElem?_set_self (by omega)]
                have hsb : ∀ w2 : World, (wr.alloc (.cells #[.int .i64 b.to, .int .i64 b.ch.top, .int .i64 b.ch.low] 103)).grownBy w2 (some (w.heap.size + 2)) → w2.cell? ⟨wr.heap.size, 0, none⟩ = some (.int .i64 b.to) := fun w2 hg => hg.cell (box_cells wr _ rfl _ _ 0).1 (by simp; omega)
                have HSB := Lib.hid hsb
                clear hsb
                go_upto_region 15 with (first | (at_lookup; refine wpList_seen rfl _ _ rfl (w.heap.size + 2) L.length _ rfl hMW1 b.to rfl HW.out false HC1.out ?_) | (at_mapUpdate; refine wpList_see rfl _ _ _ rfl (w.heap.size + 2) L.length _ rfl hMW1 (by simp only [maxLen]; omega) b.to rfl rfl HW.out ?_; intro w2 hM2 hg2))
                have hB2 := below_grown hBW1 hg2 (by omega)
                have hR2 := (hRW1.grown_map hMW1 hg2).drew
                have hM2 := (SeenM.congr hM2 (s' := fun y => (L ++ [b.to]).contains y) (fun y => by simp; rfl)).drew
                have hs2 : w.heap.size + 3 ≤ w2.heap.size := Nat.le_trans hsW1 hg2.size
                obtain ⟨v, hv, hrow, hne⟩ := hR2.get hAx
                have k1 : w2.cell? ⟨w.heap.size + 1, j, none⟩ = some v := (hR2.cell hv).1
                have k2 : w2.frozen? ⟨w.heap.size + 1, j, none⟩ = false := (hR2.cell hv).2
                have k3 := HSB.out w2 hg2
                have hs3 : w.heap.size + 1 < w2.heap.size := by omega
                have hs4 : wr.heap.size < w2.heap.size := by have := hg2.size; simp at this; omega
                clear hRW1 hMW1 hBW1 hBW hRW hMW q0 q1 q2 hg2
                go_region_law (refine step_app1 elem_i64 rfl _ _ rfl w.heap.size v L.length (ints L) rfl (hrow.alloc _) ⟨_, 0, none⟩ 1 _ rfl (cell_new1 _ _ _) rfl (by omega) (by omega) (by simp; omega) ?_; intro v3 w3 ho3 hg3 ha3; have hg3 : (w2.drew.alloc (.cells #[.int .i64 b.to] 3)).grownBy w3 v.ownBlock := hg3; have ha3 : v3.ownBlock = v.ownBlock ∨ v3.ownBlock = some (w2.drew.alloc (.cells #[.int .i64 b.to] 3)).heap.size := ha3; obtain ⟨m1, m2⟩ := hR2.app_cell hAx hv hg3; obtain ⟨A3, c3, rfl, _, _, _⟩ := own_form ho3)
                all_goals
                  go_wp2
                  refine ⟨⟨i2 + 1, vs3.set j (.slice A3 (L.length + 1) c3), L ++ [b.to], by omega, by go_num, hR2.app_below hAx hv hg3 hB2.drew (by show w.heap.size ≤ w2.heap.size; omega) _, ?_, ?_, ?_, by simp; omega, (by rw [HLs.out, HE.out] : L ++ [b.to] = dd ((s.chs.take i).flatMap tos ++ (tos x).take (i2 + 1)))⟩, by simp [intOf]; omega⟩
                  · have := hg3.size; simp [World.setCell] at this ⊢; omega
                  · have := hR2.app hAx hv hg3 ho3 ha3
                    rwa [List.set_set] at this
                  · simpa using hM2.app hR2 hv hg3 _
            · obtain rfl : i2 = x.brs.length := by omega
              clear hlt3
              go_wp2
              refine ⟨⟨i + 1, vs3, L, by omega, by go_num, hBW, hsW, hRW, hMW, by omega, ?_⟩, by simp [intOf]; omega⟩
              have : L = dd ((s.chs.take (i + 1)).flatMap tos) := by
                have e : (tos x).take x.brs.length = tos x := List.take_of_length_le (by simp [tos])
                rw [HL.out, List.take_add_one, HX.out, List.flatMap_append, e]
                simp
              exact this
        · obtain rfl : i = s.chs.length := by omega
          clear hlt2
          have hAW := rowsTo_len m j (by omega)
          have hAx : ((rowsTo m j).set j L)[j]? = some L := by rw [List.getElem?_set_self (by omega)]
          obtain ⟨v, hv, hrow, hne⟩ := hRW.get hAx
          obtain ⟨k1, k2⟩ := hRW.cell hv
          go_wp2_with fail
          refine (Sort_own v L _ w.heap.size hrow (by omega)).mono ?_
          rintro e w3 ⟨rfl, ho3, hg3⟩
          have hlen3 := hRW.len
          go_wp2
          have hl3 : (isort L).length = L.length := List.length_mergeSort L
          refine ⟨⟨j + 1, vs2, L.length, _, by omega, by go_num, hBW.grown hg3 hBW.size (fun k e => (hrow.lt k e).1), by have := hg3.size; omega, ?_, hMW.grown_row hRW hv hg3⟩, by simp [intOf]; omega⟩
          have := hRW.turned hAx hv hg3 (ys := isort L) (by rw [hl3]; exact ho3)
          rw [List.set_set] at this
          have e : isort L = nextOf s := by rw [HL.out, List.take_length]; rfl
          rw [e, rowsTo_succ m j s HS.out] at this
          exact this
    · obtain rfl : j = m.length := by omega
      clear hlt
      rw [rowsTo_all] at hRW
      go_wp2
      go_ret
      refine ⟨_, rfl, hBW, ?_⟩
      exact hRW.sl (by simp only [maxLen, List.length_map]; omega) m.length (by simp)

end Go.Proofs.YtoffbdlgmnpblaaGreat

/- Plain laws: the search in breadth, as the program does it: with lists. -/
namespace Go.Proofs.YtoffbdlgmnpblaaGreat.Bfs

/-- the number at a state -/
def at' (d : List Int) (s : Int) : Int := d.getD s.toNat 0
def neg (d : List Int) : Nat := d.countP (fun x => decide (x < 0))
/-- a state is met from s -/
def visit (s : Int) (st : List Int × List Int) (t : Int) : List Int × List Int :=
  if at' st.1 t < 0 then (st.1.set t.toNat (at' st.1 s + 1), st.2 ++ [t]) else st
def row (next : List (List Int)) (s : Int) : List Int := next.getD s.toNat []
def search (next : List (List Int)) : Nat → List Int → List Int → List Int
  | 0, d, _ => d
  | _ + 1, d, [] => d
  | f + 1, d, s :: q => search next f ((row next s).foldl (visit s) (d, q)).1 ((row next s).foldl (visit s) (d, q)).2
def run (next : List (List Int)) (d q : List Int) : List Int := search next (q.length + neg d) d q
def marked (n : Nat) (l : List Int) : List Int := l.foldl (fun d s => d.set s.toNat 0) (List.replicate n (-1))
/-- lengths of shortest paths -/
def depths (next : List (List Int)) (l : List Int) : List Int := run next (marked next.length l) l

structure Inv (n : Nat) (d q : List Int) : Prop where
  len : d.length = n
  bnd : ∀ x ∈ d, -1 ≤ x ∧ x + (neg d : Int) ≤ (n : Int)
  que : ∀ s ∈ q, 0 ≤ s ∧ s < (n : Int) ∧ 0 ≤ at' d s

theorem at_get {d : List Int} {t : Int} (h0 : 0 ≤ t) (h1 : t < (d.length : Int)) : d[t.toNat]? = some (at' d t) := by
  have : t.toNat < d.length := by omega
  unfold at'
  rw [List.getElem?_eq_getElem this, List.getD_eq_getElem?_getD, List.getElem?_eq_getElem this]
  rfl
theorem at_mem {d : List Int} {t : Int} (h0 : 0 ≤ t) (h1 : t < (d.length : Int)) : at' d t ∈ d := List.mem_of_getElem? (at_get h0 h1)
theorem neg_set {d : List Int} {i : Nat} {x y : Int} (h : d[i]? = some x) (hx : x < 0) (hy : 0 ≤ y) : neg (d.set i y) + 1 = neg d := by
  obtain ⟨hi, rfl⟩ := List.getElem?_eq_some_iff.1 h
  unfold neg
  rw [List.countP_set hi]
  have hpos : 0 < d.countP (fun x => decide (x < 0)) := List.countP_pos_iff.2 ⟨d[i], List.getElem_mem hi, by simpa using hx⟩
  simp only [decide_eq_true hx, decide_eq_false (show ¬ y < 0 by omega), if_true]
  simp
  omega
theorem at_set_same {d : List Int} {t : Int} (y : Int) (h0 : 0 ≤ t) (h1 : t < (d.length : Int)) : at' (d.set t.toNat y) t = y := by
  have : t.toNat < d.length := by omega
  simp [at', List.getD_eq_getElem?_getD, this]
theorem at_set_other {d : List Int} {t s : Int} (y : Int) (h0 : 0 ≤ t) (h1 : 0 ≤ s) (h : s ≠ t) : at' (d.set t.toNat y) s = at' d s := by
  have : t.toNat ≠ s.toNat := by omega
  simp [at', List.getD_eq_getElem?_getD, List.getElem?_set_ne this]

theorem visit_inv {n : Nat} {d q : List Int} {s t : Int} (h : Inv n d q) (hs : 0 ≤ s ∧ s < (n : Int) ∧ 0 ≤ at' d s) (ht : 0 ≤ t ∧ t < (n : Int)) :
    Inv n (visit s (d, q) t).1 (visit s (d, q) t).2 ∧ (visit s (d, q) t).2.length + neg (visit s (d, q) t).1 = q.length + neg d ∧ (∀ u, 0 ≤ u → 0 ≤ at' d u → 0 ≤ at' (visit s (d, q) t).1 u) := by
  have hl := h.len
  unfold visit
  by_cases hn : at' d t < 0
  · simp only [if_pos hn]
    have hg := at_get (d := d) ht.1 (by omega)
    have hset := neg_set hg hn (show 0 ≤ at' d s + 1 by omega)
    have hsm := h.bnd _ (at_mem (d := d) hs.1 (by omega))
    have hmon : ∀ u, 0 ≤ u → 0 ≤ at' d u → 0 ≤ at' (d.set t.toNat (at' d s + 1)) u := by
      intro u h0 hu
      by_cases e : u = t
      · subst e; omega
      · rw [at_set_other _ ht.1 h0 e]; exact hu
    refine ⟨⟨by simp [hl], ?_, ?_⟩, ?_, hmon⟩
    · intro x hx
      rcases List.mem_or_eq_of_mem_set hx with hx | rfl
      · have := h.bnd x hx; omega
      · omega
    · intro u hu
      rcases List.mem_append.1 hu with hu | hu
      · obtain ⟨a, b, c⟩ := h.que u hu
        exact ⟨a, b, hmon u a c⟩
      · have : u = t := by simpa using hu
        subst this
        exact ⟨ht.1, ht.2, by rw [at_set_same _ ht.1 (by omega)]; omega⟩
    · simp only [List.length_append, List.length_singleton]; omega
  · simp only [if_neg hn]
    exact ⟨h, by trivial, fun _ _ h => h⟩

theorem fold_inv {n : Nat} {s : Int} (l : List Int) : ∀ {d q : List Int}, Inv n d q → (0 ≤ s ∧ s < (n : Int) ∧ 0 ≤ at' d s) → (∀ t ∈ l, 0 ≤ t ∧ t < (n : Int)) →
    Inv n (l.foldl (visit s) (d, q)).1 (l.foldl (visit s) (d, q)).2 ∧ (l.foldl (visit s) (d, q)).2.length + neg (l.foldl (visit s) (d, q)).1 = q.length + neg d ∧ 0 ≤ at' (l.foldl (visit s) (d, q)).1 s := by
  induction l with
  | nil => intro d q h hs _; exact ⟨h, rfl, hs.2.2⟩
  | cons t l ih =>
    intro d q h hs ht
    obtain ⟨h1, h2, h3⟩ := visit_inv h hs (ht t (List.mem_cons_self ..))
    obtain ⟨k1, k2, k3⟩ := ih h1 ⟨hs.1, hs.2.1, h3 s hs.1 hs.2.2⟩ (fun u hu => ht u (List.mem_cons_of_mem _ hu))
    exact ⟨k1, k2.trans h2, k3⟩

theorem run_nil (next : List (List Int)) (d : List Int) : run next d [] = d := by
  unfold run; cases ([] : List Int).length + neg d <;> rfl
theorem run_cons {next : List (List Int)} {n : Nat} {d q : List Int} {s : Int} (h : Inv n d (s :: q)) (hr : ∀ t ∈ row next s, 0 ≤ t ∧ t < (n : Int)) :
    run next d (s :: q) = run next ((row next s).foldl (visit s) (d, q)).1 ((row next s).foldl (visit s) (d, q)).2 := by
  have hq : Inv n d q := ⟨h.len, h.bnd, fun u hu => h.que u (List.mem_cons_of_mem _ hu)⟩
  have hf := (fold_inv (row next s) hq (h.que s (List.mem_cons_self ..)) hr).2.1
  unfold run
  rw [hf, show (s :: q).length + neg d = (q.length + neg d) + 1 by simp; omega]
  rfl

theorem marked_snoc (n : Nat) (l : List Int) (s : Int) : marked n (l ++ [s]) = (marked n l).set s.toNat 0 := by simp [marked, List.foldl_append]
theorem marked_len (n : Nat) (l : List Int) : (marked n l).length = n := by
  have : ∀ (l : List Int) (d : List Int), (l.foldl (fun d s => d.set s.toNat 0) d).length = d.length := by
    intro l
    induction l with
    | nil => intro d; rfl
    | cons a l ih => intro d; rw [List.foldl_cons, ih]; simp
  unfold marked; rw [this]; simp
theorem marked_mem (n : Nat) (l : List Int) : ∀ x ∈ marked n l, x = -1 ∨ x = 0 := by
  have : ∀ (l : List Int) (d : List Int), (∀ x ∈ d, x = -1 ∨ x = 0) → ∀ x ∈ l.foldl (fun d s => d.set s.toNat 0) d, x = -1 ∨ x = 0 := by
    intro l
    induction l with
    | nil => intro d h; exact h
    | cons a l ih =>
      intro d h
      refine ih _ fun x hx => ?_
      rcases List.mem_or_eq_of_mem_set hx with hx | rfl
      · exact h x hx
      · exact .inr rfl
  exact this l _ (fun x hx => .inl (List.eq_of_mem_replicate hx))
theorem marked_at (n : Nat) (l : List Int) (hl : ∀ s ∈ l, 0 ≤ s ∧ s < (n : Int)) : ∀ s ∈ l, at' (marked n l) s = 0 := by
  have : ∀ (l d : List Int), d.length = n → (∀ s ∈ l, 0 ≤ s ∧ s < (n : Int)) → ∀ u, 0 ≤ u → u < (n : Int) → (u ∈ l ∨ at' d u = 0) → at' (l.foldl (fun d s => d.set s.toNat 0) d) u = 0 := by
    intro l
    induction l with
    | nil => intro d _ _ u _ _ h; exact h.resolve_left (by simp)
    | cons a l ih =>
      intro d hd hl u h0 h1 h
      have ha := hl a (List.mem_cons_self ..)
      refine ih _ (by simpa using hd) (fun s hs => hl s (List.mem_cons_of_mem _ hs)) u h0 h1 ?_
      by_cases e : u = a
      · subst e; right; exact at_set_same _ h0 (by omega)
      · rcases h with h | h
        · exact .inl ((List.mem_cons.1 h).resolve_left e)
        · right; rw [at_set_other _ ha.1 h0 e]; exact h
  intro s hs
  exact this l _ (by simp) hl s (hl s hs).1 (hl s hs).2 (.inl hs)
theorem marked_inv (n : Nat) (l : List Int) (hl : ∀ s ∈ l, 0 ≤ s ∧ s < (n : Int)) : Inv n (marked n l) l := by
  refine ⟨marked_len n l, fun x hx => ?_, fun s hs => ⟨(hl s hs).1, (hl s hs).2, by rw [marked_at n l hl s hs]; decide⟩⟩
  have h1 := marked_mem n l x hx
  have h2 : neg (marked n l) ≤ n := by
    have := List.countP_le_length (p := fun x : Int => decide (x < 0)) (l := marked n l)
    rw [marked_len] at this; exact this
  rcases h1 with rfl | rfl
  · omega
  · omega

theorem visit_len (s : Int) (st : List Int × List Int) (t : Int) : (visit s st t).1.length = st.1.length := by unfold visit; split <;> simp
theorem fold_visit_len (s : Int) (l : List Int) : ∀ st, (l.foldl (visit s) st).1.length = st.1.length := by
  induction l with
  | nil => intro st; rfl
  | cons a l ih => intro st; rw [List.foldl_cons, ih, visit_len]
theorem search_len (next : List (List Int)) : ∀ (f : Nat) (d q : List Int), (search next f d q).length = d.length := by
  intro f
  induction f with
  | zero => intro d q; rfl
  | succ f ih =>
    intro d q
    cases q with
    | nil => rfl
    | cons s q => show (search next f _ _).length = _; rw [ih, fold_visit_len]
theorem depths_len (next : List (List Int)) (l : List Int) : (depths next l).length = next.length := by unfold depths run; rw [search_len, marked_len]

/-! ### edges turned -/
def push (o : List (List Int)) (s t : Int) : List (List Int) := o.set t.toNat (o.getD t.toNat [] ++ [s])
def turnTo (xss : List (List Int)) : Nat → List (List Int)
  | 0 => List.replicate xss.length []
  | j + 1 => (xss.getD j []).foldl (fun o t => push o j t) (turnTo xss j)
def turn (xss : List (List Int)) : List (List Int) := turnTo xss xss.length
theorem push_len (o : List (List Int)) (s t : Int) : (push o s t).length = o.length := by simp [push]
theorem fold_push_len (l : List Int) (s : Int) : ∀ o : List (List Int), (l.foldl (fun o t => push o s t) o).length = o.length := by
  induction l with
  | nil => intro o; rfl
  | cons a l ih => intro o; rw [List.foldl_cons, ih, push_len]
theorem turnTo_len (xss : List (List Int)) : ∀ j, (turnTo xss j).length = xss.length
  | 0 => by simp [turnTo]
  | j + 1 => by rw [turnTo, fold_push_len, turnTo_len]
theorem push_bound {o : List (List Int)} {s t : Int} {b : Nat} (h : ∀ x ∈ o, x.length ≤ b) : ∀ x ∈ push o s t, x.length ≤ b + 1 := by
  intro x hx
  rcases List.mem_or_eq_of_mem_set hx with hx | rfl
  · have := h x hx; omega
  · simp only [List.length_append, List.length_singleton]
    have : (o.getD t.toNat []).length ≤ b := by
      rw [List.getD_eq_getElem?_getD]
      cases hh : o[t.toNat]? with
      | none => simp
      | some y => exact h y (List.mem_of_getElem? hh)
    omega

theorem fold_push_bound (l : List Int) (s : Int) : ∀ {o : List (List Int)} {b : Nat}, (∀ x ∈ o, x.length ≤ b) → ∀ x ∈ l.foldl (fun o t => push o s t) o, x.length ≤ b + l.length := by
  induction l with
  | nil => intro o b h; exact h
  | cons a l ih =>
    intro o b h x hx
    have := ih (push_bound (s := s) (t := a) h) x hx
    simp only [List.length_cons]; omega
theorem turnTo_bound {xss : List (List Int)} {b : Nat} (h : ∀ xs ∈ xss, xs.length ≤ b) : ∀ j, ∀ x ∈ turnTo xss j, x.length ≤ b * j
  | 0 => fun x hx => by rw [List.eq_of_mem_replicate hx]; simp
  | j + 1 => fun x hx => by
    have h1 := fold_push_bound (xss.getD j []) j (turnTo_bound h j) x hx
    have h2 : (xss.getD j []).length ≤ b := by
      rw [List.getD_eq_getElem?_getD]
      cases hh : xss[j]? with
      | none => simp
      | some y => exact h y (List.mem_of_getElem? hh)
    rw [Nat.mul_add, Nat.mul_one]; omega
theorem push_mem {o : List (List Int)} {s t : Int} {P : Int → Prop} (h : ∀ x ∈ o, ∀ y ∈ x, P y) (hs : P s) : ∀ x ∈ push o s t, ∀ y ∈ x, P y := by
  intro x hx y hy
  rcases List.mem_or_eq_of_mem_set hx with hx | rfl
  · exact h x hx y hy
  · rcases List.mem_append.1 hy with hy | hy
    · rw [List.getD_eq_getElem?_getD] at hy
      cases hh : o[t.toNat]? with
      | none => rw [hh] at hy; simp at hy
      | some z => rw [hh] at hy; exact h z (List.mem_of_getElem? hh) y hy
    · have : y = s := by simpa using hy
      rw [this]; exact hs
theorem fold_push_mem {P : Int → Prop} (l : List Int) {s : Int} (hs : P s) : ∀ {o : List (List Int)}, (∀ x ∈ o, ∀ y ∈ x, P y) → ∀ x ∈ l.foldl (fun o t => push o s t) o, ∀ y ∈ x, P y := by
  induction l with
  | nil => intro o h; exact h
  | cons a l ih => intro o h; exact ih (push_mem h hs)
theorem turnTo_mem (xss : List (List Int)) : ∀ j, ∀ x ∈ turnTo xss j, ∀ y ∈ x, 0 ≤ y ∧ y < (j : Int)
  | 0 => fun x hx y hy => by rw [List.eq_of_mem_replicate hx] at hy; cases hy
  | j + 1 => fold_push_mem (P := fun y => 0 ≤ y ∧ y < ((j + 1 : Nat) : Int)) _ (by omega) fun x hx y hy => by have := turnTo_mem xss j x hx y hy; omega

end Go.Proofs.YtoffbdlgmnpblaaGreat.Bfs
