/- Part 21 of 55: Gr2. -/
import Derived.Test.YtoffbdlgmnpblaaGreatJ04
import Derived.Test.YtoffbdlgmnpblaaGreatJ20

/- Package graph: Next: the edges of a model. -/
namespace Go.Proofs.YtoffbdlgmnpblaaGreat
open Go.RowKit
set_option maxHeartbeats 4000000
set_option maxRecDepth 100000

/-! ### What is meant -/
def add1 (L : List Int) (x : Int) : List Int := if L.contains x then L else L ++ [x]
def tos (c : Ch) : List Int := c.brs.map (·.to)
def targets (s : St) : List Int := s.chs.flatMap tos
def dd (l : List Int) : List Int := l.foldl add1 []
def isort (l : List Int) : List Int := l.mergeSort fun x y => decide (x ≤ y)
def nextOf (s : St) : List Int := isort (dd (targets s))
theorem dd_snoc (l : List Int) (x : Int) : dd (l ++ [x]) = add1 (dd l) x := by simp [dd, List.foldl_append]

/-- what Next asks of a model -/
structure Fine (m : List St) : Prop where
  len : m.length ≤ 40
  chs : ∀ s ∈ m, s.chs.length ≤ 8
  brs : ∀ s ∈ m, ∀ c ∈ s.chs, c.brs.length ≤ 8
  tos : ∀ s ∈ m, ∀ c ∈ s.chs, ∀ b ∈ c.brs, 0 ≤ b.to ∧ b.to < m.length

theorem brsOk_tos {n : Int} : ∀ {last : Int} {l : List Br}, brsOk n last l = true → ∀ b ∈ l, last < b.to ∧ b.to < n := by
  intro last l
  induction l generalizing last with
  | nil => intro _ b hb; cases hb
  | cons a l ih =>
    intro h b hb
    simp only [brsOk, Bool.and_eq_true, decide_eq_true_eq] at h
    obtain ⟨⟨h1, -⟩, h2⟩ := h
    rcases List.mem_cons.1 hb with rfl | hb
    · exact ⟨h1.1, h1.2.1⟩
    · have := ih h2 b hb; omega
theorem Fine.of_valid {m : List St} (h : validB m = true) : Fine m := by
  unfold validB at h
  simp only [Bool.and_eq_true, decide_eq_true_eq, List.all_eq_true] at h
  obtain ⟨⟨-, h2⟩, h3⟩ := h
  have hs : ∀ s ∈ m, s.chs.length ≤ 8 ∧ ∀ c ∈ s.chs, choiceB m.length c = true := by
    intro s hs
    have := h3 s hs
    unfold stB at this
    simp only [Bool.and_eq_true, decide_eq_true_eq, List.all_eq_true] at this
    exact ⟨this.1.2.2.2.2.2, this.2⟩
  have hc : ∀ s ∈ m, ∀ c ∈ s.chs, c.brs.length ≤ 8 ∧ brsOk m.length (-1) c.brs = true := by
    intro s h1 c h2
    have := (hs s h1).2 c h2
    unfold choiceB at this
    simp only [Bool.and_eq_true, decide_eq_true_eq] at this
    exact ⟨this.2.1.2, this.2.2.1⟩
  exact ⟨h2, fun s h => (hs s h).1, fun s h c h' => (hc s h c h').1, fun s h c h' b hb => by have := brsOk_tos (hc s h c h').2 b hb; omega⟩

/-! ### Rows sorted -/
theorem Sort_own (v : Value) (L : List Int) (W : World) (B : Nat) (h : W.ownsRow B 3 1 v L.length (ints L)) (hl : L.length < 1000000) :
    Calls Tryz.prog 127 #[v] W fun e W' => e = .returned (.tuple #[]) ∧ W'.ownsRow B 3 1 v L.length (ints (isort L)) ∧ W.grownBy W' v.ownBlock := by
  obtain ⟨h1, ⟨rfl, h2⟩ | ⟨g, cap, cur, rfl, hb, hg, hnc, hcm, hcs, ht⟩⟩ := h
  · have hL : L = [] := List.eq_nil_of_length_eq_zero h2
    subst hL
    refine (Tryz.slices_Sort_int_none none 0 W).mono ?_
    rintro e w' ⟨rfl, rfl⟩
    have e : isort [] = [] := by simp [isort]
    rw [e]
    exact ⟨rfl, ⟨rfl, .inl ⟨rfl, rfl⟩⟩, World.grownBy.refl _ _⟩
  · rw [Nat.mul_one] at ht hcs
    refine (Tryz.slices_Sort_int g 0 cap L W (holds_of_blockI hg ht) (Array.getElem?_eq_some_iff.1 hg).1 (by omega)).mono ?_
    rintro e w' ⟨rfl, n, os, rfl⟩
    refine ⟨rfl, ?_, grownBy_sortedI _⟩
    exact ownsRow_sortedI (List.length_mergeSort L) hb hg hnc hcm (by omega)
theorem OwnRows.turned {W w' : World} {B g : Nat} {vs : List Value} {xss : List (List Int)} (h : OwnRows W B g vs xss) {i : Nat} {v : Value} {xs ys : List Int} (hx : xss[i]? = some xs) (hv : vs[i]? = some v) (hg : W.grownBy w' v.ownBlock)
    (hr : w'.ownsRow B 3 1 v ys.length (ints ys)) : OwnRows w' B g vs (xss.set i ys) := by
  obtain ⟨hro, hne⟩ := h.row i v xs hv hx
  refine ⟨(hg.block g h.lt (fun e => hne e.symm)).trans h.cells, by simp [h.len], h.low, ?_, h.apart⟩
  intro j u zs hu hz
  by_cases hj : i = j
  · subst hj
    rw [hv] at hu; cases hu
    rw [List.getElem?_set_self (by have := (List.getElem?_eq_some_iff.1 hx).1; omega)] at hz
    cases hz
    exact ⟨hr, hne⟩
  · rw [List.getElem?_set_ne hj] at hz
    obtain ⟨hr2, hn2⟩ := h.row j u zs hu hz
    exact ⟨hr2.kept hg (by
      cases hb : u.ownBlock with
      | none => exact .inl rfl
      | some k => right; intro e; exact h.apart j i u v k (fun e => hj e.symm) hu hv hb e.symm), hn2⟩

/-- the rows so far -/
def rowsTo (m : List St) (j : Nat) : List (List Int) := (m.take j).map nextOf ++ List.replicate (m.length - j) []
theorem rowsTo_len (m : List St) (j : Nat) (h : j ≤ m.length) : (rowsTo m j).length = m.length := by simp [rowsTo]; omega
theorem rowsTo_at (m : List St) (j : Nat) (h : j < m.length) : (rowsTo m j)[j]? = some [] := by
  unfold rowsTo
  rw [List.getElem?_append_right (by simp <;> omega), List.getElem?_replicate]
  simp; omega
theorem rowsTo_succ (m : List St) (j : Nat) (s : St) (h : m[j]? = some s) : (rowsTo m j).set j (nextOf s) = rowsTo m (j + 1) := by
  have hj := (List.getElem?_eq_some_iff.1 h).1
  unfold rowsTo
  rw [List.set_append_right _ _ (by simp <;> omega), List.take_add_one, h]
  have e : m.length - j = (m.length - (j + 1)) + 1 := by omega
  have e2 : ((m.take j).map nextOf).length = j := by simp; omega
  rw [e, List.replicate_succ, e2, Nat.sub_self, List.set_cons_zero]
  simp
theorem rowsTo_all (m : List St) : rowsTo m m.length = m.map nextOf := by simp [rowsTo]

theorem OwnRows.notmap {W : World} {B g b n : Nat} {vs : List Value} {xss : List (List Int)} {s : Int → Bool} (h : OwnRows W B g vs xss) (hm : SeenM W b n s) : b ≠ g ∧ ∀ (i : Nat) (v : Value), vs[i]? = some v → v.ownBlock ≠ some b := by
  obtain ⟨es, clock, hb⟩ := hm.map_at
  refine ⟨fun e => ?_, fun i v hv e => ?_⟩
  · subst e; rw [h.cells] at hb; cases hb
  · obtain ⟨xs, hx⟩ : ∃ xs, xss[i]? = some xs := ⟨_, List.getElem?_eq_getElem (by have := (List.getElem?_eq_some_iff.1 hv).1; have := h.len; omega)⟩
    obtain ⟨⟨-, ⟨rfl, -⟩ | ⟨k, cap, cur, rfl, -, hck, -⟩⟩, -⟩ := h.row i v xs hv hx
    · simp [Value.ownBlock] at e
    · simp only [Value.ownBlock, Option.some.injEq] at e
      subst e; rw [hck] at hb; cases hb
theorem OwnRows.grown_map {W w' : World} {B g b n : Nat} {vs : List Value} {xss : List (List Int)} {s : Int → Bool} (h : OwnRows W B g vs xss) (hm : SeenM W b n s) (hg : W.grownBy w' (some b)) : OwnRows w' B g vs xss := by
  obtain ⟨n1, n2⟩ := h.notmap hm
  refine h.kept fun k hk hB hor => hg.block k hk ?_
  rintro e
  cases e
  rcases hor with rfl | ⟨i, v, hv, e⟩
  · exact n1 rfl
  · exact n2 i v hv e
theorem SeenM.grown_row {W w' : World} {B g b n : Nat} {vs : List Value} {xss : List (List Int)} {s : Int → Bool} (hm : SeenM W b n s) (h : OwnRows W B g vs xss) {i : Nat} {v : Value} (hv : vs[i]? = some v) (hg : W.grownBy w' v.ownBlock) : SeenM w' b n s :=
  hm.kept (hg.block b hm.lt fun e => (h.notmap hm).2 i v hv e.symm)
theorem SeenM.set {W : World} {b n : Nat} {s : Int → Bool} (hm : SeenM W b n s) {p : Addr} (hp : b ≠ p.block) (u : Value) : SeenM (W.setCell p u) b n s := hm.kept (Below.heap_setCell W p u b hp)
theorem below_grown {w W w' : World} {b : Nat} (h : Below w.heap.size w W) (hg : W.grownBy w' (some b)) (hb : w.heap.size ≤ b) : Below w.heap.size w w' := h.grown hg h.size (fun k e => by cases e; exact hb)

theorem set_self {α : Type} {l : List α} {i : Nat} {x : α} (h : l[i]? = some x) : l.set i x = l := by
  obtain ⟨hi, rfl⟩ := List.getElem?_eq_some_iff.1 h
  exact List.set_getElem_self hi
theorem OwnRows.drew {W : World} {B g : Nat} {vs : List Value} {xss : List (List Int)} (h : OwnRows W B g vs xss) : OwnRows W.drew B g vs xss := ⟨h.cells, h.len, h.low, h.row, h.apart⟩
theorem SeenM.drew {W : World} {b n : Nat} {s : Int → Bool} (h : SeenM W b n s) : SeenM W.drew b n s := h.kept rfl
section
variable {W w3 : World} {B g : Nat} {vs : List Value} {xss : List (List Int)} {i : Nat} {v v3 : Value} {xs : List Int} {o : Obj} {y : Int}
theorem OwnRows.app_cell (h : OwnRows W B g vs xss) (hx : xss[i]? = some xs) (hv : vs[i]? = some v) (hg : (W.alloc o).grownBy w3 v.ownBlock) : w3.cell? ⟨g, i, none⟩ = some v ∧ w3.frozen? ⟨g, i, none⟩ = false := by
  obtain ⟨hro, hne⟩ := h.row i v xs hv hx
  have h1 := h.below ((Below.refl W.heap.size W).alloc (Nat.le_refl _) o)
  obtain ⟨c1, c2⟩ := h1.cell hv
  have hb := hg.block g h1.lt (fun e => hne e.symm)
  exact ⟨(World.cell?_of_block (w := W.alloc o) (a := ⟨g, i, none⟩) hb).trans c1, (World.frozen?_of_block (w := W.alloc o) (a := ⟨g, i, none⟩) hb).trans c2⟩
theorem OwnRows.app (h : OwnRows W B g vs xss) (hx : xss[i]? = some xs) (hv : vs[i]? = some v) (hg : (W.alloc o).grownBy w3 v.ownBlock) (ho : w3.ownsRow B 3 1 v3 (xs.length + 1) (ints xs ++ [.int .i64 y])) (ha : v3.ownBlock = v.ownBlock ∨ v3.ownBlock = some (W.alloc o).heap.size) :
    OwnRows (w3.setCell ⟨g, i, none⟩ v3) B g (vs.set i v3) (xss.set i (xs ++ [y])) := by
  have h1 := h.below ((Below.refl W.heap.size W).alloc (Nat.le_refl _) o)
  refine h1.put hx hv hg (by simpa using ho) ?_
  rcases ha with e | e
  · exact .inl e
  · right; intro k hk; rw [e] at hk; cases hk; exact Nat.le_refl _
theorem SeenM.app {b n : Nat} {s : Int → Bool} (hM : SeenM W b n s) (h : OwnRows W B g vs xss) (hv : vs[i]? = some v) (hg : (W.alloc o).grownBy w3 v.ownBlock) (u : Value) : SeenM (w3.setCell ⟨g, i, none⟩ u) b n s := by
  have hb := (Below.refl W.heap.size W).alloc (Nat.le_refl _) o
  exact ((hM.below hb).grown_row (h.below hb) hv hg).set (h.notmap hM).1 u
theorem OwnRows.app_below {w : World} (h : OwnRows W B g vs xss) (hx : xss[i]? = some xs) (hv : vs[i]? = some v) (hg : (W.alloc o).grownBy w3 v.ownBlock) (hb : Below B w W) (hB : B ≤ W.heap.size) (u : Value) : Below B w (w3.setCell ⟨g, i, none⟩ u) :=
  (below_app hb hB (h.row i v xs hv hx).1 hg).setCell (by exact h.low) u
end

theorem Next_calls (m : List St) (v : Value) (D : Nat → Prop) (w : World) (hD : Lo D w) (h : ModelC w D v m) (hf : Fine m) :
    Calls Tryz.prog 73 #[v] w fun e w' => ∃ v', e = .returned v' ∧ Below w.heap.size w w' ∧ Sl (Kind.slice (Kind.int .i64)) w' (nws w w') v' (m.map nextOf) := by
  obtain ⟨u, rfl, h⟩ := h
  obtain ⟨A, c, rfl, h1, h2, -⟩ := h.form
  have hlen := hf.len
  unfold maxLen at h2
  have H := Lib.hid h
  have HF := Lib.hid hf
  clear h hf
  go_enter Tryz.func73, Tryz.ntmps73
  go_wp2_with (first | (refine wpList_mk1 elem_row rfl _ _ rfl (by intro cs h; cases h) w.heap.size _ _ (m.length : Int) (m.length : Int) rfl rfl (by omega) (by omega) (by omega) (by omega) (by simp) ?_; intro w1 hown hb1 hz1 hcells; have q0 : w1.cell? ⟨w.heap.size, 0, none⟩ = some (.slice A m.length c) := (hb1.cell (p := ⟨w.heap.size, 0, none⟩) (by simp)).trans (box_cells w _ rfl _ _ 0).1) | (refine wpList_newMap 132 rfl rfl ?_))
  have hrows : OwnRows w1 w.heap.size (w.heap.size + 1) (List.replicate m.length (.slice none 0 0)) (List.replicate m.length []) := OwnRows.new (by simpa using hcells) (by omega)
  have hrows := hrows.below ((Below.refl _ _).alloc (Nat.le_refl _) (.map #[] 0))
  have hseen := SeenM.made w1
  have hB0 : Below w.heap.size w (w1.alloc (.map #[] 0)) := (((Below.refl w.heap.size w).alloc (Nat.le_refl _) _).trans (hb1.mono (by simp))).alloc (by have := hb1.size; simp at this; omega) _
  have hz : w1.heap.size = w.heap.size + 2 := by simp at hz1; omega
  rw [hz] at hseen
  have HZ := Lib.hid hz
  have hs0 : w.heap.size + 3 ≤ (w1.alloc (.map #[] 0)).heap.size := by simp; omega
  clear hown hcells hz1 hb1 hz q0
  generalize w1.alloc (.map #[] 0) = W0 at *
  go_loopw [19] (fun k W => ∃ (j : Nat) (vs : List Value) (cnt : Nat) (s : Int → Bool), j ≤ m.length ∧ k = .int .i64 (j : Int) ∧ Below w.heap.size w W ∧ w.heap.size + 3 ≤ W.heap.size ∧ OwnRows W w.heap.size (w.heap.size + 1) vs (rowsTo m j) ∧ SeenM W (w.heap.size + 2) cnt s) (fun k _ => m.length - (intOf k).toNat)
  case atStart => exact ⟨0, _, _, _, Nat.zero_le _, rfl, hB0, hs0, hrows, hseen⟩
  case round =>
    obtain ⟨j, vs, cnt, sm, hj, rfl, hBW, hsW, hRW, hMW⟩ := hrel
    clear hrows hseen hB0 hs0
    by_cases hlt : j < m.length
    · obtain ⟨s, hs⟩ : ∃ s, m[j]? = some s := ⟨_, List.getElem?_eq_getElem hlt⟩
      obtain ⟨ad, B, p, d, rfl, hDa, q0, q1, q2, hsc⟩ := H.out.st_up hD hBW j s hs
      obtain ⟨rfl, hp1, hp2⟩ := hsc.len
      unfold maxLen at hp2
      have hsm : s ∈ m := List.mem_of_getElem? hs
      have hc8 := HF.out.chs s hsm
      have HS := Lib.hid hs
      have HC := Lib.hid hsc
      clear hs hsc
      have hBW1 : Below w.heap.size w (wr.alloc (.cells #[.int .i64 s.owner, .int .i64 s.mark, .slice B s.chs.length d] 79)) := hBW.alloc hBW.size _
      have hRW1 := hRW.below ((Below.refl wr.heap.size wr).alloc (Nat.le_refl _) (.cells #[.int .i64 s.owner, .int .i64 s.mark, .slice B s.chs.length d] 79))
      have hMW1 := hMW.below ((Below.refl wr.heap.size wr).alloc (Nat.le_refl _) (.cells #[.int .i64 s.owner, .int .i64 s.mark, .slice B s.chs.length d] 79))
      go_wp2_with (refine wpList_clear rfl _ rfl (w.heap.size + 2) cnt sm rfl hMW1 ?_; intro w2 hM2 hg2 u2; have r2 : w2.cell? ⟨wr.heap.size, 2, none⟩ = some (.slice B s.chs.length d) := hg2.cell (box_cells wr _ rfl _ _ 2).1 (by simp; omega))
      have hB2 := below_grown hBW1 hg2 (by omega)
      have hR2 := hRW1.grown_map hMW1 hg2
      have hs2 : w.heap.size + 3 ≤ w2.heap.size := by have := hg2.size; simp at this; omega
      have hA2 := rowsTo_at m j hlt
      clear hBW hRW hMW hBW1 hRW1 hMW1 q0 q1 q2 hg2 r2 hsW
      go_loopw [28] (fun k W => ∃ (i : Nat) (vs : List Value) (L : List Int), i ≤ s.chs.length ∧ k = .int .i64 (i : Int) ∧ Below w.heap.size w W ∧ w.heap.size + 3 ≤ W.heap.size ∧ OwnRows W w.heap.size (w.heap.size + 1) vs ((rowsTo m j).set j L) ∧ SeenM W (w.heap.size + 2) L.length (fun x => L.contains x) ∧ L.length ≤ 8 * i ∧ Hid (L = dd ((s.chs.take i).flatMap tos))) (fun k _ => s.chs.length - (intOf k).toNat)
      case atStart => exact ⟨0, _, [], Nat.zero_le _, rfl, hB2, hs2, by rw [set_self hA2]; exact hR2, by simpa using hM2, Nat.zero_le _, rfl⟩
      case round =>
        obtain ⟨i, vs2, L, hi, rfl, hBW, hsW, hRW, hMW, hL8, HL⟩ := hrel
        clear hB2 hR2 hs2 hM2
        by_cases hlt2 : i < s.chs.length
        · obtain ⟨x, hx⟩ : ∃ x, s.chs[i]? = some x := ⟨_, List.getElem?_eq_getElem hlt2⟩
          obtain ⟨ad2, B2, p2, d2, rfl, hDa2, q0, q1, q2, hxc⟩ := HC.out.ch_up hD hBW i x hx
          obtain ⟨rfl, hp21, hp22⟩ := hxc.len
          unfold maxLen at hp22
          have hxm : x ∈ s.chs := List.mem_of_getElem? hx
          have hb8 := HF.out.brs s hsm x hxm
          have htos := HF.out.tos s hsm x hxm
          have HT := Lib.hid htos
          have HX := Lib.hid hx
          have HXC := Lib.hid hxc
          clear hx hxc htos
          have hBW1 : Below w.heap.size w (wr.alloc (.cells #[.int .i64 x.rw.top, .int .i64 x.rw.low, .slice B2 x.brs.length d2] 97)) := hBW.alloc hBW.size _
          have hRW1 := hRW.below ((Below.refl wr.heap.size wr).alloc (Nat.le_refl _) (.cells #[.int .i64 x.rw.top, .int .i64 x.rw.low, .slice B2 x.brs.length d2] 97))
          have hMW1 := hMW.below ((Below.refl wr.heap.size wr).alloc (Nat.le_refl _) (.cells #[.int .i64 x.rw.top, .int .i64 x.rw.low, .slice B2 x.brs.length d2] 97))
          go_wp2
          have hAW := hRW.get (i := j) (xs := L) (by rw [List.getElem?_set_self (by rw [rowsTo_len m j (by omega)]; omega)])
          clear hBW hRW hMW q0 q1 q2 hAW
          have hsW1 : w.heap.size + 3 ≤ (wr.alloc (.cells #[.int .i64 x.rw.top, .int .i64 x.rw.low, .slice B2 x.brs.length d2] 97)).heap.size := by simp; omega
          have hL0 : L.length ≤ 8 * i + 0 := hL8
          have HL0 := Lib.hid (show L = dd ((s.chs.take i).flatMap tos ++ (tos x).take 0) by rw [List.take_zero, List.append_nil]; exact HL.out)
          clear hL8 HL hsW
          go_loopw [35] (fun k W => ∃ (i2 : Nat) (vs : List Value) (L : List Int), i2 ≤ x.brs.length ∧ k = .int .i64 (i2 : Int) ∧ Below w.heap.size w W ∧ w.heap.size + 3 ≤ W.heap.size ∧ OwnRows W w.heap.size (w.heap.size + 1) vs ((rowsTo m j).set j L) ∧ SeenM W (w.heap.size + 2) L.length (fun x => L.contains x) ∧ L.length ≤ 8 * i + i2 ∧ Hid (L = dd ((s.chs.take i).flatMap tos ++ (tos x).take i2))) (fun k _ => x.brs.length - (intOf k).toNat)
          case atStart => exact ⟨0, _, L, Nat.zero_le _, rfl, hBW1, hsW1, hRW1, hMW1, hL0, HL0⟩
          case round =>
            clear hBW1 hRW1 hMW1 hsW1 hL0 HL0
            clear L
            obtain ⟨i2, vs3, L, hi2, rfl, hBW, hsW, hRW, hMW, hL8, HL⟩ := hrel
            by_cases hlt3 : i2 < x.brs.length
            · obtain ⟨b, hb⟩ : ∃ b, x.brs[i2]? = some b := ⟨_, List.getElem?_eq_getElem hlt3⟩
              obtain ⟨ad3, rfl, hDa3, q0, q1, q2⟩ := HXC.out.br_up hD hBW i2 b hb
              obtain ⟨t1, t2⟩ := HT.out b (List.mem_of_getElem? hb)
              have hwf : (Lit.int .i64 b.to).wf = true := by
                simp only [Lit.wf, Bool.and_eq_true, decide_eq_true_eq]; constructor
                · show (-9223372036854775808 : Int) ≤ b.to; omega
                · show b.to ≤ (9223372036854775807 : Int); omega
              have HLs := Lib.hid (show dd ((s.chs.take i).flatMap tos ++ (tos x).take (i2 + 1)) = add1 L b.to by
                have : (tos x).take (i2 + 1) = (tos x).take i2 ++ [b.to] := by
                  rw [List.take_add_one]; simp [tos, hb]
                rw [this, ← List.append_assoc, dd_snoc, ← HL.out])
              have HW := Lib.hid hwf
              have HB := Lib.hid hb
              clear hb hwf
              have hBW1 : Below w.heap.size w (wr.alloc (.cells #[.int .i64 b.to, .int .i64 b.ch.top, .int .i64 b.ch.low] 103)) := hBW.alloc hBW.size _
              have hRW1 := hRW.below ((Below.refl wr.heap.size wr).alloc (Nat.le_refl _) (.cells #[.int .i64 b.to, .int .i64 b.ch.top, .int .i64 b.ch.low] 103))
              have hMW1 := hMW.below ((Below.refl wr.heap.size wr).alloc (Nat.le_refl _) (.cells #[.int .i64 b.to, .int .i64 b.ch.top, .int .i64 b.ch.low] 103))
              have hsW1 : w.heap.size + 3 ≤ (wr.alloc (.cells #[.int .i64 b.to, .int .i64 b.ch.top, .int .i64 b.ch.low] 103)).heap.size := by simp; omega
              cases hcon : L.contains b.to with
              | true =>
                have HC1 := Lib.hid hcon
                have HE := Lib.hid (show add1 L b.to = L by unfold add1; rw [hcon]; rfl)
                clear hcon
                go_wp2_with (at_lookup; refine wpList_seen rfl _ _ rfl (w.heap.size + 2) L.length _ rfl hMW1 b.to rfl HW.out true HC1.out ?_)
                exact ⟨⟨i2 + 1, vs3, L, by omega, by go_num, hBW1, hsW1, hRW1, hMW1, by omega, (by rw [HLs.out, HE.out] : L = dd ((s.chs.take i).flatMap tos ++ (tos x).take (i2 + 1)))⟩, by simp [intOf]; omega⟩
              | false =>
                have HC1 := Lib.hid hcon
                have HE := Lib.hid (show add1 L b.to = L ++ [b.to] by unfold add1; rw [hcon]; rfl)
                clear hcon
                have hAW := rowsTo_len m j (by omega)
                have hAx : ((rowsTo m j).set j L)[j]? = some L := by rw [List.getElem?_set_self (by omega)]
                have hsb : ∀ w2 : World, (wr.alloc (.cells #[.int .i64 b.to, .int .i64 b.ch.top, .int .i64 b.ch.low] 103)).grownBy w2 (some (w.heap.size + 2)) → w2.cell? ⟨wr.heap.size, 0, none⟩ = some (.int .i64 b.to) := fun w2 hg => hg.cell (box_cells wr _ rfl _ _ 0).1 (by simp; omega)
                have HSB := Lib.hid hsb
                clear hsb
                go_upto_region 15 with (first | (at_lookup; refine wpList_seen rfl _ _ rfl (w.heap.size + 2) L.length _ rfl hMW1 b.to rfl HW.out false HC1.out ?_) | (at_mapUpdate; refine wpList_see rfl _ _ _ rfl (w.heap.size + 2) L.length _ rfl hMW1 (by simp only [maxLen]; omega) b.to rfl rfl HW.out ?_; intro w2 hM2 hg2))
                have hB2 := below_grown hBW1 hg2 (by omega)
                have hR2 := (hRW1.grown_map hMW1 hg2).drew
                have hM2 := (SeenM.congr hM2 (s' := fun y => (L ++ [b.to]).contains y) (fun y => by simp; rfl)).drew
                have hs2 : w.heap.size + 3 ≤ w2.heap.size := Nat.le_trans hsW1 hg2.size
                obtain ⟨v, hv, hrow, hne⟩ := hR2.get hAx
                have k1 : w2.cell? ⟨w.heap.size + 1, j, none⟩ = some v := (hR2.cell hv).1
                have k2 : w2.frozen? ⟨w.heap.size + 1, j, none⟩ = false := (hR2.cell hv).2
                have k3 := HSB.out w2 hg2
                have hs3 : w.heap.size + 1 < w2.heap.size := by omega
                have hs4 : wr.heap.size < w2.heap.size := by have := hg2.size; simp at this; omega
                clear hRW1 hMW1 hBW1 hBW hRW hMW q0 q1 q2 hg2
                go_region_law (refine step_app1 elem_i64 rfl _ _ rfl w.heap.size v L.length (ints L) rfl (hrow.alloc _) ⟨_, 0, none⟩ 1 _ rfl (cell_new1 _ _ _) rfl (by omega) (by omega) (by simp; omega) ?_; intro v3 w3 ho3 hg3 ha3; have hg3 : (w2.drew.alloc (.cells #[.int .i64 b.to] 3)).grownBy w3 v.ownBlock := hg3; have ha3 : v3.ownBlock = v.ownBlock ∨ v3.ownBlock = some (w2.drew.alloc (.cells #[.int .i64 b.to] 3)).heap.size := ha3; obtain ⟨m1, m2⟩ := hR2.app_cell hAx hv hg3; obtain ⟨A3, c3, rfl, _, _, _⟩ := own_form ho3)
                all_goals
                  go_wp2
                  refine ⟨⟨i2 + 1, vs3.set j (.slice A3 (L.length + 1) c3), L ++ [b.to], by omega, by go_num, hR2.app_below hAx hv hg3 hB2.drew (by show w.heap.size ≤ w2.heap.size; omega) _, ?_, ?_, ?_, by simp; omega, (by rw [HLs.out, HE.out] : L ++ [b.to] = dd ((s.chs.take i).flatMap tos ++ (tos x).take (i2 + 1)))⟩, by simp [intOf]; omega⟩
                  · have := hg3.size; simp [World.setCell] at this ⊢; omega
                  · have := hR2.app hAx hv hg3 ho3 ha3
                    rwa [List.set_set] at this
                  · simpa using hM2.app hR2 hv hg3 _
            · obtain rfl : i2 = x.brs.length := by omega
              clear hlt3
              go_wp2
              refine ⟨⟨i + 1, vs3, L, by omega, by go_num, hBW, hsW, hRW, hMW, by omega, ?_⟩, by simp [intOf]; omega⟩
              have : L = dd ((s.chs.take (i + 1)).flatMap tos) := by
                have e : (tos x).take x.brs.length = tos x := List.take_of_length_le (by simp [tos])
                rw [HL.out, List.take_add_one, HX.out, List.flatMap_append, e]
                simp
              exact this
        · obtain rfl : i = s.chs.length := by omega
          clear hlt2
          have hAW := rowsTo_len m j (by omega)
          have hAx : ((rowsTo m j).set j L)[j]? = some L := by rw [List.getElem?_set_self (by omega)]
          obtain ⟨v, hv, hrow, hne⟩ := hRW.get hAx
          obtain ⟨k1, k2⟩ := hRW.cell hv
          go_wp2_with fail
          refine (Sort_own v L _ w.heap.size hrow (by omega)).mono ?_
          rintro e w3 ⟨rfl, ho3, hg3⟩
          have hlen3 := hRW.len
          go_wp2
          have hl3 : (isort L).length = L.length := List.length_mergeSort L
          refine ⟨⟨j + 1, vs2, L.length, _, by omega, by go_num, hBW.grown hg3 hBW.size (fun k e => (hrow.lt k e).1), by have := hg3.size; omega, ?_, hMW.grown_row hRW hv hg3⟩, by simp [intOf]; omega⟩
          have := hRW.turned hAx hv hg3 (ys := isort L) (by rw [hl3]; exact ho3)
          rw [List.set_set] at this
          have e : isort L = nextOf s := by rw [HL.out, List.take_length]; rfl
          rw [e, rowsTo_succ m j s HS.out] at this
          exact this
    · obtain rfl : j = m.length := by omega
      clear hlt
      rw [rowsTo_all] at hRW
      go_wp2
      go_ret
      refine ⟨_, rfl, hBW, ?_⟩
      exact hRW.sl (by simp only [maxLen, List.length_map]; omega) m.length (by simp)

end Go.Proofs.YtoffbdlgmnpblaaGreat
