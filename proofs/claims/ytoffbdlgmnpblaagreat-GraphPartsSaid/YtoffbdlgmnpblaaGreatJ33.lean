/- Part 33: Tr3 Tr4. -/
import Derived.Test.YtoffbdlgmnpblaaGreatJ14
import Derived.BigRegion
import Derived.Test.YtoffbdlgmnpblaaGreatJ32
import Derived.WalkMore
import Derived.StillTailTactics

/- Package graph: the finder ends a component. -/
namespace Go.Proofs.YtoffbdlgmnpblaaGreat
open Go.RowKit
open Tar (TS)
set_option maxHeartbeats 4000000
set_option maxRecDepth 100000

section
variable {x x' : Fp} {B : Nat} {W W' : World}
theorem Evo.grown {W0 : World} {x0 : Fp} {row : Option Nat} (h : Evo x0 W0 x W) (hg : W.grownBy W' row) (hr : ∀ k, row = some k → W0.heap.size ≤ k) : Evo x0 W0 x W' :=
  ⟨hg.os.trans h.os, hg.tape.trans h.tape, hg.output.trans h.output, Nat.le_trans h.size hg.size, fun k hk ho => (hg.block k (Nat.lt_of_lt_of_le hk h.size) (fun e => by have := hr k e.symm; omega)).trans (h.block k hk ho), h.blks⟩
theorem FinC.grown {row : Option Nat} (h : FinC x B W) (hg : W.grownBy W' row) (hr : ∀ k, row = some k → Off x k) : FinC x B W' :=
  h.kept fun k ⟨j, hk⟩ => hg.block k (h.lt hk).2 fun e => hr k e.symm j hk
theorem Off.congr {k : Nat} (h : Off x k) (e : ∀ j, x'.blk j = x.blk j) : Off x' k := fun j hj => h j (by rw [← e j]; exact hj)
theorem FinC.fresh (h : FinC x B W) {k : Nat} (hk : W.heap.size ≤ k) : Off x k := fun j hj => by have := (h.lt hj).2; omega
theorem own_lower {e : TypeId} {sz : Nat} {v : Value} {n : Nat} {vs : List Value} {B' : Nat} (h : W.ownsRow B' e sz v n vs) (hB : B ≤ B') : W.ownsRow B e sz v n vs := by
  obtain ⟨hl, h1 | ⟨g, cap, cur, hv, hb, h4⟩⟩ := h
  · exact ⟨hl, .inl h1⟩
  · exact ⟨hl, .inr ⟨g, cap, cur, hv, by omega, h4⟩⟩
theorem Evo.addRow {W0 : World} {x0 : Fp} (h : Evo x0 W0 x W) {v : Value} {p : List Int} (hk : ∀ k, v.ownBlock = some k → W0.heap.size ≤ k) : Evo x0 W0 { x with vs := x.vs ++ [v], t := { x.t with out := x.t.out ++ [p] } } W := by
  refine ⟨h.os, h.tape, h.output, h.size, h.block, fun j k hj => ?_⟩
  match j, hj with
  | 0, hj => exact h.blks 0 k hj
  | 1, hj => exact h.blks 1 k hj
  | 2, hj => exact h.blks 2 k hj
  | 3, hj => exact h.blks 3 k hj
  | 4, hj => exact h.blks 4 k hj
  | 5, hj => exact h.blks 5 k hj
  | 6, hj => exact h.blks 6 k hj
  | r + 7, hj =>
    have hj : ((x.vs ++ [v])[r]?).bind Value.ownBlock = some k := hj
    rcases Nat.lt_or_ge r x.vs.length with hlt | hge
    · rw [List.getElem?_append_left hlt] at hj
      exact h.blks (r + 7) k hj
    · rw [List.getElem?_append_right hge] at hj
      cases hm : r - x.vs.length with
      | zero => rw [hm] at hj; exact .inr (hk k (by simpa using hj))
      | succ m => rw [hm] at hj; simp at hj
theorem own_shrink {e : TypeId} {g n cap : Nat} {vs : List Value} {u : Value} (h : W.ownsRow B e 1 (.slice (some ⟨g, 0, none⟩) (n + 1) cap) (n + 1) (vs ++ [u])) : W.ownsRow B e 1 (.slice (some ⟨g, 0, none⟩) n cap) n vs := by
  obtain ⟨hl, ⟨h1, _⟩ | ⟨g', cap', cur, hv, hb, hg, hnc, hcm, hcs, ht⟩⟩ := h
  · cases h1
  · cases hv
    have hl' : vs.length = n := by simp at hl; omega
    refine ⟨by simp [hl'], .inr ⟨g, cap, cur, rfl, hb, hg, by omega, hcm, hcs, ?_⟩⟩
    have h2 := congrArg (List.take n) ht
    rw [List.take_take, Nat.min_eq_left (by omega), List.take_left' hl'] at h2
    simpa using h2
end

theorem close_calls (x : Fp) (B : Nat) (W : World) (s : Int) (hx : FinC x B W) (hov : x.ovb = x.ov) (hout : x.outb = x.outv) (hws : x.ws = x.vs) (hs : s ∈ x.t.opn) (hop : ∀ u ∈ x.t.opn, 0 ≤ u ∧ u < (x.n : Int)) (hn : x.n ≤ 100) (hol : x.t.opn.length ≤ 100000) (hvl : x.vs.length ≤ 100000) (hB : B ≤ W.heap.size) :
    Calls Tryz.prog 160 #[.pointer (some ⟨x.F, 0, none⟩), .int .i64 s] W fun e W' => e = .returned (.tuple #[]) ∧ ∃ ov' outv' vs', FinC { x with t := Tar.close x.t s, ov := ov', ovb := ov', outv := outv', outb := outv', ws := vs', vs := vs' } B W' ∧ Evo x W { x with t := Tar.close x.t s, ov := ov', ovb := ov', outv := outv', outb := outv', ws := vs', vs := vs' } W' := by
  obtain ⟨n, F, gi, gl, gn, p, nx, ov, outv, ovb, outb, ws, vs, t⟩ := x
  simp only at hov hout hws hs hop hn hol hvl
  subst hov; subst hout; subst hws
  have HX := Lib.hid hx
  have HOP := Lib.hid hop
  go_enter Tryz.func160, Tryz.ntmps160
  go_wp2
  go_loopg [4] t.opn.length (fun k lv W' => ∃ (ov' : Value) (o q : List Int), k = o.length ∧ o.length + q.length ≤ 100000 ∧ s ∈ o ∧ (∀ u ∈ o, 0 ≤ u ∧ u < (n : Int)) ∧ Hid ((Tar.popR s t.opn).1 = q ++ (Tar.popR s o).1) ∧ Hid ((Tar.popR s t.opn).2 = (Tar.popR s o).2) ∧
      FinC ⟨n, F, gi, gl, gn, p, nx, ov', outb, ov', outb, ws, ws, { t with opn := o, on := Tar.offs t.on q }⟩ B W' ∧ Evo ⟨n, F, gi, gl, gn, p, nx, ovb, outb, ovb, outb, ws, ws, t⟩ W ⟨n, F, gi, gl, gn, p, nx, ov', outb, ov', outb, ws, ws, { t with opn := o, on := Tar.offs t.on q }⟩ W' ∧
      W'.ownsRow W.heap.size 3 1 lv q.length (ints q) ∧ Hid (∀ k, lv.ownBlock = some k → Off ⟨n, F, gi, gl, gn, p, nx, ov', outb, ov', outb, ws, ws, { t with opn := o, on := Tar.offs t.on q }⟩ k))
  case atStart => exact ⟨ovb, t.opn, [], rfl, by simpa using hol, hs, hop, rfl, rfl, hx, Evo.refl _ _, World.ownsRow_nil _ _ _ _, (fun k hk => nomatch hk : ∀ k, (Value.slice none 0 0).ownBlock = some k → Off ⟨n, F, gi, gl, gn, p, nx, ovb, outb, ovb, outb, ws, ws, t⟩ k)⟩
  case round =>
    clear hx hs hop
    obtain ⟨ov', o, q, hk, hoq, hs, hop, HP1, HP2, hx, he, hl, HOFF⟩ := hrel
    have HK := Lib.hid hk
    clear hk
    cases o with
    | nil => cases hs
    | cons u o =>
      obtain ⟨u0, u1⟩ := hop u (List.mem_cons_self ..)
      have hown : wr.ownsRow B 3 1 ov' (o.length + 1) (ints (u :: o).reverse) := hx.comps 5
      have hov' : ∃ g cap, ov' = .slice (some ⟨g, 0, none⟩) (o.length + 1) cap ∧ o.length + 1 ≤ cap ∧ cap ≤ maxLen := by
        obtain ⟨-, ⟨-, h2⟩ | ⟨g, cap, cur, rfl, -, -, h4, h5, -⟩⟩ := hown
        · cases h2
        · exact ⟨g, cap, rfl, h4, h5⟩
      obtain ⟨g, cap, rfl, hc1, hc2⟩ := hov'
      have hrev : ints (u :: o).reverse = ints o.reverse ++ [.int .i64 u] := by simp [ints]
      have htop := (own_cell hown o.length (.int .i64 u) (by rw [hrev, List.getElem?_append_right (by simp)]; simp)).1
      obtain ⟨⟨-, -, -, b3, b4, -⟩, bf⟩ := hx.box
      have bf3 := bf 3
      have HX1 := Lib.hid hx
      have HE1 := Lib.hid he
      have HOWN := Lib.hid hown
      unfold maxLen at hc2
      clear hx he bf hown hrev
      go_wp2
      go_region
      go_upto_region 2 with fail
      go_region
      go_upto_region 3 with fail
      have hsh : wr.ownsRow B 3 1 (.slice (some ⟨g, 0, none⟩) o.length cap) o.length (ints o.reverse) := by
        have := HOWN.out
        rw [show ints (u :: o).reverse = ints o.reverse ++ [.int .i64 u] by simp [ints]] at this
        exact own_shrink this
      obtain ⟨hx2, he2⟩ := HX1.out.newOpn (ov' := .slice (some ⟨g, 0, none⟩) o.length cap) (o := o) hsh (World.grownBy.refl _ _) (.inl rfl)
      obtain ⟨hx3, he3⟩ := hx2.boxOpn (.slice (some ⟨g, 0, none⟩) o.length cap)
      have hx3 := hx3.drew.drew
      have he3 := ((HE1.out.trans he2).trans he3).drew.drew
      have hl3 : (wr.setCell ⟨F, 3, none⟩ (.slice (some ⟨g, 0, none⟩) o.length cap)).drew.drew.ownsRow W.heap.size 3 1 u4 q.length (ints q) := own_kept hl fun k hk => Below.heap_setCell wr _ _ k (fun e => HOFF.out k hk 3 (by rw [e]; rfl))
      generalize (wr.setCell ⟨F, 3, none⟩ (.slice (some ⟨g, 0, none⟩) o.length cap)).drew.drew = W3 at *
      obtain ⟨⟨-, -, -, -, b4', -⟩, -⟩ := hx3.box
      obtain ⟨n1, n2⟩ := hx3.on u0 u1
      obtain ⟨hx4, he4⟩ := hx3.setOn u0 u1 false
      have he4 := he3.trans he4
      have hl4 : (W3.setCell ⟨gn, u.toNat, none⟩ (.bool false)).ownsRow W.heap.size 3 1 u4 q.length (ints q) := own_kept hl3 fun k hk => Below.heap_setCell W3 _ _ k (fun e => HOFF.out k hk 2 (by rw [e]; rfl))
      have HX4 := Lib.hid hx4
      have HE4 := Lib.hid he4
      have hs4 := he4.size
      clear hx2 he2 hx3 he3 hl3 hl hx4 he4 hsh b3 b4 bf3 htop
      have hOff4 : ∀ k, u4.ownBlock = some k → Off ⟨n, F, gi, gl, gn, p, nx, .slice (some ⟨g, 0, none⟩) o.length cap, outb, .slice (some ⟨g, 0, none⟩) o.length cap, outb, ws, ws, { t with opn := o, on := (Tar.offs t.on q).set u.toNat false }⟩ k := fun k hk => (HOFF.out k hk).congr fun j => match j with
        | 0 | 1 | 2 | 3 | 4 | 5 | 6 => rfl
        | r + 7 => rfl
      have HOFF4 := Lib.hid hOff4
      have hoffs : Tar.offs t.on (q ++ [u]) = (Tar.offs t.on q).set u.toNat false := by simp [Tar.offs, List.foldl_append]
      have HOS := Lib.hid hoffs
      clear hOff4 hoffs
      by_cases e : u = s
      · subst e
        have hp : Tar.popR u (u :: o) = ([u], o) := by simp [Tar.popR]
        have HP := Lib.hid hp
        clear hp
        go_wp2_with (at_builtin; refine wpList_app1 elem_i64 rfl _ _ rfl W.heap.size _ q.length (ints q) rfl (hl4.alloc _) ⟨_, 0, none⟩ 1 _ rfl (box_cells (W3.setCell ⟨gn, u.toNat, none⟩ (.bool false)) _ (by simp) #[.int .i64 u] 3 0).1 rfl (by omega) (by omega) (Nat.le_trans hs4 (by simp)) ?_; intro lv5 w5 ho5 hg5 ha5)
        have hlq : ((q ++ [u]).length : Nat) = q.length + 1 := by simp
        have ho5' : w5.ownsRow W.heap.size 3 1 lv5 (q ++ [u]).length (ints (q ++ [u])) := by simpa [ints] using ho5
        refine (Sort_own lv5 (q ++ [u]) w5 W.heap.size ho5' (by omega)).mono ?_
        rintro e w6 ⟨rfl, ho6, hg6⟩
        have hxa := (HX4.out.below ((Below.refl _ _).alloc (Nat.le_refl _) (.cells #[.int .i64 u] 3)))
        have hx5 := hxa.grown hg5 (fun k hk => HOFF4.out k hk)
        have he5 := (HE4.out.trans (Evo.of_below _ ((Below.refl _ _).alloc (Nat.le_refl _) (.cells #[.int .i64 u] 3)))).grown hg5 (fun k hk => (hl4.lt k hk).1)
        have hoff5 : ∀ k, lv5.ownBlock = some k → Off ⟨n, F, gi, gl, gn, p, nx, .slice (some ⟨g, 0, none⟩) o.length cap, outb, .slice (some ⟨g, 0, none⟩) o.length cap, outb, ws, ws, { t with opn := o, on := (Tar.offs t.on q).set u.toNat false }⟩ k := by
          intro k hk
          rcases ha5 with ha5 | ha5
          · rw [ha5] at hk; exact HOFF4.out k hk
          · rw [ha5] at hk; cases hk; exact hxa.fresh (Nat.le_refl _)
        have hx6 := hx5.grown hg6 hoff5
        have he6 := he5.grown hg6 (fun k hk => (ho6.lt k hk).1)
        obtain ⟨lA, lc, hlv, -, -, -⟩ := own_form ho6
        rw [hlq] at hlv
        subst hlv
        obtain ⟨⟨-, -, -, -, -, b5⟩, -⟩ := hx6.box
        have hws6 : w6.ownsRow B 31 1 outb ws.length ws := hx6.comps 6
        have hs6 := he6.size
        have hx7a := hx6.below ((Below.refl _ _).alloc (Nat.le_refl _) (.cells #[.slice lA (q.length + 1) lc] 31))
        have HX7 := Lib.hid hx7a
        have HE6 := Lib.hid he6
        have HO5 := Lib.hid hoff5
        have HO6 := Lib.hid ho6
        clear hxa hx5 he5 hoff5 hx6 he6 hx7a ho5 ho5' ho6 hg5 hg6 ha5
        go_wp2_with (at_builtin; refine wpList_app1 elem_row rfl _ _ rfl B outb ws.length ws rfl (hws6.alloc _) ⟨_, 0, none⟩ 1 _ rfl (cell_new1 _ _ _) rfl (by omega) (by omega) (by simp; omega) ?_; intro v7 w7 ho7 hg7 ha7; obtain ⟨hx7, he7⟩ := HX7.out.newOut (v' := v7) (ws' := ws ++ [.slice lA (q.length + 1) lc]) (by simpa using ho7) hg7 (ha7.imp id fun e k hk => by rw [e] at hk; cases hk; exact Nat.le_refl _); have c7 := hx7.box.1.2.2.2.2.2; have f7 := hx7.box.2 5; obtain ⟨A7, c7', rfl, _, _, _⟩ := own_form ho7)
        obtain ⟨hx8, he8⟩ := hx7.boxOut (.slice A7 (ws.length + 1) c7')
        have hoff8 : ∀ k, (Value.slice lA (q.length + 1) lc).ownBlock = some k → Off ⟨n, F, gi, gl, gn, p, nx, .slice (some ⟨g, 0, none⟩) o.length cap, .slice A7 (ws.length + 1) c7', .slice (some ⟨g, 0, none⟩) o.length cap, .slice A7 (ws.length + 1) c7', ws ++ [.slice lA (q.length + 1) lc], ws, { t with opn := o, on := (Tar.offs t.on q).set u.toNat false }⟩ k := fun k hk =>
          he8.off (he7.off (HO5.out k hk) (by have := (HO6.out.lt k hk).2; simp; omega)) (by have := (HO6.out.lt k hk).2; have := hg7.size; simp at this; omega)
        have hil : (isort (q ++ [u])).length = (q ++ [u]).length := List.length_mergeSort _
        have hr8 : (w7.setCell ⟨F, 5, none⟩ (.slice A7 (ws.length + 1) c7')).ownsRow B 3 1 (.slice lA (q.length + 1) lc) (isort (q ++ [u])).length (ints (isort (q ++ [u]))) := by
          rw [hil]
          refine own_kept (own_lower HO6.out hB) fun k hk => ?_
          have hlt := (HO6.out.lt k hk).2
          have e1 : (w7.setCell ⟨F, 5, none⟩ (.slice A7 (ws.length + 1) c7')).heap[k]? = w7.heap[k]? := Below.heap_setCell w7 _ _ k (fun e => HO5.out k hk 3 (by rw [e]; rfl))
          have e2 := hg7.block k (by simp; omega) (fun e => HO5.out k hk 6 e.symm)
          have e3 : (w6.alloc (.cells #[.slice lA (q.length + 1) lc] 31)).heap[k]? = w6.heap[k]? := Below.heap_alloc w6 _ k hlt
          exact e1.trans (e2.trans e3)
        have hx9 := hx8.addRow hr8 hoff8
        have he9 := (((HE6.out.trans (Evo.of_below _ ((Below.refl _ _).alloc (Nat.le_refl _) (.cells #[.slice lA (q.length + 1) lc] 31)))).trans he7).trans he8).addRow (v := .slice lA (q.length + 1) lc) (p := isort (q ++ [u])) (fun k hk => (HO6.out.lt k hk).1)
        have hcl : Tar.close t u = { t with opn := o, on := (Tar.offs t.on q).set u.toNat false, out := t.out ++ [isort (q ++ [u])] } := by
          have h1 := HP1.out; rw [HP.out] at h1
          have h2 := HP2.out; rw [HP.out] at h2
          unfold Tar.close
          rw [h1, h2, HOS.out]; rfl
        go_end0
        refine ⟨rfl, .slice (some ⟨g, 0, none⟩) o.length cap, .slice A7 (ws.length + 1) c7', ws ++ [.slice lA (q.length + 1) lc], ?_⟩
        rw [hcl]
        exact ⟨hx9, he9⟩
      · have hne : (u == s) = false := beq_eq_false_iff_ne.2 e
        have hs' : s ∈ o := by
          rcases List.mem_cons.1 hs with h | h
          · exact absurd h.symm e
          · exact h
        have hp : Tar.popR s (u :: o) = (u :: (Tar.popR s o).1, (Tar.popR s o).2) := by simp [Tar.popR, e]
        have HP := Lib.hid hp
        clear hp e
        go_wp2_with (at_builtin; refine wpList_app1 elem_i64 rfl _ _ rfl W.heap.size _ q.length (ints q) rfl (hl4.alloc _) ⟨_, 0, none⟩ 1 _ rfl (box_cells (W3.setCell ⟨gn, u.toNat, none⟩ (.bool false)) _ (by simp) #[.int .i64 u] 3 0).1 rfl (by omega) (by omega) (Nat.le_trans hs4 (by simp)) ?_; intro lv5 w5 ho5 hg5 ha5)
        have hxa := (HX4.out.below ((Below.refl _ _).alloc (Nat.le_refl _) (.cells #[.int .i64 u] 3)))
        have hx5 := hxa.grown hg5 (fun k hk => HOFF4.out k hk)
        have he5 := (HE4.out.trans (Evo.of_below _ ((Below.refl _ _).alloc (Nat.le_refl _) (.cells #[.int .i64 u] 3)))).grown hg5 (fun k hk => (hl4.lt k hk).1)
        go_roundg o.length
        case measure => have := HK.out; simp at this; omega
        case rel =>
          refine ⟨.slice (some ⟨g, 0, none⟩) o.length cap, o, q ++ [u], rfl, by simp at hoq ⊢; omega, hs', fun v hv => hop v (List.mem_cons_of_mem _ hv), ?_, ?_, by rw [HOS.out]; exact hx5, by rw [HOS.out]; exact he5, by simpa [ints] using ho5, ?_⟩
          · have := HP1.out; rw [HP.out] at this; have e : (Tar.popR s t.opn).1 = (q ++ [u]) ++ (Tar.popR s o).1 := by rw [this]; simp
            exact e
          · have := HP2.out; rw [HP.out] at this; exact this
          · rw [HOS.out]
            have : ∀ k, lv5.ownBlock = some k → Off ⟨n, F, gi, gl, gn, p, nx, .slice (some ⟨g, 0, none⟩) o.length cap, outb, .slice (some ⟨g, 0, none⟩) o.length cap, outb, ws, ws, { t with opn := o, on := (Tar.offs t.on q).set u.toNat false }⟩ k := by
              intro k hk
              rcases ha5 with ha5 | ha5
              · rw [ha5] at hk; exact HOFF4.out k hk
              · rw [ha5] at hk; cases hk; exact hxa.fresh (Nat.le_refl _)
            exact this

end Go.Proofs.YtoffbdlgmnpblaaGreat

/- Package graph: the finder searches from a state. -/
namespace Go.Proofs.YtoffbdlgmnpblaaGreat
open Go.RowKit
open Tar (TS)
set_option maxHeartbeats 4000000
set_option maxRecDepth 100000

theorem frame_info : (Tryz.prog.info? 166).map (fun i => (i.zero, i.size, i.bytes)) = some (some (.agg #[.int .i64 0, .int .i64 0]), 2, 16) := by kernel_rfl
def fcells (fr : List (Int × Int)) : List Value := fr.reverse.flatMap fun f => [.int .i64 f.1, .int .i64 f.2]
theorem fcells_cons (s k : Int) (fr : List (Int × Int)) : fcells ((s, k) :: fr) = fcells fr ++ [.int .i64 s, .int .i64 k] := by simp [fcells]
theorem fcells_len (fr : List (Int × Int)) : (fcells fr).length = fr.length * 2 := by
  induction fr with
  | nil => rfl
  | cons f fr ih => obtain ⟨s, k⟩ := f; rw [fcells_cons, List.length_append, ih]; simp; omega
abbrev StackC (W : World) (B : Nat) (sv : Value) (fr : List (Int × Int)) : Prop := W.ownsRow B 166 2 sv fr.length (fcells fr)

theorem wpList_push {w : World} {ops : Array Oper} {rest : List Oper} {o : Oper} {a : Act} {Q : Exit → Act → World → Prop}
    (hgd : o.guard = none) (s x : Operand) (ho : o.op = .call { callee := .builtin .append, args := #[s, x], argTypes := #[167, 167] })
    (base : Nat) (sv : Value) (fr : List (Int × Int)) (hs : a.eval s = sv) (hown : StackC w base sv fr) (b c : Nat) (u k : Int) (hx : a.eval x = .slice (some ⟨b, 0, none⟩) 1 c) (hnews : w.heap[b]? = some (.cells #[.int .i64 u, .int .i64 k] 166 (0, 0)))
    (hl : fr.length ≤ 1000000) (hbase : base ≤ w.heap.size)
    (h : ∀ sv' w', StackC w' base sv' ((u, k) :: fr) → w.grownBy w' sv.ownBlock → (sv'.ownBlock = sv.ownBlock ∨ sv'.ownBlock = some w.heap.size) → wpList Tryz.prog ops Q rest (a.put o.dst sv') w') : wpList Tryz.prog ops Q (o :: rest) a w := by
  obtain ⟨fi, hfi, hfz, hfs, hfb⟩ : ∃ i, Tryz.prog.info? 166 = some i ∧ i.zero = some (.agg #[.int .i64 0, .int .i64 0]) ∧ i.size = 2 ∧ i.bytes = 16 := by
    have := frame_info
    cases h : Tryz.prog.info? 166 with
    | none => rw [h] at this; cases this
    | some i => rw [h] at this; simp only [Option.map_some, Option.some.injEq, Prod.mk.injEq] at this; exact ⟨i, rfl, this.1, this.2.1, this.2.2⟩
  refine wpList_append_own_at w hgd s x 167 ho base 166 fi _ 2 16 Tryz.underlying167 hfi hfz hfs hfb rfl (by decide) sv fr.length (fcells fr) hs hown ⟨b, 0, none⟩ 1 c [.int .i64 u, .int .i64 k] hx rfl ?_ (by simp [Value.oneCell']) (by simp only [maxLen]; omega) (by omega) hbase ?_
  · intro j y hj
    have e : (⟨b, 0, none⟩ : Addr).add j = ⟨b, j, none⟩ := by unfold Addr.add; split <;> simp_all
    rw [e]
    simp only [World.cell?, hnews]
    simpa using hj
  · intro v' w' h1 h2 _ h4
    exact h v' w' (by rw [StackC, fcells_cons]; exact h1) h2 h4

/-- what the search knows of memory at each round -/
structure VRel (x0 x' : Fp) (w W W' : World) (sv : Value) (fr : List (Int × Int)) : Prop where
  fin : FinC x' w.heap.size W'
  evo : Evo x0 W x' W'
  stk : StackC W' W.heap.size sv fr
  sof : ∀ k, sv.ownBlock = some k → Off x' k ∧ k ≠ W.heap.size ∧ k ≠ W.heap.size + 1
  c3 : W'.cell? ⟨W.heap.size, 0, none⟩ = some (.pointer (some ⟨x'.F, 0, none⟩))
  c5 : W'.cell? ⟨W.heap.size + 1, 0, none⟩ = some (.pointer (some ⟨x'.p, 0, none⟩))
  o3 : Off x' W.heap.size
  o5 : Off x' (W.heap.size + 1)
  sz : W.heap.size + 2 ≤ W'.heap.size

section
variable {x0 x' x'' : Fp} {w W W' W'' : World} {sv : Value} {fr : List (Int × Int)}
/-- the finder turns -/
theorem VRel.turn (h : VRel x0 x' w W W' sv fr) (hf : FinC x'' w.heap.size W'') (he : Evo x' W' x'' W'') (hF : x''.F = x'.F) (hp : x''.p = x'.p) : VRel x0 x'' w W W'' sv fr := by
  have hsz := h.sz
  refine ⟨hf, h.evo.trans he, own_kept h.stk fun k hk => he.block k (h.stk.lt k hk).2 (h.sof k hk).1, fun k hk => ⟨he.off (h.sof k hk).1 (h.stk.lt k hk).2, (h.sof k hk).2⟩, ?_, ?_, he.off h.o3 (by omega), he.off h.o5 (by omega), Nat.le_trans hsz he.size⟩
  · rw [hF]; exact (he.cell h.o3 (by omega) 0).trans h.c3
  · rw [hp]; exact (he.cell h.o5 (by omega) 0).trans h.c5
theorem VRel.drew (h : VRel x0 x' w W W' sv fr) : VRel x0 x' w W W'.drew sv fr := h.turn h.fin.drew (Evo.refl x' W').drew rfl rfl
theorem VRel.drewN (h : VRel x0 x' w W W' sv fr) (n : Nat) : VRel x0 x' w W (W'.drewN n) sv fr := h.turn (h.fin.kept fun _ _ => rfl) (Evo.of_below x' (below_drewN (Below.refl _ _) n)) rfl rfl
/-- the stack turns -/
theorem VRel.stack (h : VRel x0 x' w W W' sv fr) {sv' : Value} {fr' : List (Int × Int)} (hg : W'.grownBy W'' sv.ownBlock) (hs : StackC W'' W.heap.size sv' fr') (ha : sv'.ownBlock = sv.ownBlock ∨ ∀ k, sv'.ownBlock = some k → W'.heap.size ≤ k) : VRel x0 x' w W W'' sv' fr' := by
  have hsz := h.sz
  refine ⟨h.fin.grown hg fun k hk => (h.sof k hk).1, h.evo.grown hg fun k hk => (h.stk.lt k hk).1, hs, fun k hk => ?_, ?_, ?_, h.o3, h.o5, Nat.le_trans hsz hg.size⟩
  · rcases ha with ha | ha
    · exact h.sof k (ha ▸ hk)
    · have := ha k hk
      exact ⟨h.fin.fresh this, by omega, by omega⟩
  · exact (World.cell?_of_block (w := W') (a := ⟨W.heap.size, 0, none⟩) (hg.block _ (by show W.heap.size < _; omega) fun e => (h.sof _ e.symm).2.1 rfl)).trans h.c3
  · exact (World.cell?_of_block (w := W') (a := ⟨W.heap.size + 1, 0, none⟩) (hg.block _ (by show W.heap.size + 1 < _; omega) fun e => (h.sof _ e.symm).2.2 rfl)).trans h.c5
theorem VRel.nextTop {g cap : Nat} {s k : Int} (h : VRel x0 x' w W W' (.slice (some ⟨g, 0, none⟩) (fr.length + 1) cap) ((s, k) :: fr)) (y : Int) : VRel x0 x' w W (W'.setCell ⟨g, fr.length * 2 + 1, none⟩ (.int .i64 y)) (.slice (some ⟨g, 0, none⟩) (fr.length + 1) cap) ((s, y) :: fr) := by
  have hs : W'.ownsRow W.heap.size 166 2 (.slice (some ⟨g, 0, none⟩) (fr.length + 1) cap) (fr.length + 1) (fcells fr ++ [.int .i64 s, .int .i64 k]) := by have := h.stk; rwa [StackC, fcells_cons] at this
  obtain ⟨k1, k2⟩ := World.ownsRow.stored hs (fr.length * 2 + 1) (.int .i64 y)
  refine h.stack k2 ?_ (.inl rfl)
  rw [StackC, fcells_cons]
  rw [List.set_append_right _ _ (by rw [fcells_len]; omega), fcells_len, show fr.length * 2 + 1 - fr.length * 2 = 1 by omega] at k1
  exact k1
theorem VRel.top {g cap : Nat} {s k : Int} (h : VRel x0 x' w W W' (.slice (some ⟨g, 0, none⟩) (fr.length + 1) cap) ((s, k) :: fr)) : (W'.cell? ⟨g, fr.length * 2, none⟩ = some (.int .i64 s) ∧ W'.cell? ⟨g, fr.length * 2 + 1, none⟩ = some (.int .i64 k)) ∧ ∀ i, W'.frozen? ⟨g, i, none⟩ = false := by
  have hs : W'.ownsRow W.heap.size 166 2 (.slice (some ⟨g, 0, none⟩) (fr.length + 1) cap) (fr.length + 1) (fcells fr ++ [.int .i64 s, .int .i64 k]) := by have := h.stk; rwa [StackC, fcells_cons] at this
  refine ⟨⟨?_, ?_⟩, fun i => World.ownsRow.frozenAt hs i⟩
  · rw [World.ownsRow.cellAt hs _ (by omega), List.getElem?_append_right (by rw [fcells_len]; exact Nat.le_refl _), fcells_len, Nat.sub_self]; rfl
  · rw [World.ownsRow.cellAt hs _ (by omega), List.getElem?_append_right (by rw [fcells_len]; omega), fcells_len, show fr.length * 2 + 1 - fr.length * 2 = 1 by omega]; rfl
theorem VRel.low (h : VRel x0 x' w W W' sv fr) (hx : FinC x0 w.heap.size W) (hb : Below w.heap.size w W) : Below w.heap.size w W' := by
  refine ⟨h.evo.os.trans hb.os, h.evo.tape.trans hb.tape, h.evo.output.trans hb.output, Nat.le_trans hb.size h.evo.size, fun k hk => (h.evo.block k (Nat.lt_of_lt_of_le hk hb.size) fun j hj => ?_).trans (hb.block k hk)⟩
  have := (hx.lt hj).1
  omega
end

theorem own_shrink2 {W : World} {B : Nat} {e : TypeId} {g n cap : Nat} {vs : List Value} {a b : Value} (h : W.ownsRow B e 2 (.slice (some ⟨g, 0, none⟩) (n + 1) cap) (n + 1) (vs ++ [a, b])) : W.ownsRow B e 2 (.slice (some ⟨g, 0, none⟩) n cap) n vs := by
  obtain ⟨hl, ⟨h1, _⟩ | ⟨g', cap', cur, hv, hb, hg, hnc, hcm, hcs, ht⟩⟩ := h
  · cases h1
  · cases hv
    have hl' : vs.length = n * 2 := by simp at hl; omega
    refine ⟨hl', .inr ⟨g, cap, cur, rfl, hb, hg, by omega, hcm, hcs, ?_⟩⟩
    have h2 := congrArg (List.take (n * 2)) ht
    rw [List.take_take, Nat.min_eq_left (by omega), List.take_left' hl'] at h2
    exact h2
theorem VRel.pop {x0 x' : Fp} {w W W' : World} {fr : List (Int × Int)} {g cap : Nat} {s k : Int} (h : VRel x0 x' w W W' (.slice (some ⟨g, 0, none⟩) (fr.length + 1) cap) ((s, k) :: fr)) : VRel x0 x' w W W' (.slice (some ⟨g, 0, none⟩) fr.length cap) fr := by
  have hs : W'.ownsRow W.heap.size 166 2 (.slice (some ⟨g, 0, none⟩) (fr.length + 1) cap) (fr.length + 1) (fcells fr ++ [.int .i64 s, .int .i64 k]) := by have := h.stk; rwa [StackC, fcells_cons] at this
  exact ⟨h.fin, h.evo, own_shrink2 hs, h.sof, h.c3, h.c5, h.o3, h.o5, h.sz⟩

end Go.Proofs.YtoffbdlgmnpblaaGreat
