/- Part 49 of 55: Pat. -/
import Derived.Test.YtoffbdlgmnpblaaGreatJ39
import Derived.Deep.RegionWith

/- Package graph: Path. -/
namespace Go.Proofs.YtoffbdlgmnpblaaGreat
open Go.RowKit
set_option maxHeartbeats 4000000
set_option maxRecDepth 100000

theorem IndexFuncQ_calls (K : Nat) (is : Int → Bool) (cs : Array Value) (xs : List Int) (v : Value) (D : Nat → Prop) (w : World) (eg : ∀ args w, (callFunc K args).run Tryz.prog w = .ok (.enter K args) w) (hD : Lo D w) (hl : Sl (Kind.int .i64) w D v xs) (hn : xs.length ≤ 1000000)
    (hc : ∀ (n : Nat) (s : Int), s ∈ xs → Calls Tryz.prog K (#[.int .i64 s] ++ cs) (w.drewN n) fun e w' => e = .returned (.bool (is s)) ∧ Drawn (w.drewN n) w') :
    Calls Tryz.prog 90 #[v, .func (.func K) #[] cs] w fun e w' => e = .returned (.int .i64 (idxI is xs)) ∧ Drawn w w' := by
  obtain ⟨A, c, rfl, h1, h2, -⟩ := hl.form
  unfold maxLen at h2
  have HU := Ints.up hl hD
  have HC := Lib.hid hc
  clear hl hc
  go_enter Tryz.func90, Tryz.ntmps90
  go_wp2
  go_loopw [8] (fun k W => ∃ (j : Nat), j ≤ xs.length ∧ k = .int .i64 (j : Int) ∧ Drawn w W ∧ Hid (∀ y ∈ xs.take j, is y = false)) (fun k _ => xs.length - (intOf k).toNat)
  case atStart => exact ⟨0, Nat.zero_le _, rfl, Drawn.refl _, (by intro y hy; simp at hy : ∀ y ∈ xs.take 0, is y = false)⟩
  case round =>
    obtain ⟨j, hj, rfl, ⟨nd, rfl⟩, HN⟩ := hrel
    by_cases hlt : j < xs.length
    · obtain ⟨x, hx⟩ : ∃ x, xs[j]? = some x := ⟨_, List.getElem?_eq_getElem hlt⟩
      obtain ⟨bd, rfl, hDb, hcs⟩ := HU.out (by omega)
      have q1 := hcs w (Below.refl _ _) j _ hx
      have HX := Lib.hid hx
      clear hcs hx
      go_wp2_with fail
      refine (HC.out nd x (List.mem_of_getElem? HX.out)).mono ?_
      rintro e w2 ⟨rfl, m, rfl⟩
      rw [World.drewN_drewN]
      cases hi : is x with
      | false =>
        have HS := Lib.hid (take_false HX.out HN.out hi)
        clear hi q1
        go_wp2
        exact ⟨⟨j + 1, by omega, by go_num, ⟨_, rfl⟩, HS⟩, by simp [intOf]; omega⟩
      | true =>
        have HS := Lib.hid (idxI_at HX.out HN.out hi)
        clear hi q1
        go_wp2
        go_ret
        exact ⟨ret_int HS.out.symm, ⟨_, rfl⟩⟩
    · obtain rfl : j = xs.length := by omega
      have HS := Lib.hid (idxI_none (is := is) (xs := xs) (by have := HN.out; rwa [List.take_length] at this))
      clear hlt
      go_wp2
      go_ret
      exact ⟨ret_int HS.out.symm, ⟨_, rfl⟩⟩

theorem pathTo_cons (next : List (List Int)) (d : List Int) : ∀ (f : Nat) (s : Int), Bfs.pathTo next d f s = s :: (Bfs.pathTo next d f s).tail
  | 0, _ => rfl
  | _ + 1, _ => rfl
theorem pathTo_step (next : List (List Int)) (d : List Int) (f : Nat) (s : Int) : (Bfs.pathTo next d (f + 1) s).tail = Bfs.nearer next d s :: (Bfs.pathTo next d f (Bfs.nearer next d s)).tail := pathTo_cons next d f _
theorem Path1_calls (d : List Int) (dv : Value) (u cur : Int) (db sb : Nat) (D : Nat → Prop) (w : World) (hd : Sl (Kind.int .i64) w D dv d) (hdb : w.cell? ⟨db, 0, none⟩ = some dv) (hsb : w.cell? ⟨sb, 0, none⟩ = some (.int .i64 cur))
    (h0 : 0 ≤ u) (h1 : u < (d.length : Int)) (c0 : 0 ≤ cur) (c1 : cur < (d.length : Int)) (_hn : d.length ≤ 100) (hb : -1 ≤ Bfs.at' d cur ∧ Bfs.at' d cur ≤ 1000) :
    Calls Tryz.prog 91 #[.int .i64 u, .pointer (some ⟨db, 0, none⟩), .pointer (some ⟨sb, 0, none⟩)] w fun e w' => e = .returned (.bool (decide (Bfs.at' d u = Bfs.at' d cur - 1))) ∧ Drawn w w' := by
  obtain ⟨A, c, rfl, k1, k2, -⟩ := hd.form
  obtain ⟨ad, rfl, -, q1⟩ := at_cell hd h0 h1
  obtain ⟨ad', e, -, q2⟩ := at_cell hd c0 c1
  injection e with e
  subst e
  obtain ⟨b1, b2⟩ := hb
  unfold maxLen at k2
  clear hd
  go_enter Tryz.func91, Tryz.ntmps91
  go_wp2_with fail
  go_quiet (fail)
  go_wp2
  go_ret
  exact ⟨ret_bool rfl, ⟨_, rfl⟩⟩

theorem enter_p1 : ∀ args w, (callFunc 91 args).run Tryz.prog w = .ok (.enter 91 args) w := enter_of Tryz.func91 (by kernel_rfl) (by kernel_rfl)

/-- what the loop of Path knows of memory -/
structure PathW (W0 W : World) (sb : Nat) (ov : Value) (cur : Int) (L : List Int) : Prop where
  grow : W0.grownBy W (some sb)
  cell : W.heap[sb]? = some (.cells #[.int .i64 cur] 3 (0, 0))
  own : W.ownsRow W0.heap.size 3 1 ov L.length (ints L)
section
variable {W0 W : World} {sb : Nat} {ov : Value} {cur : Int} {L : List Int}
theorem PathW.same (h : PathW W0 W sb ov cur L) {D : Nat → Prop} (hD : ∀ k, D k → k < W0.heap.size ∧ k ≠ sb) : Same D W0 W := fun k hk => h.grow.block k (hD k hk).1 fun e => (hD k hk).2 (by injection e)
theorem PathW.old (h : PathW W0 W sb ov cur L) {b o : Nat} (hb : b < W0.heap.size) (hne : b ≠ sb) : W.cell? ⟨b, o, none⟩ = W0.cell? ⟨b, o, none⟩ := World.cell?_of_block (w := W0) (a := ⟨b, o, none⟩) (h.grow.block b hb fun e => hne (by injection e))
theorem PathW.drewN (h : PathW W0 W sb ov cur L) (n : Nat) : PathW W0 (W.drewN n) sb ov cur L := ⟨⟨h.grow.os, h.grow.tape, h.grow.output, h.grow.size, h.grow.block⟩, h.cell, own_kept h.own fun _ _ => rfl⟩
theorem PathW.at (h : PathW W0 W sb ov cur L) : W.cell? ⟨sb, 0, none⟩ = some (.int .i64 cur) ∧ W.frozen? ⟨sb, 0, none⟩ = false := by
  constructor
  · simp [World.cell?, h.cell]
  · simp [World.frozen?, h.cell]
theorem PathW.set (h : PathW W0 W sb ov cur L) (hsb : sb < W0.heap.size) (y : Int) : PathW W0 (W.setCell ⟨sb, 0, none⟩ (.int .i64 y)) sb ov y L := by
  refine ⟨grown_trans h.grow (grown_set W sb 0 _), by simp [World.setCell, Array.getElem?_modify, h.cell], own_kept h.own fun k hk => Below.heap_setCell W _ _ k (fun e => ?_)⟩
  have := (h.own.lt k hk).1
  have e : k = sb := e
  omega
theorem PathW.app (h : PathW W0 W sb ov cur L) (hsb : sb < W0.heap.size) {o : Obj} {w3 : World} {v3 : Value} {y : Int} (hg : (W.alloc o).grownBy w3 ov.ownBlock) (ho : w3.ownsRow W0.heap.size 3 1 v3 (L.length + 1) (ints L ++ [.int .i64 y])) : PathW W0 w3 sb v3 cur (L ++ [y]) := by
  have hz := h.grow.size
  have hne : ∀ k, k < W0.heap.size → some k ≠ ov.ownBlock := fun k hk e => by have := (h.own.lt k e.symm).1; omega
  refine ⟨⟨hg.os.trans h.grow.os, hg.tape.trans h.grow.tape, hg.output.trans h.grow.output, ?_, fun k hk hk2 => ?_⟩, ?_, by simpa [ints] using ho⟩
  · have := hg.size; simp at this; omega
  · exact (hg.block k (by simp; omega) (hne k hk)).trans ((Below.heap_alloc _ _ _ (by omega)).trans (h.grow.block k hk hk2))
  · exact (hg.block sb (by simp; omega) (hne sb hsb)).trans ((Below.heap_alloc _ _ _ (by omega)).trans h.cell)
end

def pathErr (m : List St) (s t : Int) : Int := if validB m then (if 0 ≤ s ∧ s < (m.length : Int) ∧ 0 ≤ t ∧ t < (m.length : Int) then (if Bfs.at' (Bfs.depths (Bfs.turn (m.map nextOf)) [t]) s < 0 then 5 else 0) else 6) else 1
def pathOf (m : List St) (s t : Int) : List Int := if pathErr m s t = 0 then Bfs.pathTo (m.map nextOf) (Bfs.depths (Bfs.turn (m.map nextOf)) [t]) (Bfs.at' (Bfs.depths (Bfs.turn (m.map nextOf)) [t]) s).toNat s else []

theorem Path_calls (m : List St) (s t : Int) (v : Value) (D : Nat → Prop) (w : World) (hD : Lo D w) (h : ModelC w D v m) :
    Calls Tryz.prog 32 #[v, .int .i64 s, .int .i64 t] w fun e w' => ∃ v', e = .returned (.tuple #[v', .int .i64 (pathErr m s t)]) ∧ Below w.heap.size w w' ∧ Sl (Kind.int .i64) w' (nws w w') v' (pathOf m s t) := by
  obtain ⟨mv, rfl, hmm⟩ := h
  have HM : Hid (ModelC w D (.agg #[mv]) m) := ⟨mv, rfl, hmm⟩
  obtain ⟨A, c, rfl, h1, h2, -⟩ := hmm.form
  unfold maxLen at h2
  clear hmm
  have hB0 := ((Below.refl w.heap.size w).alloc (Nat.le_refl _) (.cells #[.slice A m.length c] 24)).alloc (by simp) (.cells #[.int .i64 s] 3)
  have hz0 : ((w.alloc (.cells #[.slice A m.length c] 24)).alloc (.cells #[.int .i64 s] 3)).heap.size = w.heap.size + 2 := by simp
  go_enter Tryz.func32, Tryz.ntmps32
  go_wp2_with fail
  refine (Valid_calls m _ D _ (hD.up hB0.size) (HM.out.same (hD.same hB0))).mono ?_
  rintro e w1 ⟨rfl, hb1⟩
  have hB1 := hB0.trans (hb1.mono hB0.size)
  have hz1 : w.heap.size + 1 < w1.heap.size := by have := hb1.size; omega
  have s1 : w1.cell? ⟨w.heap.size + 1, 0, none⟩ = some (.int .i64 s) := (hb1.cell (p := ⟨w.heap.size + 1, 0, none⟩) (by show w.heap.size + 1 < _; omega)).trans (by have := cell_new1 (w.alloc (.cells #[.slice A m.length c] 24)) (.int .i64 s) 3; rwa [World.size_alloc] at this)
  have m1 : w1.cell? ⟨w.heap.size, 0, none⟩ = some (.slice A m.length c) := (hb1.cell (p := ⟨w.heap.size, 0, none⟩) (by show w.heap.size < _; omega)).trans ((World.cell?_alloc_lt _ _ _ (by simp)).trans (cell_new1 w _ _))
  have h1b : w1.heap[w.heap.size + 1]? = some (.cells #[.int .i64 s] 3 (0, 0)) := (hb1.block _ (by omega)).trans (by have := heap_alloc_new (w.alloc (.cells #[.slice A m.length c] 24)) (.cells #[.int .i64 s] 3); rwa [World.size_alloc] at this)
  have H1B := Lib.hid h1b
  clear h1b
  cases hv : validB m with
  | false =>
    have HER := Lib.hid (show (1 : Int) = pathErr m s t by unfold pathErr; rw [hv]; rfl)
    have HV := Lib.hid (show pathOf m s t = [] by unfold pathOf; rw [← HER.out]; rfl)
    clear hv
    go_wp2_with fail
    go_ret2
    refine ⟨_, ret_vi HER.out, hB1, ?_⟩
    rw [HV.out]; exact Sl.nil _ _ _
  | true =>
    by_cases hr : 0 ≤ s ∧ s < (m.length : Int) ∧ 0 ≤ t ∧ t < (m.length : Int)
    · obtain ⟨r1, r2, r3, r4⟩ := hr
      have hf := Fine.of_valid hv
      have HE := Lib.hid (Edges.of_fine hf)
      have HE2 := Lib.hid (Edges.turned hf)
      have HLN := Lib.hid (show (m.map nextOf).length = m.length from List.length_map _)
      have HTL := Lib.hid (show (Bfs.turn (m.map nextOf)).length = m.length by rw [Bfs.turn_len, List.length_map])
      have hlen := hf.len
      have HF := Lib.hid hf
      have HPE := Lib.hid (show pathErr m s t = if Bfs.at' (Bfs.depths (Bfs.turn (m.map nextOf)) [t]) s < 0 then 5 else 0 by unfold pathErr; rw [if_pos hv, if_pos ⟨r1, r2, r3, r4⟩])
      clear hv hf
      go_wp2_with fail
      refine (Next_calls m _ D _ (hD.up hB1.size) (HM.out.same (hD.same hB1)) HF.out).mono ?_
      rintro e w2 ⟨nv, rfl, hb2, hn⟩
      have hB2 := hB1.trans (hb2.mono hB1.size)
      have HN := Lib.hid hn
      have s2 := (hb2.cell (p := ⟨w.heap.size + 1, 0, none⟩) hz1).trans s1
      have H2B := Lib.hid ((hb2.block _ hz1).trans H1B.out)
      have hz2 : w.heap.size + 1 < w2.heap.size := Nat.lt_of_lt_of_le hz1 hb2.size
      clear hn s1 m1 H1B
      go_wp2_with fail
      refine (turned_calls (m.map nextOf) _ _ _ (fun k hk => hk.2.1) HN.out HE.out).mono ?_
      rintro e w3 ⟨tv, rfl, hb3, ht⟩
      have hB3 := hB2.trans (hb3.mono hB2.size)
      have HT := Lib.hid ht
      have s3 := (hb3.cell (p := ⟨w.heap.size + 1, 0, none⟩) hz2).trans s2
      have H3B := Lib.hid ((hb3.block _ hz2).trans H2B.out)
      have hz3 : w.heap.size + 1 < w3.heap.size := Nat.lt_of_lt_of_le hz2 hb3.size
      clear ht s2 H2B
      go_wp2_with fail
      have hb4 := (Below.refl w3.heap.size w3).alloc (Nat.le_refl _) (.cells #[.int .i64 t] 3)
      have hl4 : Sl (Kind.int .i64) (w3.alloc (.cells #[.int .i64 t] 3)) (fun k => k < w3.heap.size + 1) (.slice (some ⟨w3.heap.size, 0, none⟩) 1 1) [t] :=
        Sl.of_ints (xs := [t]) (k := .i64) (c := 1) (A := some ⟨w3.heap.size, 0, none⟩) (Nat.le_refl _) (by simp only [maxLen]; omega) fun _ => ⟨⟨w3.heap.size, 0, none⟩, rfl, Nat.lt_succ_self _, fun i hi => by
          have : i = 0 := by simpa using hi
          subst this
          exact cell_new1 w3 _ _⟩
      refine (Depths_calls (Bfs.turn (m.map nextOf)) [t] tv _ (fun k => k < w3.heap.size + 1) _ (fun k hk => by simp; exact hk) ((HT.out.same (Lo.same (fun k hk => hk.2.1) hb4)).mono fun k hk => Nat.lt_succ_of_lt hk.2.1) hl4 HE2.out (fun x hx => by have e : x = t := (by simpa using hx); rw [e, HTL.out]; exact ⟨r3, r4⟩) (by simp)).mono ?_
      rintro e w5 ⟨dv, rfl, hb5, hd⟩
      have hb35 := hb4.trans (hb5.mono hb4.size)
      have hB5 := hB3.trans (hb35.mono hB3.size)
      have s5 := (hb35.cell (p := ⟨w.heap.size + 1, 0, none⟩) hz3).trans s3
      have h5b := (hb35.block _ hz3).trans H3B.out
      have hz5 := hb35.size
      have hsp := Bfs.depths_spec (next := Bfs.turn (m.map nextOf)) (l := [t]) (fun x hx => by have e : x = t := (by simpa using hx); rw [e, HTL.out]; exact ⟨r3, r4⟩) (Bfs.turn_in HE.out.ins)
      have hns := fun (cur : Int) (hc : 0 ≤ cur ∧ cur < ((m.map nextOf).length : Int)) (hd : 0 < Bfs.at' (Bfs.depths (Bfs.turn (m.map nextOf)) [t]) cur) => Bfs.nearer_spec (xss := m.map nextOf) (t := t) HE.out.ins (by rw [HLN.out]; exact ⟨r3, r4⟩) hc hd
      have hrows : Rows2 w5 (fun k => w1.heap.size ≤ k ∧ k < w2.heap.size) nv (m.map nextOf) :=
        (HN.out.mono fun k hk => ⟨hk.1, hk.2.1⟩).same fun k hk => (hb35.block k (Nat.lt_of_lt_of_le hk.2 hb3.size)).trans (hb3.block k hk.2)
      have hdl := Bfs.depths_len (Bfs.turn (m.map nextOf)) [t]
      rw [HTL.out] at hdl hsp
      have hpo : pathErr m s t = 0 → pathOf m s t = Bfs.pathTo (m.map nextOf) (Bfs.depths (Bfs.turn (m.map nextOf)) [t]) (Bfs.at' (Bfs.depths (Bfs.turn (m.map nextOf)) [t]) s).toNat s := fun e => by unfold pathOf; rw [if_pos e]
      have hpo' : pathErr m s t ≠ 0 → pathOf m s t = [] := fun e => by unfold pathOf; rw [if_neg e]
      generalize Bfs.depths (Bfs.turn (m.map nextOf)) [t] = d at *
      obtain ⟨dA, dc, rfl, d1, d2, -⟩ := hd.form
      unfold maxLen at d2
      have hd40 : d.length ≤ 40 := by omega
      have r2' : s < (d.length : Int) := by omega
      have hb6 := (Below.refl w5.heap.size w5).alloc (Nat.le_refl _) (.cells #[.slice dA d.length dc] 31)
      have hd6 : Sl (Kind.int .i64) (w5.alloc (.cells #[.slice dA d.length dc] 31)) (fun k => w3.heap.size + 1 ≤ k ∧ k < w5.heap.size) (.slice dA d.length dc) d := (hd.mono fun k hk => ⟨by have := hk.1; simp at this; exact this, hk.2.1⟩).same fun k hk => hb6.block k hk.2
      have hr6 : Rows2 (w5.alloc (.cells #[.slice dA d.length dc] 31)) (fun k => w1.heap.size ≤ k ∧ k < w2.heap.size) nv (m.map nextOf) := hrows.same fun k hk => hb6.block k (by have := hk.2; have := hb3.size; omega)
      have db6 := cell_new1 w5 (.slice dA d.length dc) 31
      have s6 := (hb6.cell (p := ⟨w.heap.size + 1, 0, none⟩) (by show w.heap.size + 1 < _; omega)).trans s5
      have h6b := (hb6.block (w.heap.size + 1) (by omega)).trans h5b
      obtain ⟨ad, e6, -, q6⟩ := at_cell hd6 r1 r2'
      subst e6
      have HD6 := Lib.hid hd6
      have HR6 := Lib.hid hr6
      have HSP := Lib.hid hsp
      have HNS := Lib.hid hns
      have HPO := Lib.hid hpo
      have HPO' := Lib.hid hpo'
      have HDL := Lib.hid hdl
      have H6B := Lib.hid h6b
      have DB6 := Lib.hid db6
      have S6 := Lib.hid s6
      have hB6 := hB5.trans (hb6.mono hB5.size)
      clear hd hl4 hb4 hb5 hb35 s5 h5b hsp hns hrows hdl hpo hpo' hd6 hr6 h6b s3 H3B
      obtain ⟨l1, l2⟩ := HSP.out.low s r1 r2
      by_cases hneg : Bfs.at' d s < 0
      · have HER := Lib.hid (show (5 : Int) = pathErr m s t by rw [HPE.out, if_pos hneg])
        have HV := Lib.hid (HPO'.out (by rw [← HER.out]; decide))
        go_wp2_with fail
        go_ret2
        refine ⟨_, ret_vi HER.out, hB6, ?_⟩
        rw [HV.out]; exact Sl.nil _ _ _
      · have HER := Lib.hid (show (0 : Int) = pathErr m s t by rw [HPE.out, if_neg hneg])
        have HV := Lib.hid (HPO.out HER.out.symm)
        have hpos : 0 ≤ Bfs.at' d s := by omega
        clear hneg
        go_wp2_with fail
        have hz6 : (w5.alloc (.cells #[.slice (some ad) d.length dc] 31)).heap.size = w5.heap.size + 1 := by simp
        have hP0 : PathW (w5.alloc (.cells #[.slice (some ad) d.length dc] 31)) ((w5.alloc (.cells #[.slice (some ad) d.length dc] 31)).alloc (.cells #[.int .i64 s] 3)) (w.heap.size + 1) (.slice (some ⟨w5.heap.size + 1, 0, none⟩) 1 1) s [s] := by
          refine ⟨World.grownBy_alloc _ _ _, (Below.heap_alloc _ _ _ (by omega)).trans H6B.out, ⟨rfl, .inr ⟨w5.heap.size + 1, 1, #[.int .i64 s], rfl, Nat.le_of_eq hz6, ?_, Nat.le_refl _, by simp only [maxLen]; omega, rfl, rfl⟩⟩⟩
          have := heap_alloc_new (w5.alloc (.cells #[.slice (some ad) d.length dc] 31)) (.cells #[.int .i64 s] 3)
          rw [hz6] at this
          exact this
        have hw2 : w2.heap.size ≤ w5.heap.size := by have := hb3.size; omega
        have hw1 : w.heap.size + 1 < w1.heap.size := hz1
        have hw3 : w.heap.size + 1 < w3.heap.size := hz3
        have hsbW : w.heap.size + 1 < w5.heap.size + 1 := by omega
        clear S6 H6B s6 q6 hB0 hB1 hB2 hB3 hB5 hb1 hb2 hb3 hb6 hz0 hz1 hz2 hz3
        generalize w5.alloc (.cells #[.slice (some ad) d.length dc] 31) = W6 at *
        go_loopg [11] (Bfs.at' d s).toNat (fun k ov W => ∃ (cur : Int) (L : List Int), PathW W6 W (w.heap.size + 1) ov cur L ∧ 0 ≤ cur ∧ cur < (d.length : Int) ∧ 0 ≤ Bfs.at' d cur ∧ Hid (k = (Bfs.at' d cur).toNat) ∧ L.length + k ≤ 1000 ∧ 0 < L.length ∧ Hid (L ++ (Bfs.pathTo (m.map nextOf) d k cur).tail = Bfs.pathTo (m.map nextOf) d (Bfs.at' d s).toNat s))
        case atStart => exact ⟨s, [s], hP0, r1, r2', hpos, rfl, by simp; omega, by simp, (pathTo_cons _ _ _ _).symm⟩
        case round =>
          clear hP0
          obtain ⟨cur, L, hP, c1, c2, c3, HK, hLk, hL0, HEQ⟩ := hrel
          obtain ⟨p1, p2⟩ := hP.at
          have HP := Lib.hid hP
          by_cases hz : Bfs.at' d cur = 0
          · have hct : cur = t := by
              rcases HSP.out.from' cur c1 (by rw [← HDL.out]; exact c2) c3 with ⟨h, _⟩ | ⟨h, _⟩
              · simpa using h
              · omega
            have hb : (cur != t) = false := by rw [hct]; simp
            have HV2 := Lib.hid (show L = pathOf m s t by
              have h1 := HEQ.out
              have h2 := HK.out
              rw [h2, hz] at h1
              rw [HV.out, ← h1]
              simp [Bfs.pathTo])
            obtain ⟨oA, oc, rfl, -, -, -⟩ := own_form hP.own
            clear hP hct hz
            go_wp2_with fail
            go_ret2
            refine ⟨_, ret_vi HER.out, hB6.grown HP.out.grow hB6.size (fun k hk => by cases hk; omega), ?_⟩
            rw [← HV2.out]
            exact (own_intsS HP.out.own).mono fun k hk => ⟨by have := hk.1; omega, hk.2⟩
          · have hcd : 0 < Bfs.at' d cur := by omega
            have hct : cur ≠ t := fun e => hz (by rw [e]; exact HSP.out.goal t (by simp))
            have hb : (cur != t) = true := by rw [bne_iff_ne]; exact hct
            obtain ⟨i, hi, hni, hfi, hdn, hmem⟩ := HNS.out cur ⟨c1, by rw [HLN.out]; have := HDL.out; omega⟩ hcd
            have hnin := Bfs.row_in HE.out.ins cur c1 (by rw [HLN.out]; have := HDL.out; omega) _ hmem
            rw [HLN.out] at hnin
            obtain ⟨xs, hxs⟩ : ∃ xs, (m.map nextOf)[cur.toNat]? = some xs := ⟨_, List.getElem?_eq_getElem (by rw [HLN.out]; have := HDL.out; omega)⟩
            have hrow : Bfs.row (m.map nextOf) cur = xs := by unfold Bfs.row; rw [List.getD_eq_getElem?_getD, hxs]; rfl
            rw [hrow] at hi hni hfi
            have h64 := HE.out.row xs (List.mem_of_getElem? hxs)
            have HKS := Lib.hid (show ∃ f, gk = f + 1 ∧ (Bfs.at' d (Bfs.nearer (m.map nextOf) d cur)).toNat = f from ⟨(Bfs.at' d cur).toNat - 1, by rw [HK.out]; omega, by rw [hdn]; omega⟩)
            have hrW := HR6.out.same (hP.same (D := fun k => w1.heap.size ≤ k ∧ k < w2.heap.size) fun k hk => ⟨by have := hk.1; have := hk.2; omega, by have := hk.1; have := hk.2; omega⟩)
            have hdW := HD6.out.same (hP.same (D := fun k => w3.heap.size + 1 ≤ k ∧ k < w5.heap.size) fun k hk => ⟨by have := hk.1; have := hk.2; omega, by have := hk.1; have := hk.2; omega⟩)
            have db7 := (hP.old (b := w5.heap.size) (o := 0) (by omega) (by omega)).trans DB6.out
            obtain ⟨nA, nc, hnv, n1, n2, n3⟩ := hrW
            rw [HLN.out] at hnv n1
            obtain ⟨nad, rcs, ena, -, ⟨rv, erc, hrv⟩, hat⟩ := n3 cur.toNat xs hxs
            subst ena; subst erc
            have q0 := hat 0 rv rfl
            rw [add_of_add, show cur.toNat * (Kind.slice (Kind.int .i64)).sz + 0 = cur.toNat from by show cur.toNat * 1 + 0 = cur.toNat; omega] at q0
            have hcall : ∀ V, (∃ n, V = wr.drewN n) → Calls Tryz.prog 90 #[rv, .func (.func 91) #[] #[.pointer (some ⟨w5.heap.size, 0, none⟩), .pointer (some ⟨w.heap.size + 1, 0, none⟩)]] V fun e w' => e = .returned (.int .i64 (i : Int)) ∧ ∃ m, w' = V.drewN m := by
              rintro V ⟨n, rfl⟩
              refine (IndexFuncQ_calls 91 (fun u => decide (Bfs.at' d u = Bfs.at' d cur - 1)) #[.pointer (some ⟨w5.heap.size, 0, none⟩), .pointer (some ⟨w.heap.size + 1, 0, none⟩)] xs rv (fun k => w1.heap.size ≤ k ∧ k < w2.heap.size) (wr.drewN n) enter_p1 (fun k hk => by have := hP.grow.size; have := hk.1; have := hk.2; show k < wr.heap.size; omega) (hrv.same fun _ _ => rfl) (by omega) (fun n' u hu => ?_)).mono ?_
              · have hu' := HE.out.ins xs (List.mem_of_getElem? hxs) u hu
                rw [HLN.out] at hu'
                have hlow := HSP.out.low cur c1 (by rw [← HDL.out]; exact c2)
                exact Path1_calls d (.slice (some ad) d.length dc) u cur w5.heap.size (w.heap.size + 1) _ ((wr.drewN n).drewN n') (hdW.same fun _ _ => rfl) db7 p1 hu'.1 (by rw [HDL.out]; exact hu'.2) c1 c2 (by omega) ⟨hlow.1, by omega⟩
              · rintro e w' ⟨rfl, m, rfl⟩
                refine ⟨?_, m, rfl⟩
                have e1 : idxI (fun u => decide (Bfs.at' d u = Bfs.at' d cur - 1)) xs = (i : Int) := by
                  unfold idxI; rw [hfi]
                rw [e1]
            obtain ⟨rA, rc, erv, m1, m2, m3⟩ := hrv.ints
            subst erv
            obtain ⟨rad, era, -, mc⟩ := m3 (by omega)
            subst era
            have q2 := mc i hi
            rw [Dig.gd_of hni] at q2
            subst hnv
            unfold maxLen at m2
            have c2' : cur < (m.length : Int) := by have := HDL.out; omega
            have HCA := Lib.hid hcall
            have HNI := Lib.hid (And.intro hdn hnin)
            generalize hnx : Bfs.nearer (m.map nextOf) d cur = nx at *
            have HNX := Lib.hid hnx
            clear hnx
            clear hP n3 hat hrv m3 mc hcall hni hfi hdn hmem hnin hct hrow hz hxs hdW
            go_wp2_with fail
            have hb2' : 0 ≤ nx ∧ nx < (m.length : Int) := HNI.out.2
            go_cut [] from 53 to 64 (fun W => PathW W6 W (w.heap.size + 1) u11 nx L)
            case first =>
              have hPq : ∀ q, PathW W6 ((wr.drewN q).setCell ⟨w.heap.size + 1, 0, none⟩ (.int .i64 nx)) (w.heap.size + 1) u11 nx L := fun q => (HP.out.drewN q).set (by omega) nx
              have HPQ := Lib.hid hPq
              clear hPq HN HT HE HE2 HF HPE HSP HNS HPO HPO' HV HER DB6 HD6 HR6 HM HLN HTL HDL HEQ HK HKS hB6 HP HNI HNX hcd hb
              go_region_with (go_at_call 90; refine (HCA.out _ ⟨_, rfl⟩).mono ?_; rintro e w' ⟨rfl, mq, rfl⟩)
              all_goals
                go_wp2_with fail
                go_meet
                exact HPQ.out _
            case rest =>
              obtain ⟨p1, p2⟩ := hcut.at
              have hown := hcut.own
              have hzc := hcut.grow.size
              have HC := Lib.hid hcut
              clear hcut q0 q2 db7
              go_wp2_with (at_builtin; refine wpList_app1 elem_i64 rfl _ _ rfl W6.heap.size _ L.length (ints L) rfl (hown.alloc _) ⟨_, 0, none⟩ 1 _ rfl (cell_new1 _ _ _) rfl (by omega) (by omega) (by simp; omega) ?_; intro v3 w3 ho3 hg3 ha3)
              obtain ⟨f, hf1, hf2⟩ := HKS.out
              have hPA := HC.out.app (by omega) hg3 ho3
              go_roundg f
              case measure => omega
              case rel =>
                refine ⟨nx, L ++ [nx], hPA, hb2'.1, by have := HDL.out; omega, by rw [HNI.out.1]; omega, hf2.symm, by simp; omega, by simp, ?_⟩
                have h1 := HEQ.out
                rw [hf1] at h1
                have h2 := pathTo_step (m.map nextOf) d f cur
                rw [h2, HNX.out] at h1
                have h3 : (L ++ [nx]) ++ (Bfs.pathTo (m.map nextOf) d f nx).tail = Bfs.pathTo (m.map nextOf) d (Bfs.at' d s).toNat s := by rw [← h1]; simp
                exact h3
    · have hor : s < 0 ∨ (0 ≤ s ∧ (m.length : Int) ≤ s) ∨ (0 ≤ s ∧ s < (m.length : Int) ∧ t < 0) ∨ (0 ≤ s ∧ s < (m.length : Int) ∧ 0 ≤ t ∧ (m.length : Int) ≤ t) := by omega
      have HER := Lib.hid (show (6 : Int) = pathErr m s t by unfold pathErr; rw [hv, if_neg hr]; rfl)
      have HV := Lib.hid (show pathOf m s t = [] by unfold pathOf; rw [← HER.out]; rfl)
      clear hv hr
      rcases hor with a1 | ⟨a1, a2⟩ | ⟨a1, a2, a3⟩ | ⟨a1, a2, a3, a4⟩
      all_goals
        go_wp2_with fail
        go_ret2
        refine ⟨_, ret_vi HER.out, hB1, ?_⟩
        rw [HV.out]; exact Sl.nil _ _ _

end Go.Proofs.YtoffbdlgmnpblaaGreat
