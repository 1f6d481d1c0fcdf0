/-
  PROVED HERE: the law GraphParts of package diceboxlaw05 answers true for every model: the program's Components, Bottom and Period return what the reference returns.
  Conditions: none beyond those of the given statement.
-/
import Derived.Test.YtoffbdlgmnpblaaGreatJ44
import Derived.Test.YtoffbdlgmnpblaaGreatJ41
import Derived.Test.YtoffbdlgmnpblaaGreatJ40
import Derived.ProofKit
import Derived.OpenShut
import Derived.ChangeOld
import Derived.Deep.Slices
import Derived.Deep.Strs
import Derived.Test.YtoffbdlgmnpblaaGreatRows
import Derived.WalkKit
import Derived.ShutString
import Derived.Below

/- The reference's Components, Bottom, Period. -/
namespace Go.Proofs.YtoffbdlgmnpblaaGreat
open Go.RowKit
set_option maxHeartbeats 4000000
set_option maxRecDepth 100000

/-! ### plain laws -/
theorem innerTo_row {next : List (List Int)} {l : List Int} (hl : ∀ s ∈ l, 0 ≤ s ∧ s < (next.length : Int)) {s : Int} (h0 : 0 ≤ s) (h1 : s < (next.length : Int)) : ∀ j, Bfs.row (innerTo next l j) s = if s ∈ l.take j then innerRow next l s else [] := by
  intro j
  induction j with
  | zero =>
    unfold innerTo Bfs.row
    have : s.toNat < next.length := by omega
    simp [List.getD_eq_getElem?_getD, this]
  | succ j ih =>
    by_cases hj : j < l.length
    · have hx : l[j]? = some l[j] := List.getElem?_eq_getElem hj
      have hb := hl l[j] (List.getElem_mem hj)
      have e : innerTo next l (j + 1) = (innerTo next l j).set l[j].toNat (innerRow next l l[j]) := by
        unfold innerTo
        rw [List.take_add_one, hx, List.foldl_append]; rfl
      rw [e, List.take_add_one, hx]
      by_cases hs : s = l[j]
      · have hlt : l[j].toNat < (innerTo next l j).length := by rw [innerTo_len]; omega
        rw [if_pos (by rw [← hs]; simp)]
        unfold Bfs.row
        rw [hs, List.getD_eq_getElem?_getD, List.getElem?_set_self hlt]; rfl
      · have hne : l[j].toNat ≠ s.toNat := by omega
        have e2 : Bfs.row ((innerTo next l j).set l[j].toNat (innerRow next l l[j])) s = Bfs.row (innerTo next l j) s := by
          unfold Bfs.row
          rw [List.getD_eq_getElem?_getD, List.getD_eq_getElem?_getD, List.getElem?_set_ne hne]
        rw [e2, ih]
        by_cases hm : s ∈ l.take j
        · rw [if_pos hm, if_pos (List.mem_append_left _ hm)]
        · rw [if_neg hm, if_neg]
          intro h
          rcases List.mem_append.1 h with h | h
          · exact hm h
          · exact hs (by simpa using h)
    · have e1 : l.take (j + 1) = l.take j := by rw [List.take_of_length_le (by omega), List.take_of_length_le (by omega)]
      have e : innerTo next l (j + 1) = innerTo next l j := by unfold innerTo; rw [e1]
      rw [e, e1, ih]
theorem inner_inn {next : List (List Int)} {l : List Int} (hl : ∀ s ∈ l, 0 ≤ s ∧ s < (next.length : Int)) (hn : l.Nodup) : Per.Inn next (inner next l) l := by
  refine ⟨innerTo_len _ _ _, fun s h0 h1 t => ?_, hl, hn⟩
  unfold inner
  rw [innerTo_row hl h0 h1, List.take_length]
  split
  · rename_i hs
    unfold innerRow
    rw [List.mem_filter]
    simp [hs]
  · rename_i hs
    simp [hs]
theorem perRef_perOf {next : List (List Int)} (he : Edges next) {l : List Int} (h : l ∈ Tar.parts next) : perRef next l = perOf next l := by
  have hin := he.ins
  obtain ⟨hne, hl, -⟩ := parts_mem hin l h
  obtain ⟨s, r, s0, -, s1, e, e2⟩ := (Tar.Pto.to hin next.length (Nat.le_refl _)).part l h
  have hnd : l.Nodup := by rw [e2]; exact (Tar.partAt_sorted s).imp fun h => by omega
  have hsame : ∀ x ∈ l, ∀ y, y ∈ l ↔ (Tar.Reach next x y ∧ Tar.Reach next y x) := by
    intro x hx y
    have hx' : x ∈ Tar.partAt next s := e2 ▸ hx
    rw [e2, ← Tar.partAt_same hin ⟨s0, s1⟩ hx', Tar.mem_partAt hin (hl x hx)]
    refine ⟨fun h => h.2, fun h => ⟨?_, h⟩⟩
    have := Tar.reach_turn hin (hl x hx) h.1
    exact ⟨this.1, this.2.1⟩
  have hroot : Dig.gd l 0 ∈ l := List.mem_of_getElem? (Dig.gd_lt (by rw [e]; simp))
  have hie : Edges (inner next l) := inner_edges he l l.length
  have hinn : ∀ xs ∈ inner next l, ∀ t ∈ xs, 0 ≤ t ∧ t < (next.length : Int) := fun xs hx t ht => by
    have := hie.ins xs hx t ht
    rwa [show (inner next l).length = next.length from innerTo_len _ _ _] at this
  unfold perRef
  rw [Per.period_same (inner_inn hl hnd) hin hinn (fun t h0 h1 => Bfs.fl_flags hl h0 h1) hroot hsame]
  have e3 : l.take 1 = [Dig.gd l 0] := by rw [e]; rfl
  unfold perOf Per.gAll
  rw [e3]
  rfl
theorem parts_partsOf {m : List St} (hf : Fine m) : Tar.parts (m.map nextOf) = partsOf (m.map nextOf) :=
  Tar.parts_found (Edges.of_fine hf).ins (nextOf_len hf)

theorem RComponents_calls (m : List St) (v : Value) (D : Nat → Prop) (w : World) (hD : Lo D w) (h : ModelC w D v m) :
    Calls Tryz.prog 15 #[v] w fun e w' => ∃ v', e = .returned (.tuple #[v', .int .i64 (err (validB m))]) ∧ Below w.heap.size w w' ∧ Rows2 w' (nws w w') v' (compsOf m) := by
  obtain ⟨mv, rfl, hmm⟩ := h
  have HM : Hid (ModelC w D (.agg #[mv]) m) := ⟨mv, rfl, hmm⟩
  obtain ⟨A, c, rfl, h1, h2, -⟩ := hmm.form
  unfold maxLen at h2
  obtain ⟨W0, hW0, hb0, hz0, hx0⟩ := rb1 w #[.slice A m.length c] 24
  have HB0 := Lib.hid hb0
  have HX0 := Lib.hid hx0
  have HZ0 := Lib.hid hz0
  have HW0 := Lib.hid hW0
  clear hmm hb0 hx0 hz0 hW0
  obtain ⟨c0, -⟩ := blk_at HX0.out 0
  go_enter Tryz.func15, Tryz.ntmps15
  go_upto_region 1 with fail
  rw [← HW0.out]
  clear HW0
  go_wp2_with fail
  refine (RMValid_calls m _ D _ (hD.up HB0.out.size) (HM.out.same (hD.same HB0.out))).mono ?_
  rintro e w1 ⟨rfl, hb1⟩
  have HB1 := Lib.hid (HB0.out.trans (hb1.mono HB0.out.size))
  have HX1 := Lib.hid ((hb1.block w.heap.size (by have := HZ0.out; omega)).trans HX0.out)
  clear hb1 c0
  obtain ⟨c0, -⟩ := blk_at HX1.out 0
  cases hv : validB m with
  | false =>
    have HS := Lib.hid (show compsOf m = [] by unfold compsOf; rw [hv]; rfl)
    have HV := Lib.hid (show err (validB m) = 1 by rw [hv]; rfl)
    clear hv
    go_wp2
    go_ret2
    rw [HS.out]
    exact ⟨_, ret_vi HV.out.symm, HB1.out, Sl.nil _ _ _⟩
  | true =>
    have HFI := Lib.hid (Fine.of_valid hv)
    have HS := Lib.hid (show compsOf m = Tar.parts (m.map nextOf) by unfold compsOf; rw [hv, parts_partsOf (Fine.of_valid hv)]; rfl)
    have HV := Lib.hid (show err (validB m) = 0 by rw [hv]; rfl)
    clear hv
    go_wp2_with fail
    refine (RParts_calls m _ D w1 (hD.up HB1.out.size) (HM.out.same (hD.same HB1.out)) HFI.out).mono ?_
    rintro e w2 ⟨v2, ps, rfl, hb2, k2, e2⟩
    have HB2 := Lib.hid (HB1.out.trans (hb2.mono HB1.out.size))
    have HK2 := Lib.hid ((k2.slS).mono (D' := nws w w2) fun k hk => ⟨by have := HB1.out.size; omega, hk.2⟩)
    have HE2 := Lib.hid e2
    clear hb2 k2 c0 e2
    go_wp2
    go_ret2
    rw [HS.out, ← HE2.out]
    exact ⟨_, ret_vi HV.out.symm, HB2.out, HK2.out⟩

theorem RBottom_calls (m : List St) (v : Value) (D : Nat → Prop) (w : World) (hD : Lo D w) (h : ModelC w D v m) :
    Calls Tryz.prog 16 #[v] w fun e w' => ∃ v', e = .returned (.tuple #[v', .int .i64 (err (validB m))]) ∧ Below w.heap.size w w' ∧ Rows2 w' (nws w w') v' (botOf m) := by
  obtain ⟨mv, rfl, hmm⟩ := h
  have HM : Hid (ModelC w D (.agg #[mv]) m) := ⟨mv, rfl, hmm⟩
  obtain ⟨A, c, rfl, h1, h2, -⟩ := hmm.form
  unfold maxLen at h2
  obtain ⟨W0, hW0, hb0, hz0, hx0⟩ := rb1 w #[.slice A m.length c] 24
  have HB0 := Lib.hid hb0
  have HX0 := Lib.hid hx0
  have HZ0 := Lib.hid hz0
  have HW0 := Lib.hid hW0
  clear hmm hb0 hx0 hz0 hW0
  obtain ⟨c0, -⟩ := blk_at HX0.out 0
  go_enter Tryz.func16, Tryz.ntmps16
  go_upto_region 1 with fail
  rw [← HW0.out]
  clear HW0
  go_wp2_with fail
  refine (RMValid_calls m _ D _ (hD.up HB0.out.size) (HM.out.same (hD.same HB0.out))).mono ?_
  rintro e w1 ⟨rfl, hb1⟩
  have HB1 := Lib.hid (HB0.out.trans (hb1.mono HB0.out.size))
  have HX1 := Lib.hid ((hb1.block w.heap.size (by have := HZ0.out; omega)).trans HX0.out)
  clear hb1 c0
  obtain ⟨c0, -⟩ := blk_at HX1.out 0
  cases hv : validB m with
  | false =>
    have HS := Lib.hid (show botOf m = [] by unfold botOf; rw [hv]; rfl)
    have HV := Lib.hid (show err (validB m) = 1 by rw [hv]; rfl)
    clear hv
    go_wp2
    go_ret2
    rw [HS.out]
    exact ⟨_, ret_vi HV.out.symm, HB1.out, Sl.nil _ _ _⟩
  | true =>
    have HFI := Lib.hid (Fine.of_valid hv)
    have HS := Lib.hid (show botOf m = (Tar.parts (m.map nextOf)).filter fun l => !leaves (m.map nextOf) l by unfold botOf; rw [hv, parts_partsOf (Fine.of_valid hv)]; rfl)
    have HV := Lib.hid (show err (validB m) = 0 by rw [hv]; rfl)
    clear hv
    go_wp2_with fail
    refine (RBottoms_calls m _ D w1 (hD.up HB1.out.size) (HM.out.same (hD.same HB1.out)) HFI.out).mono ?_
    rintro e w2 ⟨v2, ps, rfl, hb2, k2, e2⟩
    have HB2 := Lib.hid (HB1.out.trans (hb2.mono HB1.out.size))
    have HK2 := Lib.hid ((k2.slS).mono (D' := nws w w2) fun k hk => ⟨by have := HB1.out.size; omega, hk.2⟩)
    have HE2 := Lib.hid e2
    clear hb2 k2 c0 e2
    go_wp2
    go_ret2
    rw [HS.out, ← HE2.out]
    exact ⟨_, ret_vi HV.out.symm, HB2.out, HK2.out⟩

theorem RPeriod_calls (m : List St) (v : Value) (D : Nat → Prop) (w : World) (hD : Lo D w) (h : ModelC w D v m) :
    Calls Tryz.prog 17 #[v] w fun e w' => ∃ v', e = .returned (.tuple #[v', .int .i64 (err (validB m))]) ∧ Below w.heap.size w w' ∧ Sl (Kind.int .i64) w' (nws w w') v' (periodsOf m) := by
  obtain ⟨mv, rfl, hmm⟩ := h
  have HM : Hid (ModelC w D (.agg #[mv]) m) := ⟨mv, rfl, hmm⟩
  obtain ⟨A, c, rfl, h1, h2, -⟩ := hmm.form
  unfold maxLen at h2
  obtain ⟨W0, hW0, hb0, hz0, hx0⟩ := rb1 w #[.slice A m.length c] 24
  have HB0 := Lib.hid hb0
  have HX0 := Lib.hid hx0
  have HZ0 := Lib.hid hz0
  have HW0 := Lib.hid hW0
  clear hmm hb0 hx0 hz0 hW0
  obtain ⟨c0, -⟩ := blk_at HX0.out 0
  go_enter Tryz.func17, Tryz.ntmps17
  go_upto_region 1 with fail
  rw [← HW0.out]
  clear HW0
  go_wp2_with fail
  refine (RMValid_calls m _ D _ (hD.up HB0.out.size) (HM.out.same (hD.same HB0.out))).mono ?_
  rintro e w1 ⟨rfl, hb1⟩
  have HB1 := Lib.hid (HB0.out.trans (hb1.mono HB0.out.size))
  have hz1 : w.heap.size + 1 ≤ w1.heap.size := by have := hb1.size; have := HZ0.out; omega
  have HX1 := Lib.hid ((hb1.block w.heap.size (by have := HZ0.out; omega)).trans HX0.out)
  clear hb1 c0
  obtain ⟨c0, -⟩ := blk_at HX1.out 0
  cases hv : validB m with
  | false =>
    have HS := Lib.hid (show periodsOf m = [] by unfold periodsOf; rw [hv]; rfl)
    have HV := Lib.hid (show err (validB m) = 1 by rw [hv]; rfl)
    clear hv
    go_wp2
    go_ret2
    rw [HS.out]
    exact ⟨_, ret_vi HV.out.symm, HB1.out, Sl.nil _ _ _⟩
  | true =>
    have hfine := Fine.of_valid hv
    have HFI := Lib.hid hfine
    have HLEN := hfine.len
    obtain ⟨next, hnx⟩ : ∃ next, next = m.map nextOf := ⟨_, rfl⟩
    have hnl : next.length = m.length := by rw [hnx, List.length_map]
    have hed : Edges next := by rw [hnx]; exact Edges.of_fine hfine
    have HS := Lib.hid (show periodsOf m = (Tar.parts next).map (perRef next) by
      unfold periodsOf
      rw [hv, if_pos rfl, ← hnx, ← show Tar.parts next = partsOf next by rw [hnx]; exact parts_partsOf hfine]
      exact List.map_congr_left fun l hl => (perRef_perOf hed hl).symm)
    have HIN := Lib.hid (show ∀ l ∈ Tar.parts next, l ≠ [] ∧ (∀ s ∈ l, 0 ≤ s ∧ s < (m.length : Int)) ∧ l.length ≤ m.length by
      have := parts_mem hed.ins
      rw [hnl] at this
      exact this)
    have HPL := Lib.hid (show (Tar.parts next).length ≤ m.length by have := parts_len (next := next); omega)
    have HNX := Lib.hid hnx
    have HV := Lib.hid (show err (validB m) = 0 by rw [hv]; rfl)
    clear hv hfine hnx hnl hed
    go_wp2_with fail
    refine (RParts_calls m _ D w1 (hD.up HB1.out.size) (HM.out.same (hD.same HB1.out)) HFI.out).mono ?_
    rintro e w2 ⟨v2, ps, rfl, hb2, k2, e2⟩
    rw [← HNX.out] at e2
    have hpsl : ps.length ≤ m.length := by have := HPL.out; rw [← e2, List.length_map] at this; exact this
    have HPS := Lib.hid e2
    have HB2 := Lib.hid (HB1.out.trans (hb2.mono HB1.out.size))
    have HX2 := Lib.hid ((hb2.block w.heap.size (by omega)).trans HX1.out)
    have hz2 : w.heap.size < w2.heap.size := Nat.lt_of_lt_of_le hz1 hb2.size
    have HR2 := Lib.hid (show RowsC w2 (w.heap.size + 1) v2 ps from ⟨own_base k2.own (by omega), fun p hp => ⟨own_base (k2.row p hp).1 (by omega), (k2.row p hp).2⟩⟩)
    obtain ⟨P2, p2, rfl, pa, pb, hat⟩ := own_form k2.own
    unfold maxLen at pb
    have HAT := Lib.hid hat
    clear hb2 k2 c0 e2 hat
    go_wp2_with fail
    go_loopw [4, 13] (fun v4 k W => ∃ (i : Nat) (L : List Int), i ≤ ps.length ∧ k = .int .i64 (i : Int) ∧ Hid (Below w.heap.size w W) ∧ Hid (Below w2.heap.size w2 W) ∧ Hid (W.ownsRow w2.heap.size 3 1 v4 L.length (ints L)) ∧ L.length ≤ i ∧ Hid (L = (ps.take i).map fun p => perRef next p.2)) (fun _ k _ => ps.length - (intOf k).toNat)
    case atStart => exact ⟨0, [], Nat.zero_le _, rfl, HB2.out, Lib.hid (Below.refl _ _), Lib.hid (World.ownsRow_nil _ _ _ _), Nat.le_refl _, Lib.hid rfl⟩
    case round =>
      obtain ⟨i, L, hi, rfl, HBW, HBT, HO, hql, HQ⟩ := hrel
      have hown := HO.out
      obtain ⟨A3, c3, rfl, -, -, -⟩ := own_form hown
      clear hown
      have hsW : w2.heap.size ≤ wr.heap.size := HBT.out.size
      by_cases hlt : i < ps.length
      · obtain ⟨q, hq⟩ : ∃ q, ps[i]? = some q := ⟨_, List.getElem?_eq_getElem hlt⟩
        have HQI := Lib.hid hq
        have hqm : q.2 ∈ Tar.parts next := by rw [← HPS.out]; exact List.mem_map.2 ⟨q, List.mem_of_getElem? hq, rfl⟩
        obtain ⟨hqne, hin, hqlen⟩ := HIN.out _ hqm
        have hqpos : 0 < q.2.length := List.length_pos_iff.2 hqne
        have HQIN := Lib.hid hin
        obtain ⟨ad, rfl, ad0, ad1, -, hat⟩ := HAT.out (by omega)
        have r0 := (HBT.out.cell (p := ad.add i) (by rw [block_of_add]; exact ad1)).trans (hat i q.1 (by rw [List.getElem?_map, hq]; rfl))
        obtain ⟨hrow, -⟩ := HR2.out.row q (List.mem_of_getElem? hq)
        obtain ⟨Q1, q1, hqv, -, -, -⟩ := own_form hrow
        have HSL := Lib.hid (((own_intsS hrow).same (w' := wr) fun k hk => HBT.out.block k hk.2.1).mono (D' := fun k => D k ∨ (w.heap.size ≤ k ∧ k < w2.heap.size)) fun k hk => .inr ⟨by omega, hk.2.1⟩)
        have HMW := Lib.hid ((HM.out.same (hD.same HBW.out)).mono (D' := fun k => D k ∨ (w.heap.size ≤ k ∧ k < w2.heap.size)) fun _ h => .inl h)
        have HLO : Hid (Lo (fun k => D k ∨ (w.heap.size ≤ k ∧ k < w2.heap.size)) wr) := Lib.hid fun k hk => hk.elim (fun h => Nat.lt_of_lt_of_le (hD k h) HBW.out.size) fun h => Nat.lt_of_lt_of_le h.2 hsW
        have HX := Lib.hid ((HBT.out.block w.heap.size hz2).trans HX2.out)
        obtain ⟨c0, -⟩ := blk_at HX.out 0
        rw [hqv] at r0 HSL
        clear hq hqm hin hat hrow hqv hqne
        go_wp2_with fail
        refine (Rperiod_calls m q.2 _ _ _ wr HLO.out HMW.out HSL.out HFI.out HQIN.out hqpos (by omega)).mono ?_
        rintro e w4 ⟨rfl, hb4⟩
        rw [← HNX.out]
        have HB4 := Lib.hid (HBW.out.trans (hb4.mono HBW.out.size))
        have HBT4 := Lib.hid (HBT.out.trans (hb4.mono HBT.out.size))
        have HO4 := Lib.hid (own_kept HO.out fun k hk => hb4.block k (HO.out.lt k hk).2)
        have hs4 : w2.heap.size ≤ w4.heap.size := Nat.le_trans hsW hb4.size
        obtain ⟨g, hg⟩ : ∃ g, g = perRef next q.2 := ⟨_, rfl⟩
        rw [← hg]
        have HQ2 := Lib.hid (show L ++ [g] = (ps.take (i + 1)).map fun p => perRef next p.2 by rw [List.take_add_one, HQI.out, List.map_append, ← HQ.out, hg]; rfl)
        clear hb4 r0 c0 hg
        go_wp2_with ((at_builtin); (refine wpList_app1 elem_i64 rfl _ _ rfl w2.heap.size _ L.length (ints L) rfl (HO4.out.alloc _) ⟨_, 0, none⟩ 1 _ rfl (cell_new1 _ _ _) rfl (by omega) (by omega) (by simp; omega) ?_); (intro v6 w6 ho6 hg6 ha6); (have HO6 := Lib.hid ho6); (have HG6 := Lib.hid hg6); (obtain ⟨A6, c6, rfl, -, -, -⟩ := own_form ho6); (clear ho6 hg6 ha6))
        have hb6 := (HB4.out.alloc HB4.out.size (.cells #[.int .i64 g] 3)).grown HG6.out (by simp; omega) (fun k hk => by have := (HO4.out.lt k hk).1; omega)
        have ht6 := (HBT4.out.alloc HBT4.out.size (.cells #[.int .i64 g] 3)).grown HG6.out (by simp; omega) (fun k hk => (HO4.out.lt k hk).1)
        exact ⟨⟨i + 1, L ++ [g], by omega, by go_num, hb6, ht6, Lib.hid (by simpa [ints] using HO6.out), by simp; omega, HQ2⟩, by simp [intOf]; omega⟩
      · obtain rfl : i = ps.length := by omega
        have HE := Lib.hid (show periodsOf m = L by
          rw [HS.out, HQ.out, List.take_length, ← HPS.out, List.map_map]; rfl)
        have HRR := Lib.hid ((own_intsS HO.out).mono (D' := nws w wr) fun k hk => ⟨by omega, hk.2⟩)
        clear hlt
        go_wp2
        go_ret2
        rw [HE.out]
        exact ⟨_, ret_vi HV.out.symm, HBW.out, HRR.out⟩
end Go.Proofs.YtoffbdlgmnpblaaGreat

/- GraphParts: the reference's and the program's Components, Bottom, Period agree. -/
namespace Go.Proofs.YtoffbdlgmnpblaaGreat
open Go.RowKit
set_option maxHeartbeats 4000000
set_option maxRecDepth 100000

theorem GraphParts_calls (m : List St) (v : Value) (w : World) (h : ModelC w (· < w.heap.size) v m) :
    Calls Tryz.prog 3 #[v] w fun e w' => e = .returned (.bool true) ∧ Below w.heap.size w w' := by
  obtain ⟨mv, rfl, hmm⟩ := h
  have HM : Hid (ModelC w (· < w.heap.size) (.agg #[mv]) m) := ⟨mv, rfl, hmm⟩
  obtain ⟨A, c, rfl, h1, h2, -⟩ := hmm.form
  unfold maxLen at h2
  have hlo : Lo (· < w.heap.size) w := fun _ hk => hk
  have HLO := Lib.hid hlo
  obtain ⟨W0, hW0, hb0, hz0, hx0⟩ := rb1 w #[.slice A m.length c] 24
  have HB0 := Lib.hid hb0
  have HX0 := Lib.hid hx0
  have HW0 := Lib.hid hW0
  have hz : w.heap.size < W0.heap.size := by omega
  clear hmm hlo hb0 hx0 hW0 hz0
  obtain ⟨c0, -⟩ := blk_at HX0.out 0
  go_enter Tryz.func3, Tryz.ntmps3
  go_upto_region 1 with fail
  rw [← HW0.out]
  clear HW0
  go_wp2_with fail
  refine (few5_calls m [] _ _ (· < w.heap.size) W0 (HLO.out.up HB0.out.size) (HM.out.same (HLO.out.same HB0.out)) (Sl.nil _ _ _)).mono ?_
  rintro e w1 ⟨rfl, hb1⟩
  have HB1 := Lib.hid (HB0.out.trans (hb1.mono HB0.out.size))
  have HX1 := Lib.hid ((hb1.block w.heap.size hz).trans HX0.out)
  have hz1 : w.heap.size < w1.heap.size := Nat.lt_of_lt_of_le hz hb1.size
  clear hb1 c0 HB0 HX0 hz
  obtain ⟨c0, -⟩ := blk_at HX1.out 0
  cases hf : few5 m [] with
  | false =>
    clear hf
    go_wp2_with fail
    refine (awake_calls w1).mono ?_
    rintro e w2 ⟨rfl, hb2⟩
    go_wp2
    go_ret
    exact ⟨rfl, HB1.out.trans (hb2.mono HB1.out.size)⟩
  | true =>
    clear hf
    obtain ⟨E1, hE1⟩ : ∃ E1, E1 = err (validB m) := ⟨_, rfl⟩
    have HE1 := Lib.hid hE1
    clear hE1
    go_wp2_with fail
    refine (RComponents_calls m _ (· < w.heap.size) w1 (HLO.out.up HB1.out.size) (HM.out.same (HLO.out.same HB1.out))).mono ?_
    rintro e w2 ⟨v2, rfl, hb2, hr2⟩
    rw [← HE1.out]
    have HB2 := Lib.hid (HB1.out.trans (hb2.mono HB1.out.size))
    have HX2 := Lib.hid ((hb2.block w.heap.size hz1).trans HX1.out)
    have hz2 : w.heap.size < w2.heap.size := Nat.lt_of_lt_of_le hz1 hb2.size
    have HC2 := Lib.hid hb2
    have HR2 := Lib.hid hr2
    clear hb2 hr2 c0 HX1
    obtain ⟨c0, -⟩ := blk_at HX2.out 0
    go_wp2_with fail
    refine (RBottom_calls m _ (· < w.heap.size) w2 (HLO.out.up HB2.out.size) (HM.out.same (HLO.out.same HB2.out))).mono ?_
    rintro e w3 ⟨v3, rfl, hb3, hr3⟩
    rw [← HE1.out]
    have HB3 := Lib.hid (HB2.out.trans (hb3.mono HB2.out.size))
    have HX3 := Lib.hid ((hb3.block w.heap.size hz2).trans HX2.out)
    have hz3 : w.heap.size < w3.heap.size := Nat.lt_of_lt_of_le hz2 hb3.size
    have HC3 := Lib.hid hb3
    have HR3 := Lib.hid hr3
    clear hb3 hr3 c0 HX2
    obtain ⟨c0, -⟩ := blk_at HX3.out 0
    go_wp2_with fail
    refine (RPeriod_calls m _ (· < w.heap.size) w3 (HLO.out.up HB3.out.size) (HM.out.same (HLO.out.same HB3.out))).mono ?_
    rintro e w4 ⟨v4, rfl, hb4, hr4⟩
    rw [← HE1.out]
    have HB4 := Lib.hid (HB3.out.trans (hb4.mono HB3.out.size))
    have HX4 := Lib.hid ((hb4.block w.heap.size hz3).trans HX3.out)
    have hz4 : w.heap.size < w4.heap.size := Nat.lt_of_lt_of_le hz3 hb4.size
    have HC4 := Lib.hid hb4
    have HR4 := Lib.hid hr4
    clear hb4 hr4 c0 HX3
    obtain ⟨c0, -⟩ := blk_at HX4.out 0
    go_wp2_with fail
    refine (Components_calls m _ (· < w.heap.size) w4 (HLO.out.up HB4.out.size) (HM.out.same (HLO.out.same HB4.out))).mono ?_
    rintro e w5 ⟨v5, rfl, hb5, hr5⟩
    rw [← HE1.out]
    have HB5 := Lib.hid (HB4.out.trans (hb5.mono HB4.out.size))
    have HX5 := Lib.hid ((hb5.block w.heap.size hz4).trans HX4.out)
    have hz5 : w.heap.size < w5.heap.size := Nat.lt_of_lt_of_le hz4 hb5.size
    have HC5 := Lib.hid hb5
    have HR5 := Lib.hid hr5
    clear hb5 hr5 c0 HX4
    obtain ⟨c0, -⟩ := blk_at HX5.out 0
    go_wp2_with fail
    refine (Bottom_calls m _ (· < w.heap.size) w5 (HLO.out.up HB5.out.size) (HM.out.same (HLO.out.same HB5.out))).mono ?_
    rintro e w6 ⟨v6, rfl, hb6, hr6⟩
    rw [← HE1.out]
    have HB6 := Lib.hid (HB5.out.trans (hb6.mono HB5.out.size))
    have HX6 := Lib.hid ((hb6.block w.heap.size hz5).trans HX5.out)
    have hz6 : w.heap.size < w6.heap.size := Nat.lt_of_lt_of_le hz5 hb6.size
    have HC6 := Lib.hid hb6
    have HR6 := Lib.hid hr6
    clear hb6 hr6 c0 HX5
    obtain ⟨c0, -⟩ := blk_at HX6.out 0
    go_wp2_with fail
    refine (Period_calls m _ (· < w.heap.size) w6 (HLO.out.up HB6.out.size) (HM.out.same (HLO.out.same HB6.out))).mono ?_
    rintro e w7 ⟨v7, rfl, hb7, hr7⟩
    rw [← HE1.out]
    have HB7 := Lib.hid (HB6.out.trans (hb7.mono HB6.out.size))
    have HX7 := Lib.hid ((hb7.block w.heap.size hz6).trans HX6.out)
    have hz7 : w.heap.size < w7.heap.size := Nat.lt_of_lt_of_le hz6 hb7.size
    have HC7 := Lib.hid hb7
    have HR7 := Lib.hid hr7
    clear hb7 hr7 c0 HX6
    obtain ⟨c0, -⟩ := blk_at HX7.out 0
    have HT7 := Lib.hid (Below.refl w7.heap.size w7)
    have HT6 := Lib.hid (HC7.out.trans (HT7.out.mono HC7.out.size))
    have HT5 := Lib.hid (HC6.out.trans (HT6.out.mono HC6.out.size))
    have HT4 := Lib.hid (HC5.out.trans (HT5.out.mono HC5.out.size))
    have HT3 := Lib.hid (HC4.out.trans (HT4.out.mono HC4.out.size))
    have HT2 := Lib.hid (HC3.out.trans (HT3.out.mono HC3.out.size))
    have HQ2 := Lib.hid (rows_later HR2.out (fun k hk => hk.2.1) HT2.out HT2.out.size)
    have HQ3 := Lib.hid (rows_later HR3.out (fun k hk => hk.2.1) HT3.out HT3.out.size)
    have HQ4 := Lib.hid (ints_later HR4.out (fun k hk => hk.2.1) HT4.out HT4.out.size)
    have HQ5 := Lib.hid (rows_later HR5.out (fun k hk => hk.2.1) HT5.out HT5.out.size)
    have HQ6 := Lib.hid (rows_later HR6.out (fun k hk => hk.2.1) HT6.out HT6.out.size)
    have HQ7 := Lib.hid (ints_later HR7.out (fun k hk => hk.2.1) HT7.out HT7.out.size)
    clear HR2 HC2 HR3 HC3 HR4 HC4 HR5 HC5 HR6 HC6 HR7 HC7 HT2 HT3 HT4 HT5 HT6 HT7 c0 HX7
    have HD0 := Lib.hid (Drawn.refl w7)
    go_wp2_with fail
    refine (lists_same _ _ _ (· < w7.heap.size) w7 (HQ5.out.same (HD0.out.same _)) (HQ2.out.same (HD0.out.same _)) (comps_bd m)).mono ?_
    rintro e w20 ⟨rfl, hd20⟩
    have HD1 := Lib.hid (HD0.out.trans hd20)
    clear hd20
    go_wp2_with fail
    refine (lists_same _ _ _ (· < w7.heap.size) w20 (HQ6.out.same (HD1.out.same _)) (HQ3.out.same (HD1.out.same _)) (bot_bd m)).mono ?_
    rintro e w21 ⟨rfl, hd21⟩
    have HD2 := Lib.hid (HD1.out.trans hd21)
    clear hd21
    go_wp2_with fail
    refine (list_same _ _ _ (· < w7.heap.size) w21 (HQ7.out.same (HD2.out.same _)) (HQ4.out.same (HD2.out.same _)) (periods_bd m)).mono ?_
    rintro e w22 ⟨rfl, hd22⟩
    have HD3 := Lib.hid (HD2.out.trans hd22)
    clear hd22
    have HBZ := Lib.hid (HB7.out.trans (HD3.out.below w.heap.size))
    go_wp2_with fail
    refine (awake_calls w22).mono ?_
    rintro e w30 ⟨rfl, hb30⟩
    go_wp2
    go_ret
    exact ⟨rfl, HBZ.out.trans (hb30.mono HBZ.out.size)⟩
end Go.Proofs.YtoffbdlgmnpblaaGreat

/- What came in reads as a model, and as a list of numbers. -/
namespace Go.Proofs.YtoffbdlgmnpblaaGreat
open Go.RowKit Go.ChangeShapes Go.WideShapes
set_option maxHeartbeats 1000000
set_option maxRecDepth 100000

theorem blk_lt {w : World} {ad : Addr} {u : Value} (h : w.cell? ad = some u) : ad.block < w.heap.size := by
  unfold World.cell? at h
  cases hh : w.heap[ad.block]? with
  | none => rw [hh] at h; cases h
  | some x => exact (Array.getElem?_eq_some_iff.1 hh).1

section
variable {H : Type} {enc : TypeId × Value → H} {P : Program} {w : World}

theorem Sl.of_trod {α : Type} {K : Kind α} {t e : TypeId} {fuel : Nat} {v : Value} {x : DataW H × List MemPlace} (ht : P.underlying t = some (.slice e)) (hsz : P.cellsOf e = K.sz) (hp : 0 < K.sz)
    (hK : ∀ (n : Nat) (cs : List Value) (x : DataW H × List MemPlace), DataW.trod enc P w 0 (fun _ => true) true n e cs = some x → ∃ y : α, K.R w (· < w.heap.size) cs y)
    (h : DataW.trod enc P w 0 (fun _ => true) true fuel t [v] = some x) : ∃ l : List α, Sl K w (· < w.heap.size) v l := by
  rcases Deep.open_slice ht h with ⟨hcs, -⟩ | ⟨a, len, cap, m, n, D, Pl, hcs, -, hl, hm, hmm, -, hx⟩
  · injection hcs with e1 e2
    subst e1
    exact ⟨[], Sl.nil _ _ _⟩
  · injection hcs with e1 e2
    subst e1
    have hone : ∀ i, i < len → ∃ (y : α) (cs : List Value), w.cells? 0 (a.add (i * P.cellsOf e)) (P.cellsOf e) = some cs ∧ K.R w (· < w.heap.size) cs y := fun i hi => by
      obtain ⟨cs, h1, h2⟩ := hx i (by rw [hmm, if_pos rfl]; omega)
      obtain ⟨y, hy⟩ := hK _ _ _ h2
      exact ⟨y, cs, h1, hy⟩
    let l : List α := List.ofFn fun i : Fin len => Classical.choose (hone i.1 i.2)
    have hll : l.length = len := List.length_ofFn
    refine ⟨l, some a, cap, by rw [hll], by rw [hll]; exact hl, hm, fun i y hy => ?_⟩
    have hi : i < len := by have := (List.getElem?_eq_some_iff.1 hy).1; omega
    have hy' : y = Classical.choose (hone i hi) := by
      obtain ⟨h1, h2⟩ := List.getElem?_eq_some_iff.1 hy
      rw [← h2]
      simp [l]
    obtain ⟨cs, h1, h2⟩ := Classical.choose_spec (hone i hi)
    rw [← hy'] at h2
    rw [hsz] at h1
    obtain ⟨-, hlen, hc⟩ := World.cells?_some h1
    have hc' : ∀ j u, cs[j]? = some u → w.cell? ((a.add (i * K.sz)).add j) = some u := fun j u hj => by
      have : j < K.sz := by have := (List.getElem?_eq_some_iff.1 hj).1; omega
      rw [hc j this, hj]
    refine ⟨a, cs, rfl, ?_, h2, hc'⟩
    have h0 := hc' 0 (cs[0]'(by omega)) (List.getElem?_eq_getElem _)
    have := blk_lt h0
    rw [block_of_add, block_of_add] at this
    exact this
end

section
variable {H : Type} {enc : TypeId × Value → H} {w : World}

theorem cells_num : Tryz.prog.cellsOf 94 = 2 := by kernel_rfl
theorem cells_int : Tryz.prog.cellsOf 3 = 1 := by kernel_rfl
theorem cells_br : Tryz.prog.cellsOf 103 = 3 := by kernel_rfl
theorem cells_ch : Tryz.prog.cellsOf 97 = 3 := by kernel_rfl
theorem cells_st : Tryz.prog.cellsOf 79 = 3 := by kernel_rfl
theorem cells_brs : Tryz.prog.cellsOf 95 = 1 := by kernel_rfl
theorem cells_chs : Tryz.prog.cellsOf 77 = 1 := by kernel_rfl
theorem cells_sts : Tryz.prog.cellsOf 22 = 1 := by kernel_rfl
theorem cells_model : Tryz.prog.cellsOf 24 = 1 := by kernel_rfl

theorem num_of_trod {n : Nat} {a b : Value} {x : DataW H × List MemPlace} (h : DataW.trod enc Tryz.prog w 0 (fun _ => true) true n 94 [a, b] = some x) : ∃ p q : Int, a = .int .i64 p ∧ b = .int .i64 q := by
  obtain ⟨y0, y1, m, -, -, h0, h1⟩ := trod_struct2 Tryz.underlying94 h
  obtain ⟨p, h0, -, -⟩ := DataW.trod_int Tryz.underlying3 h0
  obtain ⟨q, h1, -, -⟩ := DataW.trod_int Tryz.underlying3 h1
  simp [cells_int] at h0 h1
  exact ⟨p, q, h0, h1⟩

theorem br_of_trod (n : Nat) (cs : List Value) (x : DataW H × List MemPlace) (h : DataW.trod enc Tryz.prog w 0 (fun _ => true) true n 103 cs = some x) : ∃ y : Br, Kind.br.R w (· < w.heap.size) cs y := by
  obtain ⟨y0, y1, m, -, hl, h0, h1⟩ := trod_struct2 Tryz.underlying103 h
  rw [cells_br] at hl
  match cs, hl with
  | [a, b, c], _ =>
    simp only [cells_int, cells_num, List.drop, List.take] at h0 h1
    obtain ⟨p, h0, -, -⟩ := DataW.trod_int Tryz.underlying3 h0
    obtain ⟨q, r, rfl, rfl⟩ := num_of_trod h1
    injection h0 with h0 _
    subst h0
    exact ⟨⟨p, ⟨q, r⟩⟩, rfl⟩
theorem ch_of_trod (n : Nat) (cs : List Value) (x : DataW H × List MemPlace) (h : DataW.trod enc Tryz.prog w 0 (fun _ => true) true n 97 cs = some x) : ∃ y : Ch, Kind.ch.R w (· < w.heap.size) cs y := by
  obtain ⟨y0, y1, m, -, hl, h0, h1⟩ := trod_struct2 Tryz.underlying97 h
  rw [cells_ch] at hl
  match cs, hl with
  | [a, b, c], _ =>
    simp only [cells_brs, cells_num, List.drop, List.take] at h0 h1
    obtain ⟨q, r, rfl, rfl⟩ := num_of_trod h0
    obtain ⟨l, hl⟩ := Sl.of_trod (K := Kind.br) Tryz.underlying95 cells_br (by decide) br_of_trod h1
    exact ⟨⟨⟨q, r⟩, l⟩, c, rfl, hl⟩
theorem st_of_trod (n : Nat) (cs : List Value) (x : DataW H × List MemPlace) (h : DataW.trod enc Tryz.prog w 0 (fun _ => true) true n 79 cs = some x) : ∃ y : St, Kind.st.R w (· < w.heap.size) cs y := by
  obtain ⟨y0, y1, y2, m, -, hl, h0, h1, h2⟩ := Deep.trod_struct3 Tryz.underlying79 h
  rw [cells_st] at hl
  match cs, hl with
  | [a, b, c], _ =>
    simp only [cells_chs, cells_int, List.drop, List.take] at h0 h1 h2
    obtain ⟨p, h0, -, -⟩ := DataW.trod_int Tryz.underlying3 h0
    obtain ⟨q, h1, -, -⟩ := DataW.trod_int Tryz.underlying3 h1
    injection h0 with h0 _
    injection h1 with h1 _
    subst h0 h1
    obtain ⟨l, hl⟩ := Sl.of_trod (K := Kind.ch) Tryz.underlying77 cells_ch (by decide) ch_of_trod h2
    exact ⟨⟨p, q, l⟩, c, rfl, hl⟩

/-- a model that came in -/
theorem model_of_trod {u : Value} {d : DataW H} {p : List MemPlace} (h : DataW.Trod enc Tryz.prog w 0 (fun _ => true) true 24 (.agg #[u]) d p) : ∃ m : List St, ModelC w (· < w.heap.size) (.agg #[u]) m := by
  obtain ⟨n, h⟩ := h
  obtain ⟨y0, m, -, -, h0⟩ := trod_struct1 Tryz.underlying24 h
  simp only [Value.cells, cells_sts, List.drop, List.take] at h0
  obtain ⟨l, hl⟩ := Sl.of_trod (K := Kind.st) Tryz.underlying22 cells_st (by decide) st_of_trod h0
  exact ⟨l, u, rfl, hl⟩
end

end Go.Proofs.YtoffbdlgmnpblaaGreat

namespace Go.Proofs.YtoffbdlgmnpblaaGreat
open Go.ChangeShapes Go.WideShapes Go.ChangeAt Go.RowKit

theorem own : ownKnob Tryz.prog.godebug = none := by kernel_rfl
theorem laidOut : laidOutB Tryz.prog = true := by kernel_rfl
theorem one_of_size {α : Type} {cs : Array α} (h : cs.size = 1) : ∃ u, cs = #[u] := by
  obtain ⟨l⟩ := cs
  match l, h with
  | [u], _ => exact ⟨u, rfl⟩

set_option maxRecDepth 100000 in
theorem lifted (os : Os) (started : os.Started) (H : Type) (enc : TypeId × Value → H) :
    ReturnsInHanded {} Tryz.checked os 3 .any (Rows.graphPartsSpec.pre6 enc Tryz.prog Tryz.f3 Rows.graphPartsRow.domain false) (Rows.graphPartsSpec.post enc Tryz.prog Tryz.f3 false true false false) := by
  refine returnsInHanded_of_change (C := Tryz.checked) own started (by kernel_rfl) Tryz.func3
    (ChangeSpec.witness6 (enc := enc) (C := Tryz.checked) false ⟨#[], #[.agg #[.slice none 0 0]], []⟩ 8 (by kernel_rfl) (by kernel_rfl) (by kernel_rfl) (by kernel_rfl)) ?_
  intro W base args ds gs before hval0 hW hcnd _
  have hval : ∀ (j : Nat) t v, Tryz.f3.params[j]? = some t → args[j]? = some v → Value.okWide Tryz.prog W .any base t v := hval0
  have hW' := hW
  obtain ⟨p, q, hA0, hV, rfl, hfz, hnd⟩ := hW
  have hA : DataW.TrodAll enc Tryz.prog W 0 (fun _ => true) true Tryz.f3.params.toList args.toList ds p := hA0
  rw [Tryz.params3] at hA hval
  obtain ⟨v0, vs0, d0, ds0, p0, q0, hargs, rfl, rfl, h0, r0⟩ := trodAll_cons hA
  obtain ⟨rfl, rfl, rfl⟩ := trodAll_nil r0
  obtain rfl : args = #[v0] := by cases args; simp_all
  obtain ⟨rfl, rfl⟩ := trodVars_none hV
  obtain ⟨cs, rfl, hsz⟩ := okWide_struct Tryz.underlying24 (hval 0 24 v0 rfl rfl)
  obtain ⟨u, rfl⟩ := one_of_size (hsz.trans cells_model)
  have k0 := h0
  have lt0 : ∀ x ∈ p0, x.block < W.heap.size := by obtain ⟨m, hm⟩ := k0; exact DataW.trod_lt m _ _ _ hm
  obtain ⟨m, hm⟩ := model_of_trod h0
  clear hA0 hval0
  refine (GraphParts_calls m _ W hm).mono fun e W' ⟨he, bel⟩ => ?_
  subst he
  exact ⟨_, rfl, _, _, _, [], _, [], hW', trodAll_mk1 (shut_bool Tryz.underlying4 _), (trodAll_cons_mk (Below.trod laidOut (by kernel_rfl) (of_decide_eq_true (by kernel_rfl)) k0 bel lt0) trodAll_mk0), rfl, bel.frame _, fun h => by cases h⟩

theorem over : Rows.graphPartsRow.holds Tryz.pinned (OpenSpec.ofChange Rows.graphPartsSpec) :=
  OpenClaim.holds_of_wide 3 Tryz.f3 rfl rfl rfl rfl rfl rfl rfl ⟨rfl, rfl, rfl, rfl, rfl⟩ rfl rfl rfl rfl rfl (by kernel_rfl) Tryz.func3 (by kernel_rfl)
    (of_decide_eq_true (by kernel_rfl)) (by unfold Func.isWrapper; first | (rw [if_pos (by decide +kernel)]; kernel_rfl) | (rw [if_neg (by decide +kernel)]; exact ⟨rfl, rfl⟩))
    (fun os started H enc _ => lifted os started H enc)

theorem graphParts : Rows.GraphPartsSaid := over
#print axioms graphParts

end Go.Proofs.YtoffbdlgmnpblaaGreat
