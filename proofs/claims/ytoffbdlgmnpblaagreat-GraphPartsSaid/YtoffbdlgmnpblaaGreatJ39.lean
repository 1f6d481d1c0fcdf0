/- Part 39: Rf25 Rf26 Pat. -/
import Derived.Test.YtoffbdlgmnpblaaGreatJ38
import Derived.Test.YtoffbdlgmnpblaaGreatJ36
import Derived.Deep.RegionWith

/- The reference's reached states; Back. -/
namespace Go.Proofs.YtoffbdlgmnpblaaGreat
open Go.RowKit
set_option maxHeartbeats 4000000
set_option maxRecDepth 100000

theorem rVisit_take {r : List Int} {i : Nat} {t : Int} (ht : r[i]? = some t) (s : Int) (f : List Bool) : (r.take (i + 1)).foldl (Bfs.rVisit s) f = Bfs.rVisit s ((r.take i).foldl (Bfs.rVisit s) f) t := by
  rw [List.take_add_one, ht, List.foldl_append]; rfl

theorem RReached_calls (m : List St) (l : List Int) (v u : Value) (D : Nat → Prop) (w : World) (hD : Lo D w) (h : ModelC w D v m) (hl : Sl (Kind.int .i64) w D u l) (hf : Fine m) (hm : ∀ s ∈ l, 0 ≤ s ∧ s < (m.length : Int)) (hll : l.length ≤ 1000) :
    Calls Tryz.prog 82 #[v, u] w fun e w' => ∃ v', e = .returned v' ∧ Below w.heap.size w w' ∧ Sl Kind.bool w' (nws w w') v' (Bfs.reached (m.map nextOf) l) := by
  obtain ⟨mv, rfl, hmm⟩ := h
  have HM : Hid (ModelC w D (.agg #[mv]) m) := ⟨mv, rfl, hmm⟩
  obtain ⟨A, c, rfl, h1, h2, -⟩ := hmm.form
  have HL := Lib.hid hl
  obtain ⟨B, b, rfl, l1, l2, -⟩ := hl.form
  unfold maxLen at h2 l2
  have HLEN := hf.len
  have HF := Lib.hid hf
  have HIN := Lib.hid (Edges.of_fine hf).ins
  have HI := Lib.hid hm
  obtain ⟨next, hnx⟩ : ∃ next, next = m.map nextOf := ⟨_, rfl⟩
  have hnl : next.length = m.length := by rw [hnx, List.length_map]
  rw [← hnx] at HIN ⊢
  have HNX := Lib.hid hnx
  clear hmm hf hl hm hnx
  have HX0 := Lib.hid (heap_alloc_new w (.cells #[.slice A m.length c] 24))
  have HB0 := Lib.hid ((Below.refl w.heap.size w).alloc (Nat.le_refl _) (.cells #[.slice A m.length c] 24))
  go_enter Tryz.func82, Tryz.ntmps82
  go_wp2_with fail
  refine (RFlags_calls m.length l _ D _ (hD.up HB0.out.size) (HL.out.same (hD.same HB0.out)) HI.out (by omega) (by omega)).mono ?_
  rintro e w1 ⟨rfl, hb1, ho1⟩
  rw [World.size_alloc] at ho1 ⊢
  have HB1 := Lib.hid (HB0.out.trans (hb1.mono HB0.out.size))
  have HX1 := Lib.hid ((hb1.block w.heap.size (by simp)).trans HX0.out)
  have hz2 : w.heap.size + 2 ≤ w1.heap.size := by have := ho1.lt.2; omega
  have HO1 := Lib.hid ho1
  clear hb1 ho1
  obtain ⟨c0, -⟩ := blk_at HX1.out 0
  go_wp2_with fail
  refine (Rtable_calls m _ D w1 (hD.up HB1.out.size) (HM.out.same (hD.same HB1.out)) HF.out).mono ?_
  rintro e w5 ⟨v5, ps, rfl, hb5, hr5, hps⟩
  have hrl := hr5.slS
  rw [hps, ← HNX.out] at hrl
  obtain ⟨NA, nc, hnv, hn1, hn2, -⟩ := hrl.form
  rw [hnv] at hrl
  subst hnv
  rw [hnl] at hrl hn1 ⊢
  unfold maxLen at hn2
  have HN := Lib.hid (hrl.mono (D' := fun k => w.heap.size + 2 ≤ k ∧ k < w5.heap.size) fun k hk => ⟨by omega, hk.2.1⟩)
  have HB5 := Lib.hid (HB1.out.trans (hb5.mono HB1.out.size))
  have HX5 := Lib.hid ((hb5.block w.heap.size (by omega)).trans HX1.out)
  have hO5 := HO1.out.below hb5
  have hs5 : w.heap.size + 2 ≤ w5.heap.size := Nat.le_trans hz2 hb5.size
  have hR0 : Hid (Bfs.flags m.length l = Bfs.rTo next l 0) := Lib.hid (by rw [← hnl]; rfl)
  clear hb5 hr5 hrl hps c0 HO1 HB1 HX1 hz2
  obtain ⟨c0, -⟩ := blk_at HX5.out 0
  have hgrefl : w5.grownBy w5 (some (w.heap.size + 1)) := World.grownBy.refl _ _
  go_wp2_with fail
  go_loopw [20] (fun k W => ∃ (K : Nat) (d : List Bool), K ≤ m.length ∧ k = .int .i64 (K : Int) ∧ Hid (w5.grownBy W (some (w.heap.size + 1))) ∧ OwnFl W (w.heap.size + 1) (w.heap.size + 1) m.length d ∧ Hid (d = Bfs.rTo next l K)) (fun k _ => m.length - (intOf k).toNat)
  case atStart => exact ⟨0, _, Nat.zero_le _, rfl, hgrefl, hO5, hR0.out⟩
  case round =>
    clear hgrefl hO5 c0
    obtain ⟨K, d, hK, rfl, HG, hO, HDD⟩ := hrel
    have HXW := Lib.hid ((HG.out.block w.heap.size (by omega) (by simp)).trans HX5.out)
    by_cases hlt : K < m.length
    · obtain ⟨c0, -⟩ := blk_at HXW.out 0
      have HD0 : Hid (d = Bfs.rRound next (Bfs.rTo next l K) 0) := HDD
      clear HDD
      go_wp2
      go_loopw [25] (fun k W => ∃ (j : Nat) (d : List Bool), j ≤ m.length ∧ k = .int .i64 (j : Int) ∧ Hid (w5.grownBy W (some (w.heap.size + 1))) ∧ OwnFl W (w.heap.size + 1) (w.heap.size + 1) m.length d ∧ Hid (d = Bfs.rRound next (Bfs.rTo next l K) j)) (fun k _ => m.length - (intOf k).toNat)
      case atStart => exact ⟨0, _, Nat.zero_le _, rfl, HG.out, hO, HD0.out⟩
      case round =>
        clear hO HD0 HG HXW c0
        obtain ⟨j, d, hj, rfl, HG, hO, HDD⟩ := hrel
        by_cases hlj : j < m.length
        · obtain ⟨xs, hxs⟩ : ∃ xs, next[j]? = some xs := ⟨_, List.getElem?_eq_getElem (by omega)⟩
          have HSM : Hid (Same (fun k => w.heap.size + 2 ≤ k ∧ k < w5.heap.size) w5 wr) := Lib.hid fun k hk => HG.out.block k hk.2 (fun e => by injection e with e; omega)
          obtain ⟨ad, RB, rd, rfl, r0, hrs⟩ := Rows2.at_same HN.out HSM.out j xs hxs
          have HXS := Lib.hid (show Bfs.row next (j : Int) = xs by unfold Bfs.row; rw [Int.toNat_natCast, List.getD_eq_getElem?_getD, hxs]; rfl)
          have HXI := Lib.hid (HIN.out xs (List.mem_of_getElem? hxs))
          have hD0 : Hid (d = (xs.take 0).foldl (Bfs.rVisit j) (Bfs.rRound next (Bfs.rTo next l K) j)) := HDD
          obtain ⟨-, hrl1, hrl2⟩ := hrs.len
          have HRS := Lib.hid (hrs.same (w' := w5) fun k hk => (HSM.out k hk).symm)
          unfold maxLen at hrl2
          clear hxs hrs HDD
          go_wp2
          clear r0
          go_loopw [33] (fun k W => ∃ (i : Nat) (d : List Bool), i ≤ xs.length ∧ k = .int .i64 (i : Int) ∧ Hid (w5.grownBy W (some (w.heap.size + 1))) ∧ OwnFl W (w.heap.size + 1) (w.heap.size + 1) m.length d ∧ Hid (d = (xs.take i).foldl (Bfs.rVisit j) (Bfs.rRound next (Bfs.rTo next l K) j))) (fun k _ => xs.length - (intOf k).toNat)
          case atStart => exact ⟨0, _, Nat.zero_le _, rfl, HG.out, hO, hD0.out⟩
          case round =>
            clear hO hD0 HG HSM
            obtain ⟨i, d, hi, rfl, HG, hO, HDD⟩ := hrel
            by_cases hli : i < xs.length
            · obtain ⟨t, ht⟩ : ∃ t, xs[i]? = some t := ⟨_, List.getElem?_eq_getElem hli⟩
              obtain ⟨t0, t1⟩ := HXI.out t (List.mem_of_getElem? ht)
              rw [hnl] at t1
              have hsm : Same (fun k => w.heap.size + 2 ≤ k ∧ k < w5.heap.size) w5 wr := fun k hk => HG.out.block k hk.2 (fun e => by injection e with e; omega)
              obtain ⟨RA', rc', re, -, -, hrc⟩ := (HRS.out.same hsm).ints
              injection re with e1 e2 e3
              subst e1 e3
              obtain ⟨bd, rfl, -, hrc⟩ := hrc (by omega)
              have r1 := hrc i hli
              rw [Dig.gd_of ht] at r1
              obtain ⟨k1, k2⟩ := hO.cellAt t0 t1
              obtain ⟨k3, k4⟩ := hO.cellAt (t := (j : Int)) (by omega) (by omega)
              rw [Int.toNat_natCast] at k3 k4
              have HV := Lib.hid (show (xs.take (i + 1)).foldl (Bfs.rVisit j) (Bfs.rRound next (Bfs.rTo next l K) j) = Bfs.rVisit j d t by rw [rVisit_take ht, ← HDD.out])
              have HOO := Lib.hid fun y => hO.set (i := t.toNat) (by omega) y
              have HGG := Lib.hid fun y => grown_trans HG.out (grown_set wr (w.heap.size + 1) t.toNat y)
              have HW := Lib.hid (show Bfs.rVisit j d t = d.set t.toNat (Bfs.fl d t || Bfs.fl d j) from rfl)
              clear hrc ht hsm hO HDD
              obtain ⟨a, ha⟩ : ∃ a, a = Bfs.fl d j := ⟨_, rfl⟩
              obtain ⟨b', hb'⟩ : ∃ b, b = Bfs.fl d t := ⟨_, rfl⟩
              rw [← ha] at k3 HW
              rw [← hb'] at k1 HW
              clear ha hb'
              cases b' with
              | true =>
                have HE := Lib.hid (show d.set t.toNat true = (xs.take (i + 1)).foldl (Bfs.rVisit j) (Bfs.rRound next (Bfs.rTo next l K) j) by rw [HV.out, HW.out]; rfl)
                clear HW HV
                go_wp2
                exact ⟨⟨i + 1, _, by omega, by go_num, HGG.out _, HOO.out _, HE⟩, by simp [intOf]; omega⟩
              | false =>
                have HE := Lib.hid (show d.set t.toNat a = (xs.take (i + 1)).foldl (Bfs.rVisit j) (Bfs.rRound next (Bfs.rTo next l K) j) by rw [HV.out, HW.out, Bool.false_or])
                clear HW HV
                go_wp2
                exact ⟨⟨i + 1, _, by omega, by go_num, HGG.out _, HOO.out _, HE⟩, by simp [intOf]; omega⟩
            · obtain rfl : i = xs.length := by omega
              have HE := Lib.hid (show d = Bfs.rRound next (Bfs.rTo next l K) (j + 1) by
                rw [HDD.out, List.take_length, ← HXS.out]; rfl)
              clear hli HDD
              go_wp2
              exact ⟨⟨j + 1, d, by omega, by go_num, HG, hO, HE⟩, by simp [intOf]; omega⟩
        · obtain rfl : j = m.length := by omega
          have HE := Lib.hid (show d = Bfs.rTo next l (K + 1) by rw [HDD.out, ← hnl]; rfl)
          clear hlj HDD
          go_wp2
          exact ⟨⟨K + 1, d, by omega, by go_num, HG, hO, HE⟩, by simp [intOf]; omega⟩
    · obtain rfl : K = m.length := by omega
      have HE := Lib.hid (show Bfs.reached next l = d by rw [HDD.out, ← hnl]; rfl)
      clear hlt HDD
      go_wp2
      go_ret
      rw [HE.out]
      exact ⟨_, rfl, HB5.out.grown HG.out (by omega) (fun k hk => by injection hk with hk; omega), (hO.sl (by unfold maxLen; omega)).mono fun k hk => ⟨by omega, hk.2⟩⟩

theorem RBack_calls (m : List St) (l : List Int) (v u : Value) (D : Nat → Prop) (w : World) (hD : Lo D w) (h : ModelC w D v m) (hl : Sl (Kind.int .i64) w D u l) (hf : Fine m) (hm : ∀ s ∈ l, 0 ≤ s ∧ s < (m.length : Int)) (hll : l.length ≤ 1000) :
    Calls Tryz.prog 83 #[v, u] w fun e w' => ∃ v', e = .returned v' ∧ Below w.heap.size w w' ∧ Sl Kind.bool w' (nws w w') v' ((Bfs.ways (m.map nextOf) l).map fun x => decide (0 ≤ x)) := by
  obtain ⟨mv, rfl, hmm⟩ := h
  have HM : Hid (ModelC w D (.agg #[mv]) m) := ⟨mv, rfl, hmm⟩
  obtain ⟨A, c, rfl, h1, h2, -⟩ := hmm.form
  have HL := Lib.hid hl
  obtain ⟨B, b, rfl, l1, l2, -⟩ := hl.form
  unfold maxLen at h2 l2
  have HLEN := hf.len
  have HF := Lib.hid hf
  have HI := Lib.hid hm
  obtain ⟨ds, hds⟩ : ∃ ds, ds = Bfs.ways (m.map nextOf) l := ⟨_, rfl⟩
  have hdl : ds.length = m.length := by rw [hds, Bfs.ways_len, List.length_map]
  rw [← hds]
  have HDS := Lib.hid hds
  clear hmm hf hl hm hds
  have HX0 := Lib.hid (heap_alloc_new w (.cells #[.slice A m.length c] 24))
  have HB0 := Lib.hid ((Below.refl w.heap.size w).alloc (Nat.le_refl _) (.cells #[.slice A m.length c] 24))
  go_enter Tryz.func83, Tryz.ntmps83
  go_upto_region 2 with (refine wpList_mk1 elem_bool rfl _ _ rfl (by intro cs h; cases h) (w.heap.size + 1) _ _ (m.length : Int) (m.length : Int) rfl rfl (by omega) (by omega) (by omega) (by omega) (by simp) ?_; intro w1 hown hb1 hz1 hcells)
  have hown' : OwnFl w1 (w.heap.size + 1) (w.heap.size + 1) m.length (List.replicate m.length false) := by simpa [OwnFl, bls] using hown
  have HB1 := Lib.hid (HB0.out.trans (hb1.mono (by simp)))
  have hz2 : w.heap.size + 2 ≤ w1.heap.size := by rw [hz1]; simp
  have HX1 := Lib.hid ((hb1.block w.heap.size (by simp)).trans HX0.out)
  clear hown hcells hb1 hz1 HB0 HX0
  obtain ⟨c0, -⟩ := blk_at HX1.out 0
  go_wp2_with fail
  refine (RWays_calls m l _ _ D w1 (hD.up HB1.out.size) (HM.out.same (hD.same HB1.out)) (HL.out.same (hD.same HB1.out)) HF.out HI.out hll).mono ?_
  rintro e w5 ⟨v5, rfl, hb5, hd5⟩
  rw [← HDS.out] at hd5
  obtain ⟨NA, nc, rfl, hn1, hn2, -⟩ := hd5.form
  unfold maxLen at hn2
  have HN := Lib.hid (hd5.mono (D' := fun k => w.heap.size + 2 ≤ k ∧ k < w5.heap.size) fun k hk => ⟨by have := hk.1; omega, hk.2.1⟩)
  have HB5 := Lib.hid (HB1.out.trans (hb5.mono HB1.out.size))
  have hO5 := hown'.below hb5
  have hs5 : w.heap.size + 2 ≤ w5.heap.size := Nat.le_trans hz2 hb5.size
  have hR0 : Hid (List.replicate m.length false = (ds.take 0).map (fun x => decide (0 ≤ x)) ++ List.replicate (m.length - 0) false) := Lib.hid (by simp)
  have hgrefl : w5.grownBy w5 (some (w.heap.size + 1)) := World.grownBy.refl _ _
  clear hb5 hd5 c0 hown' HB1 HX1 hz2
  go_wp2_with fail
  go_loopw [16] (fun k W => ∃ (i : Nat) (d : List Bool), i ≤ m.length ∧ k = .int .i64 (i : Int) ∧ Hid (w5.grownBy W (some (w.heap.size + 1))) ∧ OwnFl W (w.heap.size + 1) (w.heap.size + 1) m.length d ∧ Hid (d = (ds.take i).map (fun x => decide (0 ≤ x)) ++ List.replicate (m.length - i) false)) (fun k _ => m.length - (intOf k).toNat)
  case atStart => exact ⟨0, _, Nat.zero_le _, rfl, hgrefl, hO5, hR0.out⟩
  case round =>
    clear hO5 hR0 hgrefl
    obtain ⟨i, d, hi, rfl, HG, hO, HDD⟩ := hrel
    by_cases hli : i < m.length
    · obtain ⟨x, hx⟩ : ∃ x, ds[i]? = some x := ⟨_, List.getElem?_eq_getElem (by omega)⟩
      have hsm : Same (fun k => w.heap.size + 2 ≤ k ∧ k < w5.heap.size) w5 wr := fun k hk => HG.out.block k hk.2 (fun e => by injection e with e; omega)
      obtain ⟨RA', rc', re, -, -, hrc⟩ := (HN.out.same hsm).ints
      injection re with e1 e2 e3
      subst e1 e3
      obtain ⟨bd, rfl, -, hrc⟩ := hrc (by omega)
      have r1 := hrc i (by omega)
      rw [Dig.gd_of hx] at r1
      obtain ⟨k1, k2⟩ := hO.cellAt (t := (i : Int)) (by omega) (by omega)
      rw [Int.toNat_natCast] at k1 k2
      have HOO := Lib.hid fun y => hO.set (i := i) hli y
      have HGG := Lib.hid fun y => grown_trans HG.out (grown_set wr (w.heap.size + 1) i y)
      have HE := Lib.hid (show d.set i (decide (0 ≤ x)) = (ds.take (i + 1)).map (fun x => decide (0 ≤ x)) ++ List.replicate (m.length - (i + 1)) false by
        have hl1 : ((ds.take i).map fun x => decide (0 ≤ x)).length = i := by rw [List.length_map, List.length_take]; omega
        have e : m.length - i = (m.length - (i + 1)) + 1 := by omega
        rw [HDD.out, List.set_append_right _ _ (by rw [hl1]; exact Nat.le_refl _), hl1, Nat.sub_self, e, List.replicate_succ, List.set_cons_zero, List.take_add_one, hx]
        simp)
      have hlen5 : ds.length = m.length := hdl
      clear hrc hx hsm hO HDD
      go_wp2
      exact ⟨⟨i + 1, _, by omega, by go_num, HGG.out _, HOO.out _, HE⟩, by simp [intOf]; omega⟩
    · obtain rfl : i = m.length := by omega
      have HE := Lib.hid (show (ds.map fun x => decide (0 ≤ x)) = d by rw [HDD.out, ← hdl, List.take_length, Nat.sub_self]; simp)
      clear hli HDD
      go_wp2
      go_ret
      rw [HE.out]
      exact ⟨_, rfl, HB5.out.grown HG.out (by omega) (fun k hk => by injection hk with hk; omega), (hO.sl (by unfold maxLen; omega)).mono fun k hk => ⟨by omega, hk.2⟩⟩
end Go.Proofs.YtoffbdlgmnpblaaGreat

/- The reference's Edges, From, To, Distance. -/
namespace Go.Proofs.YtoffbdlgmnpblaaGreat
open Go.RowKit
set_option maxHeartbeats 4000000
set_option maxRecDepth 100000

theorem fl_map_ways {d : List Int} {x : Int} (h0 : 0 ≤ x) (h1 : x < (d.length : Int)) : Bfs.fl (d.map fun y => decide (0 ≤ y)) x = decide (0 ≤ Bfs.at' d x) := by
  have h := Bfs.at_get h0 h1
  unfold Bfs.fl
  rw [List.getD_eq_getElem?_getD, List.getElem?_map, h]; rfl
end Go.Proofs.YtoffbdlgmnpblaaGreat

/- Package graph: Path. -/
namespace Go.Proofs.YtoffbdlgmnpblaaGreat
open Go.RowKit
set_option maxHeartbeats 4000000
set_option maxRecDepth 100000

/-- what the loop of Path knows of memory -/
structure PathW (W0 W : World) (sb : Nat) (ov : Value) (cur : Int) (L : List Int) : Prop where
  grow : W0.grownBy W (some sb)
  cell : W.heap[sb]? = some (.cells #[.int .i64 cur] 3 (0, 0))
  own : W.ownsRow W0.heap.size 3 1 ov L.length (ints L)
section
variable {W0 W : World} {sb : Nat} {ov : Value} {cur : Int} {L : List Int}
theorem PathW.same (h : PathW W0 W sb ov cur L) {D : Nat → Prop} (hD : ∀ k, D k → k < W0.heap.size ∧ k ≠ sb) : Same D W0 W := fun k hk => h.grow.block k (hD k hk).1 fun e => (hD k hk).2 (by injection e)
theorem PathW.old (h : PathW W0 W sb ov cur L) {b o : Nat} (hb : b < W0.heap.size) (hne : b ≠ sb) : W.cell? ⟨b, o, none⟩ = W0.cell? ⟨b, o, none⟩ := World.cell?_of_block (w := W0) (a := ⟨b, o, none⟩) (h.grow.block b hb fun e => hne (by injection e))
theorem PathW.drewN (h : PathW W0 W sb ov cur L) (n : Nat) : PathW W0 (W.drewN n) sb ov cur L := ⟨⟨h.grow.os, h.grow.tape, h.grow.output, h.grow.size, h.grow.block⟩, h.cell, own_kept h.own fun _ _ => rfl⟩
theorem PathW.at (h : PathW W0 W sb ov cur L) : W.cell? ⟨sb, 0, none⟩ = some (.int .i64 cur) ∧ W.frozen? ⟨sb, 0, none⟩ = false := by
  constructor
  · simp [World.cell?, h.cell]
  · simp [World.frozen?, h.cell]
theorem PathW.set (h : PathW W0 W sb ov cur L) (hsb : sb < W0.heap.size) (y : Int) : PathW W0 (W.setCell ⟨sb, 0, none⟩ (.int .i64 y)) sb ov y L := by
  refine ⟨grown_trans h.grow (grown_set W sb 0 _), by simp [World.setCell, Array.getElem?_modify, h.cell], own_kept h.own fun k hk => Below.heap_setCell W _ _ k (fun e => ?_)⟩
  have := (h.own.lt k hk).1
  have e : k = sb := e
  omega
theorem PathW.app (h : PathW W0 W sb ov cur L) (hsb : sb < W0.heap.size) {o : Obj} {w3 : World} {v3 : Value} {y : Int} (hg : (W.alloc o).grownBy w3 ov.ownBlock) (ho : w3.ownsRow W0.heap.size 3 1 v3 (L.length + 1) (ints L ++ [.int .i64 y])) : PathW W0 w3 sb v3 cur (L ++ [y]) := by
  have hz := h.grow.size
  have hne : ∀ k, k < W0.heap.size → some k ≠ ov.ownBlock := fun k hk e => by have := (h.own.lt k e.symm).1; omega
  refine ⟨⟨hg.os.trans h.grow.os, hg.tape.trans h.grow.tape, hg.output.trans h.grow.output, ?_, fun k hk hk2 => ?_⟩, ?_, by simpa [ints] using ho⟩
  · have := hg.size; simp at this; omega
  · exact (hg.block k (by simp; omega) (hne k hk)).trans ((Below.heap_alloc _ _ _ (by omega)).trans (h.grow.block k hk hk2))
  · exact (hg.block sb (by simp; omega) (hne sb hsb)).trans ((Below.heap_alloc _ _ _ (by omega)).trans h.cell)
end

end Go.Proofs.YtoffbdlgmnpblaaGreat
