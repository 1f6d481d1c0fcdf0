/- Part 28: Rf20. -/
import Derived.Test.YtoffbdlgmnpblaaGreatJ27
import Derived.Test.YtoffbdlgmnpblaaGreatJ11
import Derived.Deep.CutRange
import Derived.Deep.RegionWith
import Derived.BigQuiet
import Derived.StillTailTactics

/- The reference's test of a choice. -/
namespace Go.Proofs.YtoffbdlgmnpblaaGreat
open Go.RowKit
set_option maxHeartbeats 8000000
set_option maxRecDepth 100000

/-- where the parts of a rational number in block g may lie -/
abbrev Rb (B g : Nat) (W : World) : Nat → Prop := fun k => B ≤ k ∧ k < W.heap.size ∧ k ≠ g
/-- a rational number in a block of its own -/
def RBox (B : Nat) (W : World) (g : Nat) (x : Rat) : Prop :=
  ∃ s b A n c s' b' A' n' c', W.heap[g]? = some (.cells #[.int .i64 s, .bool b, .slice A n c, .int .i64 s', .bool b', .slice A' n' c'] 138 (0, 0)) ∧
    RRatV W (Rb B g W) (.agg #[.int .i64 s, .bool b, .slice A n c, .int .i64 s', .bool b', .slice A' n' c']) x
section
variable {B g : Nat} {W W' : World} {x y : Rat}
theorem Rb.up (h : W.heap.size ≤ W'.heap.size) : ∀ k, Rb B g W k → Rb B g W' k := fun _ hk => ⟨hk.1, Nat.lt_of_lt_of_le hk.2.1 h, hk.2.2⟩
theorem Rb.lo : Lo (Rb B g W) W := fun _ hk => hk.2.1
theorem RBox.below (h : RBox B W g x) (hb : Below W.heap.size W W') : RBox B W' g x := by
  obtain ⟨s, b, A, n, c, s', b', A', n', c', h1, h2⟩ := h
  exact ⟨s, b, A, n, c, s', b', A', n', c', (hb.block g (Array.getElem?_eq_some_iff.1 h1).1).trans h1, (h2.same fun k hk => hb.block k hk.2.1).mono (Rb.up hb.size)⟩
theorem RBox.lt (h : RBox B W g x) : g < W.heap.size := by
  obtain ⟨s, b, A, n, c, s', b', A', n', c', h1, -⟩ := h
  exact (Array.getElem?_eq_some_iff.1 h1).1
theorem RBox.new {w2 : World} {s : Int} {b : Bool} {A : Option Addr} {n c : Nat} {s' : Int} {b' : Bool} {A' : Option Addr} {n' c' : Nat} (h : RRatV w2 (fun k => B ≤ k ∧ k < w2.heap.size) (.agg #[.int .i64 s, .bool b, .slice A n c, .int .i64 s', .bool b', .slice A' n' c']) x) :
    RBox B (w2.alloc (.cells #[.int .i64 s, .bool b, .slice A n c, .int .i64 s', .bool b', .slice A' n' c'] 138)) w2.heap.size x :=
  ⟨s, b, A, n, c, s', b', A', n', c', heap_alloc_new _ _, (h.same fun k hk => heap_alloc_old _ _ hk.2).mono fun k hk => ⟨hk.1, by simp; omega, by omega⟩⟩
theorem RBox.store {x0 x1 x2 x3 x4 x5 : Value} {s : Int} {b : Bool} {A : Option Addr} {n c : Nat} {s' : Int} {b' : Bool} {A' : Option Addr} {n' c' : Nat} (h : W.heap[g]? = some (.cells #[x0, x1, x2, x3, x4, x5] 138 (0, 0))) (hr : RRatV W (Rb B g W) (.agg #[.int .i64 s, .bool b, .slice A n c, .int .i64 s', .bool b', .slice A' n' c']) x) :
    RBox B ((((((W.setCell ⟨g, 0, none⟩ (.int .i64 s)).setCell ⟨g, 1, none⟩ (.bool b)).setCell ⟨g, 2, none⟩ (.slice A n c)).setCell ⟨g, 3, none⟩ (.int .i64 s')).setCell ⟨g, 4, none⟩ (.bool b')).setCell ⟨g, 5, none⟩ (.slice A' n' c')) g x :=
  ⟨s, b, A, n, c, s', b', A', n', c', st6_blk h _ _ _ _ _ _, (hr.same fun k hk => st6_other hk.2.2 _ _ _ _ _ _).mono fun k hk => ⟨hk.1, by rw [st6_size]; exact hk.2.1, hk.2.2⟩⟩
end
theorem wpStill_quiet {P : Program} {ops : Array Oper} {w : World} {Q : Act → Prop} : ∀ (l : List Oper) (a : Act), wpQuiet P ops (fun w' => w' = w) Q l a → wpStill P ops w Q l a
  | [], _, h => h
  | o :: rest, a, h => by
    unfold wpQuiet at h
    unfold wpStill
    split at h
    · rename_i hw
      rw [if_pos hw]
      obtain ⟨v, h1, h2⟩ := h
      have h3 := h1 w rfl
      have h4 := wpStill_quiet rest _ h2
      unfold Oper.quietAt at h3
      unfold Oper.still
      generalize (execOp a.eval o).run P w = r at *
      cases r with
      | ok n w' =>
        cases n <;> simp only [Oper.quietUpon] at h3 <;> simp only [Oper.stillUpon]
        case value u =>
          obtain ⟨e1, e2⟩ := h3
          subst e2
          exact ⟨e1, h4⟩
        case skip =>
          obtain ⟨e1, e2⟩ := h3
          subst e2
          exact ⟨e1, h4⟩
        case enter f args =>
          obtain ⟨e1, e2⟩ := h3
          exact ⟨e1, v, e2, h4⟩
      | _ => exact h3.elim
    · rename_i hw
      rw [if_neg hw]
      exact wpStill_quiet rest _ h
/-- the state of the branch before branch j -/
def lastOf (l : List Br) : Nat → Int
  | 0 => -1
  | j + 1 => (l[j]?.map (·.to)).getD (-1)
theorem lastOf_succ {l : List Br} {j : Nat} {b : Br} (h : l[j]? = some b) : lastOf l (j + 1) = b.to := by simp [lastOf, h]
theorem pos_succ {l : List Br} {j : Nat} {b : Br} (h : ∀ (i : Nat) (p : Br), i < j → l[i]? = some p → 0 ≤ p.to) (hb : l[j]? = some b) (hl : lastOf l j < b.to) : ∀ (i : Nat) (p : Br), i < j + 1 → l[i]? = some p → 0 ≤ p.to := by
  intro i p hi hp
  by_cases e : i = j
  · subst e
    rw [hb] at hp
    injection hp with hp
    subst hp
    have hj := (List.getElem?_eq_some_iff.1 hb).1
    cases i with
    | zero =>
      have e0 : lastOf l 0 = -1 := rfl
      rw [e0] at hl
      omega
    | succ k =>
      have h1 := h k _ (Nat.lt_succ_self k) (List.getElem?_eq_getElem (by omega))
      rw [lastOf_succ (List.getElem?_eq_getElem (show k < l.length by omega))] at hl
      omega
  · exact h i p (by omega) hp
/-- a branch stands -/
def okB (n la : Int) (b : Br) : Bool := decide (la < b.to ∧ b.to < n ∧ 0 < b.ch.top) && validN b.ch.top b.ch.low

theorem Rchoice_calls (n : Int) (x : Ch) (A : Option Addr) (m c : Nat) (D : Nat → Prop) (w : World) (hD : Lo D w) (h : Sl Kind.br w D (.slice A m c) x.brs) :
    Calls Tryz.prog 89 #[.agg #[.int .i64 x.rw.top, .int .i64 x.rw.low, .slice A m c], .int .i64 n] w fun e w' => e = .returned (.bool (choiceB n x)) ∧ Below w.heap.size w w' := by
  obtain ⟨rfl, h1, h2⟩ := h.len
  unfold maxLen at h2
  have H := Lib.hid h
  clear h
  generalize hr : x.rw = r at *
  obtain ⟨t, l⟩ := r
  have HV := Lib.hid (show choiceB n x = (validN t l && (decide (1 ≤ x.brs.length ∧ x.brs.length ≤ 8) && (brsOk n (-1) x.brs && decide (sumOf x.brs = 1)))) by unfold choiceB; rw [hr])
  clear hr
  cases hv : validN t l with
  | false =>
    have HV' := Lib.hid (show choiceB n x = false by rw [HV.out, hv]; rfl)
    have HVV := Lib.hid hv
    clear hv
    go_enter Tryz.func89, Tryz.ntmps89
    go_wp2_with fail
    refine (RValid_calls t l _).mono ?_
    rintro e w1 ⟨rfl, hb1⟩
    rw [HVV.out]
    go_wp2
    go_ret
    exact ⟨ret_bool HV'.out.symm, ((Below.refl _ _).alloc (Nat.le_refl _) _).trans (hb1.mono (by simp))⟩
  | true =>
    have HVV := Lib.hid hv
    clear hv
    obtain ⟨W0, hW0, hb0, hz0, hx0⟩ := rb1 w #[.int .i64 t, .int .i64 l, .slice A x.brs.length c] 97
    have HB0 := Lib.hid hb0
    have HX0 := Lib.hid hx0
    have HZ0 := Lib.hid hz0
    have HW0 := Lib.hid hW0
    clear hb0 hx0 hz0 hW0
    obtain ⟨c0, f0⟩ := blk_at HX0.out 0
    obtain ⟨c1, f1⟩ := blk_at HX0.out 1
    go_enter Tryz.func89, Tryz.ntmps89
    go_upto_region 1 with fail
    rw [← HW0.out]
    clear HW0
    go_wp2_with fail
    refine (RValid_calls t l _).mono ?_
    rintro e w1 ⟨rfl, hb1⟩
    rw [HVV.out]
    clear c0 f0 c1 f1
    have hs1 : w.heap.size + 1 ≤ w1.heap.size := by have := hb1.size; have := HZ0.out; omega
    have HB1 := Lib.hid (HB0.out.trans (hb1.mono HB0.out.size))
    have HX1 := Lib.hid ((hb1.block w.heap.size (by have := HZ0.out; omega)).trans HX0.out)
    clear hb1
    obtain ⟨c2, f2⟩ := blk_at HX1.out 2
    by_cases hlen : x.brs.length < 1 ∨ 8 < x.brs.length
    · have HV' := Lib.hid (show choiceB n x = false by rw [HV.out, decide_eq_false (show ¬ (1 ≤ x.brs.length ∧ x.brs.length ≤ 8) by omega)]; simp)
      rcases hlen with hlen | hlen
      all_goals
        go_wp2_with fail
        go_ret
        exact ⟨ret_bool HV'.out.symm, HB1.out⟩
    · have hl1 : 1 ≤ x.brs.length := by omega
      have hl8 : x.brs.length ≤ 8 := by omega
      clear hlen
      go_wp2_with fail
      refine (RWhole_calls 0 w1 (by decide) (by decide)).mono ?_
      rintro e w2 ⟨v2, rfl, hb2, k2⟩
      have hs2 : w.heap.size + 1 ≤ w2.heap.size := Nat.le_trans hs1 hb2.size
      have HB2 := Lib.hid (HB1.out.trans (hb2.mono HB1.out.size))
      have HX2 := Lib.hid ((hb2.block w.heap.size (by omega)).trans HX1.out)
      have HK := Lib.hid (k2.mono (D' := fun k => w.heap.size + 1 ≤ k ∧ k < w2.heap.size) fun k hk => ⟨by have := hk.1; omega, hk.2⟩)
      clear hb2 c2 f2
      obtain ⟨s, b, A2, n2, u2, s', b', A2', n2', u2', rfl, -, -⟩ := k2
      have HR0 := Lib.hid (RBox.new HK.out)
      clear HK
      go_upto_region 4 with fail
      have HB3 := Lib.hid (HB2.out.alloc (Nat.le_trans (Nat.le_succ _) hs2) (.cells #[.int .i64 s, .bool b, .slice A2 n2 u2, .int .i64 s', .bool b', .slice A2' n2' u2'] 138))
      have HX3 := Lib.hid ((heap_alloc_old _ (.cells #[.int .i64 s, .bool b, .slice A2 n2 u2, .int .i64 s', .bool b', .slice A2' n2' u2'] 138) (show w.heap.size < w2.heap.size by omega)).trans HX2.out)
      have hz3 : w2.heap.size + 1 = (w2.alloc (.cells #[.int .i64 s, .bool b, .slice A2 n2 u2, .int .i64 s', .bool b', .slice A2' n2' u2'] 138)).heap.size := by simp
      generalize w2.alloc (.cells #[.int .i64 s, .bool b, .slice A2 n2 u2, .int .i64 s', .bool b', .slice A2' n2' u2'] 138) = W3 at *
      generalize w2.heap.size = g at *
      have hgw : w.heap.size + 1 ≤ g + 1 := Nat.le_succ_of_le hs2
      have HZ3 := Lib.hid hz3
      clear hz3 HX2 HB2 HX1 HB1 HX0 HB0 HZ0
      obtain ⟨c2, f2⟩ := blk_at HX3.out 2
      have HV2 := Lib.hid (show choiceB n x = (brsOk n (-1) x.brs && decide (sumOf x.brs = 1)) by rw [HV.out, decide_eq_true (show (1 ≤ x.brs.length ∧ x.brs.length ≤ 8) by omega)]; simp [HVV.out])
      clear HV
      go_wp2_with fail
      go_loopw [28] (fun k W => ∃ j : Nat, j ≤ x.brs.length ∧ k = .int .i64 (j : Int) ∧ Hid (brsOk n (-1) x.brs = brsOk n (lastOf x.brs j) (x.brs.drop j)) ∧ Hid (∀ i p, i < j → x.brs[i]? = some p → 0 ≤ p.to) ∧ Hid (Below w.heap.size w W) ∧ g + 1 ≤ W.heap.size ∧ Hid (W.heap[w.heap.size]? = some (.cells #[.int .i64 t, .int .i64 l, .slice A x.brs.length c] 97 (0, 0))) ∧ Hid (RBox (w.heap.size + 1) W g (sumOf (x.brs.take j))) ∧ Hid (FitR (1 + 3 * j) (sumOf (x.brs.take j)))) (fun k _ => x.brs.length - (intOf k).toNat)
      case atStart => exact ⟨0, Nat.zero_le _, rfl, Lib.hid rfl, Lib.hid (fun i _ h => absurd h (Nat.not_lt_zero i)), HB3.out, by have := HZ3.out; omega, HX3.out, Lib.hid (by simpa [sumOf] using HR0.out), FitR.zero⟩
      case round =>
        clear c2 f2 HB3 HX3 HR0 HZ3
        obtain ⟨j, hj, rfl, HA, HPO, HBW, hsW, HXW, HRW, HFW⟩ := hrel
        by_cases hlt : j < x.brs.length
        · obtain ⟨bb, hb⟩ : ∃ bb, x.brs[j]? = some bb := ⟨_, List.getElem?_eq_getElem hlt⟩
          obtain ⟨ad, rfl, hDa, q0, q1, q2⟩ := (H.out.same (hD.same HBW.out)).br_at j bb hb
          have HB := Lib.hid hb
          have HDR := Lib.hid (brsOk_drop n (lastOf x.brs j) x.brs j bb hb)
          have HPR : Hid (0 < j → ∃ p, p = lastOf x.brs j ∧ 0 ≤ p ∧ (wr.alloc (.cells #[.int .i64 bb.to, .int .i64 bb.ch.top, .int .i64 bb.ch.low] 103)).cell? (ad.add ((j - 1) * 3)) = some (.int .i64 p)) := Lib.hid fun hp => by
            obtain ⟨i, rfl⟩ : ∃ i, j = i + 1 := ⟨j - 1, by omega⟩
            obtain ⟨pb, hpb⟩ : ∃ pb, x.brs[i]? = some pb := ⟨_, List.getElem?_eq_getElem (by omega)⟩
            obtain ⟨ad', e', hDa', p0, -, -⟩ := (H.out.same (hD.same HBW.out)).br_at i pb hpb
            injection e' with e'
            subst e'
            refine ⟨pb.to, (lastOf_succ hpb).symm, ?_, (World.cell?_of_block (w := wr) (heap_alloc_old _ _ (by rw [block_of_add]; exact Nat.lt_of_lt_of_le (hD _ hDa') HBW.out.size))).trans p0⟩
            have := HPO.out i pb (by omega) hpb
            exact this
          clear hb
          obtain ⟨c2, f2⟩ := blk_at HXW.out 2
          go_upto_region 7 with fail
          obtain ⟨WB, hWB⟩ : ∃ W, W = (wr.alloc (.cells #[.int .i64 bb.to, .int .i64 bb.ch.top, .int .i64 bb.ch.low] 103)) := ⟨_, rfl⟩
          have HWR := Lib.hid (show Below wr.heap.size wr WB by rw [hWB]; exact (Below.refl _ _).alloc (Nat.le_refl _) _)
          have HT := Lib.hid (show WB.heap[wr.heap.size]? = some (.cells #[.int .i64 bb.to, .int .i64 bb.ch.top, .int .i64 bb.ch.low] 103 (0, 0)) by rw [hWB]; exact heap_alloc_new _ _)
          have HZB := Lib.hid (show WB.heap.size = wr.heap.size + 1 by rw [hWB]; simp)
          rw [← hWB] at HPR ⊢
          clear hWB c2 f2
          have HXN := Lib.hid ((HWR.out.block w.heap.size (by omega)).trans HXW.out)
          go_cut [28, 69] from 28 to 75 (fun k v wx => k = .int .i64 (j : Int) ∧ v = .bool (!okB n (lastOf x.brs j) bb) ∧ Hid (Below WB.heap.size WB wx))
          case first =>
            obtain ⟨c2n, -⟩ := blk_at HXN.out 2
            obtain ⟨t0, -⟩ := blk_at HT.out 0
            obtain ⟨t1, -⟩ := blk_at HT.out 1
            obtain ⟨t2, -⟩ := blk_at HT.out 2
            simp only [List.getElem?_toArray, List.getElem?_cons_zero, List.getElem?_cons_succ] at c2n t0 t1 t2
            have hl : -1 ≤ lastOf x.brs j := by
              cases j with
              | zero => exact Int.le_refl _
              | succ i => obtain ⟨p, e, h0, -⟩ := HPR.out (Nat.succ_pos _); rw [← e]; omega
            by_cases h1 : bb.to < 0
            · have HF := Lib.hid (show okB n (lastOf x.brs j) bb = false by unfold okB; rw [decide_eq_false (by omega)]; rfl)
              clear hl
              have d1 : decide (bb.to < 0) = true := decide_eq_true h1
              go_quiet (fail)
              go_wp2_with fail
              go_meet
              exact ⟨rfl, by rw [HF.out]; rfl, Lib.hid (below_drewN (Below.refl _ _) _)⟩
            · by_cases h2 : n ≤ bb.to
              · have HF := Lib.hid (show okB n (lastOf x.brs j) bb = false by unfold okB; rw [decide_eq_false (by omega)]; rfl)
                clear hl
                have d1 : decide (bb.to < 0) = false := decide_eq_false h1
                have d2 : decide (n ≤ bb.to) = true := decide_eq_true h2
                go_quiet (fail)
                go_wp2_with fail
                go_meet
                exact ⟨rfl, by rw [HF.out]; rfl, Lib.hid (below_drewN (Below.refl _ _) _)⟩
              · by_cases hp : 0 < j
                · obtain ⟨p, hpe, hp0, hpc⟩ := HPR.out hp
                  by_cases h3 : bb.to ≤ p
                  · have HF := Lib.hid (show okB n (lastOf x.brs j) bb = false by unfold okB; rw [decide_eq_false (by omega)]; rfl)
                    clear hl hpe
                    have d1 : decide (bb.to < 0) = false := decide_eq_false h1
                    have d2 : decide (n ≤ bb.to) = false := decide_eq_false h2
                    have d3 : decide ((0 : Int) < (j : Int)) = true := decide_eq_true (by omega)
                    have d4 : decide (bb.to ≤ p) = true := decide_eq_true h3
                    go_quiet (fail)
                    go_wp2_with fail
                    go_meet
                    exact ⟨rfl, by rw [HF.out]; rfl, Lib.hid (below_drewN (Below.refl _ _) _)⟩
                  · cases hv : validN bb.ch.top bb.ch.low with
                    | false =>
                      have HF := Lib.hid (show okB n (lastOf x.brs j) bb = false by unfold okB; rw [hv, Bool.and_false])
                      have HVA := Lib.hid hv
                      clear hl hv hpe
                      have d1 : decide (bb.to < 0) = false := decide_eq_false h1
                      have d2 : decide (n ≤ bb.to) = false := decide_eq_false h2
                      have d3 : decide ((0 : Int) < (j : Int)) = true := decide_eq_true (by omega)
                      have d4 : decide (bb.to ≤ p) = false := decide_eq_false h3
                      refine wp_region_still_tail 28 (by kernel_rfl) (by kernel_rfl) ?_
                      simp only [List.take_succ_cons, List.take_zero, List.drop_succ_cons, List.drop_zero]
                      refine wpStill_quiet _ _ ?_
                      repeat (go_big_quiet_step (fail))
                      refine wpQuiet_nil ?_
                      change wpList _ _ _ _ _ WB.drew
                      clear d1 d2 d3 d4 hpc c2n t0
                      go_wp2_with fail
                      refine (RValid_calls bb.ch.top bb.ch.low _).mono ?_
                      rintro e w4 ⟨rfl, hb4⟩
                      rw [HVA.out]
                      have HB4 := Lib.hid ((Below.refl WB.heap.size WB).drew.trans hb4)
                      have HT4 := Lib.hid ((hb4.block wr.heap.size (show wr.heap.size < WB.heap.size by rw [HZB.out]; omega)).trans HT.out)
                      clear hb4
                      obtain ⟨y1, -⟩ := blk_at HT4.out 1
                      go_wp2_with fail
                      go_meet
                      exact ⟨rfl, by rw [HF.out]; rfl, HB4⟩
                    | true =>
                      by_cases h5 : bb.ch.top ≤ 0
                      · have HF := Lib.hid (show okB n (lastOf x.brs j) bb = false by unfold okB; rw [decide_eq_false (by omega)]; rfl)
                        have HVA := Lib.hid hv
                        clear hl hv hpe
                        have d1 : decide (bb.to < 0) = false := decide_eq_false h1
                        have d2 : decide (n ≤ bb.to) = false := decide_eq_false h2
                        have d3 : decide ((0 : Int) < (j : Int)) = true := decide_eq_true (by omega)
                        have d4 : decide (bb.to ≤ p) = false := decide_eq_false h3
                        have d5 : decide (bb.ch.top ≤ 0) = true := decide_eq_true h5
                        refine wp_region_still_tail 28 (by kernel_rfl) (by kernel_rfl) ?_
                        simp only [List.take_succ_cons, List.take_zero, List.drop_succ_cons, List.drop_zero]
                        refine wpStill_quiet _ _ ?_
                        repeat (go_big_quiet_step (fail))
                        refine wpQuiet_nil ?_
                        change wpList _ _ _ _ _ WB.drew
                        clear d1 d2 d3 d4 hpc c2n t0
                        go_wp2_with fail
                        refine (RValid_calls bb.ch.top bb.ch.low _).mono ?_
                        rintro e w4 ⟨rfl, hb4⟩
                        rw [HVA.out]
                        have HB4 := Lib.hid ((Below.refl WB.heap.size WB).drew.trans hb4)
                        have HT4 := Lib.hid ((hb4.block wr.heap.size (show wr.heap.size < WB.heap.size by rw [HZB.out]; omega)).trans HT.out)
                        clear hb4
                        obtain ⟨y1, -⟩ := blk_at HT4.out 1
                        go_wp2_with fail
                        go_meet
                        exact ⟨rfl, by rw [HF.out]; rfl, HB4⟩
                      · have HF := Lib.hid (show okB n (lastOf x.brs j) bb = true by unfold okB; rw [decide_eq_true (by omega), hv]; rfl)
                        have HVA := Lib.hid hv
                        clear hl hv hpe
                        have d1 : decide (bb.to < 0) = false := decide_eq_false h1
                        have d2 : decide (n ≤ bb.to) = false := decide_eq_false h2
                        have d3 : decide ((0 : Int) < (j : Int)) = true := decide_eq_true (by omega)
                        have d4 : decide (bb.to ≤ p) = false := decide_eq_false h3
                        have d5 : decide (bb.ch.top ≤ 0) = false := decide_eq_false h5
                        refine wp_region_still_tail 28 (by kernel_rfl) (by kernel_rfl) ?_
                        simp only [List.take_succ_cons, List.take_zero, List.drop_succ_cons, List.drop_zero]
                        refine wpStill_quiet _ _ ?_
                        repeat (go_big_quiet_step (fail))
                        refine wpQuiet_nil ?_
                        change wpList _ _ _ _ _ WB.drew
                        clear d1 d2 d3 d4 hpc c2n t0
                        go_wp2_with fail
                        refine (RValid_calls bb.ch.top bb.ch.low _).mono ?_
                        rintro e w4 ⟨rfl, hb4⟩
                        rw [HVA.out]
                        have HB4 := Lib.hid ((Below.refl WB.heap.size WB).drew.trans hb4)
                        have HT4 := Lib.hid ((hb4.block wr.heap.size (show wr.heap.size < WB.heap.size by rw [HZB.out]; omega)).trans HT.out)
                        clear hb4
                        obtain ⟨y1, -⟩ := blk_at HT4.out 1
                        go_wp2_with fail
                        go_meet
                        exact ⟨rfl, by rw [HF.out]; rfl, HB4⟩
                · have hl1 : lastOf x.brs j = -1 := by rw [show j = 0 by omega]; rfl
                  have hj1 : ¬ (0 : Int) < (j : Int) := by omega
                  have HJ1 := Lib.hid hj1
                  clear hp hj1
                  cases hv : validN bb.ch.top bb.ch.low with
                  | false =>
                    have HF := Lib.hid (show okB n (lastOf x.brs j) bb = false by unfold okB; rw [hv, Bool.and_false])
                    have HVA := Lib.hid hv
                    clear hl hl1 hv
                    have d1 : decide (bb.to < 0) = false := decide_eq_false h1
                    have d2 : decide (n ≤ bb.to) = false := decide_eq_false h2
                    have d3 : decide ((0 : Int) < (j : Int)) = false := decide_eq_false HJ1.out
                    have d6 : decide (0 < j) = false := decide_eq_false (fun h => HJ1.out (by omega))
                    refine wp_region_still_tail 28 (by kernel_rfl) (by kernel_rfl) ?_
                    simp only [List.take_succ_cons, List.take_zero, List.drop_succ_cons, List.drop_zero]
                    refine wpStill_quiet _ _ ?_
                    repeat (go_big_quiet_step (fail))
                    refine wpQuiet_nil ?_
                    change wpList _ _ _ _ _ WB.drew
                    clear d1 d2 d3 d6 c2n t0
                    go_wp2_with fail
                    refine (RValid_calls bb.ch.top bb.ch.low _).mono ?_
                    rintro e w4 ⟨rfl, hb4⟩
                    rw [HVA.out]
                    have HB4 := Lib.hid ((Below.refl WB.heap.size WB).drew.trans hb4)
                    have HT4 := Lib.hid ((hb4.block wr.heap.size (show wr.heap.size < WB.heap.size by rw [HZB.out]; omega)).trans HT.out)
                    clear hb4
                    obtain ⟨y1, -⟩ := blk_at HT4.out 1
                    go_wp2_with fail
                    go_meet
                    exact ⟨rfl, by rw [HF.out]; rfl, HB4⟩
                  | true =>
                    by_cases h5 : bb.ch.top ≤ 0
                    · have HF := Lib.hid (show okB n (lastOf x.brs j) bb = false by unfold okB; rw [decide_eq_false (by omega)]; rfl)
                      have HVA := Lib.hid hv
                      clear hl hl1 hv
                      have d1 : decide (bb.to < 0) = false := decide_eq_false h1
                      have d2 : decide (n ≤ bb.to) = false := decide_eq_false h2
                      have d3 : decide ((0 : Int) < (j : Int)) = false := decide_eq_false HJ1.out
                      have d6 : decide (0 < j) = false := decide_eq_false (fun h => HJ1.out (by omega))
                      have d5 : decide (bb.ch.top ≤ 0) = true := decide_eq_true h5
                      refine wp_region_still_tail 28 (by kernel_rfl) (by kernel_rfl) ?_
                      simp only [List.take_succ_cons, List.take_zero, List.drop_succ_cons, List.drop_zero]
                      refine wpStill_quiet _ _ ?_
                      repeat (go_big_quiet_step (fail))
                      refine wpQuiet_nil ?_
                      change wpList _ _ _ _ _ WB.drew
                      clear d1 d2 d3 d6 c2n t0
                      go_wp2_with fail
                      refine (RValid_calls bb.ch.top bb.ch.low _).mono ?_
                      rintro e w4 ⟨rfl, hb4⟩
                      rw [HVA.out]
                      have HB4 := Lib.hid ((Below.refl WB.heap.size WB).drew.trans hb4)
                      have HT4 := Lib.hid ((hb4.block wr.heap.size (show wr.heap.size < WB.heap.size by rw [HZB.out]; omega)).trans HT.out)
                      clear hb4
                      obtain ⟨y1, -⟩ := blk_at HT4.out 1
                      go_wp2_with fail
                      go_meet
                      exact ⟨rfl, by rw [HF.out]; rfl, HB4⟩
                    · have HF := Lib.hid (show okB n (lastOf x.brs j) bb = true by unfold okB; rw [decide_eq_true (by omega), hv]; rfl)
                      have HVA := Lib.hid hv
                      clear hl hl1 hv
                      have d1 : decide (bb.to < 0) = false := decide_eq_false h1
                      have d2 : decide (n ≤ bb.to) = false := decide_eq_false h2
                      have d3 : decide ((0 : Int) < (j : Int)) = false := decide_eq_false HJ1.out
                      have d6 : decide (0 < j) = false := decide_eq_false (fun h => HJ1.out (by omega))
                      have d5 : decide (bb.ch.top ≤ 0) = false := decide_eq_false h5
                      refine wp_region_still_tail 28 (by kernel_rfl) (by kernel_rfl) ?_
                      simp only [List.take_succ_cons, List.take_zero, List.drop_succ_cons, List.drop_zero]
                      refine wpStill_quiet _ _ ?_
                      repeat (go_big_quiet_step (fail))
                      refine wpQuiet_nil ?_
                      change wpList _ _ _ _ _ WB.drew
                      clear d1 d2 d3 d6 c2n t0
                      go_wp2_with fail
                      refine (RValid_calls bb.ch.top bb.ch.low _).mono ?_
                      rintro e w4 ⟨rfl, hb4⟩
                      rw [HVA.out]
                      have HB4 := Lib.hid ((Below.refl WB.heap.size WB).drew.trans hb4)
                      have HT4 := Lib.hid ((hb4.block wr.heap.size (show wr.heap.size < WB.heap.size by rw [HZB.out]; omega)).trans HT.out)
                      clear hb4
                      obtain ⟨y1, -⟩ := blk_at HT4.out 1
                      go_wp2_with fail
                      go_meet
                      exact ⟨rfl, by rw [HF.out]; rfl, HB4⟩
          case rest =>
            obtain ⟨rfl, rfl, HBC⟩ := hcut
            have HWC := Lib.hid (HWR.out.trans (HBC.out.mono (show wr.heap.size ≤ WB.heap.size by rw [HZB.out]; omega)))
            have HXC := Lib.hid ((HBC.out.block w.heap.size (show w.heap.size < WB.heap.size by rw [HZB.out]; omega)).trans HXN.out)
            have HTC := Lib.hid ((HBC.out.block wr.heap.size (show wr.heap.size < WB.heap.size by rw [HZB.out]; omega)).trans HT.out)
            have HRC := Lib.hid (HRW.out.below HWC.out)
            have HBc := Lib.hid (HBW.out.trans (HWC.out.mono HBW.out.size))
            have hzc : wr.heap.size + 1 ≤ wc.heap.size := by have := HBC.out.size; rw [HZB.out] at this; exact this
            clear HWC HXN HT HWR HBC HZB HPR HRW HBW HXW q0 q1 q2
            cases hok : okB n (lastOf x.brs j) bb with
            | false =>
              have HF := Lib.hid (show choiceB n x = false by
                rw [HV2.out, HA.out, HDR.out]
                unfold okB at hok
                rw [hok]; rfl)
              clear hok
              go_wp2_with fail
              go_ret
              exact ⟨ret_bool HF.out.symm, HBc.out⟩
            | true =>
              have hok2 : (decide (lastOf x.brs j < bb.to ∧ bb.to < n ∧ 0 < bb.ch.top) && validN bb.ch.top bb.ch.low) = true := hok
              have HA2 := Lib.hid (show brsOk n (-1) x.brs = brsOk n bb.to (x.brs.drop (j + 1)) by rw [HA.out, HDR.out, hok2]; rfl)
              rw [Bool.and_eq_true, decide_eq_true_eq] at hok2
              obtain ⟨⟨o1, -, -⟩, hv⟩ := hok2
              obtain ⟨n1, n2, n3, n4⟩ := ValidN.bounds hv
              have HVB := Lib.hid hv
              have HFB := Lib.hid (FitR.ofNum (x := bb.ch) n1 n2 n3 n4)
              have HO1 := Lib.hid o1
              clear hok hv HA HDR n1 n2 n3 n4 o1
              go_upto_region 9 with fail
              obtain ⟨s, b, A2, n2, u2, s', b', A2', n2', u2', hx, hr⟩ := HRC.out
              have HS := Lib.hid hr
              obtain ⟨c0, f0⟩ := blk_at hx 0
              obtain ⟨c1, f1⟩ := blk_at hx 1
              obtain ⟨c2, f2⟩ := blk_at hx 2
              obtain ⟨c3, f3⟩ := blk_at hx 3
              obtain ⟨c4, f4⟩ := blk_at hx 4
              obtain ⟨c5, f5⟩ := blk_at hx 5
              obtain ⟨t1, -⟩ := blk_at HTC.out 1
              obtain ⟨t2, -⟩ := blk_at HTC.out 2
              have HBD : Hid (Below w.heap.size w wc.drew) := Lib.hid HBc.out.drew
              have HRD : Hid (RBox (w.heap.size + 1) wc.drew g (sumOf (x.brs.take j))) := HRC
              have HSD : Hid (RRatV wc.drew (Rb (w.heap.size + 1) g wc.drew) (.agg #[.int .i64 s, .bool b, .slice A2 n2 u2, .int .i64 s', .bool b', .slice A2' n2' u2']) (sumOf (x.brs.take j))) := Lib.hid (HS.out.same fun _ _ => rfl)
              have HXD : Hid (wc.drew.heap[g]? = _) := Lib.hid hx
              have HXCD : Hid (wc.drew.heap[w.heap.size]? = _) := HXC
              have hgl : g < wc.drew.heap.size := HRD.out.lt
              have hwl : w.heap.size < wc.drew.heap.size := by simp only [World.drew]; omega
              clear hx hr HS
              go_region_with (first
                | ((with_reducible show Calls _ 137 #[_] wc.drew _); (refine (RTo_calls bb.ch.top bb.ch.low wc.drew HVB.out).mono ?_); (rintro e w4 ⟨v4, rfl, hb4, k4⟩); (have HO4 := Lib.hid (k4.mono (D' := Rb (w.heap.size + 1) g w4) fun k hk => ⟨Nat.le_trans hwl hk.1, hk.2, fun e => Nat.lt_irrefl _ (Nat.lt_of_lt_of_le (e ▸ hgl) (e ▸ hk.1))⟩)); (have HS4 := Lib.hid ((HSD.out.same fun k hk => hb4.block k hk.2.1).mono (Rb.up hb4.size))); (have HB4 := Lib.hid (HBD.out.trans (hb4.mono HBD.out.size))); (have HX4 := Lib.hid ((hb4.block g hgl).trans HXD.out)); (have HXC4 := Lib.hid ((hb4.block w.heap.size hwl).trans HXCD.out)); (have hs4 := hb4.size); (clear hb4 k4); (obtain ⟨q0, p0⟩ := blk_at HX4.out 0); (obtain ⟨q1, p1⟩ := blk_at HX4.out 1); (obtain ⟨q2, p2⟩ := blk_at HX4.out 2); (obtain ⟨q3, p3⟩ := blk_at HX4.out 3); (obtain ⟨q4, p4⟩ := blk_at HX4.out 4); (obtain ⟨q5, p5⟩ := blk_at HX4.out 5))
                | ((with_reducible show Calls _ 136 #[_, v4] w4 _); (refine (RRatPlus_calls (sumOf (x.brs.take j)) (ratOf bb.ch) _ _ _ w4 Rb.lo HS4.out HO4.out 25 (by decide) (HFW.out.mono (by omega)) (HFB.out.mono (by omega))).mono ?_); (rintro e w5 ⟨v5, rfl, hb5, k5⟩); (have HS5 := Lib.hid (k5.mono (D' := Rb (w.heap.size + 1) g w5) fun k hk => hk.elim (Rb.up hb5.size k) fun h => ⟨Nat.le_trans hwl (Nat.le_trans hs4 h.1), h.2, fun e => Nat.lt_irrefl _ (Nat.lt_of_lt_of_le (e ▸ hgl) (Nat.le_trans hs4 (e ▸ h.1)))⟩)); (have HB5 := Lib.hid (HB4.out.trans (hb5.mono HB4.out.size))); (have HX5 := Lib.hid ((hb5.block g (Nat.lt_of_lt_of_le hgl hs4)).trans HX4.out)); (have HXC5 := Lib.hid ((hb5.block w.heap.size (Nat.lt_of_lt_of_le hwl hs4)).trans HXC4.out)); (have hs5 := hb5.size); (clear hb5); (obtain ⟨s5, b5, A5, n5, u5, s5', b5', A5', n5', u5', rfl, -, -⟩ := k5); (obtain ⟨y0, z0⟩ := blk_at HX5.out 0); (obtain ⟨y1, z1⟩ := blk_at HX5.out 1); (obtain ⟨y2, z2⟩ := blk_at HX5.out 2); (obtain ⟨y3, z3⟩ := blk_at HX5.out 3); (obtain ⟨y4, z4⟩ := blk_at HX5.out 4); (obtain ⟨y5, z5⟩ := blk_at HX5.out 5)))
              all_goals
                go_wp2
                refine ⟨⟨j + 1, hlt, by go_num, Lib.hid (by rw [lastOf_succ HB.out]; exact HA2.out), Lib.hid (pos_succ HPO.out HB.out HO1.out), Lib.hid (st6_below HB5.out (Nat.le_trans (Nat.le_succ _) hs2) _ _ _ _ _ _), by rw [st6_size]; omega, Lib.hid ((st6_other (Nat.ne_of_lt hs2) _ _ _ _ _ _).trans HXC5.out), Lib.hid ?_, Lib.hid ?_⟩, by simp [intOf]; omega⟩
                · rw [sumOf_succ _ _ _ HB.out]
                  exact RBox.store HX5.out HS5.out
                · rw [sumOf_succ _ _ _ HB.out]
                  exact (HFW.out.add HFB.out).mono (by omega)
        · obtain rfl : j = x.brs.length := by omega
          clear hlt
          have HV3 := Lib.hid (show choiceB n x = (Dig.sgn (sumOf x.brs - 1).num == 0) by rw [HV2.out, HA.out, List.drop_length, sgn_one]; rfl)
          rw [List.take_length] at HRW HFW
          clear HA
          go_upto_region 11 with fail
          obtain ⟨s, b, A2, n2, u2, s', b', A2', n2', u2', hx, hr⟩ := HRW.out
          have HS := Lib.hid hr
          obtain ⟨c0, f0⟩ := blk_at hx 0
          obtain ⟨c1, f1⟩ := blk_at hx 1
          obtain ⟨c2, f2⟩ := blk_at hx 2
          obtain ⟨c3, f3⟩ := blk_at hx 3
          obtain ⟨c4, f4⟩ := blk_at hx 4
          obtain ⟨c5, f5⟩ := blk_at hx 5
          have HBD : Hid (Below w.heap.size w wr.drew) := Lib.hid HBW.out.drew
          have HRD : Hid (RBox (w.heap.size + 1) wr.drew g (sumOf x.brs)) := HRW
          have HSD : Hid (RRatV wr.drew (Rb (w.heap.size + 1) g wr.drew) (.agg #[.int .i64 s, .bool b, .slice A2 n2 u2, .int .i64 s', .bool b', .slice A2' n2' u2']) (sumOf x.brs)) := Lib.hid (HS.out.same fun _ _ => rfl)
          have HXD : Hid (wr.drew.heap[g]? = _) := Lib.hid hx
          have hgl : g < wr.drew.heap.size := HRD.out.lt
          clear hx hr HS
          go_region_with (first
            | ((with_reducible show Calls _ 135 #[.int .i64 1] wr.drew _); (refine (RWhole_calls 1 wr.drew (by decide) (by decide)).mono ?_); (rintro e w4 ⟨v4, rfl, hb4, k4⟩); (have HO4 := Lib.hid (k4.mono (D' := Rb (w.heap.size + 1) g w4) fun k hk => ⟨Nat.le_trans (Nat.le_trans hgw hsW) hk.1, hk.2, fun e => Nat.lt_irrefl _ (Nat.lt_of_lt_of_le (e ▸ hgl) (e ▸ hk.1))⟩)); (have HS4 := Lib.hid ((HSD.out.same fun k hk => hb4.block k hk.2.1).mono (Rb.up hb4.size))); (have HB4 := Lib.hid (HBD.out.trans (hb4.mono HBD.out.size))); (have HX4 := Lib.hid ((hb4.block g hgl).trans HXD.out)); (clear hb4 k4); (obtain ⟨q0, -⟩ := blk_at HX4.out 0); (obtain ⟨q1, -⟩ := blk_at HX4.out 1); (obtain ⟨q2, -⟩ := blk_at HX4.out 2); (obtain ⟨q3, -⟩ := blk_at HX4.out 3); (obtain ⟨q4, -⟩ := blk_at HX4.out 4); (obtain ⟨q5, -⟩ := blk_at HX4.out 5))
            | ((with_reducible show Calls _ 138 #[_, v4] w4 _); (refine (RRatCompare_calls (sumOf x.brs) ((1 : Int) : Rat) _ _ _ w4 Rb.lo HS4.out HO4.out 25 (by decide) (HFW.out.mono (by omega)) (FitR.one.mono (by omega))).mono ?_); (rintro e w5 ⟨rfl, hb5⟩); (have HB5 := Lib.hid (HB4.out.trans (hb5.mono HB4.out.size))); (clear hb5)))
          all_goals
            go_wp2
            go_ret
            exact ⟨ret_bool HV3.out.symm, HB5.out⟩
end Go.Proofs.YtoffbdlgmnpblaaGreat
