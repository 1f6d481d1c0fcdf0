/- Part 27: Rf18 Rf19. -/
import Derived.Test.YtoffbdlgmnpblaaGreatJ26
import Derived.Test.YtoffbdlgmnpblaaGreatJ10

/- The reference's rational numbers: differences, signs, comparison. -/
namespace Go.Proofs.YtoffbdlgmnpblaaGreat
open Go.RowKit
set_option maxHeartbeats 8000000
set_option maxRecDepth 100000

theorem RRatMinus_calls (x : Rat) (v : Value) (D : Nat → Prop) (w : World) (hD : Lo D w) (h : RRatV w D v x) :
    Calls Tryz.prog 218 #[v] w fun e w' => ∃ v', e = .returned v' ∧ Below w.heap.size w w' ∧ RRatV w' (gr D w w') v' (-x) := by
  obtain ⟨s, b, A, n, c, s', b', A', n', c', rfl, hp, hq⟩ := h
  have HD := Lib.hid hD
  obtain ⟨W0, hW0, hb0, hz0, hx0, hx1⟩ := rb2 w #[.int .i64 s, .bool b, .slice A n c, .int .i64 s', .bool b', .slice A' n' c'] #[.int .i64 0, .bool false, .slice none 0 0, .int .i64 0, .bool false, .slice none 0 0] 138 138
  have HP0 := Lib.hid (RIntV.start (B := w.heap.size + 2) hp hD hb0)
  have HQ0 := Lib.hid (RIntV.start (B := w.heap.size + 2) hq hD hb0)
  have HB0 := Lib.hid hb0
  have HX0 := Lib.hid hx0
  have HX1 := Lib.hid hx1
  have HZ0 := Lib.hid hz0
  have HW0 := Lib.hid hW0
  clear hD hp hq hb0 hx0 hx1 hz0 hW0
  go_enter Tryz.func218, Tryz.ntmps218
  go_upto_region 1 with fail
  rw [← HW0.out]
  clear HW0
  obtain ⟨c0, f0⟩ := blk_at HX0.out 0
  obtain ⟨c1, f1⟩ := blk_at HX0.out 1
  obtain ⟨c2, f2⟩ := blk_at HX0.out 2
  obtain ⟨c3, f3⟩ := blk_at HX0.out 3
  obtain ⟨c4, f4⟩ := blk_at HX0.out 4
  obtain ⟨c5, f5⟩ := blk_at HX0.out 5
  have hz : w.heap.size + 2 = W0.drew.heap.size := HZ0.out.symm
  have HBD : Hid (Below w.heap.size w W0.drew) := Lib.hid HB0.out.drew
  have HXD0 : Hid (W0.drew.heap[w.heap.size]? = _) := HX0
  have HXD1 : Hid (W0.drew.heap[w.heap.size + 1]? = _) := HX1
  have HPD : Hid (RIntV W0.drew (Rd D (w.heap.size + 2) W0.drew) (.agg #[.int .i64 s, .bool b, .slice A n c]) x.num) := Lib.hid (HP0.out.same fun _ _ => rfl)
  have HQD : Hid (RIntV W0.drew (Rd D (w.heap.size + 2) W0.drew) (.agg #[.int .i64 s', .bool b', .slice A' n' c']) (x.den : Int)) := Lib.hid (HQ0.out.same fun _ _ => rfl)
  go_region_with (((with_reducible show Calls _ _ #[(.agg #[.int .i64 s, .bool b, .slice A n c])] _ _); (refine (RMinus_calls x.num _ (Rd D (w.heap.size + 2) W0.drew) W0.drew (Rd.lo HD.out HBD.out.size) HPD.out).mono ?_); (rintro e w1 ⟨v1, rfl, hb1, k1⟩); (obtain ⟨t, d, E, m, k, rfl⟩ := k1.shape); (have HP1 := Lib.hid (k1.mono (D' := Rd D (w.heap.size + 2) w1) (Rd.up hb1.size))); (have HQ1 := Lib.hid (HQD.out.lift HD.out HBD.out.size hb1)); (have HB1 := Lib.hid (HBD.out.trans (hb1.mono HBD.out.size))); (have HX01 := Lib.hid ((hb1.block w.heap.size (by omega)).trans HXD0.out)); (have HX11 := Lib.hid ((hb1.block (w.heap.size + 1) (by omega)).trans HXD1.out)); (clear hb1 k1); (obtain ⟨q0, g0⟩ := blk_at HX01.out 0); (obtain ⟨q1, g1⟩ := blk_at HX01.out 1); (obtain ⟨q2, g2⟩ := blk_at HX01.out 2); (obtain ⟨q3, g3⟩ := blk_at HX01.out 3); (obtain ⟨q4, g4⟩ := blk_at HX01.out 4); (obtain ⟨q5, g5⟩ := blk_at HX01.out 5); (obtain ⟨r0, l0⟩ := blk_at HX11.out 0); (obtain ⟨r1, l1⟩ := blk_at HX11.out 1); (obtain ⟨r2, l2⟩ := blk_at HX11.out 2); (obtain ⟨r3, l3⟩ := blk_at HX11.out 3); (obtain ⟨r4, l4⟩ := blk_at HX11.out 4); (obtain ⟨r5, l5⟩ := blk_at HX11.out 5)))
  all_goals
    go_wp2
    obtain ⟨wf, hwf, hbx, hbel, hri⟩ := fin6 (x := -x) HD.out HB1.out (Nat.le_succ _) (Nat.lt_succ_self _) HX11.out HP1.out HQ1.out
    rw [← hwf]
    clear hwf
    obtain ⟨e0, -⟩ := blk_at hbx 0
    obtain ⟨e1, -⟩ := blk_at hbx 1
    obtain ⟨e2, -⟩ := blk_at hbx 2
    obtain ⟨e3, -⟩ := blk_at hbx 3
    obtain ⟨e4, -⟩ := blk_at hbx 4
    obtain ⟨e5, -⟩ := blk_at hbx 5
    exact bodyPost_ret (v := .agg #[.int .i64 t, .bool d, .slice E m k, .int .i64 s', .bool b', .slice A' n' c']) (by simp [results, Tryz.results218, go_sem, e0, e1, e2, e3, e4, e5]) rfl ⟨_, rfl, hbel, hri⟩

theorem RRatSign_calls (x : Rat) (v : Value) (D : Nat → Prop) (w : World) (hD : Lo D w) (h : RRatV w D v x) :
    Calls Tryz.prog 150 #[v] w fun e w' => e = .returned (.int .i64 (Dig.sgn x.num)) ∧ Below w.heap.size w w' := by
  obtain ⟨s, b, A, n, c, s', b', A', n', c', rfl, hp, -⟩ := h
  obtain ⟨W0, hW0, hb0, hz0, hx0⟩ := rb1 w #[.int .i64 s, .bool b, .slice A n c, .int .i64 s', .bool b', .slice A' n' c'] 138
  have HP0 := Lib.hid (RIntV.start (B := w.heap.size + 1) hp hD hb0)
  have HB0 := Lib.hid hb0
  have HX0 := Lib.hid hx0
  have HW0 := Lib.hid hW0
  clear hD hp hb0 hx0 hz0 hW0
  go_enter Tryz.func150, Tryz.ntmps150
  go_upto_region 1 with fail
  rw [← HW0.out]
  clear HW0
  obtain ⟨c0, -⟩ := blk_at HX0.out 0
  obtain ⟨c1, -⟩ := blk_at HX0.out 1
  obtain ⟨c2, -⟩ := blk_at HX0.out 2
  go_wp2_with fail
  refine (RSign_calls x.num _ _ W0 HP0.out).mono ?_
  rintro e w1 ⟨rfl, hb1⟩
  have HB1 := Lib.hid (HB0.out.trans (hb1.mono HB0.out.size))
  clear hb1
  go_wp2
  go_ret
  exact ⟨rfl, HB1.out⟩

theorem RRatLess_calls (x y : Rat) (v u : Value) (D : Nat → Prop) (w : World) (hD : Lo D w) (h : RRatV w D v x) (h' : RRatV w D u y) (N : Nat) (hN : N ≤ 400) (fx : FitR N x) (fy : FitR N y) :
    Calls Tryz.prog 171 #[v, u] w fun e w' => ∃ v', e = .returned v' ∧ Below w.heap.size w w' ∧ RRatV w' (gr D w w') v' (x - y) := by
  have HV := Lib.hid h
  have HU := Lib.hid h'
  obtain ⟨s, b, A, n, c, s', b', A', n', c', rfl, -, -⟩ := h
  obtain ⟨t, d, E, m, k, t', d', E', m', k', rfl, -, -⟩ := h'
  have HD := Lib.hid hD
  have HF := Lib.hid (And.intro hN (And.intro fx fy.neg))
  obtain ⟨W0, hW0, hb0, hz0, hx0, hx1, hx2⟩ := rb3 w #[.int .i64 s, .bool b, .slice A n c, .int .i64 s', .bool b', .slice A' n' c'] #[.int .i64 t, .bool d, .slice E m k, .int .i64 t', .bool d', .slice E' m' k'] #[.int .i64 0, .bool false, .slice none 0 0, .int .i64 0, .bool false, .slice none 0 0] 138 138 138
  have HV0 := Lib.hid (RRatV.start (B := w.heap.size + 3) HV.out hD hb0)
  have HU0 := Lib.hid (RRatV.start (B := w.heap.size + 3) HU.out hD hb0)
  have HB0 := Lib.hid hb0
  have HX0 := Lib.hid hx0
  have HX1 := Lib.hid hx1
  have HX2 := Lib.hid hx2
  have HZ0 := Lib.hid hz0
  have HW0 := Lib.hid hW0
  clear hD hb0 hx0 hx1 hx2 hz0 hW0 hN fx fy HV HU
  go_enter Tryz.func171, Tryz.ntmps171
  go_upto_region 1 with fail
  rw [← HW0.out]
  clear HW0
  obtain ⟨c0, f0⟩ := blk_at HX0.out 0
  obtain ⟨c1, f1⟩ := blk_at HX0.out 1
  obtain ⟨c2, f2⟩ := blk_at HX0.out 2
  obtain ⟨c3, f3⟩ := blk_at HX0.out 3
  obtain ⟨c4, f4⟩ := blk_at HX0.out 4
  obtain ⟨c5, f5⟩ := blk_at HX0.out 5
  obtain ⟨d0, g0⟩ := blk_at HX1.out 0
  obtain ⟨d1, g1⟩ := blk_at HX1.out 1
  obtain ⟨d2, g2⟩ := blk_at HX1.out 2
  obtain ⟨d3, g3⟩ := blk_at HX1.out 3
  obtain ⟨d4, g4⟩ := blk_at HX1.out 4
  obtain ⟨d5, g5⟩ := blk_at HX1.out 5
  have hz : w.heap.size + 3 = W0.drew.heap.size := HZ0.out.symm
  have HBD : Hid (Below w.heap.size w W0.drew) := Lib.hid HB0.out.drew
  have HXD0 : Hid (W0.drew.heap[w.heap.size]? = _) := HX0
  have HXD1 : Hid (W0.drew.heap[w.heap.size + 1]? = _) := HX1
  have HXD2 : Hid (W0.drew.heap[w.heap.size + 2]? = _) := HX2
  have HVD : Hid (RRatV W0.drew (Rd D (w.heap.size + 3) W0.drew) (.agg #[.int .i64 s, .bool b, .slice A n c, .int .i64 s', .bool b', .slice A' n' c']) x) := Lib.hid (HV0.out.same fun _ _ => rfl)
  have HUD : Hid (RRatV W0.drew (Rd D (w.heap.size + 3) W0.drew) (.agg #[.int .i64 t, .bool d, .slice E m k, .int .i64 t', .bool d', .slice E' m' k']) y) := Lib.hid (HU0.out.same fun _ _ => rfl)
  go_region_with (first
    | ((go_at_call 218); (refine (RRatMinus_calls y _ (Rd D (w.heap.size + 3) W0.drew) W0.drew (Rd.lo HD.out HBD.out.size) HUD.out).mono ?_); (rintro e w1 ⟨v1, rfl, hb1, k1⟩); (have HM1 := Lib.hid (k1.got (Nat.le_of_eq hz) hb1)); (obtain ⟨t1, d1, E1, m1, k1', t2, d2, E2, m2, k2, rfl, -, -⟩ := k1); (have HV1 := Lib.hid (HVD.out.lift HD.out HBD.out.size hb1)); (have HB1 := Lib.hid (HBD.out.trans (hb1.mono HBD.out.size))); (have hs1 : w.heap.size + 3 ≤ w1.heap.size := Nat.le_trans (Nat.le_of_eq hz) hb1.size); (have HX01 := Lib.hid ((hb1.block w.heap.size (by omega)).trans HXD0.out)); (have HX11 := Lib.hid ((hb1.block (w.heap.size + 2) (by omega)).trans HXD2.out)); (clear hb1); (obtain ⟨q0, g0⟩ := blk_at HX01.out 0); (obtain ⟨q1, g1⟩ := blk_at HX01.out 1); (obtain ⟨q2, g2⟩ := blk_at HX01.out 2); (obtain ⟨q3, g3⟩ := blk_at HX01.out 3); (obtain ⟨q4, g4⟩ := blk_at HX01.out 4); (obtain ⟨q5, g5⟩ := blk_at HX01.out 5))
    | ((go_at_call 136); (refine (RRatPlus_calls x (-y) _ _ (Rd D (w.heap.size + 3) w1) w1 (Rd.lo HD.out HB1.out.size) HV1.out HM1.out N HF.out.1 HF.out.2.1 HF.out.2.2).mono ?_); (rintro e w2 ⟨v2, rfl, hb2, k2⟩); (have HS2 := Lib.hid (k2.got hs1 hb2)); (obtain ⟨t3, d3, E3, m3, k3, t4, d4, E4, m4, k4, rfl, -, -⟩ := k2); (have HB2 := Lib.hid (HB1.out.trans (hb2.mono HB1.out.size))); (have HX22 := Lib.hid ((hb2.block (w.heap.size + 2) (by omega)).trans HX11.out)); (clear hb2); (obtain ⟨r0, l0⟩ := blk_at HX22.out 0); (obtain ⟨r1, l1⟩ := blk_at HX22.out 1); (obtain ⟨r2, l2⟩ := blk_at HX22.out 2); (obtain ⟨r3, l3⟩ := blk_at HX22.out 3); (obtain ⟨r4, l4⟩ := blk_at HX22.out 4); (obtain ⟨r5, l5⟩ := blk_at HX22.out 5)))
  all_goals
    go_wp2
    obtain ⟨s3, d3', E3', m3', k3', s4, d4', E4', m4', k4', hv, HP, HQ⟩ := HS2.out
    rw [← Rat.sub_eq_add_neg] at HP HQ
    injection hv with hv
    simp only [Array.mk.injEq, List.cons.injEq, Value.int.injEq, Value.bool.injEq, Value.slice.injEq, true_and, and_true] at hv
    obtain ⟨rfl, rfl, ⟨rfl, rfl, rfl⟩, rfl, rfl, ⟨rfl, rfl, rfl⟩⟩ := hv
    obtain ⟨wf, hwf, hbx, hbel, hri⟩ := fin6 (x := x - y) HD.out HB2.out (Nat.le_add_right _ 2) (Nat.lt_succ_self _) HX22.out HP HQ
    rw [← hwf]
    clear hwf
    obtain ⟨e0, -⟩ := blk_at hbx 0
    obtain ⟨e1, -⟩ := blk_at hbx 1
    obtain ⟨e2, -⟩ := blk_at hbx 2
    obtain ⟨e3, -⟩ := blk_at hbx 3
    obtain ⟨e4, -⟩ := blk_at hbx 4
    obtain ⟨e5, -⟩ := blk_at hbx 5
    exact bodyPost_ret (v := .agg #[.int .i64 t3, .bool d3, .slice E3 m3 k3, .int .i64 t4, .bool d4, .slice E4 m4 k4]) (by simp [results, Tryz.results171, go_sem, e0, e1, e2, e3, e4, e5]) rfl ⟨_, rfl, hbel, hri⟩

theorem RRatCompare_calls (x y : Rat) (v u : Value) (D : Nat → Prop) (w : World) (hD : Lo D w) (h : RRatV w D v x) (h' : RRatV w D u y) (N : Nat) (hN : N ≤ 400) (fx : FitR N x) (fy : FitR N y) :
    Calls Tryz.prog 138 #[v, u] w fun e w' => e = .returned (.int .i64 (Dig.sgn (x - y).num)) ∧ Below w.heap.size w w' := by
  have HV := Lib.hid h
  have HU := Lib.hid h'
  obtain ⟨s, b, A, n, c, s', b', A', n', c', rfl, -, -⟩ := h
  obtain ⟨t, d, E, m, k, t', d', E', m', k', rfl, -, -⟩ := h'
  have HD := Lib.hid hD
  have HF := Lib.hid (And.intro hN (And.intro fx fy))
  obtain ⟨W0, hW0, hb0, hz0, hx0, hx1⟩ := rb2 w #[.int .i64 s, .bool b, .slice A n c, .int .i64 s', .bool b', .slice A' n' c'] #[.int .i64 t, .bool d, .slice E m k, .int .i64 t', .bool d', .slice E' m' k'] 138 138
  have HV0 := Lib.hid (RRatV.start (B := w.heap.size + 2) HV.out hD hb0)
  have HU0 := Lib.hid (RRatV.start (B := w.heap.size + 2) HU.out hD hb0)
  have HB0 := Lib.hid hb0
  have HX0 := Lib.hid hx0
  have HX1 := Lib.hid hx1
  have HZ0 := Lib.hid hz0
  have HW0 := Lib.hid hW0
  clear hD hb0 hx0 hx1 hz0 hW0 hN fx fy HV HU
  go_enter Tryz.func138, Tryz.ntmps138
  go_upto_region 1 with fail
  rw [← HW0.out]
  clear HW0
  obtain ⟨c0, -⟩ := blk_at HX0.out 0
  obtain ⟨c1, -⟩ := blk_at HX0.out 1
  obtain ⟨c2, -⟩ := blk_at HX0.out 2
  obtain ⟨c3, -⟩ := blk_at HX0.out 3
  obtain ⟨c4, -⟩ := blk_at HX0.out 4
  obtain ⟨c5, -⟩ := blk_at HX0.out 5
  obtain ⟨d0, -⟩ := blk_at HX1.out 0
  obtain ⟨d1, -⟩ := blk_at HX1.out 1
  obtain ⟨d2, -⟩ := blk_at HX1.out 2
  obtain ⟨d3, -⟩ := blk_at HX1.out 3
  obtain ⟨d4, -⟩ := blk_at HX1.out 4
  obtain ⟨d5, -⟩ := blk_at HX1.out 5
  go_wp2_with fail
  refine (RRatLess_calls x y _ _ (Rd D (w.heap.size + 2) W0) W0 (Rd.lo HD.out HB0.out.size) HV0.out HU0.out N HF.out.1 HF.out.2.1 HF.out.2.2).mono ?_
  rintro e w1 ⟨v1, rfl, hb1, k1⟩
  have HS1 := Lib.hid (k1.got (Nat.le_of_eq HZ0.out.symm) hb1)
  have HB1 := Lib.hid (HB0.out.trans (hb1.mono HB0.out.size))
  clear hb1 k1 c0 c1 c2 c3 c4 c5 d0 d1 d2 d3 d4 d5
  go_wp2_with fail
  refine (RRatSign_calls (x - y) _ _ w1 (Rd.lo HD.out HB1.out.size) HS1.out).mono ?_
  rintro e w2 ⟨rfl, hb2⟩
  have HB2 := Lib.hid (HB1.out.trans (hb2.mono HB1.out.size))
  clear hb2
  go_wp2
  go_ret
  exact ⟨rfl, HB2.out⟩

end Go.Proofs.YtoffbdlgmnpblaaGreat

/- The reference's test of a number. -/
namespace Go.Proofs.YtoffbdlgmnpblaaGreat
open Go.RowKit
set_option maxHeartbeats 8000000
set_option maxRecDepth 100000

theorem ab_small {z : Int} (h1 : -1152921504606846976 ≤ z) (h2 : z ≤ 1152921504606846976) : Dig.ab z < 1073741824 ^ 1000 := fit_big (fit_of_small (by omega) (by omega)) (by decide)
theorem sgn_eq0 (z : Int) : (Dig.sgn (z - 1) == 0) = decide (z = 1) := by
  rw [Bool.eq_iff_iff, beq_iff_eq, decide_eq_true_eq]
  unfold Dig.sgn
  constructor
  · intro h; split at h <;> (try split at h) <;> omega
  · rintro rfl; simp

theorem RValid_calls (t l : Int) (w : World) :
    Calls Tryz.prog 134 #[.agg #[.int .i64 t, .int .i64 l]] w fun e w' => e = .returned (.bool (validN t l)) ∧ Below w.heap.size w w' := by
  obtain ⟨W0, hW0, hb0, hz0, hx0⟩ := rb1 w #[.int .i64 t, .int .i64 l] 94
  have HB0 := Lib.hid hb0
  have HX0 := Lib.hid hx0
  have HZ0 := Lib.hid hz0
  have HW0 := Lib.hid hW0
  clear hb0 hx0 hz0 hW0
  by_cases hb : 1 ≤ l ∧ l ≤ 1152921504606846976 ∧ t ≤ 1152921504606846976 ∧ -1152921504606846976 ≤ t
  · obtain ⟨h1, h2, h3, h4⟩ := hb
    have hg : 0 ≤ (Int.gcd t l : Int) ∧ (Int.gcd t l : Int) ≤ 1152921504606846976 := by
      have : (Int.gcd t l : Int) ≤ l := Int.le_of_dvd (by omega) (Int.gcd_dvd_right t l)
      omega
    have hv : validN t l = (Dig.sgn ((Int.gcd t l : Int) - 1) == 0) := by rw [sgn_eq0]; unfold validN; rw [Bool.eq_iff_iff]; simp only [decide_eq_true_eq]; omega
    rw [hv]
    have HGM := Lib.hid hg
    clear hv hg
    go_enter Tryz.func134, Tryz.ntmps134
    go_upto_region 3 with fail
    rw [← HW0.out]
    clear HW0
    obtain ⟨c0, f0⟩ := blk_at HX0.out 0
    obtain ⟨c1, f1⟩ := blk_at HX0.out 1
    have hz : w.heap.size + 1 = W0.drew.heap.size := HZ0.out.symm
    have HBD : Hid (Below w.heap.size w W0.drew) := Lib.hid HB0.out.drew
    have HXD0 : Hid (W0.drew.heap[w.heap.size]? = _) := HX0
    go_region_with (first
      | ((with_reducible show Calls _ 166 #[.int .i64 t] W0.drew _); (refine (ROf_calls t W0.drew (by omega) (by omega)).mono ?_); (rintro e w1 ⟨v1, rfl, hb1, k1⟩); (have hs1 : w.heap.size + 1 ≤ w1.heap.size := Nat.le_trans (Nat.le_of_eq hz) hb1.size); (have HP1 := Lib.hid (k1.nwRd (B := w.heap.size + 1) (Nat.le_of_eq hz))); (have HB1 := Lib.hid (HBD.out.trans (hb1.mono HBD.out.size))); (have HX01 := Lib.hid ((hb1.block w.heap.size (by omega)).trans HXD0.out)); (clear hb1 k1); (obtain ⟨q0, g0⟩ := blk_at HX01.out 0); (obtain ⟨q1, g1⟩ := blk_at HX01.out 1))
      | ((with_reducible show Calls _ 166 #[.int .i64 l] w1 _); (refine (ROf_calls l w1 (by omega) (by omega)).mono ?_); (rintro e w2 ⟨v2, rfl, hb2, k2⟩); (have hs2 := Nat.le_trans hs1 hb2.size); (have HQ2 := Lib.hid (k2.nwRd hs1)); (have HP2 := Lib.hid (HP1.out.lift (lo_none w) HB1.out.size hb2)); (have HB2 := Lib.hid (HB1.out.trans (hb2.mono HB1.out.size))); (clear hb2 k2))
      | ((with_reducible show Calls _ 165 #[v1, v2] w2 _); (refine (RGcd_calls t l _ _ _ w2 (Rd.lo (lo_none w) HB2.out.size) HP2.out HQ2.out (ab_small h4 h3) (ab_small (Int.le_trans (by decide) h1) h2)).mono ?_); (rintro e w3 ⟨v3, rfl, hb3, k3⟩); (have hs3 := Nat.le_trans hs2 hb3.size); (have HG3 := Lib.hid (k3.got hs2 hb3)); (have HB3 := Lib.hid (HB2.out.trans (hb3.mono HB2.out.size))); (clear hb3 k3))
      | ((with_reducible show Calls _ 166 #[.int .i64 1] w3 _); (refine (ROf_calls 1 w3 (by decide) (by decide)).mono ?_); (rintro e w4 ⟨v4, rfl, hb4, k4⟩); (have HO4 := Lib.hid (k4.nwRd hs3)); (have HG4 := Lib.hid (HG3.out.lift (lo_none w) HB3.out.size hb4)); (have HB4 := Lib.hid (HB3.out.trans (hb4.mono HB3.out.size))); (clear hb4 k4))
      | ((with_reducible show Calls _ 167 #[v3, v4] w4 _); (refine (RCompare_calls (Int.gcd t l : Int) 1 _ _ _ w4 (Rd.lo (lo_none w) HB4.out.size) HG4.out HO4.out (ab_small (Int.le_trans (by decide) HGM.out.1) HGM.out.2) ab1_lt).mono ?_); (rintro e w5 ⟨rfl, hb5⟩); (have HB5 := Lib.hid (HB4.out.trans (hb5.mono HB4.out.size))); (clear hb5)))
    all_goals
      go_wp2
      go_ret
      exact ⟨rfl, HB5.out⟩
  · have hv : validN t l = false := by unfold validN; rw [decide_eq_false]; omega
    rw [hv]
    clear hv
    have hb : l < 1 ∨ (1 ≤ l ∧ 1152921504606846976 < l) ∨ (1 ≤ l ∧ l ≤ 1152921504606846976 ∧ 1152921504606846976 < t) ∨ (1 ≤ l ∧ l ≤ 1152921504606846976 ∧ t ≤ 1152921504606846976 ∧ t < -1152921504606846976) := by omega
    rcases hb with h1 | ⟨h1, h2⟩ | ⟨h1, h2, h3⟩ | ⟨h1, h2, h3, h4⟩
    all_goals
      go_enter Tryz.func134, Tryz.ntmps134
      go_wp2
      go_ret
      exact ⟨rfl, (Below.refl _ _).alloc (Nat.le_refl _) _⟩

end Go.Proofs.YtoffbdlgmnpblaaGreat
