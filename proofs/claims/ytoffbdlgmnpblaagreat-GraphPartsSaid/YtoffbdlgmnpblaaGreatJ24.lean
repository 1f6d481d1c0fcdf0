/- Part 24: Rf14. -/
import Derived.Test.YtoffbdlgmnpblaaGreatJ23

/- The reference's exact integers: the greatest common divisor. -/
namespace Go.Proofs.YtoffbdlgmnpblaaGreat
open Go.RowKit
set_option maxHeartbeats 8000000
set_option maxRecDepth 100000

theorem gcd_tmod (x y : Int) : Int.gcd y (x.tmod y) = Int.gcd x y := by
  unfold Int.gcd
  rw [Int.natAbs_tmod, Nat.gcd_comm, ← Nat.gcd_rec, Nat.gcd_comm]
theorem ab_natAbs (z : Int) : Dig.ab z = (z.natAbs : Int) := by unfold Dig.ab; split <;> omega
theorem tmod_lt' {x y : Int} (hy : y ≠ 0) : (x.tmod y).natAbs < y.natAbs := by
  rw [Int.natAbs_tmod]
  exact Nat.mod_lt _ (by omega)

theorem RGcd_calls (z y : Int) (v u : Value) (D : Nat → Prop) (w : World) (hD : Lo D w) (h : RIntV w D v z) (h' : RIntV w D u y) (hz : Dig.ab z < 1073741824 ^ 1000) (hy : Dig.ab y < 1073741824 ^ 1000) :
    Calls Tryz.prog 165 #[v, u] w fun e w' => ∃ v', e = .returned v' ∧ Below w.heap.size w w' ∧ RIntV w' (gr D w w') v' (Int.gcd z y : Int) := by
  have HV := Lib.hid h
  have HU := Lib.hid h'
  obtain ⟨s, b, A, n, c, rfl⟩ := h.shape
  obtain ⟨s', b', A', n', c', rfl⟩ := h'.shape
  have HD := Lib.hid hD
  have HZY := Lib.hid (And.intro hz hy)
  clear hD hz hy h h'
  obtain ⟨W0, hW0, hb0, hz0, hx0, hx1, hx2⟩ := rb3 w #[.int .i64 s, .bool b, .slice A n c] #[.int .i64 s', .bool b', .slice A' n' c'] #[.int .i64 0, .bool false, .slice none 0 0] 136 136 136
  have HV0 := Lib.hid (RIntV.start (B := w.heap.size + 3) HV.out HD.out hb0)
  have HU0 := Lib.hid (RIntV.start (B := w.heap.size + 3) HU.out HD.out hb0)
  have HB0 := Lib.hid hb0
  have HX0 := Lib.hid hx0
  have HX1 := Lib.hid hx1
  have HX2 := Lib.hid hx2
  have HZ0 := Lib.hid hz0
  have HW0 := Lib.hid hW0
  clear hb0 hx0 hx1 hx2 hz0 hW0
  go_enter Tryz.func165, Tryz.ntmps165
  go_wp2_with fail
  rw [← HW0.out]
  clear HW0
  go_loopg [5, 6] y.natAbs (fun k v5 v6 wr => ∃ (x y' : Int) (s : Int) (b : Bool) (A : Option Addr) (n c : Nat) (s' : Int) (b' : Bool) (A' : Option Addr) (n' c' : Nat), Hid (y'.natAbs = k) ∧ Hid (Below w.heap.size w wr) ∧ w.heap.size + 3 ≤ wr.heap.size ∧ Hid (wr.heap[w.heap.size]? = some (.cells #[.int .i64 s, .bool b, .slice A n c] 136 (0, 0))) ∧ Hid (wr.heap[w.heap.size + 1]? = some (.cells #[.int .i64 s', .bool b', .slice A' n' c'] 136 (0, 0))) ∧ Hid (wr.heap[w.heap.size + 2]? = some (.cells #[.int .i64 0, .bool false, .slice none 0 0] 136 (0, 0))) ∧ Hid (RIntV wr (Rd D (w.heap.size + 3) wr) (.agg #[.int .i64 s, .bool b, .slice A n c]) x) ∧ Hid (RIntV wr (Rd D (w.heap.size + 3) wr) (.agg #[.int .i64 s', .bool b', .slice A' n' c']) y') ∧ Hid (Int.gcd x y' = Int.gcd z y) ∧ Hid (Dig.ab x < 1073741824 ^ 1000 ∧ Dig.ab y' < 1073741824 ^ 1000))
  case atStart => exact ⟨z, y, s, b, A, n, c, s', b', A', n', c', Lib.hid rfl, HB0.out, by have := HZ0.out; omega, HX0.out, HX1.out, HX2.out, HV0.out, HU0.out, Lib.hid rfl, HZY.out⟩
  case round =>
    clear HV HU HV0 HU0 HB0 HX0 HX1 HX2 HZ0 HZY
    obtain ⟨x, yy, s, b, A, n, c, s', b', A', n', c', HK, HB, hs, HX0, HX1, HX2, HVx, HVy, HG, HM⟩ := hrel
    obtain ⟨wo, rfl⟩ : ∃ W : World, W = wr := ⟨_, rfl⟩
    obtain ⟨c0, -⟩ := blk_at HX0.out 0
    obtain ⟨c1, -⟩ := blk_at HX0.out 1
    obtain ⟨c2, -⟩ := blk_at HX0.out 2
    obtain ⟨d0, -⟩ := blk_at HX1.out 0
    obtain ⟨d1, -⟩ := blk_at HX1.out 1
    obtain ⟨d2, -⟩ := blk_at HX1.out 2
    go_wp2_with fail
    refine (RSign_calls yy _ _ wo HVy.out).mono ?_
    rintro e w1 ⟨rfl, hb1⟩
    have hs1 : w.heap.size + 3 ≤ w1.heap.size := Nat.le_trans hs hb1.size
    have HB1 := Lib.hid (HB.out.trans (hb1.mono HB.out.size))
    have HX01 := Lib.hid ((hb1.block w.heap.size (by omega)).trans HX0.out)
    have HX11 := Lib.hid ((hb1.block (w.heap.size + 1) (by omega)).trans HX1.out)
    have HX21 := Lib.hid ((hb1.block (w.heap.size + 2) (by omega)).trans HX2.out)
    have HVx1 := Lib.hid (HVx.out.lift HD.out HB.out.size hb1)
    have HVy1 := Lib.hid (HVy.out.lift HD.out HB.out.size hb1)
    have HL1 := Lib.hid (Rd.lo (W := w1) (B := w.heap.size + 3) HD.out HB1.out.size)
    clear hb1 c0 c1 c2 d0 d1 d2 HB HX0 HX1 HX2 HVx HVy
    obtain ⟨c0, f0⟩ := blk_at HX01.out 0
    obtain ⟨c1, f1⟩ := blk_at HX01.out 1
    obtain ⟨c2, f2⟩ := blk_at HX01.out 2
    obtain ⟨d0, g0⟩ := blk_at HX11.out 0
    obtain ⟨d1, g1⟩ := blk_at HX11.out 1
    obtain ⟨d2, g2⟩ := blk_at HX11.out 2
    by_cases hy : yy = 0
    · subst hy
      rw [show Dig.sgn 0 = 0 from rfl]
      have HGZ := Lib.hid (show Dig.ab x = (Int.gcd z y : Int) by rw [← HG.out, Int.gcd_zero_right, ab_natAbs])
      go_wp2_with fail
      refine (RAbs_calls x _ _ w1 HL1.out HVx1.out).mono ?_
      rintro e w2 ⟨v2, rfl, hb2, h2⟩
      obtain ⟨s2, b2, A2, n2, c2', rfl⟩ := h2.shape
      have H2 := Lib.hid (h2.got hs1 hb2)
      have HB2 := Lib.hid (HB1.out.trans (hb2.mono HB1.out.size))
      have HX22 := Lib.hid ((hb2.block (w.heap.size + 2) (by omega)).trans HX21.out)
      clear hb2 h2 c0 c1 c2 d0 d1 d2 f0 f1 f2 g0 g1 g2
      obtain ⟨c0, f0⟩ := blk_at HX22.out 0
      obtain ⟨c1, f1⟩ := blk_at HX22.out 1
      obtain ⟨c2, f2⟩ := blk_at HX22.out 2
      go_wp2
      obtain ⟨wf, hwf, e0, e1, e2, hbel, hri⟩ := fin3 HD.out HB2.out (Nat.le_add_right _ 2) (Nat.lt_succ_self _) HX22.out H2.out
      rw [← hwf]
      clear hwf
      exact bodyPost_ret (v := .agg #[.int .i64 s2, .bool b2, .slice A2 n2 c2']) (by simp [results, Tryz.results165, go_sem, e0, e1, e2]) rfl ⟨_, rfl, hbel, by rw [← HGZ.out]; exact hri⟩
    · have hsn : (Dig.sgn yy != 0) = true := by
        rw [bne_iff_ne]
        rcases (show yy < 0 ∨ 0 < yy by omega) with h | h
        · rw [Dig.sgn_lt h]; decide
        · rw [Dig.sgn_gt h]; decide
      generalize Dig.sgn yy = sg at *
      have HY0 := Lib.hid hy
      clear hy
      go_wp2_with fail
      refine (ROver_calls x yy _ _ _ w1 HL1.out HVx1.out HVy1.out HM.out.1 HM.out.2 HY0.out).mono ?_
      rintro e w2 ⟨q, r, rfl, hb2, hq, hr⟩
      obtain ⟨s2, b2, A2, n2, c2', rfl⟩ := hq.shape
      obtain ⟨s3, b3, A3, n3, c3', rfl⟩ := hr.shape
      have HR2 := Lib.hid (hr.got hs1 hb2)
      have HVy2 := Lib.hid (HVy1.out.lift HD.out HB1.out.size hb2)
      have HB2 := Lib.hid (HB1.out.trans (hb2.mono HB1.out.size))
      have HX02 := Lib.hid ((hb2.block w.heap.size (by omega)).trans HX01.out)
      have HX12 := Lib.hid ((hb2.block (w.heap.size + 1) (by omega)).trans HX11.out)
      have HX22 := Lib.hid ((hb2.block (w.heap.size + 2) (by omega)).trans HX21.out)
      have hs2 : w.heap.size + 3 ≤ w2.heap.size := Nat.le_trans hs1 hb2.size
      clear hb2 hq hr c0 c1 c2 d0 d1 d2 f0 f1 f2 g0 g1 g2 HB1 HX01 HX11 HX21 HVx1 HVy1 HL1
      go_upto_region 3 with fail
      have hb3 := boxes2 w2 (.cells #[.int .i64 s2, .bool b2, .slice A2 n2 c2'] 136) (.cells #[.int .i64 s3, .bool b3, .slice A3 n3 c3'] 136)
      have hr3 : ((w2.alloc (.cells #[.int .i64 s2, .bool b2, .slice A2 n2 c2'] 136)).alloc (.cells #[.int .i64 s3, .bool b3, .slice A3 n3 c3'] 136)).heap[w2.heap.size + 1]? = some (.cells #[.int .i64 s3, .bool b3, .slice A3 n3 c3'] 136 (0, 0)) := by
        have := heap_alloc_new (w2.alloc (.cells #[.int .i64 s2, .bool b2, .slice A2 n2 c2'] 136)) (.cells #[.int .i64 s3, .bool b3, .slice A3 n3 c3'] 136)
        rw [World.size_alloc] at this
        exact this
      have hz3 : ((w2.alloc (.cells #[.int .i64 s2, .bool b2, .slice A2 n2 c2'] 136)).alloc (.cells #[.int .i64 s3, .bool b3, .slice A3 n3 c3'] 136)).heap.size = w2.heap.size + 2 := by simp
      obtain ⟨w3, hw3⟩ : ∃ W : World, W = (w2.alloc (.cells #[.int .i64 s2, .bool b2, .slice A2 n2 c2'] 136)).alloc (.cells #[.int .i64 s3, .bool b3, .slice A3 n3 c3'] 136) := ⟨_, rfl⟩
      rw [← hw3] at hb3 hr3 hz3
      rw [← hw3]
      have HB3 := Lib.hid (HB2.out.trans (hb3.mono HB2.out.size))
      have HX03 := Lib.hid ((hb3.block w.heap.size (by omega)).trans HX02.out)
      have HX13 := Lib.hid ((hb3.block (w.heap.size + 1) (by omega)).trans HX12.out)
      have HX23 := Lib.hid ((hb3.block (w.heap.size + 2) (by omega)).trans HX22.out)
      have HR3 := Lib.hid (HR2.out.lift HD.out HB2.out.size hb3)
      have HVy3 := Lib.hid (HVy2.out.lift HD.out HB2.out.size hb3)
      have hs3 : w.heap.size + 3 ≤ w3.heap.size := Nat.le_trans hs2 hb3.size
      obtain ⟨c0, f0⟩ := blk_at HX03.out 0
      obtain ⟨c1, f1⟩ := blk_at HX03.out 1
      obtain ⟨c2, f2⟩ := blk_at HX03.out 2
      obtain ⟨d0, g0⟩ := blk_at HX13.out 0
      obtain ⟨d1, g1⟩ := blk_at HX13.out 1
      obtain ⟨d2, g2⟩ := blk_at HX13.out 2
      obtain ⟨r0, -⟩ := blk_at hr3 0
      obtain ⟨r1, -⟩ := blk_at hr3 1
      obtain ⟨r2, -⟩ := blk_at hr3 2
      have HGN := Lib.hid (show Int.gcd yy (x.tmod yy) = Int.gcd z y by rw [gcd_tmod, HG.out])
      have HMN := Lib.hid (show Dig.ab yy < 1073741824 ^ 1000 ∧ Dig.ab (x.tmod yy) < 1073741824 ^ 1000 from ⟨HM.out.2, by
        have h1 := tmod_lt' (x := x) HY0.out
        have h2 := HM.out.2
        rw [ab_natAbs] at h2 ⊢
        omega⟩)
      have HLT := Lib.hid (show (x.tmod yy).natAbs < gk by rw [← HK.out]; exact tmod_lt' HY0.out)
      clear hw3 hb3 hz3 hr3 HR2 HVy2 HB2 HX02 HX12 HX22 HG HM hs1
      go_region
      have hy0 := st3_blk HX03.out (.int .i64 s') (.bool b') (.slice A' n' c')
      have hy1 := (st3_other (g := w.heap.size) (k := w.heap.size + 1) (by omega) (.int .i64 s') (.bool b') (.slice A' n' c')).trans HX13.out
      have hy2 := (st3_other (g := w.heap.size) (k := w.heap.size + 2) (by omega) (.int .i64 s') (.bool b') (.slice A' n' c')).trans HX23.out
      have hyb := st3_below HB3.out (Nat.le_refl _) (.int .i64 s') (.bool b') (.slice A' n' c')
      have hyz := st3_size w3 w.heap.size (.int .i64 s') (.bool b') (.slice A' n' c')
      have hyr := RIntV.st3 (D' := Rd D (w.heap.size + 3) w3) HR3.out (g := w.heap.size) (fun k hk => ⟨by rcases hk with hk | hk; exact Nat.ne_of_lt (HD.out k hk); omega, hk⟩) (.int .i64 s') (.bool b') (.slice A' n' c')
      have hyv := RIntV.st3 (D' := Rd D (w.heap.size + 3) w3) HVy3.out (g := w.heap.size) (fun k hk => ⟨by rcases hk with hk | hk; exact Nat.ne_of_lt (HD.out k hk); omega, hk⟩) (.int .i64 s') (.bool b') (.slice A' n' c')
      obtain ⟨w4, hw4⟩ : ∃ W : World, W = ((w3.setCell ⟨w.heap.size, 0, none⟩ (.int .i64 s')).setCell ⟨w.heap.size, 1, none⟩ (.bool b')).setCell ⟨w.heap.size, 2, none⟩ (.slice A' n' c') := ⟨_, rfl⟩
      rw [← hw4] at hy0 hy1 hy2 hyb hyz hyr hyv
      rw [← hw4]
      have hv0 := (st3_other (g := w.heap.size + 1) (k := w.heap.size) (by omega) (.int .i64 s3) (.bool b3) (.slice A3 n3 c3')).trans hy0
      have hv1 := st3_blk hy1 (.int .i64 s3) (.bool b3) (.slice A3 n3 c3')
      have hv2 := (st3_other (g := w.heap.size + 1) (k := w.heap.size + 2) (by omega) (.int .i64 s3) (.bool b3) (.slice A3 n3 c3')).trans hy2
      have hvb := st3_below hyb (Nat.le_succ _) (.int .i64 s3) (.bool b3) (.slice A3 n3 c3')
      have hvz := st3_size w4 (w.heap.size + 1) (.int .i64 s3) (.bool b3) (.slice A3 n3 c3')
      have hvr := RIntV.st3 (D' := Rd D (w.heap.size + 3) w3) hyr (g := w.heap.size + 1) (fun k hk => ⟨by rcases hk with hk | hk; (have := HD.out k hk; omega); omega, hk⟩) (.int .i64 s3) (.bool b3) (.slice A3 n3 c3')
      have hvv := RIntV.st3 (D' := Rd D (w.heap.size + 3) w3) hyv (g := w.heap.size + 1) (fun k hk => ⟨by rcases hk with hk | hk; (have := HD.out k hk; omega); omega, hk⟩) (.int .i64 s3) (.bool b3) (.slice A3 n3 c3')
      obtain ⟨w5, hw5⟩ : ∃ W : World, W = ((w4.setCell ⟨w.heap.size + 1, 0, none⟩ (.int .i64 s3)).setCell ⟨w.heap.size + 1, 1, none⟩ (.bool b3)).setCell ⟨w.heap.size + 1, 2, none⟩ (.slice A3 n3 c3') := ⟨_, rfl⟩
      rw [← hw5] at hv0 hv1 hv2 hvb hvz hvr hvv
      rw [← hw5]
      have hz5 : w5.heap.size = w3.heap.size := hvz.trans hyz
      have HZ5 := Lib.hid hz5
      have E := Lib.hid (And.intro hv0 (And.intro hv1 hv2))
      have EB := Lib.hid hvb
      have ER := Lib.hid (hvr.mono (D' := Rd D (w.heap.size + 3) w5) (Rd.up (Nat.le_of_eq hz5.symm)))
      have EV := Lib.hid (hvv.mono (D' := Rd D (w.heap.size + 3) w5) (Rd.up (Nat.le_of_eq hz5.symm)))
      clear hw4 hw5 hy0 hy1 hy2 hyb hyz hyr hyv hv0 hv1 hv2 hvb hvz hvr hvv hz5 c0 c1 c2 d0 d1 d2 r0 r1 r2 f0 f1 f2 g0 g1 g2
      go_wp2
      go_roundg (x.tmod yy).natAbs
      case measure => exact HLT.out
      case rel => exact ⟨yy, x.tmod yy, s', b', A', n', c', s3, b3, A3, n3, c3', Lib.hid rfl, Lib.hid EB.out.drew, by show _ ≤ w5.heap.size; have := HZ5.out; omega, E.out.1, E.out.2.1, E.out.2.2, EV.out, ER.out, HGN.out, HMN.out⟩

end Go.Proofs.YtoffbdlgmnpblaaGreat
