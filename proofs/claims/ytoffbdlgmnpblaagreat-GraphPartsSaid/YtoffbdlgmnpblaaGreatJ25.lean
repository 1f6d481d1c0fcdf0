/- Part 25: Rf15. -/
import Derived.Test.YtoffbdlgmnpblaaGreatJ24

/- The reference's rational numbers: made of integers. -/
namespace Go.Proofs.YtoffbdlgmnpblaaGreat
open Go.RowKit
set_option maxHeartbeats 8000000
set_option maxRecDepth 100000

/-- a rational number as the reference lays it out -/
def RRatV (w : World) (D : Nat → Prop) (v : Value) (x : Rat) : Prop := ∃ s b A n c s' b' A' n' c', v = .agg #[.int .i64 s, .bool b, .slice A n c, .int .i64 s', .bool b', .slice A' n' c'] ∧ RIntV w D (.agg #[.int .i64 s, .bool b, .slice A n c]) x.num ∧ RIntV w D (.agg #[.int .i64 s', .bool b', .slice A' n' c']) (x.den : Int)
theorem RRatV.same {w w' : World} {D : Nat → Prop} {v : Value} {x : Rat} (h : RRatV w D v x) (hs : Same D w w') : RRatV w' D v x := by
  obtain ⟨s, b, A, n, c, s', b', A', n', c', e, h1, h2⟩ := h
  exact ⟨s, b, A, n, c, s', b', A', n', c', e, h1.same hs, h2.same hs⟩
theorem RRatV.mono {w : World} {D D' : Nat → Prop} {v : Value} {x : Rat} (h : RRatV w D v x) (hs : ∀ k, D k → D' k) : RRatV w D' v x := by
  obtain ⟨s, b, A, n, c, s', b', A', n', c', e, h1, h2⟩ := h
  exact ⟨s, b, A, n, c, s', b', A', n', c', e, h1.mono hs, h2.mono hs⟩
theorem make_parts {p q : Int} (hq : 0 < q) : (Rat.divInt p q).num = p.tdiv (Int.gcd p q : Int) ∧ ((Rat.divInt p q).den : Int) = q.tdiv (Int.gcd p q : Int) ∧ (0 : Int) < (Int.gcd p q : Int) ∧ (Int.gcd p q : Int) ≤ q := by
  obtain ⟨h0, h1, h2, -, -, h3, h4⟩ := ratio_val p q (by omega)
  have hs : q.sign = 1 := Int.sign_eq_one_of_pos hq
  refine ⟨?_, ?_, by omega, Int.le_of_dvd hq (Int.gcd_dvd_right _ _)⟩
  · rw [h3, hs, Int.one_mul, h1]
  · rw [h4, hs, Int.one_mul, h2]
/-- six cells are written -/
theorem st6_blk {W : World} {g : Nat} {x0 x1 x2 x3 x4 x5 : Value} {t : TypeId} (h : W.heap[g]? = some (.cells #[x0, x1, x2, x3, x4, x5] t (0, 0))) (a b c d e f : Value) : ((((((W.setCell ⟨g, 0, none⟩ a).setCell ⟨g, 1, none⟩ b).setCell ⟨g, 2, none⟩ c).setCell ⟨g, 3, none⟩ d).setCell ⟨g, 4, none⟩ e).setCell ⟨g, 5, none⟩ f).heap[g]? = some (.cells #[a, b, c, d, e, f] t (0, 0)) :=
  blk_set (blk_set (blk_set (blk_set (blk_set (blk_set h 0 a) 1 b) 2 c) 3 d) 4 e) 5 f
theorem st6_other {W : World} {g k : Nat} (h : k ≠ g) (a b c d e f : Value) : ((((((W.setCell ⟨g, 0, none⟩ a).setCell ⟨g, 1, none⟩ b).setCell ⟨g, 2, none⟩ c).setCell ⟨g, 3, none⟩ d).setCell ⟨g, 4, none⟩ e).setCell ⟨g, 5, none⟩ f).heap[k]? = W.heap[k]? :=
  (Below.heap_setCell _ _ _ _ h).trans ((Below.heap_setCell _ _ _ _ h).trans ((Below.heap_setCell _ _ _ _ h).trans ((Below.heap_setCell _ _ _ _ h).trans ((Below.heap_setCell _ _ _ _ h).trans (Below.heap_setCell _ _ _ _ h)))))
theorem st6_size (W : World) (g : Nat) (a b c d e f : Value) : ((((((W.setCell ⟨g, 0, none⟩ a).setCell ⟨g, 1, none⟩ b).setCell ⟨g, 2, none⟩ c).setCell ⟨g, 3, none⟩ d).setCell ⟨g, 4, none⟩ e).setCell ⟨g, 5, none⟩ f).heap.size = W.heap.size := by simp [World.setCell]
theorem st6_below {B : Nat} {w W : World} (h : Below B w W) {g : Nat} (hg : B ≤ g) (a b c d e f : Value) : Below B w ((((((W.setCell ⟨g, 0, none⟩ a).setCell ⟨g, 1, none⟩ b).setCell ⟨g, 2, none⟩ c).setCell ⟨g, 3, none⟩ d).setCell ⟨g, 4, none⟩ e).setCell ⟨g, 5, none⟩ f) :=
  (((((h.setCell (p := ⟨g, 0, none⟩) hg a).setCell (p := ⟨g, 1, none⟩) hg b).setCell (p := ⟨g, 2, none⟩) hg c).setCell (p := ⟨g, 3, none⟩) hg d).setCell (p := ⟨g, 4, none⟩) hg e).setCell (p := ⟨g, 5, none⟩) hg f
/-- the rational result is stored into its box -/
theorem fin6 {w W : World} {D : Nat → Prop} {B g : Nat} {x : Rat} {s : Int} {b : Bool} {A : Option Addr} {n c : Nat} {s' : Int} {b' : Bool} {A' : Option Addr} {n' c' : Nat} {x0 x1 x2 x3 x4 x5 : Value} {t : TypeId} (hD : Lo D w) (hb : Below w.heap.size w W) (hg : w.heap.size ≤ g) (hgB : g < B) (hx : W.heap[g]? = some (.cells #[x0, x1, x2, x3, x4, x5] t (0, 0)))
    (h1 : RIntV W (Rd D B W) (.agg #[.int .i64 s, .bool b, .slice A n c]) x.num) (h2 : RIntV W (Rd D B W) (.agg #[.int .i64 s', .bool b', .slice A' n' c']) (x.den : Int)) :
    ∃ wf, wf = (((((W.setCell ⟨g, 0, none⟩ (.int .i64 s)).setCell ⟨g, 1, none⟩ (.bool b)).setCell ⟨g, 2, none⟩ (.slice A n c)).setCell ⟨g, 3, none⟩ (.int .i64 s')).setCell ⟨g, 4, none⟩ (.bool b')).setCell ⟨g, 5, none⟩ (.slice A' n' c') ∧ wf.heap[g]? = some (.cells #[.int .i64 s, .bool b, .slice A n c, .int .i64 s', .bool b', .slice A' n' c'] t (0, 0)) ∧
      Below w.heap.size w wf ∧ RRatV wf (gr D w wf) (.agg #[.int .i64 s, .bool b, .slice A n c, .int .i64 s', .bool b', .slice A' n' c']) x := by
  have hw := hb.size
  have hsm : Same (Rd D B W) W ((((((W.setCell ⟨g, 0, none⟩ (.int .i64 s)).setCell ⟨g, 1, none⟩ (.bool b)).setCell ⟨g, 2, none⟩ (.slice A n c)).setCell ⟨g, 3, none⟩ (.int .i64 s')).setCell ⟨g, 4, none⟩ (.bool b')).setCell ⟨g, 5, none⟩ (.slice A' n' c')) := fun k hk => st6_other (by
    rcases hk with hk | hk
    · have := hD k hk; omega
    · omega) _ _ _ _ _ _
  have hz := st6_size W g (.int .i64 s) (.bool b) (.slice A n c) (.int .i64 s') (.bool b') (.slice A' n' c')
  have hgr : ∀ k, Rd D B W k → gr D w ((((((W.setCell ⟨g, 0, none⟩ (.int .i64 s)).setCell ⟨g, 1, none⟩ (.bool b)).setCell ⟨g, 2, none⟩ (.slice A n c)).setCell ⟨g, 3, none⟩ (.int .i64 s')).setCell ⟨g, 4, none⟩ (.bool b')).setCell ⟨g, 5, none⟩ (.slice A' n' c')) k := fun k hk => by
    rcases hk with hk | hk
    · exact .inl hk
    · exact .inr ⟨by omega, by rw [hz]; exact hk.2⟩
  exact ⟨_, rfl, st6_blk hx _ _ _ _ _ _, st6_below hb hg _ _ _ _ _ _, _, _, _, _, _, _, _, _, _, _, rfl, (h1.same hsm).mono hgr, (h2.same hsm).mono hgr⟩

theorem ab1_lt : Dig.ab 1 < 1073741824 ^ 1000 := Int.lt_of_lt_of_le (show Dig.ab 1 < 1073741824 ^ 1 by decide) (Dig.pow_mono (b := 1073741824) (by decide) (by omega))
/-- three cells of a box are written: all that is kept -/
theorem put3 {w W : World} {D : Nat → Prop} {B g : Nat} {x y z : Value} {t : TypeId} (hD : Lo D w) (hb : Below w.heap.size w W) (hg : w.heap.size ≤ g) (hgB : g < B) (hx : W.heap[g]? = some (.cells #[x, y, z] t (0, 0))) (a b c : Value) :
    ∃ W', W' = ((W.setCell ⟨g, 0, none⟩ a).setCell ⟨g, 1, none⟩ b).setCell ⟨g, 2, none⟩ c ∧ W'.heap[g]? = some (.cells #[a, b, c] t (0, 0)) ∧ (∀ k, k ≠ g → W'.heap[k]? = W.heap[k]?) ∧ Below w.heap.size w W' ∧ W'.heap.size = W.heap.size ∧ ∀ v i, RIntV W (Rd D B W) v i → RIntV W' (Rd D B W') v i := by
  have hz := st3_size W g a b c
  refine ⟨_, rfl, st3_blk hx _ _ _, fun k hk => st3_other hk _ _ _, st3_below hb hg _ _ _, hz, fun v i h => h.st3 (fun k hk => ⟨?_, Rd.up (Nat.le_of_eq hz.symm) k hk⟩) _ _ _⟩
  rcases hk with hk | hk
  · have := hD k hk; omega
  · omega

theorem RMake_calls (z y : Int) (v u : Value) (D : Nat → Prop) (w : World) (hD : Lo D w) (h : RIntV w D v z) (h' : RIntV w D u y) (hz : Dig.ab z < 1073741824 ^ 1000) (hy : Dig.ab y < 1073741824 ^ 1000) (hy0 : y ≠ 0) :
    Calls Tryz.prog 168 #[v, u] w fun e w' => ∃ v', e = .returned v' ∧ Below w.heap.size w w' ∧ RRatV w' (gr D w w') v' (Rat.divInt z y) := by
  have HV := Lib.hid h
  have HU := Lib.hid h'
  obtain ⟨s, b, A, n, c, rfl⟩ := h.shape
  obtain ⟨s', b', A', n', c', rfl⟩ := h'.shape
  have HD := Lib.hid hD
  have HZY := Lib.hid (And.intro hz (And.intro hy hy0))
  clear hD hz hy hy0 h h'
  obtain ⟨W0, hW0, hb0, hz0, hx0, hx1, hx2⟩ := rb3 w #[.int .i64 s, .bool b, .slice A n c] #[.int .i64 s', .bool b', .slice A' n' c'] #[.int .i64 0, .bool false, .slice none 0 0, .int .i64 0, .bool false, .slice none 0 0] 136 136 138
  have HV0 := Lib.hid (RIntV.start (B := w.heap.size + 3) HV.out HD.out hb0)
  have HU0 := Lib.hid (RIntV.start (B := w.heap.size + 3) HU.out HD.out hb0)
  have HB0 := Lib.hid hb0
  have HX0 := Lib.hid hx0
  have HX1 := Lib.hid hx1
  have HX2 := Lib.hid hx2
  have HZ0 := Lib.hid hz0
  have HW0 := Lib.hid hW0
  clear hb0 hx0 hx1 hx2 hz0 hW0
  go_enter Tryz.func168, Tryz.ntmps168
  go_upto_region 1 with fail
  rw [← HW0.out]
  clear HW0
  obtain ⟨c0, f0⟩ := blk_at HX0.out 0
  obtain ⟨c1, f1⟩ := blk_at HX0.out 1
  obtain ⟨c2, f2⟩ := blk_at HX0.out 2
  obtain ⟨d0, g0⟩ := blk_at HX1.out 0
  obtain ⟨d1, g1⟩ := blk_at HX1.out 1
  obtain ⟨d2, g2⟩ := blk_at HX1.out 2
  go_wp2_with fail
  refine (RSign_calls y _ _ W0 HU0.out).mono ?_
  rintro e w1 ⟨rfl, hb1⟩
  have hs1 : w.heap.size + 3 ≤ w1.heap.size := by have := hb1.size; have := HZ0.out; omega
  have HB1 := Lib.hid (HB0.out.trans (hb1.mono HB0.out.size))
  have HX01 := Lib.hid ((hb1.block w.heap.size (by have := HZ0.out; omega)).trans HX0.out)
  have HX11 := Lib.hid ((hb1.block (w.heap.size + 1) (by have := HZ0.out; omega)).trans HX1.out)
  have HX21 := Lib.hid ((hb1.block (w.heap.size + 2) (by have := HZ0.out; omega)).trans HX2.out)
  have HV1 := Lib.hid (HV0.out.lift HD.out HB0.out.size hb1)
  have HU1 := Lib.hid (HU0.out.lift HD.out HB0.out.size hb1)
  clear hb1 c0 c1 c2 d0 d1 d2 f0 f1 f2 g0 g1 g2 HB0 HX0 HX1 HX2 HZ0 HV0 HU0 HV HU
  by_cases hn : y < 0
  · rw [Dig.sgn_lt hn]
    have HN := Lib.hid (show (0 : Int) < -y ∧ Rat.divInt (-z) (-y) = Rat.divInt z y ∧ Dig.ab (-z) < 1073741824 ^ 1000 ∧ Dig.ab (-y) < 1073741824 ^ 1000 from ⟨by omega, Rat.neg_divInt_neg _ _, by rw [ab_natAbs, Int.natAbs_neg, ← ab_natAbs]; exact HZY.out.1, by rw [ab_natAbs, Int.natAbs_neg, ← ab_natAbs]; exact HZY.out.2.1⟩)
    clear hn
    obtain ⟨c0, f0⟩ := blk_at HX01.out 0
    obtain ⟨c1, f1⟩ := blk_at HX01.out 1
    obtain ⟨c2, f2⟩ := blk_at HX01.out 2
    obtain ⟨d0, g0⟩ := blk_at HX11.out 0
    obtain ⟨d1, g1⟩ := blk_at HX11.out 1
    obtain ⟨d2, g2⟩ := blk_at HX11.out 2
    go_upto_region 2 with fail
    go_cut [] from 9 to 12 (fun wx => ∃ (p q : Int) (s : Int) (b : Bool) (A : Option Addr) (n c : Nat) (s' : Int) (b' : Bool) (A' : Option Addr) (n' c' : Nat), Hid (Below w.heap.size w wx) ∧ w.heap.size + 3 ≤ wx.heap.size ∧ Hid (wx.heap[w.heap.size]? = some (.cells #[.int .i64 s, .bool b, .slice A n c] 136 (0, 0))) ∧ Hid (wx.heap[w.heap.size + 1]? = some (.cells #[.int .i64 s', .bool b', .slice A' n' c'] 136 (0, 0))) ∧ Hid (wx.heap[w.heap.size + 2]? = some (.cells #[.int .i64 0, .bool false, .slice none 0 0, .int .i64 0, .bool false, .slice none 0 0] 138 (0, 0))) ∧ Hid (RIntV wx (Rd D (w.heap.size + 3) wx) (.agg #[.int .i64 s, .bool b, .slice A n c]) p) ∧ Hid (RIntV wx (Rd D (w.heap.size + 3) wx) (.agg #[.int .i64 s', .bool b', .slice A' n' c']) q) ∧ Hid (0 < q ∧ Rat.divInt p q = Rat.divInt z y ∧ Dig.ab p < 1073741824 ^ 1000 ∧ Dig.ab q < 1073741824 ^ 1000))
    case first =>
      have HVD : Hid (RIntV w1.drew (Rd D (w.heap.size + 3) w1.drew) (.agg #[.int .i64 s, .bool b, .slice A n c]) z) := Lib.hid (HV1.out.same fun _ _ => rfl)
      have HUD : Hid (RIntV w1.drew (Rd D (w.heap.size + 3) w1.drew) (.agg #[.int .i64 s', .bool b', .slice A' n' c']) y) := Lib.hid (HU1.out.same fun _ _ => rfl)
      have HLD : Hid (Lo (Rd D (w.heap.size + 3) w1.drew) w1.drew) := Lib.hid (Rd.lo (W := w1) HD.out HB1.out.size)
      have HBD : Hid (Below w.heap.size w w1.drew) := Lib.hid HB1.out.drew
      go_region_with (first
        | ((with_reducible show Calls _ _ #[.agg #[.int .i64 s, .bool b, .slice A n c]] _ _); (refine (RMinus_calls z _ _ w1.drew HLD.out HVD.out).mono ?_); (rintro e y1 ⟨v1, rfl, hb1, h1⟩); (obtain ⟨sp, bp, Ap, np, cp, rfl⟩ := h1.shape); (have HBA := Lib.hid (HBD.out.trans (hb1.mono HBD.out.size))); (have hsa := Nat.le_trans (show w.heap.size + 3 ≤ w1.drew.heap.size from hs1) hb1.size); (have HPA := Lib.hid (h1.mono (D' := Rd D (w.heap.size + 3) y1) (Rd.up hb1.size))); (have HQA := Lib.hid (HUD.out.lift HD.out HBD.out.size hb1)); (have HXA0 := Lib.hid ((hb1.block w.heap.size (by show w.heap.size < w1.heap.size; omega)).trans HX01.out)); (have HXA1 := Lib.hid ((hb1.block (w.heap.size + 1) (by show _ < w1.heap.size; omega)).trans HX11.out)); (have HXA2 := Lib.hid ((hb1.block (w.heap.size + 2) (by show _ < w1.heap.size; omega)).trans HX21.out)); (have HLA := Lib.hid (Rd.lo (W := y1) (B := w.heap.size + 3) HD.out HBA.out.size)); (clear hb1 h1); (obtain ⟨p0, q0⟩ := blk_at HXA0.out 0); (obtain ⟨p1, q1⟩ := blk_at HXA0.out 1); (obtain ⟨p2, q2⟩ := blk_at HXA0.out 2); (obtain ⟨r0, t0⟩ := blk_at HXA1.out 0); (obtain ⟨r1, t1⟩ := blk_at HXA1.out 1); (obtain ⟨r2, t2⟩ := blk_at HXA1.out 2))
        | ((with_reducible show Calls _ _ #[.agg #[.int .i64 s', .bool b', .slice A' n' c']] y1 _); (refine (RMinus_calls y _ _ y1 HLA.out HQA.out).mono ?_); (rintro e y2 ⟨v2, rfl, hb2, h2⟩); (obtain ⟨sq, bq, Aq, nq, cq, rfl⟩ := h2.shape); (have HBB := Lib.hid (HBA.out.trans (hb2.mono HBA.out.size))); (have hsb := Nat.le_trans hsa hb2.size); (have HQB := Lib.hid (h2.mono (D' := Rd D (w.heap.size + 3) y2) (Rd.up hb2.size))); (have HPB := Lib.hid (HPA.out.lift HD.out HBA.out.size hb2)); (have HXB0 := Lib.hid ((hb2.block w.heap.size (by omega)).trans HXA0.out)); (have HXB1 := Lib.hid ((hb2.block (w.heap.size + 1) (by omega)).trans HXA1.out)); (have HXB2 := Lib.hid ((hb2.block (w.heap.size + 2) (by omega)).trans HXA2.out)); (clear hb2 h2 p0 q0 p1 q1 p2 q2 r0 t0 r1 t1 r2 t2); (obtain ⟨p0, q0⟩ := blk_at HXB0.out 0); (obtain ⟨p1, q1⟩ := blk_at HXB0.out 1); (obtain ⟨p2, q2⟩ := blk_at HXB0.out 2); (obtain ⟨r0, t0⟩ := blk_at HXB1.out 0); (obtain ⟨r1, t1⟩ := blk_at HXB1.out 1); (obtain ⟨r2, t2⟩ := blk_at HXB1.out 2)))
      all_goals
        clear p0 q0 p1 q1 p2 q2 r0 t0 r1 t1 r2 t2
        have hy0 := st3_blk HXB0.out (.int .i64 sp) (.bool bp) (.slice Ap np cp)
        have hy1 := (st3_other (g := w.heap.size) (k := w.heap.size + 1) (by omega) (.int .i64 sp) (.bool bp) (.slice Ap np cp)).trans HXB1.out
        have hy2 := (st3_other (g := w.heap.size) (k := w.heap.size + 2) (by omega) (.int .i64 sp) (.bool bp) (.slice Ap np cp)).trans HXB2.out
        have hyb := st3_below HBB.out (Nat.le_refl _) (.int .i64 sp) (.bool bp) (.slice Ap np cp)
        have hyz := st3_size y2 w.heap.size (.int .i64 sp) (.bool bp) (.slice Ap np cp)
        have hyr := RIntV.st3 (D' := Rd D (w.heap.size + 3) y2) HPB.out (g := w.heap.size) (fun k hk => ⟨by rcases hk with hk | hk; exact Nat.ne_of_lt (HD.out k hk); omega, hk⟩) (.int .i64 sp) (.bool bp) (.slice Ap np cp)
        have hyv := RIntV.st3 (D' := Rd D (w.heap.size + 3) y2) HQB.out (g := w.heap.size) (fun k hk => ⟨by rcases hk with hk | hk; exact Nat.ne_of_lt (HD.out k hk); omega, hk⟩) (.int .i64 sp) (.bool bp) (.slice Ap np cp)
        obtain ⟨w4, hw4⟩ : ∃ W : World, W = ((y2.setCell ⟨w.heap.size, 0, none⟩ (.int .i64 sp)).setCell ⟨w.heap.size, 1, none⟩ (.bool bp)).setCell ⟨w.heap.size, 2, none⟩ (.slice Ap np cp) := ⟨_, rfl⟩
        rw [← hw4] at hy0 hy1 hy2 hyb hyz hyr hyv
        try rw [← hw4]
        have hv0 := (st3_other (g := w.heap.size + 1) (k := w.heap.size) (by omega) (.int .i64 sq) (.bool bq) (.slice Aq nq cq)).trans hy0
        have hv1 := st3_blk hy1 (.int .i64 sq) (.bool bq) (.slice Aq nq cq)
        have hv2 := (st3_other (g := w.heap.size + 1) (k := w.heap.size + 2) (by omega) (.int .i64 sq) (.bool bq) (.slice Aq nq cq)).trans hy2
        have hvb := st3_below hyb (Nat.le_succ _) (.int .i64 sq) (.bool bq) (.slice Aq nq cq)
        have hvz := st3_size w4 (w.heap.size + 1) (.int .i64 sq) (.bool bq) (.slice Aq nq cq)
        have hvr := RIntV.st3 (D' := Rd D (w.heap.size + 3) y2) hyr (g := w.heap.size + 1) (fun k hk => ⟨by rcases hk with hk | hk; (have := HD.out k hk; omega); omega, hk⟩) (.int .i64 sq) (.bool bq) (.slice Aq nq cq)
        have hvv := RIntV.st3 (D' := Rd D (w.heap.size + 3) y2) hyv (g := w.heap.size + 1) (fun k hk => ⟨by rcases hk with hk | hk; (have := HD.out k hk; omega); omega, hk⟩) (.int .i64 sq) (.bool bq) (.slice Aq nq cq)
        obtain ⟨w5, hw5⟩ : ∃ W : World, W = ((w4.setCell ⟨w.heap.size + 1, 0, none⟩ (.int .i64 sq)).setCell ⟨w.heap.size + 1, 1, none⟩ (.bool bq)).setCell ⟨w.heap.size + 1, 2, none⟩ (.slice Aq nq cq) := ⟨_, rfl⟩
        rw [← hw5] at hv0 hv1 hv2 hvb hvz hvr hvv
        try rw [← hw5]
        have hz5 : w5.heap.size = y2.heap.size := hvz.trans hyz
        have HZ5 := Lib.hid hz5
        have E := Lib.hid (And.intro hv0 (And.intro hv1 hv2))
        have EB := Lib.hid hvb
        have ER := Lib.hid (hvr.mono (D' := Rd D (w.heap.size + 3) w5) (Rd.up (Nat.le_of_eq hz5.symm)))
        have EV := Lib.hid (hvv.mono (D' := Rd D (w.heap.size + 3) w5) (Rd.up (Nat.le_of_eq hz5.symm)))
        clear hw4 hw5 hy0 hy1 hy2 hyb hyz hyr hyv hv0 hv1 hv2 hvb hvz hvr hvv hz5
        go_wp2
        go_meet
        exact ⟨-z, -y, sp, bp, Ap, np, cp, sq, bq, Aq, nq, cq, EB, by show _ ≤ w5.heap.size; have := HZ5.out; omega, Lib.hid E.out.1, Lib.hid E.out.2.1, Lib.hid E.out.2.2, ER, EV, HN⟩
    case rest =>
      obtain ⟨wz, rfl⟩ : ∃ W : World, W = wc := ⟨_, rfl⟩
      have hrel := hcut
      clear hcut HN HB1 HX01 HX11 HX21 HV1 HU1 hs1 c0 c1 c2 d0 d1 d2 f0 f1 f2 g0 g1 g2
      obtain ⟨p, q, s, b, A, n, c, s', b', A', n', c', HB, hs, HX0, HX1, HX2, HVp, HVq, HPQ⟩ := hrel
      obtain ⟨w1, rfl⟩ : ∃ W : World, W = wz := ⟨_, rfl⟩
      obtain ⟨c0, f0⟩ := blk_at HX0.out 0
      obtain ⟨c1, f1⟩ := blk_at HX0.out 1
      obtain ⟨c2, f2⟩ := blk_at HX0.out 2
      obtain ⟨d0, g0⟩ := blk_at HX1.out 0
      obtain ⟨d1, g1⟩ := blk_at HX1.out 1
      obtain ⟨d2, g2⟩ := blk_at HX1.out 2
      go_wp2_with fail
      refine (RGcd_calls p q _ _ _ w1 (Rd.lo HD.out HB.out.size) HVp.out HVq.out HPQ.out.2.2.1 HPQ.out.2.2.2).mono ?_
      rintro e w2 ⟨g', rfl, hb2, hg⟩
      obtain ⟨sg, bg, Ag, ng, cg, rfl⟩ := hg.shape
      have HG2 := Lib.hid (hg.got hs hb2)
      have HB2 := Lib.hid (HB.out.trans (hb2.mono HB.out.size))
      have hs2 : w.heap.size + 3 ≤ w2.heap.size := Nat.le_trans hs hb2.size
      have HX02 := Lib.hid ((hb2.block w.heap.size (by omega)).trans HX0.out)
      have HX12 := Lib.hid ((hb2.block (w.heap.size + 1) (by omega)).trans HX1.out)
      have HX22 := Lib.hid ((hb2.block (w.heap.size + 2) (by omega)).trans HX2.out)
      have HP2 := Lib.hid (HVp.out.lift HD.out HB.out.size hb2)
      have HQ2 := Lib.hid (HVq.out.lift HD.out HB.out.size hb2)
      clear hb2 hg c0 c1 c2 d0 d1 d2 f0 f1 f2 g0 g1 g2 HB HX0 HX1 HX2 HVp HVq
      go_upto_region 4 with fail
      have hb3 := (Below.refl w2.heap.size w2).alloc (Nat.le_refl _) (.cells #[.int .i64 sg, .bool bg, .slice Ag ng cg] 136)
      have hr3 := heap_alloc_new w2 (.cells #[.int .i64 sg, .bool bg, .slice Ag ng cg] 136)
      have hz3 : (w2.alloc (.cells #[.int .i64 sg, .bool bg, .slice Ag ng cg] 136)).heap.size = w2.heap.size + 1 := by simp
      obtain ⟨gb, hgb⟩ : ∃ g : Nat, g = w2.heap.size := ⟨_, rfl⟩
      obtain ⟨w3, hw3⟩ : ∃ W : World, W = w2.alloc (.cells #[.int .i64 sg, .bool bg, .slice Ag ng cg] 136) := ⟨_, rfl⟩
      rw [← hw3] at hb3 hr3 hz3
      rw [← hgb] at hr3 hz3
      rw [← hw3, ← hgb]
      have hgs : w.heap.size + 3 ≤ gb := by omega
      have HB3 := Lib.hid (HB2.out.trans (hb3.mono HB2.out.size))
      have HX03 := Lib.hid ((hb3.block w.heap.size (by omega)).trans HX02.out)
      have HX13 := Lib.hid ((hb3.block (w.heap.size + 1) (by omega)).trans HX12.out)
      have HX23 := Lib.hid ((hb3.block (w.heap.size + 2) (by omega)).trans HX22.out)
      have HXG3 := Lib.hid hr3
      have HG3 := Lib.hid (HG2.out.lift HD.out HB2.out.size hb3)
      have HP3 := Lib.hid (HP2.out.lift HD.out HB2.out.size hb3)
      have HQ3 := Lib.hid (HQ2.out.lift HD.out HB2.out.size hb3)
      have hs3 : w.heap.size + 3 ≤ w3.heap.size := by omega
      have hgl : gb < w3.heap.size := by omega
      have HGM := Lib.hid (show (0 : Int) < (Int.gcd p q : Int) ∧ Dig.ab (Int.gcd p q : Int) < 1073741824 ^ 1000 from ⟨(make_parts (p := p) HPQ.out.1).2.2.1, by
        have h1 := (make_parts (p := p) HPQ.out.1).2.2.1
        have h2 := (make_parts (p := p) HPQ.out.1).2.2.2
        have h3 := HPQ.out.2.2.2
        rw [Dig.ab_of_pos (Int.le_of_lt HPQ.out.1)] at h3
        rw [Dig.ab_of_pos (Int.le_of_lt h1)]
        exact Int.lt_of_le_of_lt h2 h3⟩)
      clear hb3 hr3 hz3 hgb hw3 HX02 HX12 HX22 HB2 HG2 HP2 HQ2 hs2
      obtain ⟨r0, -⟩ := blk_at HXG3.out 0
      obtain ⟨r1, -⟩ := blk_at HXG3.out 1
      obtain ⟨r2, -⟩ := blk_at HXG3.out 2
      go_cut [19] from 16 to 19 (fun v wx => v = .bool (Dig.sgn ((Int.gcd p q : Int) - 1) != 0) ∧ Hid (Below w3.heap.size w3 wx))
      case first =>
        have HGD : Hid (RIntV w3.drew (Rd D (w.heap.size + 3) w3.drew) (.agg #[.int .i64 sg, .bool bg, .slice Ag ng cg]) (Int.gcd p q : Int)) := Lib.hid (HG3.out.same fun _ _ => rfl)
        have HBD : Hid (Below w3.heap.size w3 w3.drew) := Lib.hid ((Below.refl _ _).drew)
        have hsz : w.heap.size + 3 ≤ w3.drew.heap.size := hs3
        have hgd : gb < w3.drew.heap.size := hgl
        have hBW : Hid (Below w.heap.size w w3.drew) := Lib.hid HB3.out.drew
        go_region_with (first
          | ((go_at_call 166); (refine (ROf_calls 1 w3.drew (by decide) (by decide)).mono ?_); (rintro e y1 ⟨p1, rfl, hb1, h1⟩); (obtain ⟨so, bo, Ao, no, co, rfl⟩ := h1.shape); (have HO1 := Lib.hid (h1.mono (D' := Rd D (w.heap.size + 3) y1) fun k hk => .inr ⟨by have := hk.1; omega, hk.2⟩)); (have HG4 : Hid (RIntV y1 (Rd D (w.heap.size + 3) y1) (.agg #[.int .i64 sg, .bool bg, .slice Ag ng cg]) (Int.gcd p q : Int)) := Lib.hid (HGD.out.lift HD.out hBW.out.size hb1)); (have HB4 := Lib.hid (HBD.out.trans (hb1.mono HBD.out.size))); (have hs4 := hb1.size); (have HXG4 := Lib.hid ((hb1.block gb hgd).trans HXG3.out)); (have e0 := (blk_at HXG4.out 0).1); (have e1 := (blk_at HXG4.out 1).1); (have e2 := (blk_at HXG4.out 2).1); (clear hb1 h1))
          | ((go_at_call 167); (refine (RCompare_calls (Int.gcd p q : Int) 1 _ _ (Rd D (w.heap.size + 3) y1) y1 (fun k hk => hk.elim (fun h => by have := HD.out k h; have := hBW.out.size; omega) (·.2)) HG4.out HO1.out HGM.out.2 ab1_lt).mono ?_); (rintro e y2 ⟨rfl, hb2⟩); (have HB5 := Lib.hid (HB4.out.trans (hb2.mono HB4.out.size))); (clear hb2)))
        all_goals
          go_wp2_with fail
          go_meet
          exact ⟨rfl, HB5⟩
      case rest =>
        obtain ⟨w4, rfl⟩ : ∃ W : World, W = wc := ⟨_, rfl⟩
        obtain ⟨rfl, HC⟩ := hcut
        have HB4 := Lib.hid (HB3.out.trans (HC.out.mono HB3.out.size))
        have hs4 : w.heap.size + 3 ≤ w4.heap.size := Nat.le_trans hs3 HC.out.size
        have HX04 := Lib.hid ((HC.out.block w.heap.size (by omega)).trans HX03.out)
        have HX14 := Lib.hid ((HC.out.block (w.heap.size + 1) (by omega)).trans HX13.out)
        have HX24 := Lib.hid ((HC.out.block (w.heap.size + 2) (by omega)).trans HX23.out)
        have HXG4 := Lib.hid ((HC.out.block gb hgl).trans HXG3.out)
        have hg4 : gb < w4.heap.size := Nat.lt_of_lt_of_le hgl HC.out.size
        have HG4 := Lib.hid (HG3.out.lift HD.out HB3.out.size HC.out)
        have HP4 := Lib.hid (HP3.out.lift HD.out HB3.out.size HC.out)
        have HQ4 := Lib.hid (HQ3.out.lift HD.out HB3.out.size HC.out)
        clear HC HX03 HX13 HX23 HXG3 HB3 HG3 HP3 HQ3 r0 r1 r2
        obtain ⟨c0, f0⟩ := blk_at HX04.out 0
        obtain ⟨c1, f1⟩ := blk_at HX04.out 1
        obtain ⟨c2, f2⟩ := blk_at HX04.out 2
        obtain ⟨d0, g0⟩ := blk_at HX14.out 0
        obtain ⟨d1, g1⟩ := blk_at HX14.out 1
        obtain ⟨d2, g2⟩ := blk_at HX14.out 2
        obtain ⟨k0, l0⟩ := blk_at HX24.out 0
        obtain ⟨k1, l1⟩ := blk_at HX24.out 1
        obtain ⟨k2, l2⟩ := blk_at HX24.out 2
        obtain ⟨k3, l3⟩ := blk_at HX24.out 3
        obtain ⟨k4, l4⟩ := blk_at HX24.out 4
        obtain ⟨k5, l5⟩ := blk_at HX24.out 5
        obtain ⟨r0, -⟩ := blk_at HXG4.out 0
        obtain ⟨r1, -⟩ := blk_at HXG4.out 1
        obtain ⟨r2, -⟩ := blk_at HXG4.out 2
        by_cases hg1 : (Int.gcd p q : Int) = 1
        · rw [hg1, show (Dig.sgn (1 - 1) != 0) = false from rfl]
          have HN := Lib.hid (show RIntV w4 (Rd D (w.heap.size + 3) w4) (.agg #[.int .i64 s, .bool b, .slice A n c]) (Rat.divInt z y).num ∧ RIntV w4 (Rd D (w.heap.size + 3) w4) (.agg #[.int .i64 s', .bool b', .slice A' n' c']) ((Rat.divInt z y).den : Int) from ⟨by rw [← HPQ.out.2.1, (make_parts HPQ.out.1).1, hg1, Int.tdiv_one]; exact HP4.out, by rw [← HPQ.out.2.1, (make_parts HPQ.out.1).2.1, hg1, Int.tdiv_one]; exact HQ4.out⟩)
          clear hg1
          go_wp2
          obtain ⟨wf, hwf, hbx, hbel, hri⟩ := fin6 HD.out HB4.out (Nat.le_add_right _ 2) (Nat.lt_succ_self _) HX24.out HN.out.1 HN.out.2
          rw [← hwf]
          clear hwf
          obtain ⟨e0, -⟩ := blk_at hbx 0
          obtain ⟨e1, -⟩ := blk_at hbx 1
          obtain ⟨e2, -⟩ := blk_at hbx 2
          obtain ⟨e3, -⟩ := blk_at hbx 3
          obtain ⟨e4, -⟩ := blk_at hbx 4
          obtain ⟨e5, -⟩ := blk_at hbx 5
          exact bodyPost_ret (v := .agg #[.int .i64 s, .bool b, .slice A n c, .int .i64 s', .bool b', .slice A' n' c']) (by simp [results, Tryz.results168, go_sem, e0, e1, e2, e3, e4, e5]) rfl ⟨_, rfl, hbel, hri⟩
        · have hne : (Dig.sgn ((Int.gcd p q : Int) - 1) != 0) = true := by
            rw [bne_iff_ne, Dig.sgn_gt (by have := HGM.out.1; omega)]; decide
          rw [hne]
          clear hne hg1
          clear c0 c1 c2 d0 d1 d2 r0 r1 r2 f0 f1 f2 g0 g1 g2 k0 k1 k2 k3 k4 k5 l0 l1 l2 l3 l4 l5
          obtain ⟨c0, f0⟩ := blk_at HX04.out 0
          obtain ⟨c1, f1⟩ := blk_at HX04.out 1
          obtain ⟨c2, f2⟩ := blk_at HX04.out 2
          obtain ⟨r0, -⟩ := blk_at HXG4.out 0
          obtain ⟨r1, -⟩ := blk_at HXG4.out 1
          obtain ⟨r2, -⟩ := blk_at HXG4.out 2
          go_wp2_with fail
          refine (ROver_calls p (Int.gcd p q : Int) _ _ _ w4 (Rd.lo HD.out HB4.out.size) HP4.out HG4.out HPQ.out.2.2.1 HGM.out.2 (by have := HGM.out.1; omega)).mono ?_
          rintro e w5 ⟨q1, m1, rfl, hb5, hq, -⟩
          obtain ⟨sp, bp, Ap, np, cp, rfl⟩ := hq.shape
          have HP5 := Lib.hid (hq.got hs4 hb5)
          have HG5 := Lib.hid (HG4.out.lift HD.out HB4.out.size hb5)
          have HQ5 := Lib.hid (HQ4.out.lift HD.out HB4.out.size hb5)
          have HB5 := Lib.hid (HB4.out.trans (hb5.mono HB4.out.size))
          have hs5 : w.heap.size + 3 ≤ w5.heap.size := Nat.le_trans hs4 hb5.size
          have HX05 := Lib.hid ((hb5.block w.heap.size (by omega)).trans HX04.out)
          have HX15 := Lib.hid ((hb5.block (w.heap.size + 1) (by omega)).trans HX14.out)
          have HX25 := Lib.hid ((hb5.block (w.heap.size + 2) (by omega)).trans HX24.out)
          have HXG5 := Lib.hid ((hb5.block gb hg4).trans HXG4.out)
          clear hb5 hq c0 c1 c2 f0 f1 f2 r0 r1 r2 HX04 HX14 HX24 HXG4 HB4 HG4 HP4 HQ4 hs4 hg4
          obtain ⟨c0, f0⟩ := blk_at HX05.out 0
          obtain ⟨c1, f1⟩ := blk_at HX05.out 1
          obtain ⟨c2, f2⟩ := blk_at HX05.out 2
          go_upto_region 6 with fail
          obtain ⟨w6, hw6, hx6, ho6, hb6, hz6, hr6⟩ := put3 HD.out HB5.out (Nat.le_refl _) (show w.heap.size < w.heap.size + 3 by omega) HX05.out (.int .i64 sp) (.bool bp) (.slice Ap np cp)
          rw [← hw6]
          clear hw6 c0 c1 c2 f0 f1 f2
          have HX06 := Lib.hid hx6
          have HX16 := Lib.hid ((ho6 (w.heap.size + 1) (by omega)).trans HX15.out)
          have HX26 := Lib.hid ((ho6 (w.heap.size + 2) (by omega)).trans HX25.out)
          have HXG6 := Lib.hid ((ho6 gb (by omega)).trans HXG5.out)
          have HB6 := Lib.hid hb6
          have hs6 : w.heap.size + 3 ≤ w6.heap.size := by omega
          have HP6 := Lib.hid (hr6 _ _ HP5.out)
          have HG6 := Lib.hid (hr6 _ _ HG5.out)
          have HQ6 := Lib.hid (hr6 _ _ HQ5.out)
          clear hx6 ho6 hb6 hz6 hr6 HX05 HX15 HX25 HXG5 HB5 HP5 HG5 HQ5 hs5
          obtain ⟨d0, g0⟩ := blk_at HX16.out 0
          obtain ⟨d1, g1⟩ := blk_at HX16.out 1
          obtain ⟨d2, g2⟩ := blk_at HX16.out 2
          obtain ⟨r0, -⟩ := blk_at HXG6.out 0
          obtain ⟨r1, -⟩ := blk_at HXG6.out 1
          obtain ⟨r2, -⟩ := blk_at HXG6.out 2
          go_wp2_with fail
          refine (ROver_calls q (Int.gcd p q : Int) _ _ _ w6 (Rd.lo HD.out HB6.out.size) HQ6.out HG6.out HPQ.out.2.2.2 HGM.out.2 (by have := HGM.out.1; omega)).mono ?_
          rintro e w7 ⟨q2, m2, rfl, hb7, hq, -⟩
          obtain ⟨sq, bq, Aq, nq, cq, rfl⟩ := hq.shape
          have HP7 := Lib.hid (HP6.out.lift HD.out HB6.out.size hb7)
          have HQ7 := Lib.hid (hq.got hs6 hb7)
          have HB7 := Lib.hid (HB6.out.trans (hb7.mono HB6.out.size))
          have hs7 : w.heap.size + 3 ≤ w7.heap.size := Nat.le_trans hs6 hb7.size
          have HX07 := Lib.hid ((hb7.block w.heap.size (by omega)).trans HX06.out)
          have HX17 := Lib.hid ((hb7.block (w.heap.size + 1) (by omega)).trans HX16.out)
          have HX27 := Lib.hid ((hb7.block (w.heap.size + 2) (by omega)).trans HX26.out)
          clear hb7 hq d0 d1 d2 g0 g1 g2 r0 r1 r2 HX06 HX16 HX26 HXG6 HB6 HP6 HG6 HQ6 hs6
          obtain ⟨d0, g0⟩ := blk_at HX17.out 0
          obtain ⟨d1, g1⟩ := blk_at HX17.out 1
          obtain ⟨d2, g2⟩ := blk_at HX17.out 2
          go_upto_region 7 with fail
          obtain ⟨w8, hw8, hx8, ho8, hb8, hz8, hr8⟩ := put3 HD.out HB7.out (Nat.le_succ w.heap.size) (show w.heap.size + 1 < w.heap.size + 3 by omega) HX17.out (.int .i64 sq) (.bool bq) (.slice Aq nq cq)
          rw [← hw8]
          clear hw8 d0 d1 d2 g0 g1 g2
          have HX08 := Lib.hid ((ho8 w.heap.size (by omega)).trans HX07.out)
          have HX18 := Lib.hid hx8
          have HX28 := Lib.hid ((ho8 (w.heap.size + 2) (by omega)).trans HX27.out)
          have HB8 := Lib.hid hb8
          have HN := Lib.hid (show RIntV w8 (Rd D (w.heap.size + 3) w8) (.agg #[.int .i64 sp, .bool bp, .slice Ap np cp]) (Rat.divInt z y).num ∧ RIntV w8 (Rd D (w.heap.size + 3) w8) (.agg #[.int .i64 sq, .bool bq, .slice Aq nq cq]) ((Rat.divInt z y).den : Int) from ⟨by rw [← HPQ.out.2.1, (make_parts HPQ.out.1).1]; exact hr8 _ _ HP7.out, by rw [← HPQ.out.2.1, (make_parts HPQ.out.1).2.1]; exact hr8 _ _ HQ7.out⟩)
          clear hx8 ho8 hb8 hz8 hr8 HX07 HX17 HX27 HB7 HP7 HQ7
          obtain ⟨c0, f0⟩ := blk_at HX08.out 0
          obtain ⟨c1, f1⟩ := blk_at HX08.out 1
          obtain ⟨c2, f2⟩ := blk_at HX08.out 2
          obtain ⟨d0, g0⟩ := blk_at HX18.out 0
          obtain ⟨d1, g1⟩ := blk_at HX18.out 1
          obtain ⟨d2, g2⟩ := blk_at HX18.out 2
          obtain ⟨k0, l0⟩ := blk_at HX28.out 0
          obtain ⟨k1, l1⟩ := blk_at HX28.out 1
          obtain ⟨k2, l2⟩ := blk_at HX28.out 2
          obtain ⟨k3, l3⟩ := blk_at HX28.out 3
          obtain ⟨k4, l4⟩ := blk_at HX28.out 4
          obtain ⟨k5, l5⟩ := blk_at HX28.out 5
          go_wp2
          obtain ⟨wf, hwf, hbx, hbel, hri⟩ := fin6 HD.out HB8.out (Nat.le_add_right _ 2) (Nat.lt_succ_self _) HX28.out HN.out.1 HN.out.2
          rw [← hwf]
          clear hwf
          obtain ⟨e0, -⟩ := blk_at hbx 0
          obtain ⟨e1, -⟩ := blk_at hbx 1
          obtain ⟨e2, -⟩ := blk_at hbx 2
          obtain ⟨e3, -⟩ := blk_at hbx 3
          obtain ⟨e4, -⟩ := blk_at hbx 4
          obtain ⟨e5, -⟩ := blk_at hbx 5
          exact bodyPost_ret (v := .agg #[.int .i64 sp, .bool bp, .slice Ap np cp, .int .i64 sq, .bool bq, .slice Aq nq cq]) (by simp [results, Tryz.results168, go_sem, e0, e1, e2, e3, e4, e5]) rfl ⟨_, rfl, hbel, hri⟩
  · have hp : 0 < y := by have := HZY.out.2.2; omega
    have hrel : ∃ (p q : Int) (s : Int) (b : Bool) (A : Option Addr) (n c : Nat) (s' : Int) (b' : Bool) (A' : Option Addr) (n' c' : Nat), Hid (Below w.heap.size w w1) ∧ w.heap.size + 3 ≤ w1.heap.size ∧ Hid (w1.heap[w.heap.size]? = some (.cells #[.int .i64 s, .bool b, .slice A n c] 136 (0, 0))) ∧ Hid (w1.heap[w.heap.size + 1]? = some (.cells #[.int .i64 s', .bool b', .slice A' n' c'] 136 (0, 0))) ∧ Hid (w1.heap[w.heap.size + 2]? = some (.cells #[.int .i64 0, .bool false, .slice none 0 0, .int .i64 0, .bool false, .slice none 0 0] 138 (0, 0))) ∧ Hid (RIntV w1 (Rd D (w.heap.size + 3) w1) (.agg #[.int .i64 s, .bool b, .slice A n c]) p) ∧ Hid (RIntV w1 (Rd D (w.heap.size + 3) w1) (.agg #[.int .i64 s', .bool b', .slice A' n' c']) q) ∧ Hid (0 < q ∧ Rat.divInt p q = Rat.divInt z y ∧ Dig.ab p < 1073741824 ^ 1000 ∧ Dig.ab q < 1073741824 ^ 1000) := ⟨z, y, s, b, A, n, c, s', b', A', n', c', HB1, hs1, HX01, HX11, HX21, HV1, HU1, Lib.hid ⟨hp, rfl, HZY.out.1, HZY.out.2.1⟩⟩
    rw [Dig.sgn_gt hp]
    clear hn hp HB1 HX01 HX11 HX21 HV1 HU1 hs1
    obtain ⟨wz, rfl⟩ : ∃ W : World, W = w1 := ⟨_, rfl⟩
    obtain ⟨p, q, s, b, A, n, c, s', b', A', n', c', HB, hs, HX0, HX1, HX2, HVp, HVq, HPQ⟩ := hrel
    obtain ⟨w1, rfl⟩ : ∃ W : World, W = wz := ⟨_, rfl⟩
    obtain ⟨c0, f0⟩ := blk_at HX0.out 0
    obtain ⟨c1, f1⟩ := blk_at HX0.out 1
    obtain ⟨c2, f2⟩ := blk_at HX0.out 2
    obtain ⟨d0, g0⟩ := blk_at HX1.out 0
    obtain ⟨d1, g1⟩ := blk_at HX1.out 1
    obtain ⟨d2, g2⟩ := blk_at HX1.out 2
    go_wp2_with fail
    refine (RGcd_calls p q _ _ _ w1 (Rd.lo HD.out HB.out.size) HVp.out HVq.out HPQ.out.2.2.1 HPQ.out.2.2.2).mono ?_
    rintro e w2 ⟨g', rfl, hb2, hg⟩
    obtain ⟨sg, bg, Ag, ng, cg, rfl⟩ := hg.shape
    have HG2 := Lib.hid (hg.got hs hb2)
    have HB2 := Lib.hid (HB.out.trans (hb2.mono HB.out.size))
    have hs2 : w.heap.size + 3 ≤ w2.heap.size := Nat.le_trans hs hb2.size
    have HX02 := Lib.hid ((hb2.block w.heap.size (by omega)).trans HX0.out)
    have HX12 := Lib.hid ((hb2.block (w.heap.size + 1) (by omega)).trans HX1.out)
    have HX22 := Lib.hid ((hb2.block (w.heap.size + 2) (by omega)).trans HX2.out)
    have HP2 := Lib.hid (HVp.out.lift HD.out HB.out.size hb2)
    have HQ2 := Lib.hid (HVq.out.lift HD.out HB.out.size hb2)
    clear hb2 hg c0 c1 c2 d0 d1 d2 f0 f1 f2 g0 g1 g2 HB HX0 HX1 HX2 HVp HVq
    go_upto_region 4 with fail
    have hb3 := (Below.refl w2.heap.size w2).alloc (Nat.le_refl _) (.cells #[.int .i64 sg, .bool bg, .slice Ag ng cg] 136)
    have hr3 := heap_alloc_new w2 (.cells #[.int .i64 sg, .bool bg, .slice Ag ng cg] 136)
    have hz3 : (w2.alloc (.cells #[.int .i64 sg, .bool bg, .slice Ag ng cg] 136)).heap.size = w2.heap.size + 1 := by simp
    obtain ⟨gb, hgb⟩ : ∃ g : Nat, g = w2.heap.size := ⟨_, rfl⟩
    obtain ⟨w3, hw3⟩ : ∃ W : World, W = w2.alloc (.cells #[.int .i64 sg, .bool bg, .slice Ag ng cg] 136) := ⟨_, rfl⟩
    rw [← hw3] at hb3 hr3 hz3
    rw [← hgb] at hr3 hz3
    rw [← hw3, ← hgb]
    have hgs : w.heap.size + 3 ≤ gb := by omega
    have HB3 := Lib.hid (HB2.out.trans (hb3.mono HB2.out.size))
    have HX03 := Lib.hid ((hb3.block w.heap.size (by omega)).trans HX02.out)
    have HX13 := Lib.hid ((hb3.block (w.heap.size + 1) (by omega)).trans HX12.out)
    have HX23 := Lib.hid ((hb3.block (w.heap.size + 2) (by omega)).trans HX22.out)
    have HXG3 := Lib.hid hr3
    have HG3 := Lib.hid (HG2.out.lift HD.out HB2.out.size hb3)
    have HP3 := Lib.hid (HP2.out.lift HD.out HB2.out.size hb3)
    have HQ3 := Lib.hid (HQ2.out.lift HD.out HB2.out.size hb3)
    have hs3 : w.heap.size + 3 ≤ w3.heap.size := by omega
    have hgl : gb < w3.heap.size := by omega
    have HGM := Lib.hid (show (0 : Int) < (Int.gcd p q : Int) ∧ Dig.ab (Int.gcd p q : Int) < 1073741824 ^ 1000 from ⟨(make_parts (p := p) HPQ.out.1).2.2.1, by
      have h1 := (make_parts (p := p) HPQ.out.1).2.2.1
      have h2 := (make_parts (p := p) HPQ.out.1).2.2.2
      have h3 := HPQ.out.2.2.2
      rw [Dig.ab_of_pos (Int.le_of_lt HPQ.out.1)] at h3
      rw [Dig.ab_of_pos (Int.le_of_lt h1)]
      exact Int.lt_of_le_of_lt h2 h3⟩)
    clear hb3 hr3 hz3 hgb hw3 HX02 HX12 HX22 HB2 HG2 HP2 HQ2 hs2
    obtain ⟨r0, -⟩ := blk_at HXG3.out 0
    obtain ⟨r1, -⟩ := blk_at HXG3.out 1
    obtain ⟨r2, -⟩ := blk_at HXG3.out 2
    go_cut [19] from 16 to 19 (fun v wx => v = .bool (Dig.sgn ((Int.gcd p q : Int) - 1) != 0) ∧ Hid (Below w3.heap.size w3 wx))
    case first =>
      have HGD : Hid (RIntV w3.drew (Rd D (w.heap.size + 3) w3.drew) (.agg #[.int .i64 sg, .bool bg, .slice Ag ng cg]) (Int.gcd p q : Int)) := Lib.hid (HG3.out.same fun _ _ => rfl)
      have HBD : Hid (Below w3.heap.size w3 w3.drew) := Lib.hid ((Below.refl _ _).drew)
      have hsz : w.heap.size + 3 ≤ w3.drew.heap.size := hs3
      have hgd : gb < w3.drew.heap.size := hgl
      have hBW : Hid (Below w.heap.size w w3.drew) := Lib.hid HB3.out.drew
      go_region_with (first
        | ((go_at_call 166); (refine (ROf_calls 1 w3.drew (by decide) (by decide)).mono ?_); (rintro e y1 ⟨p1, rfl, hb1, h1⟩); (obtain ⟨so, bo, Ao, no, co, rfl⟩ := h1.shape); (have HO1 := Lib.hid (h1.mono (D' := Rd D (w.heap.size + 3) y1) fun k hk => .inr ⟨by have := hk.1; omega, hk.2⟩)); (have HG4 : Hid (RIntV y1 (Rd D (w.heap.size + 3) y1) (.agg #[.int .i64 sg, .bool bg, .slice Ag ng cg]) (Int.gcd p q : Int)) := Lib.hid (HGD.out.lift HD.out hBW.out.size hb1)); (have HB4 := Lib.hid (HBD.out.trans (hb1.mono HBD.out.size))); (have hs4 := hb1.size); (have HXG4 := Lib.hid ((hb1.block gb hgd).trans HXG3.out)); (have e0 := (blk_at HXG4.out 0).1); (have e1 := (blk_at HXG4.out 1).1); (have e2 := (blk_at HXG4.out 2).1); (clear hb1 h1))
        | ((go_at_call 167); (refine (RCompare_calls (Int.gcd p q : Int) 1 _ _ (Rd D (w.heap.size + 3) y1) y1 (fun k hk => hk.elim (fun h => by have := HD.out k h; have := hBW.out.size; omega) (·.2)) HG4.out HO1.out HGM.out.2 ab1_lt).mono ?_); (rintro e y2 ⟨rfl, hb2⟩); (have HB5 := Lib.hid (HB4.out.trans (hb2.mono HB4.out.size))); (clear hb2)))
      all_goals
        go_wp2_with fail
        go_meet
        exact ⟨rfl, HB5⟩
    case rest =>
      obtain ⟨w4, rfl⟩ : ∃ W : World, W = wc := ⟨_, rfl⟩
      obtain ⟨rfl, HC⟩ := hcut
      have HB4 := Lib.hid (HB3.out.trans (HC.out.mono HB3.out.size))
      have hs4 : w.heap.size + 3 ≤ w4.heap.size := Nat.le_trans hs3 HC.out.size
      have HX04 := Lib.hid ((HC.out.block w.heap.size (by omega)).trans HX03.out)
      have HX14 := Lib.hid ((HC.out.block (w.heap.size + 1) (by omega)).trans HX13.out)
      have HX24 := Lib.hid ((HC.out.block (w.heap.size + 2) (by omega)).trans HX23.out)
      have HXG4 := Lib.hid ((HC.out.block gb hgl).trans HXG3.out)
      have hg4 : gb < w4.heap.size := Nat.lt_of_lt_of_le hgl HC.out.size
      have HG4 := Lib.hid (HG3.out.lift HD.out HB3.out.size HC.out)
      have HP4 := Lib.hid (HP3.out.lift HD.out HB3.out.size HC.out)
      have HQ4 := Lib.hid (HQ3.out.lift HD.out HB3.out.size HC.out)
      clear HC HX03 HX13 HX23 HXG3 HB3 HG3 HP3 HQ3 r0 r1 r2
      obtain ⟨c0, f0⟩ := blk_at HX04.out 0
      obtain ⟨c1, f1⟩ := blk_at HX04.out 1
      obtain ⟨c2, f2⟩ := blk_at HX04.out 2
      obtain ⟨d0, g0⟩ := blk_at HX14.out 0
      obtain ⟨d1, g1⟩ := blk_at HX14.out 1
      obtain ⟨d2, g2⟩ := blk_at HX14.out 2
      obtain ⟨k0, l0⟩ := blk_at HX24.out 0
      obtain ⟨k1, l1⟩ := blk_at HX24.out 1
      obtain ⟨k2, l2⟩ := blk_at HX24.out 2
      obtain ⟨k3, l3⟩ := blk_at HX24.out 3
      obtain ⟨k4, l4⟩ := blk_at HX24.out 4
      obtain ⟨k5, l5⟩ := blk_at HX24.out 5
      obtain ⟨r0, -⟩ := blk_at HXG4.out 0
      obtain ⟨r1, -⟩ := blk_at HXG4.out 1
      obtain ⟨r2, -⟩ := blk_at HXG4.out 2
      by_cases hg1 : (Int.gcd p q : Int) = 1
      · rw [hg1, show (Dig.sgn (1 - 1) != 0) = false from rfl]
        have HN := Lib.hid (show RIntV w4 (Rd D (w.heap.size + 3) w4) (.agg #[.int .i64 s, .bool b, .slice A n c]) (Rat.divInt z y).num ∧ RIntV w4 (Rd D (w.heap.size + 3) w4) (.agg #[.int .i64 s', .bool b', .slice A' n' c']) ((Rat.divInt z y).den : Int) from ⟨by rw [← HPQ.out.2.1, (make_parts HPQ.out.1).1, hg1, Int.tdiv_one]; exact HP4.out, by rw [← HPQ.out.2.1, (make_parts HPQ.out.1).2.1, hg1, Int.tdiv_one]; exact HQ4.out⟩)
        clear hg1
        go_wp2
        obtain ⟨wf, hwf, hbx, hbel, hri⟩ := fin6 HD.out HB4.out (Nat.le_add_right _ 2) (Nat.lt_succ_self _) HX24.out HN.out.1 HN.out.2
        rw [← hwf]
        clear hwf
        obtain ⟨e0, -⟩ := blk_at hbx 0
        obtain ⟨e1, -⟩ := blk_at hbx 1
        obtain ⟨e2, -⟩ := blk_at hbx 2
        obtain ⟨e3, -⟩ := blk_at hbx 3
        obtain ⟨e4, -⟩ := blk_at hbx 4
        obtain ⟨e5, -⟩ := blk_at hbx 5
        exact bodyPost_ret (v := .agg #[.int .i64 s, .bool b, .slice A n c, .int .i64 s', .bool b', .slice A' n' c']) (by simp [results, Tryz.results168, go_sem, e0, e1, e2, e3, e4, e5]) rfl ⟨_, rfl, hbel, hri⟩
      · have hne : (Dig.sgn ((Int.gcd p q : Int) - 1) != 0) = true := by
          rw [bne_iff_ne, Dig.sgn_gt (by have := HGM.out.1; omega)]; decide
        rw [hne]
        clear hne hg1
        clear c0 c1 c2 d0 d1 d2 r0 r1 r2 f0 f1 f2 g0 g1 g2 k0 k1 k2 k3 k4 k5 l0 l1 l2 l3 l4 l5
        obtain ⟨c0, f0⟩ := blk_at HX04.out 0
        obtain ⟨c1, f1⟩ := blk_at HX04.out 1
        obtain ⟨c2, f2⟩ := blk_at HX04.out 2
        obtain ⟨r0, -⟩ := blk_at HXG4.out 0
        obtain ⟨r1, -⟩ := blk_at HXG4.out 1
        obtain ⟨r2, -⟩ := blk_at HXG4.out 2
        go_wp2_with fail
        refine (ROver_calls p (Int.gcd p q : Int) _ _ _ w4 (Rd.lo HD.out HB4.out.size) HP4.out HG4.out HPQ.out.2.2.1 HGM.out.2 (by have := HGM.out.1; omega)).mono ?_
        rintro e w5 ⟨q1, m1, rfl, hb5, hq, -⟩
        obtain ⟨sp, bp, Ap, np, cp, rfl⟩ := hq.shape
        have HP5 := Lib.hid (hq.got hs4 hb5)
        have HG5 := Lib.hid (HG4.out.lift HD.out HB4.out.size hb5)
        have HQ5 := Lib.hid (HQ4.out.lift HD.out HB4.out.size hb5)
        have HB5 := Lib.hid (HB4.out.trans (hb5.mono HB4.out.size))
        have hs5 : w.heap.size + 3 ≤ w5.heap.size := Nat.le_trans hs4 hb5.size
        have HX05 := Lib.hid ((hb5.block w.heap.size (by omega)).trans HX04.out)
        have HX15 := Lib.hid ((hb5.block (w.heap.size + 1) (by omega)).trans HX14.out)
        have HX25 := Lib.hid ((hb5.block (w.heap.size + 2) (by omega)).trans HX24.out)
        have HXG5 := Lib.hid ((hb5.block gb hg4).trans HXG4.out)
        clear hb5 hq c0 c1 c2 f0 f1 f2 r0 r1 r2 HX04 HX14 HX24 HXG4 HB4 HG4 HP4 HQ4 hs4 hg4
        obtain ⟨c0, f0⟩ := blk_at HX05.out 0
        obtain ⟨c1, f1⟩ := blk_at HX05.out 1
        obtain ⟨c2, f2⟩ := blk_at HX05.out 2
        go_upto_region 6 with fail
        obtain ⟨w6, hw6, hx6, ho6, hb6, hz6, hr6⟩ := put3 HD.out HB5.out (Nat.le_refl _) (show w.heap.size < w.heap.size + 3 by omega) HX05.out (.int .i64 sp) (.bool bp) (.slice Ap np cp)
        rw [← hw6]
        clear hw6 c0 c1 c2 f0 f1 f2
        have HX06 := Lib.hid hx6
        have HX16 := Lib.hid ((ho6 (w.heap.size + 1) (by omega)).trans HX15.out)
        have HX26 := Lib.hid ((ho6 (w.heap.size + 2) (by omega)).trans HX25.out)
        have HXG6 := Lib.hid ((ho6 gb (by omega)).trans HXG5.out)
        have HB6 := Lib.hid hb6
        have hs6 : w.heap.size + 3 ≤ w6.heap.size := by omega
        have HP6 := Lib.hid (hr6 _ _ HP5.out)
        have HG6 := Lib.hid (hr6 _ _ HG5.out)
        have HQ6 := Lib.hid (hr6 _ _ HQ5.out)
        clear hx6 ho6 hb6 hz6 hr6 HX05 HX15 HX25 HXG5 HB5 HP5 HG5 HQ5 hs5
        obtain ⟨d0, g0⟩ := blk_at HX16.out 0
        obtain ⟨d1, g1⟩ := blk_at HX16.out 1
        obtain ⟨d2, g2⟩ := blk_at HX16.out 2
        obtain ⟨r0, -⟩ := blk_at HXG6.out 0
        obtain ⟨r1, -⟩ := blk_at HXG6.out 1
        obtain ⟨r2, -⟩ := blk_at HXG6.out 2
        go_wp2_with fail
        refine (ROver_calls q (Int.gcd p q : Int) _ _ _ w6 (Rd.lo HD.out HB6.out.size) HQ6.out HG6.out HPQ.out.2.2.2 HGM.out.2 (by have := HGM.out.1; omega)).mono ?_
        rintro e w7 ⟨q2, m2, rfl, hb7, hq, -⟩
        obtain ⟨sq, bq, Aq, nq, cq, rfl⟩ := hq.shape
        have HP7 := Lib.hid (HP6.out.lift HD.out HB6.out.size hb7)
        have HQ7 := Lib.hid (hq.got hs6 hb7)
        have HB7 := Lib.hid (HB6.out.trans (hb7.mono HB6.out.size))
        have hs7 : w.heap.size + 3 ≤ w7.heap.size := Nat.le_trans hs6 hb7.size
        have HX07 := Lib.hid ((hb7.block w.heap.size (by omega)).trans HX06.out)
        have HX17 := Lib.hid ((hb7.block (w.heap.size + 1) (by omega)).trans HX16.out)
        have HX27 := Lib.hid ((hb7.block (w.heap.size + 2) (by omega)).trans HX26.out)
        clear hb7 hq d0 d1 d2 g0 g1 g2 r0 r1 r2 HX06 HX16 HX26 HXG6 HB6 HP6 HG6 HQ6 hs6
        obtain ⟨d0, g0⟩ := blk_at HX17.out 0
        obtain ⟨d1, g1⟩ := blk_at HX17.out 1
        obtain ⟨d2, g2⟩ := blk_at HX17.out 2
        go_upto_region 7 with fail
        obtain ⟨w8, hw8, hx8, ho8, hb8, hz8, hr8⟩ := put3 HD.out HB7.out (Nat.le_succ w.heap.size) (show w.heap.size + 1 < w.heap.size + 3 by omega) HX17.out (.int .i64 sq) (.bool bq) (.slice Aq nq cq)
        rw [← hw8]
        clear hw8 d0 d1 d2 g0 g1 g2
        have HX08 := Lib.hid ((ho8 w.heap.size (by omega)).trans HX07.out)
        have HX18 := Lib.hid hx8
        have HX28 := Lib.hid ((ho8 (w.heap.size + 2) (by omega)).trans HX27.out)
        have HB8 := Lib.hid hb8
        have HN := Lib.hid (show RIntV w8 (Rd D (w.heap.size + 3) w8) (.agg #[.int .i64 sp, .bool bp, .slice Ap np cp]) (Rat.divInt z y).num ∧ RIntV w8 (Rd D (w.heap.size + 3) w8) (.agg #[.int .i64 sq, .bool bq, .slice Aq nq cq]) ((Rat.divInt z y).den : Int) from ⟨by rw [← HPQ.out.2.1, (make_parts HPQ.out.1).1]; exact hr8 _ _ HP7.out, by rw [← HPQ.out.2.1, (make_parts HPQ.out.1).2.1]; exact hr8 _ _ HQ7.out⟩)
        clear hx8 ho8 hb8 hz8 hr8 HX07 HX17 HX27 HB7 HP7 HQ7
        obtain ⟨c0, f0⟩ := blk_at HX08.out 0
        obtain ⟨c1, f1⟩ := blk_at HX08.out 1
        obtain ⟨c2, f2⟩ := blk_at HX08.out 2
        obtain ⟨d0, g0⟩ := blk_at HX18.out 0
        obtain ⟨d1, g1⟩ := blk_at HX18.out 1
        obtain ⟨d2, g2⟩ := blk_at HX18.out 2
        obtain ⟨k0, l0⟩ := blk_at HX28.out 0
        obtain ⟨k1, l1⟩ := blk_at HX28.out 1
        obtain ⟨k2, l2⟩ := blk_at HX28.out 2
        obtain ⟨k3, l3⟩ := blk_at HX28.out 3
        obtain ⟨k4, l4⟩ := blk_at HX28.out 4
        obtain ⟨k5, l5⟩ := blk_at HX28.out 5
        go_wp2
        obtain ⟨wf, hwf, hbx, hbel, hri⟩ := fin6 HD.out HB8.out (Nat.le_add_right _ 2) (Nat.lt_succ_self _) HX28.out HN.out.1 HN.out.2
        rw [← hwf]
        clear hwf
        obtain ⟨e0, -⟩ := blk_at hbx 0
        obtain ⟨e1, -⟩ := blk_at hbx 1
        obtain ⟨e2, -⟩ := blk_at hbx 2
        obtain ⟨e3, -⟩ := blk_at hbx 3
        obtain ⟨e4, -⟩ := blk_at hbx 4
        obtain ⟨e5, -⟩ := blk_at hbx 5
        exact bodyPost_ret (v := .agg #[.int .i64 sp, .bool bp, .slice Ap np cp, .int .i64 sq, .bool bq, .slice Aq nq cq]) (by simp [results, Tryz.results168, go_sem, e0, e1, e2, e3, e4, e5]) rfl ⟨_, rfl, hbel, hri⟩

end Go.Proofs.YtoffbdlgmnpblaaGreat
