/- Part 23: Rf13. -/
import Derived.Test.YtoffbdlgmnpblaaGreatJ22
import Derived.BigRegion

/- The reference's exact integers: quotients and remainders. -/
namespace Go.Proofs.YtoffbdlgmnpblaaGreat
open Go.RowKit
set_option maxHeartbeats 8000000
set_option maxRecDepth 100000

theorem rb4 (w : World) (a b c e : Array Value) (t t' t'' t3 : TypeId) : ∃ W, W = (((w.alloc (.cells a t)).alloc (.cells b t')).alloc (.cells c t'')).alloc (.cells e t3) ∧ Below w.heap.size w W ∧ W.heap.size = w.heap.size + 4 ∧ W.heap[w.heap.size]? = some (.cells a t (0, 0)) ∧ W.heap[w.heap.size + 1]? = some (.cells b t' (0, 0)) ∧ W.heap[w.heap.size + 2]? = some (.cells c t'' (0, 0)) ∧ W.heap[w.heap.size + 3]? = some (.cells e t3 (0, 0)) := by
  obtain ⟨W, rfl, h1, h2, h3, h4, h5⟩ := rb3 w a b c t t' t''
  refine ⟨_, rfl, h1.alloc h1.size _, by simp, ?_, ?_, ?_, ?_⟩
  · exact (heap_alloc_old _ _ (by omega)).trans h3
  · exact (heap_alloc_old _ _ (by omega)).trans h4
  · exact (heap_alloc_old _ _ (by omega)).trans h5
  · have := heap_alloc_new (((w.alloc (.cells a t)).alloc (.cells b t')).alloc (.cells c t'')) (.cells e t3)
    rw [h2] at this
    exact this

theorem tdiv_of {z y q r : Int} (hy : y ≠ 0) (h : Dig.ab z = Dig.ab y * q + r) (h0 : 0 ≤ r) (h1 : r < Dig.ab y) : (if (Dig.sgn z != Dig.sgn y) = true then -q else q) = z.tdiv y ∧ (if decide (Dig.sgn z < 0) = true then -r else r) = z.tmod y := by
  have hyp : 0 < Dig.ab y := by unfold Dig.ab; split <;> omega
  obtain ⟨hq, hr⟩ : q = Dig.ab z / Dig.ab y ∧ r = Dig.ab z % Dig.ab y := by
    have := Dig.quot_of (U := Dig.ab z) (V := Dig.ab y) (q := q) (R := r) hyp (by rw [h, Int.mul_comm]) h0 h1
    exact ⟨this.1.symm, this.2.symm⟩
  have hz0 := Dig.ab_nonneg z
  rcases Int.lt_trichotomy z 0 with k | k | k
  · have e1 : z = -Dig.ab z := by rw [Dig.ab_of_neg k, Int.neg_neg]
    have e3 : z.tmod y = -r := by
      rcases (show y < 0 ∨ 0 < y by omega) with g | g
      · rw [e1, show y = -Dig.ab y by rw [Dig.ab_of_neg g, Int.neg_neg], Int.neg_tmod, Int.tmod_neg, Int.tmod_eq_emod_of_nonneg hz0, hr]
        try simp [Dig.ab_of_neg g, Dig.ab_of_neg k]
      · rw [e1, Int.neg_tmod, Int.tmod_eq_emod_of_nonneg hz0, hr, Dig.ab_of_pos (Int.le_of_lt g)]
        try simp [Dig.ab_of_neg k]
    have e4 : (if (Dig.sgn z != Dig.sgn y) = true then -q else q) = z.tdiv y := by
      rcases (show y < 0 ∨ 0 < y by omega) with g | g
      · rw [Dig.sgn_lt k, Dig.sgn_lt g, if_neg (by decide), show z.tdiv y = (-Dig.ab z).tdiv (-Dig.ab y) by rw [Dig.ab_of_neg g, Dig.ab_of_neg k, Int.neg_neg, Int.neg_neg], Int.neg_tdiv_neg, Int.tdiv_eq_ediv_of_nonneg hz0, hq]
      · rw [Dig.sgn_lt k, Dig.sgn_gt g, if_pos (by decide), show z.tdiv y = (-Dig.ab z).tdiv (Dig.ab y) by rw [Dig.ab_of_neg k, Int.neg_neg, Dig.ab_of_pos (Int.le_of_lt g)], Int.neg_tdiv, Int.tdiv_eq_ediv_of_nonneg hz0, hq]
    rw [e3, e4, Dig.sgn_lt k]
    exact ⟨rfl, rfl⟩
  · subst k
    have e0 : Dig.ab 0 = 0 := rfl
    rw [e0] at hq hr
    rw [Int.zero_ediv] at hq
    rw [Int.zero_emod] at hr
    subst hq hr
    rw [Int.zero_tdiv, Int.zero_tmod]
    exact ⟨by split <;> rfl, by split <;> rfl⟩
  · have hz := Dig.ab_of_pos (Int.le_of_lt k)
    rcases (show y < 0 ∨ 0 < y by omega) with g | g
    · rw [Dig.sgn_gt k, Dig.sgn_lt g, if_pos (by decide), if_neg (by decide), hq, hr, hz, Dig.ab_of_neg g]
      refine ⟨?_, ?_⟩
      · rw [← Int.tdiv_eq_ediv_of_nonneg (Int.le_of_lt k), Int.tdiv_neg, Int.neg_neg]
      · rw [← Int.tmod_eq_emod_of_nonneg (Int.le_of_lt k), Int.tmod_neg]
    · rw [Dig.sgn_gt k, Dig.sgn_gt g, if_neg (by decide), if_neg (by decide), hq, hr, hz, Dig.ab_of_pos (Int.le_of_lt g)]
      exact ⟨(Int.tdiv_eq_ediv_of_nonneg (Int.le_of_lt k)).symm, (Int.tmod_eq_emod_of_nonneg (Int.le_of_lt k)).symm⟩
theorem tdiv_small {s t : Int} (h1 : -2305843009213693952 < s) (h2 : s < 2305843009213693952) (_ht : t ≠ 0) : -2305843009213693952 < s.tdiv t ∧ s.tdiv t < 2305843009213693952 ∧ -2305843009213693952 < s.tmod t ∧ s.tmod t < 2305843009213693952 := by
  have h3 : (s.tdiv t).natAbs ≤ s.natAbs := by rw [Int.natAbs_tdiv]; exact Nat.div_le_self _ _
  have h4 : (s.tmod t).natAbs ≤ s.natAbs := by rw [Int.natAbs_tmod]; exact Nat.mod_le _ _
  omega

theorem three_of {cs : Array Value} (h : cs.size = 3) : ∃ a b c, cs = #[a, b, c] := by
  obtain ⟨l⟩ := cs
  match l, h with
  | [a, b, c], _ => exact ⟨a, b, c, rfl⟩
theorem dig_pos {ys : List Int} {y : Int} (hv : Dig.val 1073741824 ys = Dig.ab y) (hy : y ≠ 0) : 1 ≤ ys.length := by
  cases ys with
  | nil => exfalso; unfold Dig.ab at hv; simp only [Dig.val] at hv; split at hv <;> omega
  | cons => simp
theorem enter_rSign : ∀ args w, (callFunc 176 args).run Tryz.prog w = .ok (.enter 176 args) w := enter_of Tryz.func176 (by kernel_rfl) (by kernel_rfl)
theorem enter_rmade : ∀ args w, (callFunc 214 args).run Tryz.prog w = .ok (.enter 214 args) w := enter_of Tryz.func214 (by kernel_rfl) (by kernel_rfl)
/-- what the last region of a division leaves -/
def PhiO (w : World) (D : Nat → Prop) (a1 a2 qv rv : Value) (z y : Int) : Nat → Value → World → Prop
  | 0, v, _ => v = a1
  | 1, v, _ => v = .int .i64 (Dig.sgn z)
  | 2, v, _ => v = a2
  | 3, v, _ => v = .int .i64 (Dig.sgn y)
  | 4, v, _ => v = .bool (Dig.sgn z != Dig.sgn y)
  | 5, v, _ => v = qv
  | 6, v, W => RIntV W (Rd D (w.heap.size + 4) W) v (z.tdiv y)
  | 7, v, _ => v = a1
  | 8, v, _ => v = .int .i64 (Dig.sgn z)
  | 9, v, _ => v = .bool (decide (Dig.sgn z < 0))
  | 10, v, _ => v = rv
  | 11, v, W => RIntV W (Rd D (w.heap.size + 4) W) v (z.tmod y)
  | _, _, _ => True
theorem PhiO.sg1 {w W : World} {D : Nat → Prop} (a1 a2 qv rv : Value) (z y : Int) : PhiO w D a1 a2 qv rv z y 1 (.int .i64 (Dig.sgn z)) W := by unfold PhiO; rfl
theorem PhiO.sg3 {w W : World} {D : Nat → Prop} (a1 a2 qv rv : Value) (z y : Int) : PhiO w D a1 a2 qv rv z y 3 (.int .i64 (Dig.sgn y)) W := by unfold PhiO; rfl
theorem PhiO.sg8 {w W : World} {D : Nat → Prop} (a1 a2 qv rv : Value) (z y : Int) : PhiO w D a1 a2 qv rv z y 8 (.int .i64 (Dig.sgn z)) W := by unfold PhiO; rfl
theorem PhiO.firm {w : World} {D : Nat → Prop} {B1 : Nat} (a1 a2 qv rv : Value) (z y : Int) (hD : Lo D w) (hB : w.heap.size + 4 ≤ B1) : FirmB B1 [(w.heap.size + 2, 12, 6), (w.heap.size + 3, 13, 11)] (PhiO w D a1 a2 qv rv z y) := by
  intro j v W W' h hs hs2 hk
  have hsame : Same (Rd D (w.heap.size + 4) W) W W' := fun k hk2 => hk k (hk2.elim (fun h => by have := hD k h; omega) (·.2)) fun x hx => by
    simp only [List.mem_cons, List.not_mem_nil, or_false] at hx
    rcases hk2 with h | h
    · have := hD k h
      rcases hx with rfl | rfl <;> simp only <;> omega
    · rcases hx with rfl | rfl <;> simp only <;> omega
  match j, h with
  | 0, h => exact h
  | 1, h => exact h
  | 2, h => exact h
  | 3, h => exact h
  | 4, h => exact h
  | 5, h => exact h
  | 6, h => exact (RIntV.same h hsame).mono (Rd.up hs2)
  | 7, h => exact h
  | 8, h => exact h
  | 9, h => exact h
  | 10, h => exact h
  | 11, h => exact (RIntV.same h hsame).mono (Rd.up hs2)
  | 12, _ => trivial
  | 13, _ => trivial
  | j + 14, _ => trivial

theorem ROver_calls (z y : Int) (v u : Value) (D : Nat → Prop) (w : World) (hD : Lo D w) (h : RIntV w D v z) (h' : RIntV w D u y) (hz : Dig.ab z < 1073741824 ^ 1000) (hy : Dig.ab y < 1073741824 ^ 1000) (hy0 : y ≠ 0) :
    Calls Tryz.prog 209 #[v, u] w fun e w' => ∃ q r, e = .returned (.tuple #[q, r]) ∧ Below w.heap.size w w' ∧ RIntV w' (gr D w w') q (z.tdiv y) ∧ RIntV w' (gr D w w') r (z.tmod y) := by
  have HV := Lib.hid h
  have HU := Lib.hid h'
  obtain ⟨s, b, A, n, c, rfl, hi⟩ := h
  obtain ⟨s', b', A', n', c', rfl, hi'⟩ := h'
  have HD := Lib.hid hD
  have HI := Lib.hid hi
  have HI' := Lib.hid hi'
  have HZ := Lib.hid hz
  have HY := Lib.hid hy
  have HY0 := Lib.hid hy0
  clear hD hi hi' hz hy hy0
  obtain ⟨W0, hW0, hb0, hz0, hx0, hx1, hx2, hx3⟩ := rb4 w #[.int .i64 s, .bool b, .slice A n c] #[.int .i64 s', .bool b', .slice A' n' c'] #[.int .i64 0, .bool false, .slice none 0 0] #[.int .i64 0, .bool false, .slice none 0 0] 136 136 136 136
  have HV0 := Lib.hid (RIntV.start (B := w.heap.size + 4) HV.out HD.out hb0)
  have HU0 := Lib.hid (RIntV.start (B := w.heap.size + 4) HU.out HD.out hb0)
  have HB0 := Lib.hid hb0
  have HX0 := Lib.hid hx0
  have HX1 := Lib.hid hx1
  have HX2 := Lib.hid hx2
  have HX3 := Lib.hid hx3
  have HZ0 := Lib.hid hz0
  have HW0 := Lib.hid hW0
  have HL0 := Lib.hid (Rd.lo (B := w.heap.size + 4) HD.out hb0.size)
  clear hb0 hx0 hx1 hx2 hx3 hz0 hW0
  go_enter Tryz.func209, Tryz.ntmps209
  go_upto_region 1 with fail
  rw [← HW0.out]
  clear HW0
  obtain ⟨c0, -⟩ := blk_at HX0.out 0
  obtain ⟨c1, -⟩ := blk_at HX0.out 1
  obtain ⟨c2, -⟩ := blk_at HX0.out 2
  obtain ⟨d0, -⟩ := blk_at HX1.out 0
  obtain ⟨d1, -⟩ := blk_at HX1.out 1
  obtain ⟨d2, -⟩ := blk_at HX1.out 2
  by_cases hsm : n = 0 ∧ n' = 0
  · obtain ⟨rfl, rfl⟩ := hsm
    obtain ⟨rfl, hs⟩ : s = z ∧ (-2305843009213693952 < s ∧ s < 2305843009213693952) := by
      rcases HI.out with ⟨-, -, -, -, h4, h5, h6⟩ | ⟨xs, -, h1, -, -, h5, -⟩
      · subst h4; exact ⟨rfl, h5, h6⟩
      · have := h1.len.1; have := big_ne h5; omega
    obtain ⟨rfl, hs'⟩ : s' = y ∧ (-2305843009213693952 < s' ∧ s' < 2305843009213693952) := by
      rcases HI'.out with ⟨-, -, -, -, h4, h5, h6⟩ | ⟨xs, -, h1, -, -, h5, -⟩
      · subst h4; exact ⟨rfl, h5, h6⟩
      · have := h1.len.1; have := big_ne h5; omega
    obtain ⟨t1, t2, t3, t4⟩ := tdiv_small hs.1 hs.2 HY0.out
    obtain ⟨s1, s2⟩ := hs
    obtain ⟨s3, s4⟩ := hs'
    have hyq : (s' == 0) = false := by have := HY0.out; simpa using this
    have hyn : ¬ s' = 0 := HY0.out
    obtain ⟨k0, f0⟩ := blk_at HX2.out 0
    obtain ⟨k1, f1⟩ := blk_at HX2.out 1
    obtain ⟨k2, f2⟩ := blk_at HX2.out 2
    obtain ⟨l0, g0⟩ := blk_at HX3.out 0
    obtain ⟨l1, g1⟩ := blk_at HX3.out 1
    obtain ⟨l2, g2⟩ := blk_at HX3.out 2
    have hw1 : IntKind.i64.wrap (s.tdiv s') = s.tdiv s' := IntWalk.i64_in _ (by omega)
    have hw2 : IntKind.i64.wrap (s.tmod s') = s.tmod s' := IntWalk.i64_in _ (by omega)
    go_wp2
    go_region
    have hy2 := st3_blk HX2.out (.int .i64 (s.tdiv s')) (.bool false) (.slice none 0 0)
    have hy3 := (st3_other (g := w.heap.size + 2) (k := w.heap.size + 3) (by omega) (.int .i64 (s.tdiv s')) (.bool false) (.slice none 0 0)).trans HX3.out
    have hyb := st3_below HB0.out (Nat.le_add_right _ 2) (.int .i64 (s.tdiv s')) (.bool false) (.slice none 0 0)
    obtain ⟨w1, hw1⟩ : ∃ W : World, W = ((W0.setCell ⟨w.heap.size + 2, 0, none⟩ (.int .i64 (s.tdiv s'))).setCell ⟨w.heap.size + 2, 1, none⟩ (.bool false)).setCell ⟨w.heap.size + 2, 2, none⟩ (.slice none 0 0) := ⟨_, rfl⟩
    rw [← hw1] at hy2 hy3 hyb
    have hx3 := st3_blk hy3 (.int .i64 (s.tmod s')) (.bool false) (.slice none 0 0)
    have hx2 := (st3_other (g := w.heap.size + 3) (k := w.heap.size + 2) (by omega) (.int .i64 (s.tmod s')) (.bool false) (.slice none 0 0)).trans hy2
    have hbel := st3_below hyb (Nat.le_add_right _ 3) (.int .i64 (s.tmod s')) (.bool false) (.slice none 0 0)
    obtain ⟨wf, hwf⟩ : ∃ W : World, W = ((w1.setCell ⟨w.heap.size + 3, 0, none⟩ (.int .i64 (s.tmod s'))).setCell ⟨w.heap.size + 3, 1, none⟩ (.bool false)).setCell ⟨w.heap.size + 3, 2, none⟩ (.slice none 0 0) := ⟨_, rfl⟩
    rw [← hwf] at hx3 hx2 hbel
    have e0 : wf.cell? ⟨w.heap.size + 2, 0, none⟩ = some (.int .i64 (s.tdiv s')) := (blk_at hx2 0).1
    have e1 : wf.cell? ⟨w.heap.size + 2, 1, none⟩ = some (.bool false) := (blk_at hx2 1).1
    have e2 : wf.cell? ⟨w.heap.size + 2, 2, none⟩ = some (.slice none 0 0) := (blk_at hx2 2).1
    have e3 : wf.cell? ⟨w.heap.size + 3, 0, none⟩ = some (.int .i64 (s.tmod s')) := (blk_at hx3 0).1
    have e4 : wf.cell? ⟨w.heap.size + 3, 1, none⟩ = some (.bool false) := (blk_at hx3 1).1
    have e5 : wf.cell? ⟨w.heap.size + 3, 2, none⟩ = some (.slice none 0 0) := (blk_at hx3 2).1
    rw [← hw1, ← hwf]
    have HBL := Lib.hid hbel.drew
    clear hw1 hwf hy2 hy3 hyb hx2 hx3 hbel c0 c1 c2 d0 d1 d2 k0 k1 k2 l0 l1 l2 f0 f1 f2 g0 g1 g2
    go_wp2
    exact bodyPost_ret (v := .tuple #[.agg #[.int .i64 (s.tdiv s'), .bool false, .slice none 0 0], .agg #[.int .i64 (s.tmod s'), .bool false, .slice none 0 0]]) (by simp [results, Tryz.results209, go_sem, e0, e1, e2, e3, e4, e5]) rfl ⟨_, _, rfl, HBL.out, RIntV.small t1 t2, RIntV.small t3 t4⟩
  · go_cut [17] from 8 to 17 (fun bv wx => bv = .bool false ∧ wx = W0)
    case first =>
      by_cases hn : n = 0
      · subst hn
        have hq : ((n' : Int) == 0) = false := by have : ¬ n' = 0 := fun e => hsm ⟨rfl, e⟩; simpa using this
        go_wp2
        go_meet
        exact ⟨rfl, rfl⟩
      · go_wp2
        go_meet
        exact ⟨rfl, rfl⟩
    case rest =>
      obtain ⟨rfl, rfl⟩ := hcut
      clear hsm c0 c1 c2 d0 d1 d2
      obtain ⟨wo, rfl⟩ : ∃ wo : World, wo = wc := ⟨_, rfl⟩
      obtain ⟨c0, -⟩ := blk_at HX0.out 0
      obtain ⟨c1, -⟩ := blk_at HX0.out 1
      obtain ⟨c2, -⟩ := blk_at HX0.out 2
      obtain ⟨d0, -⟩ := blk_at HX1.out 0
      obtain ⟨d1, -⟩ := blk_at HX1.out 1
      obtain ⟨d2, -⟩ := blk_at HX1.out 2
      go_upto_region 3 with fail
      go_cut [6, 7] from 30 to 37 (fun v6 v7 wx => ∃ (QA : Option Addr) (qn qc : Nat) (RA : Option Addr) (rn rc : Nat), v6 = .slice QA qn qc ∧ v7 = .slice RA rn rc ∧ Hid (Below wo.heap.size wo wx ∧ ∃ qs rs, Sl (Kind.int .i64) wx (Rd D (w.heap.size + 4) wx) (.slice QA qn qc) qs ∧ Sl (Kind.int .i64) wx (Rd D (w.heap.size + 4) wx) (.slice RA rn rc) rs ∧ Dig.ok 1073741824 qs ∧ Dig.ok 1073741824 rs ∧ Dig.ab z = Dig.ab y * Dig.val 1073741824 qs + Dig.val 1073741824 rs ∧ Dig.val 1073741824 rs < Dig.ab y))
      case first =>
        have HVD : Hid (RIntV wo.drew (Rd D (w.heap.size + 4) wo.drew) (.agg #[.int .i64 s, .bool b, .slice A n c]) z) := Lib.hid (HV0.out.same fun _ _ => rfl)
        have HUD : Hid (RIntV wo.drew (Rd D (w.heap.size + 4) wo.drew) (.agg #[.int .i64 s', .bool b', .slice A' n' c']) y) := Lib.hid (HU0.out.same fun _ _ => rfl)
        have HLD : Hid (Lo (Rd D (w.heap.size + 4) wo.drew) wo.drew) := HL0
        have HBD : Hid (Below wo.heap.size wo wo.drew) := Lib.hid ((Below.refl _ _).drew)
        have HZD : Hid (w.heap.size + 4 ≤ wo.drew.heap.size) := Lib.hid (Nat.le_of_eq HZ0.out.symm)
        have hsz : w.heap.size + 4 = wo.drew.heap.size := HZ0.out.symm
        go_region_with (first
          | ((with_reducible show Calls _ 213 #[(.agg #[.int .i64 s, .bool b, .slice A n c])] wo.drew _); (refine (Rlist_calls z _ (Rd D (w.heap.size + 4) wo.drew) wo.drew HLD.out HVD.out).mono ?_); (rintro e y1 ⟨p1, rfl, hb1, xs, hx, hox, htx, hvx⟩); (have hx1 := ints_got hx HZD.out hb1); (have HXS := Lib.hid hx1); (have HXF : Hid (Dig.ok 1073741824 xs ∧ Dig.trimmed xs ∧ Dig.val 1073741824 xs = Dig.ab z) := Lib.hid ⟨hox, htx, hvx⟩); (obtain ⟨PA, pc, rfl, -, -, -⟩ := hx1.form); (have HB1 := Lib.hid (HBD.out.trans (hb1.mono HBD.out.size))); (have HU1 : Hid (RIntV y1 (Rd D (w.heap.size + 4) y1) (.agg #[.int .i64 s', .bool b', .slice A' n' c']) y) := Lib.hid (HUD.out.lift HD.out (by have := HBD.out.size; omega) hb1)); (have hs1 := hb1.size); (have HX11 := Lib.hid ((hb1.block (w.heap.size + 1) (by omega)).trans HX1.out)); (have e0 := (blk_at HX11.out 0).1); (have e1 := (blk_at HX11.out 1).1); (have e2 := (blk_at HX11.out 2).1); (clear hx hx1 hox htx hvx hb1))
          | ((with_reducible show Calls _ 213 #[(.agg #[.int .i64 s', .bool b', .slice A' n' c'])] y1 _); (refine (Rlist_calls y _ (Rd D (w.heap.size + 4) y1) y1 (Rd.lo HD.out (by omega)) HU1.out).mono ?_); (rintro e y2 ⟨p2, rfl, hb2, ys, hy, hoy, hty, hvy⟩); (have hy1 := ints_got hy (by omega) hb2); (have HYS := Lib.hid hy1); (have HYF : Hid (Dig.ok 1073741824 ys ∧ Dig.trimmed ys ∧ Dig.val 1073741824 ys = Dig.ab y) := Lib.hid ⟨hoy, hty, hvy⟩); (obtain ⟨QA, qc, rfl, -, -, -⟩ := hy1.form); (have HB2 := Lib.hid (HB1.out.trans (hb2.mono HB1.out.size))); (have HXS2 := Lib.hid (ints_lift HXS.out HD.out (by omega) hb2)); (have hs2 := hb2.size); (clear hy hy1 hoy hty hvy hb2))
          | ((go_at_call 248); (refine (Rdivided_calls xs ys _ _ (Rd D (w.heap.size + 4) y2) y2 (Rd.lo HD.out (by omega)) HXS2.out HYS.out HXF.out.1 HYF.out.1 HXF.out.2.1 HYF.out.2.1 (Nat.le_trans (dig_len HXF.out.1 HXF.out.2.1 HXF.out.2.2 HZ.out) (by decide)) (Nat.le_trans (dig_len HYF.out.1 HYF.out.2.1 HYF.out.2.2 HY.out) (by decide)) (dig_pos HYF.out.2.2 HY0.out)).mono ?_); (rintro e y3 ⟨p3, p4, rfl, hb3, qs, rs, hqs, hrs, hoq, hor, hqr, hrl⟩); (have hq1 := ints_got hqs (by omega) hb3); (have hr1 := ints_got hrs (by omega) hb3); (have HQS := Lib.hid hq1); (have HRS := Lib.hid hr1); (obtain ⟨QA2, qc2, rfl, -, -, -⟩ := hq1.form); (obtain ⟨RA2, rc2, rfl, -, -, -⟩ := hr1.form); (have HB3 := Lib.hid (HB2.out.trans (hb3.mono HB2.out.size))); (have HQF := Lib.hid (show Dig.ok 1073741824 qs ∧ Dig.ok 1073741824 rs ∧ Dig.ab z = Dig.ab y * Dig.val 1073741824 qs + Dig.val 1073741824 rs ∧ Dig.val 1073741824 rs < Dig.ab y from ⟨hoq, hor, by rw [← HXF.out.2.2, ← HYF.out.2.2]; exact hqr, by rw [← HYF.out.2.2]; exact hrl⟩)); (clear hqs hrs hoq hor hqr hrl hq1 hr1 hb3)))
        all_goals
          go_wp2_with fail
          go_meet
          exact ⟨_, _, _, _, _, _, rfl, rfl, Lib.hid ⟨HB3.out, qs, rs, HQS.out, HRS.out, HQF.out.1, HQF.out.2.1, HQF.out.2.2.1, HQF.out.2.2.2⟩⟩
      case rest =>
        obtain ⟨w1, rfl⟩ : ∃ W1 : World, W1 = wc := ⟨_, rfl⟩
        obtain ⟨QA, qn, qc, RA, rn, rc, rfl, rfl, HC⟩ := hcut
        obtain ⟨hbc, qs, rs, hqs, hrs, hoq, hor, hqr, hrl⟩ := HC.out
        have HB01 := Lib.hid (HB0.out.trans (hbc.mono HB0.out.size))
        have HX01 := Lib.hid ((hbc.block w.heap.size (by have := HZ0.out; omega)).trans HX0.out)
        have HX11 := Lib.hid ((hbc.block (w.heap.size + 1) (by have := HZ0.out; omega)).trans HX1.out)
        have HX21 := Lib.hid ((hbc.block (w.heap.size + 2) (by have := HZ0.out; omega)).trans HX2.out)
        have HX31 := Lib.hid ((hbc.block (w.heap.size + 3) (by have := HZ0.out; omega)).trans HX3.out)
        have HV1 := Lib.hid (HV0.out.lift HD.out HB0.out.size hbc)
        have HU1 := Lib.hid (HU0.out.lift HD.out HB0.out.size hbc)
        have hs1 : w.heap.size + 4 ≤ w1.heap.size := by have := hbc.size; have := HZ0.out; omega
        have HQ1 := Lib.hid hqs
        have HR1 := Lib.hid hrs
        have HOQ := Lib.hid hoq
        have HOR := Lib.hid hor
        obtain ⟨td1, td2⟩ := tdiv_of HY0.out hqr (Dig.val_nonneg (by decide) hor) hrl
        have HT1 := Lib.hid td1
        have HT2 := Lib.hid td2
        clear hbc hqs hrs hoq hor hqr hrl HC c0 c1 c2 d0 d1 d2 HX0 HX1 HX2 HX3 HV0 HU0 HB0 HL0 td1 td2 HZ HY
        go_upto_region 4 with fail
        have HF := Lib.hid (PhiO.firm (w := w) (D := D) (B1 := w1.heap.size) (.agg #[.int .i64 s, .bool b, .slice A n c]) (.agg #[.int .i64 s', .bool b', .slice A' n' c']) (.slice QA qn qc) (.slice RA rn rc) z y HD.out hs1)
        have HST : Hid (∀ x ∈ [(w.heap.size + 2, 12, 6), (w.heap.size + 3, 13, 11)], x.1 < w1.heap.size) := Lib.hid (by intro x hx; simp only [List.mem_cons, List.not_mem_nil, or_false] at hx; rcases hx with rfl | rfl <;> simp only <;> omega)
        refine inv_region3 (J := Jb w w1 w1.heap.size 136 [(w.heap.size + 2, 12, 6), (w.heap.size + 3, 13, 11)] (PhiO w D (.agg #[.int .i64 s, .bool b, .slice A n c]) (.agg #[.int .i64 s', .bool b', .slice A' n' c']) (.slice QA qn qc) (.slice RA rn rc) z y)) [some 38, some 39, some 40, some 41, some 42, some 43, some 44, some 45, some 46, some 47, some 48, some 49, none, none] [[], [0], [], [2], [1, 3], [], [4, 5], [], [7], [8], [], [9, 10], [6], [11]] (by rfl) (by kernel_rfl) (by kernel_rfl) ?_ ?_ ?_
        · intro d sl hd
          refine Jb.start HB01.out (Nat.le_refl _) (fun x hx => ?_) (fun x hx => ?_) fun j hj => ?_
          · simp only [List.mem_cons, List.not_mem_nil, or_false] at hx
            rcases hx with rfl | rfl
            · exact ⟨_, HX21.out⟩
            · exact ⟨_, HX31.out⟩
          · simp only [List.mem_cons, List.not_mem_nil, or_false] at hx
            rcases hx with rfl | rfl
            · exact hd 12 (by decide)
            · exact hd 13 (by decide)
          · by_cases hj14 : j < 14
            · rw [hd j hj14] at hj; cases hj
            · obtain ⟨k, rfl⟩ : ∃ k, j = k + 14 := ⟨j - 14, by omega⟩
              trivial
        · intro j o ho d sl V ρ hJ hd hdep hs hold hfun hcon
          have hj : j < 14 := (Array.getElem?_eq_some_iff.1 ho).1
          have HBR := Lib.hid (Below.refl V.heap.size V)
          have hks : ∀ k, k < w1.heap.size → k ≠ w.heap.size + 2 → k ≠ w.heap.size + 3 → V.heap[k]? = w1.heap[k]? := fun k h1 h2 h3 => hJ.keep k h1 fun x hx => by
            simp only [List.mem_cons, List.not_mem_nil, or_false] at hx
            rcases hx with rfl | rfl
            · exact fun e => h2 e.symm
            · exact fun e => h3 e.symm
          have HSM : Hid (Same (Rd D (w.heap.size + 4) w1) w1 V) := Lib.hid fun k hk => by
            rcases hk with hk | hk
            · have := HD.out k hk; exact hks k (by omega) (by omega) (by omega)
            · exact hks k hk.2 (by omega) (by omega)
          have HVV := Lib.hid ((HV1.out.same HSM.out).mono (Rd.up hJ.size))
          have HUV := Lib.hid ((HU1.out.same HSM.out).mono (Rd.up hJ.size))
          have HQV := Lib.hid ((HQ1.out.same HSM.out).mono (Rd.up hJ.size))
          have HRV := Lib.hid ((HR1.out.same HSM.out).mono (Rd.up hJ.size))
          have HX0V := Lib.hid ((hks w.heap.size (by omega) (by omega) (by omega)).trans HX01.out)
          have HX1V := Lib.hid ((hks (w.heap.size + 1) (by omega) (by omega) (by omega)).trans HX11.out)
          have HLV := Lib.hid (Rd.lo (B := w.heap.size + 4) HD.out hJ.low.size)
          have hBV : w.heap.size + 4 ≤ V.heap.size := Nat.le_trans hs1 hJ.size
          have hnst : ∀ i, i ≠ 12 → i ≠ 13 → ∀ x ∈ [(w.heap.size + 2, 12, 6), (w.heap.size + 3, 13, 11)], x.2.1 ≠ i := by
            intro i h1 h2 x hx
            simp only [List.mem_cons, List.not_mem_nil, or_false] at hx
            rcases hx with rfl | rfl
            · exact fun e => h1 e.symm
            · exact fun e => h2 e.symm
          rcases (show j = 0 ∨ j = 1 ∨ j = 2 ∨ j = 3 ∨ j = 4 ∨ j = 5 ∨ j = 6 ∨ j = 7 ∨ j = 8 ∨ j = 9 ∨ j = 10 ∨ j = 11 ∨ j = 12 ∨ j = 13 by omega) with rfl | rfl | rfl | rfl | rfl | rfl | rfl | rfl | rfl | rfl | rfl | rfl | rfl | rfl
          · cases ho
            exact rt_load rfl ((hold 2 rfl).trans rfl) (blk_at HX0V.out 0).1 (blk_at HX0V.out 1).1 (blk_at HX0V.out 2).1 (hJ.step HF.out HST.out hd (hnst _ (by decide) (by decide)) HBR.out rfl)
          · cases ho
            have h0 : sl 0 = (.agg #[.int .i64 s, .bool b, .slice A n c]) := hJ.ok 0 (hdep 0 (by decide))
            refine rt_call1 rfl enter_rSign ((hs 0 38 rfl).trans h0) (hfun _) ((RSign_calls z _ _ V HVV.out).mono ?_)
            intro e V' ⟨he, hb⟩
            exact ⟨_, he, hJ.step HF.out HST.out hd (hnst 1 (by decide) (by decide)) hb (PhiO.sg1 _ _ _ _ _ _)⟩
          · cases ho
            exact rt_load rfl ((hold 3 rfl).trans rfl) (blk_at HX1V.out 0).1 (blk_at HX1V.out 1).1 (blk_at HX1V.out 2).1 (hJ.step HF.out HST.out hd (hnst _ (by decide) (by decide)) HBR.out rfl)
          · cases ho
            have h0 : sl 2 = (.agg #[.int .i64 s', .bool b', .slice A' n' c']) := hJ.ok 2 (hdep 2 (by decide))
            refine rt_call1 rfl enter_rSign ((hs 2 40 rfl).trans h0) (hfun _) ((RSign_calls y _ _ V HUV.out).mono ?_)
            intro e V' ⟨he, hb⟩
            exact ⟨_, he, hJ.step HF.out HST.out hd (hnst 3 (by decide) (by decide)) hb (PhiO.sg3 _ _ _ _ _ _)⟩
          · cases ho
            have h1 : sl 1 = .int .i64 (Dig.sgn z) := hJ.ok 1 (hdep 1 (by decide))
            have h3 : sl 3 = .int .i64 (Dig.sgn y) := hJ.ok 3 (hdep 3 (by decide))
            exact rt_neq rfl ((hs 1 39 rfl).trans h1) ((hs 3 41 rfl).trans h3) (hJ.step HF.out HST.out hd (hnst _ (by decide) (by decide)) HBR.out rfl)
          · cases ho
            exact rt_move (.inl rfl) (hJ.step HF.out HST.out hd (hnst _ (by decide) (by decide)) HBR.out ((hold 6 rfl).trans rfl))
          · cases ho
            have h4 : sl 4 = .bool (Dig.sgn z != Dig.sgn y) := hJ.ok 4 (hdep 4 (by decide))
            have h5 : sl 5 = .slice QA qn qc := hJ.ok 5 (hdep 5 (by decide))
            refine rt_call2 rfl enter_rmade ((hs 4 42 rfl).trans h4) ((hs 5 43 rfl).trans h5) (hfun _) ((Rmade_calls _ qs _ _ V HLV.out HQV.out HOQ.out).mono ?_)
            rintro e V' ⟨v', rfl, hb, hr⟩
            rw [HT1.out] at hr
            exact ⟨_, rfl, hJ.step HF.out HST.out hd (hnst _ (by decide) (by decide)) hb (made_in (W := V) hr hb.size)⟩
          · cases ho
            exact rt_load rfl ((hold 2 rfl).trans rfl) (blk_at HX0V.out 0).1 (blk_at HX0V.out 1).1 (blk_at HX0V.out 2).1 (hJ.step HF.out HST.out hd (hnst _ (by decide) (by decide)) HBR.out rfl)
          · cases ho
            have h0 : sl 7 = (.agg #[.int .i64 s, .bool b, .slice A n c]) := hJ.ok 7 (hdep 7 (by decide))
            refine rt_call1 rfl enter_rSign ((hs 7 45 rfl).trans h0) (hfun _) ((RSign_calls z _ _ V HVV.out).mono ?_)
            intro e V' ⟨he, hb⟩
            exact ⟨_, he, hJ.step HF.out HST.out hd (hnst 8 (by decide) (by decide)) hb (PhiO.sg8 _ _ _ _ _ _)⟩
          · cases ho
            have h1 : sl 8 = .int .i64 (Dig.sgn z) := hJ.ok 8 (hdep 8 (by decide))
            exact rt_lss rfl ((hs 8 46 rfl).trans h1) (hcon _) (hJ.step HF.out HST.out hd (hnst _ (by decide) (by decide)) HBR.out rfl)
          · cases ho
            exact rt_move (.inl rfl) (hJ.step HF.out HST.out hd (hnst _ (by decide) (by decide)) HBR.out ((hold 7 rfl).trans rfl))
          · cases ho
            have h4 : sl 9 = .bool (decide (Dig.sgn z < 0)) := hJ.ok 9 (hdep 9 (by decide))
            have h5 : sl 10 = .slice RA rn rc := hJ.ok 10 (hdep 10 (by decide))
            refine rt_call2 rfl enter_rmade ((hs 9 47 rfl).trans h4) ((hs 10 48 rfl).trans h5) (hfun _) ((Rmade_calls _ rs _ _ V HLV.out HRV.out HOR.out).mono ?_)
            rintro e V' ⟨v', rfl, hb, hr⟩
            rw [HT2.out] at hr
            exact ⟨_, rfl, hJ.step HF.out HST.out hd (hnst _ (by decide) (by decide)) hb (made_in (W := V) hr hb.size)⟩
          · cases ho
            have h6 : RIntV V (Rd D (w.heap.size + 4) V) (sl 6) (z.tdiv y) := hJ.ok 6 (hdep 6 (by decide))
            obtain ⟨i6, b6, A6, n6, c6, e6⟩ := h6.shape
            obtain ⟨cs, k1, ⟨cs0, k2, k3⟩, -⟩ := hJ.box (w.heap.size + 2, 12, 6) (by simp)
            obtain ⟨u1, u2, u3, rfl⟩ := three_of (by rw [k3]; rw [HX21.out] at k2; injection k2 with k2; injection k2 with k2; rw [← k2]; rfl)
            exact rt_store rfl ((hold 4 rfl).trans rfl) ((hs 6 44 rfl).trans e6) k1 (hJ.store HF.out (x := (w.heap.size + 2, 12, 6)) (by simp) hd rfl (hdep 6 (by decide)) (fun y hy h => by simp only [List.mem_cons, List.not_mem_nil, or_false] at hy; rcases hy with rfl | rfl; rfl; cases h) (fun y hy h => by simp only [List.mem_cons, List.not_mem_nil, or_false] at hy; rcases hy with rfl | rfl; rfl; simp only at h; omega) e6 (fun y hy => by simp only [List.mem_cons, List.not_mem_nil, or_false] at hy; rcases hy with rfl | rfl <;> simp) (Nat.le_add_right _ 2) (st3_blk k1 _ _ _) (fun cs0 h => by simp only at h; rw [HX21.out] at h; injection h with h; injection h with h; rw [← h]; rfl) (fun k hk => st3_other hk _ _ _) (st3_size _ _ _ _ _) (st3_below (Below.refl _ _) (Nat.le_refl _) _ _ _) trivial)
          · cases ho
            have h6 : RIntV V (Rd D (w.heap.size + 4) V) (sl 11) (z.tmod y) := hJ.ok 11 (hdep 11 (by decide))
            obtain ⟨i6, b6, A6, n6, c6, e6⟩ := h6.shape
            obtain ⟨cs, k1, ⟨cs0, k2, k3⟩, -⟩ := hJ.box (w.heap.size + 3, 13, 11) (by simp)
            obtain ⟨u1, u2, u3, rfl⟩ := three_of (by rw [k3]; rw [HX31.out] at k2; injection k2 with k2; injection k2 with k2; rw [← k2]; rfl)
            exact rt_store rfl ((hold 5 rfl).trans rfl) ((hs 11 49 rfl).trans e6) k1 (hJ.store HF.out (x := (w.heap.size + 3, 13, 11)) (by simp) hd rfl (hdep 11 (by decide)) (fun y hy h => by simp only [List.mem_cons, List.not_mem_nil, or_false] at hy; rcases hy with rfl | rfl; cases h; rfl) (fun y hy h => by simp only [List.mem_cons, List.not_mem_nil, or_false] at hy; rcases hy with rfl | rfl; simp only at h; omega; rfl) e6 (fun y hy => by simp only [List.mem_cons, List.not_mem_nil, or_false] at hy; rcases hy with rfl | rfl <;> simp) (Nat.le_add_right _ 3) (st3_blk k1 _ _ _) (fun cs0 h => by simp only at h; rw [HX31.out] at h; injection h with h; injection h with h; rw [← h]; rfl) (fun k hk => st3_other hk _ _ _) (st3_size _ _ _ _ _) (st3_below (Below.refl _ _) (Nat.le_refl _) _ _ _) trivial)
        · intro d sl wc hJ hd
          have h6 : RIntV wc (Rd D (w.heap.size + 4) wc) (sl 6) (z.tdiv y) := hJ.ok 6 (hd 6 (by decide))
          have h11 : RIntV wc (Rd D (w.heap.size + 4) wc) (sl 11) (z.tmod y) := hJ.ok 11 (hd 11 (by decide))
          obtain ⟨csq, k1, -, k2⟩ := hJ.box (w.heap.size + 2, 12, 6) (by simp)
          obtain ⟨csr, k3, -, k4⟩ := hJ.box (w.heap.size + 3, 13, 11) (by simp)
          have k2 := k2 (hd 12 (by decide))
          have k4 := k4 (hd 13 (by decide))
          simp only at k1 k2 k3 k4
          obtain ⟨i6, b6, A6, n6, c6, e6⟩ := h6.shape
          obtain ⟨i7, b7, A7, n7, c7, e7⟩ := h11.shape
          rw [e6] at k2 h6
          rw [e7] at k4 h11
          injection k2 with k2
          injection k4 with k4
          subst k2 k4
          have e0 : wc.cell? ⟨w.heap.size + 2, 0, none⟩ = some (.int .i64 i6) := (blk_at k1 0).1
          have e1 : wc.cell? ⟨w.heap.size + 2, 1, none⟩ = some (.bool b6) := (blk_at k1 1).1
          have e2 : wc.cell? ⟨w.heap.size + 2, 2, none⟩ = some (.slice A6 n6 c6) := (blk_at k1 2).1
          have e3 : wc.cell? ⟨w.heap.size + 3, 0, none⟩ = some (.int .i64 i7) := (blk_at k3 0).1
          have e4 : wc.cell? ⟨w.heap.size + 3, 1, none⟩ = some (.bool b7) := (blk_at k3 1).1
          have e5 : wc.cell? ⟨w.heap.size + 3, 2, none⟩ = some (.slice A7 n7 c7) := (blk_at k3 2).1
          have HL := Lib.hid hJ.low
          have hgr : ∀ k, Rd D (w.heap.size + 4) wc k → gr D w wc k := fun k hk => hk.elim .inl fun h => .inr ⟨by omega, h.2⟩
          have H6 := Lib.hid (h6.mono hgr)
          have H11 := Lib.hid (h11.mono hgr)
          simp only [putL, Act.put, List.setIfInBounds_toArray, List.set_cons_succ, List.set_cons_zero, Nat.reduceAdd, Nat.zero_add, e6, e7]
          clear hJ hd HF HST h6 h11 k1 k3 hgr
          generalize sl 0 = z0
          generalize sl 1 = z1
          generalize sl 2 = z2
          generalize sl 3 = z3
          generalize sl 4 = z4
          generalize sl 5 = z5
          generalize sl 7 = z7
          generalize sl 8 = z8
          generalize sl 9 = z9
          generalize sl 10 = z10
          go_wp2
          exact bodyPost_ret (v := .tuple #[.agg #[.int .i64 i6, .bool b6, .slice A6 n6 c6], .agg #[.int .i64 i7, .bool b7, .slice A7 n7 c7]]) (by simp [results, Tryz.results209, go_sem, e0, e1, e2, e3, e4, e5]) rfl ⟨_, _, rfl, HL.out, H6.out, H11.out⟩

end Go.Proofs.YtoffbdlgmnpblaaGreat
