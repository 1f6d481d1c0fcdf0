/- Part 19: Rf8 Rf9 Rf10. -/
import Derived.Test.YtoffbdlgmnpblaaGreatJ18
import Derived.BigQuiet
import Derived.Test.YtoffbdlgmnpblaaGreatJ06

/- The reference's exact integers: differences, comparisons. -/
namespace Go.Proofs.YtoffbdlgmnpblaaGreat
open Go.RowKit
set_option maxHeartbeats 4000000
set_option maxRecDepth 100000

theorem RLess_calls (z y : Int) (v u : Value) (D : Nat → Prop) (w : World) (hD : Lo D w) (h : RIntV w D v z) (h' : RIntV w D u y) (hz : Dig.ab z < 1073741824 ^ 1000) (hy : Dig.ab y < 1073741824 ^ 1000) :
    Calls Tryz.prog 211 #[v, u] w fun e w' => ∃ v', e = .returned v' ∧ Below w.heap.size w w' ∧ RIntV w' (gr D w w') v' (z - y) := by
  have HV := Lib.hid h
  have HU := Lib.hid h'
  obtain ⟨s, b, A, n, c, rfl⟩ := h.shape
  obtain ⟨s', b', A', n', c', rfl⟩ := h'.shape
  have HD := Lib.hid hD
  have HZ := Lib.hid hz
  have HY := Lib.hid (show Dig.ab (-y) < 1073741824 ^ 1000 by rw [show Dig.ab (-y) = Dig.ab y by unfold Dig.ab; split <;> split <;> omega]; exact hy)
  clear hD hz hy h h'
  obtain ⟨W0, hW0, hb0, hz0, hx0, hx1, hx2⟩ := rb3 w #[.int .i64 s, .bool b, .slice A n c] #[.int .i64 s', .bool b', .slice A' n' c'] #[.int .i64 0, .bool false, .slice none 0 0] 136 136 136
  have HV0 := Lib.hid (RIntV.start (B := w.heap.size + 3) HV.out HD.out hb0)
  have HU0 := Lib.hid (RIntV.start (B := w.heap.size + 3) HU.out HD.out hb0)
  have HB0 := Lib.hid hb0
  have HX0 := Lib.hid hx0
  have HX1 := Lib.hid hx1
  have HX2 := Lib.hid hx2
  have HZ0 := Lib.hid hz0
  have HW0 := Lib.hid hW0
  have HL0 := Lib.hid (Rd.lo (B := w.heap.size + 3) HD.out hb0.size)
  clear hb0 hx0 hx1 hx2 hz0 hW0
  go_enter Tryz.func211, Tryz.ntmps211
  go_upto_region 1 with fail
  rw [← HW0.out]
  clear HW0
  obtain ⟨c0, -⟩ := blk_at HX0.out 0
  obtain ⟨c1, -⟩ := blk_at HX0.out 1
  obtain ⟨c2, -⟩ := blk_at HX0.out 2
  obtain ⟨d0, -⟩ := blk_at HX1.out 0
  obtain ⟨d1, -⟩ := blk_at HX1.out 1
  obtain ⟨d2, -⟩ := blk_at HX1.out 2
  have HVD : Hid (RIntV W0.drew (Rd D (w.heap.size + 3) W0.drew) (.agg #[.int .i64 s, .bool b, .slice A n c]) z) := Lib.hid (HV0.out.same fun _ _ => rfl)
  have HUD : Hid (RIntV W0.drew (Rd D (w.heap.size + 3) W0.drew) (.agg #[.int .i64 s', .bool b', .slice A' n' c']) y) := Lib.hid (HU0.out.same fun _ _ => rfl)
  have HLD : Hid (Lo (Rd D (w.heap.size + 3) W0.drew) W0.drew) := HL0
  have HBD : Hid (Below w.heap.size w W0.drew) := Lib.hid (HB0.out.drew)
  have hsz : w.heap.size + 3 = W0.drew.heap.size := HZ0.out.symm
  go_region_with (first
    | ((with_reducible show Calls _ 212 #[(.agg #[.int .i64 s', .bool b', .slice A' n' c'])] W0.drew _); (refine (RMinus_calls y _ (Rd D (w.heap.size + 3) W0.drew) W0.drew HLD.out HUD.out).mono ?_); (rintro e y1 ⟨p1, rfl, hb1, h1⟩); (obtain ⟨s1, b1, A1, n1, c1', rfl⟩ := h1.shape); (have H1 := Lib.hid (made_in (W := W0.drew) h1 hb1.size)); (have HV1 : Hid (RIntV y1 (Rd D (w.heap.size + 3) y1) (.agg #[.int .i64 s, .bool b, .slice A n c]) z) := Lib.hid (HVD.out.lift HD.out HBD.out.size hb1)); (have HB1 := Lib.hid (HBD.out.trans (hb1.mono HBD.out.size))); (have hs1 := hb1.size); (have HX01 := Lib.hid ((hb1.block w.heap.size (by omega)).trans HX0.out)); (have e0 := (blk_at HX01.out 0).1); (have e1 := (blk_at HX01.out 1).1); (have e2 := (blk_at HX01.out 2).1); (have HX21 := Lib.hid ((hb1.block (w.heap.size + 2) (by omega)).trans HX2.out)); (clear h1 hb1))
    | ((with_reducible show Calls _ 170 #[(.agg #[.int .i64 s, .bool b, .slice A n c]), (.agg #[.int .i64 s1, .bool b1, .slice A1 n1 c1'])] y1 _); (refine (RPlus_calls z (-y) _ _ (Rd D (w.heap.size + 3) y1) y1 (Rd.lo HD.out (by omega)) HV1.out H1.out HZ.out HY.out).mono ?_); (rintro e y2 ⟨p2, rfl, hb2, h2⟩); (obtain ⟨s2, b2, A2, n2, c2', rfl⟩ := h2.shape); (have H2 := Lib.hid (h2.got (by omega) hb2)); (have HB2 := Lib.hid (HB1.out.trans (hb2.mono HB1.out.size))); (have HX22 := Lib.hid ((hb2.block (w.heap.size + 2) (by omega)).trans HX21.out)); (obtain ⟨k0, f0⟩ := blk_at HX22.out 0); (obtain ⟨k1, f1⟩ := blk_at HX22.out 1); (obtain ⟨k2, f2⟩ := blk_at HX22.out 2); (clear h2 hb2)))
  all_goals
    go_wp2_with fail
    obtain ⟨wf, hwf, e0, e1, e2, hbel, hri⟩ := fin3 HD.out HB2.out (Nat.le_add_right _ 2) (Nat.lt_succ_self _) HX22.out H2.out
    rw [← hwf]
    clear hwf
    exact bodyPost_ret (v := .agg #[.int .i64 s2, .bool b2, .slice A2 n2 c2']) (by simp [results, Tryz.results211, go_sem, e0, e1, e2]) rfl ⟨_, rfl, hbel, by rw [Int.sub_eq_add_neg]; exact hri⟩

theorem RCompare_calls (z y : Int) (v u : Value) (D : Nat → Prop) (w : World) (hD : Lo D w) (h : RIntV w D v z) (h' : RIntV w D u y) (hz : Dig.ab z < 1073741824 ^ 1000) (hy : Dig.ab y < 1073741824 ^ 1000) :
    Calls Tryz.prog 167 #[v, u] w fun e w' => e = .returned (.int .i64 (Dig.sgn (z - y))) ∧ Below w.heap.size w w' := by
  have HV := Lib.hid h
  have HU := Lib.hid h'
  obtain ⟨s, b, A, n, c, rfl⟩ := h.shape
  obtain ⟨s', b', A', n', c', rfl⟩ := h'.shape
  have HD := Lib.hid hD
  have HZ := Lib.hid hz
  have HY := Lib.hid hy
  clear hD hz hy h h'
  obtain ⟨W0, hW0⟩ : ∃ W : World, W = (w.alloc (.cells #[.int .i64 s, .bool b, .slice A n c] 136)).alloc (.cells #[.int .i64 s', .bool b', .slice A' n' c'] 136) := ⟨_, rfl⟩
  have hb0 : Below w.heap.size w W0 := by rw [hW0]; exact boxes2 _ _ _
  have hx0 : W0.heap[w.heap.size]? = some (.cells #[.int .i64 s, .bool b, .slice A n c] 136 (0, 0)) := by rw [hW0]; exact (heap_alloc_old _ _ (by simp)).trans (heap_alloc_new _ _)
  have hx1 : W0.heap[w.heap.size + 1]? = some (.cells #[.int .i64 s', .bool b', .slice A' n' c'] 136 (0, 0)) := by
    have := heap_alloc_new (w.alloc (.cells #[.int .i64 s, .bool b, .slice A n c] 136)) (.cells #[.int .i64 s', .bool b', .slice A' n' c'] 136)
    rw [World.size_alloc] at this
    rw [hW0]; exact this
  have HV0 := Lib.hid (RIntV.start (B := w.heap.size + 2) HV.out HD.out hb0)
  have HU0 := Lib.hid (RIntV.start (B := w.heap.size + 2) HU.out HD.out hb0)
  have HZ0 : Hid (W0.heap.size = w.heap.size + 2) := Lib.hid (by rw [hW0]; simp)
  have HB0 := Lib.hid hb0
  have HX0 := Lib.hid hx0
  have HX1 := Lib.hid hx1
  have HW0 := Lib.hid hW0
  have HL0 := Lib.hid (Rd.lo (B := w.heap.size + 2) HD.out hb0.size)
  clear hb0 hx0 hx1 hW0
  go_enter Tryz.func167, Tryz.ntmps167
  go_upto_region 1 with fail
  rw [← HW0.out]
  clear HW0
  obtain ⟨c0, -⟩ := blk_at HX0.out 0
  obtain ⟨c1, -⟩ := blk_at HX0.out 1
  obtain ⟨c2, -⟩ := blk_at HX0.out 2
  obtain ⟨d0, -⟩ := blk_at HX1.out 0
  obtain ⟨d1, -⟩ := blk_at HX1.out 1
  obtain ⟨d2, -⟩ := blk_at HX1.out 2
  go_wp2_with fail
  refine (RLess_calls z y _ _ _ W0 HL0.out HV0.out HU0.out HZ.out HY.out).mono ?_
  rintro e w1 ⟨v1, rfl, hb1, h1⟩
  obtain ⟨s1, b1, A1, n1, c1', rfl⟩ := h1.shape
  have H1 := Lib.hid h1
  have HB1 := Lib.hid (HB0.out.trans (hb1.mono HB0.out.size))
  clear hb1 h1 c0 c1 c2 d0 d1 d2
  go_wp2_with fail
  refine (RSign_calls (z - y) _ _ w1 H1.out).mono ?_
  rintro e w2 ⟨rfl, hb2⟩
  have HB2 := Lib.hid (HB1.out.trans (hb2.mono HB1.out.size))
  clear hb2
  go_wp2
  go_ret
  exact ⟨rfl, HB2.out⟩

end Go.Proofs.YtoffbdlgmnpblaaGreat

/- The reference's exact integers: products. -/
namespace Go.Proofs.YtoffbdlgmnpblaaGreat
open Go.RowKit
set_option maxHeartbeats 4000000
set_option maxRecDepth 100000

structure RMulRow (zs xs ys : List Int) (i : Nat) : Prop where
  ok : Dig.ok 1073741824 zs
  val : Dig.val 1073741824 zs = Dig.val 1073741824 (xs.take i) * Dig.val 1073741824 ys
  zero : ∀ j, i + ys.length ≤ j → Dig.gd zs j = 0
structure RMulCol (zs xs ys : List Int) (i k : Nat) (c : Int) : Prop where
  ok : Dig.ok 1073741824 zs
  val : Dig.val 1073741824 zs + 1073741824 ^ (i + k) * c = Dig.val 1073741824 (xs.take i) * Dig.val 1073741824 ys + 1073741824 ^ i * (Dig.gd xs i * Dig.val 1073741824 (ys.take k))
  zero : ∀ j, i + ys.length ≤ j → Dig.gd zs j = 0
theorem prod_sgn (z y : Int) : (if (Dig.sgn z != Dig.sgn y) = true then -(Dig.ab z * Dig.ab y) else Dig.ab z * Dig.ab y) = z * y := by
  rcases Int.lt_trichotomy z 0 with h | h | h
  · rcases Int.lt_trichotomy y 0 with k | k | k
    · rw [Dig.sgn_lt h, Dig.sgn_lt k, Dig.ab_of_neg h, Dig.ab_of_neg k, if_neg (by decide), Int.neg_mul_neg]
    · subst k; rw [show Dig.ab 0 = 0 from rfl, Int.mul_zero, Int.mul_zero]; split <;> rfl
    · rw [Dig.sgn_lt h, Dig.sgn_gt k, Dig.ab_of_neg h, Dig.ab_of_pos (Int.le_of_lt k), if_pos (by decide), Int.neg_mul, Int.neg_neg]
  · subst h; rw [show Dig.ab 0 = 0 from rfl, Int.zero_mul, Int.zero_mul]; split <;> rfl
  · rcases Int.lt_trichotomy y 0 with k | k | k
    · rw [Dig.sgn_gt h, Dig.sgn_lt k, Dig.ab_of_pos (Int.le_of_lt h), Dig.ab_of_neg k, if_pos (by decide), Int.mul_neg, Int.neg_neg]
    · subst k; rw [show Dig.ab 0 = 0 from rfl, Int.mul_zero, Int.mul_zero]; split <;> rfl
    · rw [Dig.sgn_gt h, Dig.sgn_gt k, Dig.ab_of_pos (Int.le_of_lt h), Dig.ab_of_pos (Int.le_of_lt k), if_neg (by decide)]
theorem small_mul {s t : Int} (h1 : -1073741824 < s) (h2 : s < 1073741824) (h3 : -1073741824 < t) (h4 : t < 1073741824) : -1152921504606846976 < s * t ∧ s * t < 1152921504606846976 := by
  have h : (s * t).natAbs < 1073741824 * 1073741824 := by
    rw [Int.natAbs_mul]
    exact Nat.mul_lt_mul'' (by omega) (by omega)
  omega

theorem RTimes_calls (z y : Int) (v u : Value) (D : Nat → Prop) (w : World) (hD : Lo D w) (h : RIntV w D v z) (h' : RIntV w D u y) (hz : Dig.ab z < 1073741824 ^ 1000) (hy : Dig.ab y < 1073741824 ^ 1000) :
    Calls Tryz.prog 169 #[v, u] w fun e w' => ∃ v', e = .returned v' ∧ Below w.heap.size w w' ∧ RIntV w' (gr D w w') v' (z * y) := by
  have HV := Lib.hid h
  have HU := Lib.hid h'
  obtain ⟨s, b, A, n, c, rfl, hi⟩ := h
  obtain ⟨s', b', A', n', c', rfl, hi'⟩ := h'
  have HD := Lib.hid hD
  have HI := Lib.hid hi
  have HI' := Lib.hid hi'
  have HZ := Lib.hid hz
  have HY := Lib.hid hy
  clear hD hi hi' hz hy
  obtain ⟨W0, hW0, hb0, hz0, hx0, hx1, hx2⟩ := rb3 w #[.int .i64 s, .bool b, .slice A n c] #[.int .i64 s', .bool b', .slice A' n' c'] #[.int .i64 0, .bool false, .slice none 0 0] 136 136 136
  have HV0 := Lib.hid (RIntV.start (B := w.heap.size + 3) HV.out HD.out hb0)
  have HU0 := Lib.hid (RIntV.start (B := w.heap.size + 3) HU.out HD.out hb0)
  have HB0 := Lib.hid hb0
  have HX0 := Lib.hid hx0
  have HX1 := Lib.hid hx1
  have HX2 := Lib.hid hx2
  have HZ0 := Lib.hid hz0
  have HW0 := Lib.hid hW0
  have HL0 := Lib.hid (Rd.lo (B := w.heap.size + 3) HD.out hb0.size)
  clear hb0 hx0 hx1 hx2 hz0 hW0
  go_enter Tryz.func169, Tryz.ntmps169
  go_upto_region 1 with fail
  rw [← HW0.out]
  clear HW0
  obtain ⟨c0, -⟩ := blk_at HX0.out 0
  obtain ⟨c1, -⟩ := blk_at HX0.out 1
  obtain ⟨c2, -⟩ := blk_at HX0.out 2
  obtain ⟨d0, -⟩ := blk_at HX1.out 0
  obtain ⟨d1, -⟩ := blk_at HX1.out 1
  obtain ⟨d2, -⟩ := blk_at HX1.out 2
  by_cases hsm : n = 0 ∧ n' = 0 ∧ -1073741824 < s ∧ s < 1073741824 ∧ -1073741824 < s' ∧ s' < 1073741824
  · obtain ⟨rfl, rfl, m1, m2, m3, m4⟩ := hsm
    obtain rfl : s = z := by
      rcases HI.out with ⟨-, -, -, -, h4, h5, h6⟩ | ⟨xs, -, h1, -, -, h5, -⟩
      · exact h4
      · have := h1.len.1; have := big_ne h5; omega
    obtain rfl : s' = y := by
      rcases HI'.out with ⟨-, -, -, -, h4, h5, h6⟩ | ⟨xs, -, h1, -, -, h5, -⟩
      · exact h4
      · have := h1.len.1; have := big_ne h5; omega
    obtain ⟨p1, p2⟩ := small_mul m1 m2 m3 m4
    obtain ⟨k0, f0⟩ := blk_at HX2.out 0
    obtain ⟨k1, f1⟩ := blk_at HX2.out 1
    obtain ⟨k2, f2⟩ := blk_at HX2.out 2
    have H2 : Hid (RIntV W0 (Rd D (w.heap.size + 3) W0) (.agg #[.int .i64 (s * s'), .bool false, .slice none 0 0]) (s * s')) := Lib.hid (RIntV.small (by omega) (by omega))
    go_wp2
    obtain ⟨wf, hwf, e0, e1, e2, hbel, hri⟩ := fin3 HD.out HB0.out (Nat.le_add_right _ 2) (Nat.lt_succ_self _) HX2.out H2.out
    rw [← hwf]
    clear hwf
    exact bodyPost_ret (v := .agg #[.int .i64 (s * s'), .bool false, .slice none 0 0]) (by simp [results, Tryz.results169, go_sem, e0, e1, e2]) rfl ⟨_, rfl, hbel, hri⟩
  · go_cut [40] from 11 to 40 (fun bv wx => bv = .bool false ∧ wx = W0)
    case first =>
      by_cases k1 : n = 0
      · subst k1
        by_cases k2 : n' = 0
        · subst k2
          by_cases k3 : -1073741824 < s
          · by_cases k4 : s < 1073741824
            · by_cases k5 : -1073741824 < s'
              · have k6 : ¬ s' < 1073741824 := fun k6 => hsm ⟨rfl, rfl, k3, k4, k5, k6⟩
                clear hsm
                go_wp2
                go_meet
                exact ⟨rfl, rfl⟩
              · clear hsm
                go_wp2
                go_meet
                exact ⟨rfl, rfl⟩
            · clear hsm
              go_wp2
              go_meet
              exact ⟨rfl, rfl⟩
          · clear hsm
            go_wp2
            go_meet
            exact ⟨rfl, rfl⟩
        · have hq : ((n' : Int) == 0) = false := by simpa using k2
          clear hsm
          go_wp2
          go_meet
          exact ⟨rfl, rfl⟩
      · have hq : ((n : Int) == 0) = false := by simpa using k1
        clear hsm
        go_wp2
        go_meet
        exact ⟨rfl, rfl⟩
    case rest =>
      obtain ⟨rfl, rfl⟩ := hcut
      clear hsm c0 c1 c2 d0 d1 d2
      obtain ⟨wo, rfl⟩ : ∃ wo : World, wo = wc := ⟨_, rfl⟩
      obtain ⟨c0, -⟩ := blk_at HX0.out 0
      obtain ⟨c1, -⟩ := blk_at HX0.out 1
      obtain ⟨c2, -⟩ := blk_at HX0.out 2
      obtain ⟨d0, -⟩ := blk_at HX1.out 0
      obtain ⟨d1, -⟩ := blk_at HX1.out 1
      obtain ⟨d2, -⟩ := blk_at HX1.out 2
      go_upto_region 3 with fail
      go_cut [5, 6] from 47 to 50 (fun v5 v6 wx => ∃ (PA : Option Addr) (pn pc : Nat) (QA : Option Addr) (qn qc : Nat), v5 = .slice PA pn pc ∧ v6 = .slice QA qn qc ∧ Hid (Below wo.heap.size wo wx ∧ ∃ xs ys, Sl (Kind.int .i64) wx (Rd D (w.heap.size + 3) wx) (.slice PA pn pc) xs ∧ Sl (Kind.int .i64) wx (Rd D (w.heap.size + 3) wx) (.slice QA qn qc) ys ∧ Dig.ok 1073741824 xs ∧ Dig.trimmed xs ∧ Dig.val 1073741824 xs = Dig.ab z ∧ Dig.ok 1073741824 ys ∧ Dig.trimmed ys ∧ Dig.val 1073741824 ys = Dig.ab y))
      case first =>
        have HVD : Hid (RIntV wo.drew (Rd D (w.heap.size + 3) wo.drew) (.agg #[.int .i64 s, .bool b, .slice A n c]) z) := Lib.hid (HV0.out.same fun _ _ => rfl)
        have HUD : Hid (RIntV wo.drew (Rd D (w.heap.size + 3) wo.drew) (.agg #[.int .i64 s', .bool b', .slice A' n' c']) y) := Lib.hid (HU0.out.same fun _ _ => rfl)
        have HLD : Hid (Lo (Rd D (w.heap.size + 3) wo.drew) wo.drew) := HL0
        have HBD : Hid (Below wo.heap.size wo wo.drew) := Lib.hid ((Below.refl _ _).drew)
        have HZD : Hid (w.heap.size + 3 ≤ wo.drew.heap.size) := Lib.hid (Nat.le_of_eq HZ0.out.symm)
        have hsz : w.heap.size + 3 = wo.drew.heap.size := HZ0.out.symm
        go_region_with (first
          | ((with_reducible show Calls _ 213 #[(.agg #[.int .i64 s, .bool b, .slice A n c])] wo.drew _); (refine (Rlist_calls z _ (Rd D (w.heap.size + 3) wo.drew) wo.drew HLD.out HVD.out).mono ?_); (rintro e y1 ⟨p1, rfl, hb1, xs, hx, hox, htx, hvx⟩); (have hx1 := ints_got hx HZD.out hb1); (have HXS := Lib.hid hx1); (have HXF : Hid (Dig.ok 1073741824 xs ∧ Dig.trimmed xs ∧ Dig.val 1073741824 xs = Dig.ab z) := Lib.hid ⟨hox, htx, hvx⟩); (obtain ⟨PA, pc, rfl, -, -, -⟩ := hx1.form); (have HB1 := Lib.hid (HBD.out.trans (hb1.mono HBD.out.size))); (have HU1 : Hid (RIntV y1 (Rd D (w.heap.size + 3) y1) (.agg #[.int .i64 s', .bool b', .slice A' n' c']) y) := Lib.hid (HUD.out.lift HD.out (by have := HBD.out.size; omega) hb1)); (have hs1 := hb1.size); (have HX11 := Lib.hid ((hb1.block (w.heap.size + 1) (by omega)).trans HX1.out)); (have e0 := (blk_at HX11.out 0).1); (have e1 := (blk_at HX11.out 1).1); (have e2 := (blk_at HX11.out 2).1); (clear hx hx1 hox htx hvx hb1))
          | ((with_reducible show Calls _ 213 #[(.agg #[.int .i64 s', .bool b', .slice A' n' c'])] y1 _); (refine (Rlist_calls y _ (Rd D (w.heap.size + 3) y1) y1 (Rd.lo HD.out (by omega)) HU1.out).mono ?_); (rintro e y2 ⟨p2, rfl, hb2, ys, hy, hoy, hty, hvy⟩); (have hy1 := ints_got hy (by omega) hb2); (have HYS := Lib.hid hy1); (have HYF : Hid (Dig.ok 1073741824 ys ∧ Dig.trimmed ys ∧ Dig.val 1073741824 ys = Dig.ab y) := Lib.hid ⟨hoy, hty, hvy⟩); (obtain ⟨QA, qc, rfl, -, -, -⟩ := hy1.form); (have HB2 := Lib.hid (HB1.out.trans (hb2.mono HB1.out.size))); (have HXS2 := Lib.hid (ints_lift HXS.out HD.out (by omega) hb2)); (clear hy hy1 hoy hty hvy hb2)))
        all_goals
          go_wp2_with fail
          go_meet
          exact ⟨_, _, _, _, _, _, rfl, rfl, Lib.hid ⟨HB2.out, xs, ys, HXS2.out, HYS.out, HXF.out.1, HXF.out.2.1, HXF.out.2.2, HYF.out.1, HYF.out.2.1, HYF.out.2.2⟩⟩
      case rest =>
        obtain ⟨w1, rfl⟩ : ∃ W1 : World, W1 = wc := ⟨_, rfl⟩
        obtain ⟨PA, pn, pc, QA, qn, qc, rfl, rfl, HC⟩ := hcut
        obtain ⟨hbc, xs, ys, hx, hy, hox, htx, hvx, hoy, hty, hvy⟩ := HC.out
        obtain ⟨rfl, gp1, gp2⟩ := hx.len
        obtain ⟨rfl, gq1, gq2⟩ := hy.len
        have HB01 := Lib.hid (HB0.out.trans (hbc.mono HB0.out.size))
        have HX01 := Lib.hid ((hbc.block w.heap.size (by have := HZ0.out; omega)).trans HX0.out)
        have HX11 := Lib.hid ((hbc.block (w.heap.size + 1) (by have := HZ0.out; omega)).trans HX1.out)
        have HX21 := Lib.hid ((hbc.block (w.heap.size + 2) (by have := HZ0.out; omega)).trans HX2.out)
        have HV1 := Lib.hid (HV0.out.lift HD.out HB0.out.size hbc)
        have HU1 := Lib.hid (HU0.out.lift HD.out HB0.out.size hbc)
        have hs1 : w.heap.size + 3 ≤ w1.heap.size := by have := hbc.size; have := HZ0.out; omega
        have HX1s := Lib.hid hx
        have HY1s := Lib.hid hy
        have hxl : xs.length ≤ 1000 := dig_len hox htx hvx HZ.out
        have hyl : ys.length ≤ 1000 := dig_len hoy hty hvy HY.out
        have HVX := Lib.hid hvx
        have HVY := Lib.hid hvy
        have HOX := Lib.hid hox
        have HOY := Lib.hid hoy
        have HL1 := Lib.hid (Rd.lo (W := w1) (B := w.heap.size + 3) HD.out HB01.out.size)
        clear hbc hx hy hvx hvy hox hoy htx hty HC c0 c1 c2 d0 d1 d2 HX0 HX1 HX2 HV0 HU0 HB0 HL0 HZ HY
        go_wp2_with (refine wpList_mk1 elem_i64 rfl _ _ rfl (by intro cs h; cases h) w1.heap.size _ _ ((xs.length : Int) + (ys.length : Int)) ((xs.length : Int) + (ys.length : Int)) rfl rfl (by omega) (by omega) (by omega) (by omega) (Nat.le_refl _) ?_; intro w3 hown hb3 hz3 _; have HO3 := Lib.hid hown; have HB3 := Lib.hid hb3; clear hown hb3 hz3)
        obtain ⟨g, hg⟩ : ∃ g : Nat, g = w1.heap.size := ⟨_, rfl⟩
        have he : ((xs.length : Int) + (ys.length : Int)).toNat = xs.length + ys.length := by omega
        rw [← hg, he] at HO3
        have HO3' := Lib.hid HO3.out
        rw [← hg]
        have HG := Lib.hid hg
        clear hg he HO3
        go_loopw [59] (fun iv wr => ∃ (i : Nat) (zs : List Int), i ≤ xs.length ∧ iv = .int .i64 (i : Int) ∧ Hid (wr.ownsRow g 3 1 (.slice (some ⟨g, 0, none⟩) (xs.length + ys.length) (xs.length + ys.length)) (xs.length + ys.length) (ints zs)) ∧ Hid (Below w1.heap.size w1 wr) ∧ RMulRow zs xs ys i) (fun iv _ => xs.length - (intOf iv).toNat)
        case atStart =>
          refine ⟨0, List.replicate (xs.length + ys.length) 0, Nat.zero_le _, rfl, Lib.hid ?_, HB3.out, ⟨Dig.ok_replicate (by decide) _, by rw [Dig.val_replicate]; simp [Dig.val], fun j _ => Dig.gd_replicate _ _⟩⟩
          rw [show ints (List.replicate (xs.length + ys.length) 0) = List.replicate (xs.length + ys.length) (.int .i64 0) from List.map_replicate]
          exact HO3'.out
        case round =>
          obtain ⟨i, zs, hi, rfl, HO, HBr, HR⟩ := hrel
          have hlz : zs.length = xs.length + ys.length := by have := HO.out.1; simpa using this
          have HZL := Lib.hid hlz
          clear hlz
          by_cases hix : i < xs.length
          · obtain ⟨wo2, rfl⟩ : ∃ wo : World, wo = wr := ⟨_, rfl⟩
            go_wp2
            go_loopw [9, 64] (fun cv kv wr => ∃ (k : Nat) (zs : List Int) (cc : Int), k ≤ ys.length ∧ kv = .int .i64 (k : Int) ∧ cv = .int .i64 cc ∧ 0 ≤ cc ∧ cc < 1073741824 ∧ Hid (wr.ownsRow g 3 1 (.slice (some ⟨g, 0, none⟩) (xs.length + ys.length) (xs.length + ys.length)) (xs.length + ys.length) (ints zs)) ∧ Hid (Below w1.heap.size w1 wr) ∧ RMulCol zs xs ys i k cc) (fun _ kv _ => ys.length - (intOf kv).toNat)
            case atStart => exact ⟨0, zs, 0, Nat.zero_le _, rfl, rfl, by decide, by decide, HO.out, HBr.out, ⟨HR.ok, by rw [HR.val]; simp [Dig.val], HR.zero⟩⟩
            case round =>
              clear HR HO HBr HZL
              obtain ⟨k, zs, cc, hk, rfl, rfl, hc0, hc1, HO, HBr, HC⟩ := hrel
              have hlz : zs.length = xs.length + ys.length := by have := HO.out.1; simpa using this
              have HZL := Lib.hid hlz
              by_cases hky : k < ys.length
              · have hik : i + k < xs.length + ys.length := by omega
                obtain ⟨ad, x, rfl, q0, hx0, hx1, hx2⟩ := dig_up HX1s.out (HL1.out.same HBr.out) HOX.out i hix
                obtain ⟨ad2, yy, rfl, q1, hy0, hy1, hy2⟩ := dig_up HY1s.out (HL1.out.same HBr.out) HOY.out k hky
                obtain ⟨z1, z2⟩ := own_cell HO.out (i + k) (.int .i64 (Dig.gd zs (i + k))) (by rw [List.getElem?_map, Dig.gd_lt (by omega)]; rfl)
                obtain ⟨bz1, bz2⟩ : 0 ≤ Dig.gd zs (i + k) ∧ Dig.gd zs (i + k) < 1073741824 := Dig.ok_get HC.ok (by decide) (i + k)
                have HST := Lib.hid (Dig.mul_step (b := 1073741824) (by decide) (i := i) (k := k) (c := cc) (p := x) (t := cc + (Dig.gd zs (i + k) + x * yy)) (V := Dig.val 1073741824 (xs.take i) * Dig.val 1073741824 ys) HC.ok (by rw [HZL.out]; exact hik) hky (by rw [hy0]; omega) (by rw [hx0]; exact HC.val))
                have HZR := Lib.hid HC.zero
                rw [hx0] at HST
                rw [← hx0] at HST
                have HX0' := Lib.hid hx0
                generalize Dig.gd zs (i + k) = d at z1 bz1 bz2 HST
                obtain ⟨p1, p2⟩ : 0 ≤ x * yy ∧ x * yy ≤ 1152921502459363329 := ⟨Int.mul_nonneg hx1 hy1, Int.le_trans (Int.mul_le_mul (show x ≤ 1073741823 by omega) (show yy ≤ 1073741823 by omega) hy1 (by decide)) (by decide)⟩
                have hlt := HO.out.lt g rfl
                clear hlz hx0 hy0 HC
                go_wp2
                go_quiet (fail)
                have z1q : (wr.drewN nq).cell? ⟨g, i + k, none⟩ = some (.int .i64 d) := z1
                have z2q : (wr.drewN nq).frozen? ⟨g, i + k, none⟩ = false := z2
                clear z1 z2
                go_wp2
                obtain ⟨s1, s2⟩ := HST.out
                have ho2 := own_set (w := wr.drewN nq) HO.out (i + k) hik (.int .i64 ((cc + (d + x * yy)) % 1073741824))
                rw [show (ints zs).set (i + k) (.int .i64 ((cc + (d + x * yy)) % 1073741824)) = ints (zs.set (i + k) ((cc + (d + x * yy)) % 1073741824)) from by simp [ints, List.map_set]] at ho2
                exact ⟨⟨k + 1, zs.set (i + k) ((cc + (d + x * yy)) % 1073741824), (cc + (d + x * yy)) / 1073741824, by omega, by go_num, rfl, by omega, by omega, Lib.hid ho2, Lib.hid ((below_drewN HBr.out nq).setCell (p := ⟨g, i + k, none⟩) (Nat.le_of_eq HG.out.symm) _), ⟨s1, by rw [← HX0'.out]; exact s2, fun j hj => by rw [Dig.gd_set_other _ _ _ _ (by omega)]; exact HZR.out j hj⟩⟩, by simp [intOf]; omega⟩
              · obtain rfl : k = ys.length := by omega
                have hik : i + ys.length < xs.length + ys.length := by omega
                obtain ⟨z1, z2⟩ := own_cell HO.out (i + ys.length) (.int .i64 (Dig.gd zs (i + ys.length))) (by rw [List.getElem?_map, Dig.gd_lt (by omega)]; rfl)
                have HST := Lib.hid (Dig.mul_row (b := 1073741824) HC.ok ⟨hc0, hc1⟩ hix (by rw [HZL.out]; exact hik) (HC.zero _ (Nat.le_refl _)) HC.val)
                have HZR := Lib.hid HC.zero
                generalize Dig.gd zs (i + ys.length) = d at z1
                clear hlz HC
                go_wp2
                obtain ⟨s1, s2⟩ := HST.out
                have ho2 := own_set HO.out (i + ys.length) hik (.int .i64 cc)
                rw [show (ints zs).set (i + ys.length) (.int .i64 cc) = ints (zs.set (i + ys.length) cc) from by simp [ints, List.map_set]] at ho2
                exact ⟨⟨i + 1, zs.set (i + ys.length) cc, by omega, by go_num, Lib.hid ho2, Lib.hid (HBr.out.setCell (p := ⟨g, i + ys.length, none⟩) (Nat.le_of_eq HG.out.symm) _), ⟨s1, s2, fun j hj => by rw [Dig.gd_set_other _ _ _ _ (by omega)]; exact HZR.out j (by omega)⟩⟩, by simp [intOf]; omega⟩
          · obtain rfl : i = xs.length := by omega
            obtain ⟨w4, rfl⟩ : ∃ W1 : World, W1 = wr := ⟨_, rfl⟩
            have HVAL := Lib.hid (show Dig.val 1073741824 zs = Dig.ab z * Dig.ab y by rw [HR.val, List.take_length, HVX.out, HVY.out])
            have HOZ := Lib.hid HR.ok
            have HB04 := Lib.hid (HB01.out.trans (HBr.out.mono HB01.out.size))
            have HX04 := Lib.hid ((HBr.out.block w.heap.size (by omega)).trans HX01.out)
            have HX14 := Lib.hid ((HBr.out.block (w.heap.size + 1) (by omega)).trans HX11.out)
            have HX24 := Lib.hid ((HBr.out.block (w.heap.size + 2) (by omega)).trans HX21.out)
            have HV4 := Lib.hid (HV1.out.lift HD.out HB01.out.size HBr.out)
            have HU4 := Lib.hid (HU1.out.lift HD.out HB01.out.size HBr.out)
            have hs4 : w.heap.size + 3 ≤ w4.heap.size := Nat.le_trans hs1 HBr.out.size
            have HZ4 := Lib.hid (show Sl (Kind.int .i64) w4 (Rd D (w.heap.size + 3) w4) (.slice (some ⟨g, 0, none⟩) (xs.length + ys.length) (xs.length + ys.length)) zs from by have := ints_own (D := D) (own_base HO.out (show w.heap.size + 3 ≤ g by have := HG.out; omega)); exact this)
            clear HR HO HBr HX01 HX11 HX21 HV1 HU1 HB01 HX1s HY1s HZL hix
            obtain ⟨c0, -⟩ := blk_at HX04.out 0
            obtain ⟨c1, -⟩ := blk_at HX04.out 1
            obtain ⟨c2, -⟩ := blk_at HX04.out 2
            obtain ⟨d0, -⟩ := blk_at HX14.out 0
            obtain ⟨d1, -⟩ := blk_at HX14.out 1
            obtain ⟨d2, -⟩ := blk_at HX14.out 2
            go_upto_region 18 with fail
            have HVD : Hid (RIntV w4.drew (Rd D (w.heap.size + 3) w4.drew) (.agg #[.int .i64 s, .bool b, .slice A n c]) z) := Lib.hid (HV4.out.same fun _ _ => rfl)
            have HUD : Hid (RIntV w4.drew (Rd D (w.heap.size + 3) w4.drew) (.agg #[.int .i64 s', .bool b', .slice A' n' c']) y) := Lib.hid (HU4.out.same fun _ _ => rfl)
            have HZD : Hid (Sl (Kind.int .i64) w4.drew (Rd D (w.heap.size + 3) w4.drew) (.slice (some ⟨g, 0, none⟩) (xs.length + ys.length) (xs.length + ys.length)) zs) := Lib.hid (HZ4.out.same fun _ _ => rfl)
            have HBD : Hid (Below w.heap.size w w4.drew) := Lib.hid (HB04.out.drew)
            have hsz : w.heap.size + 3 ≤ w4.drew.heap.size := hs4
            go_region_with (first
              | ((with_reducible show Calls _ 176 #[(.agg #[.int .i64 s, .bool b, .slice A n c])] w4.drew _); (refine (RSign_calls z _ _ w4.drew HVD.out).mono ?_); (rintro e y1 ⟨rfl, hb1⟩); (have HB1 := Lib.hid (HBD.out.trans (hb1.mono HBD.out.size))); (have HU5 : Hid (RIntV y1 (Rd D (w.heap.size + 3) y1) (.agg #[.int .i64 s', .bool b', .slice A' n' c']) y) := Lib.hid (HUD.out.lift HD.out HBD.out.size hb1)); (have HZ5 : Hid (Sl (Kind.int .i64) y1 (Rd D (w.heap.size + 3) y1) (.slice (some ⟨g, 0, none⟩) (xs.length + ys.length) (xs.length + ys.length)) zs) := Lib.hid (ints_lift HZD.out HD.out HBD.out.size hb1)); (have hs5 := hb1.size); (have HX15 := Lib.hid ((hb1.block (w.heap.size + 1) (by omega)).trans HX14.out)); (have HX25 := Lib.hid ((hb1.block (w.heap.size + 2) (by omega)).trans HX24.out)); (have e0 := (blk_at HX15.out 0).1); (have e1 := (blk_at HX15.out 1).1); (have e2 := (blk_at HX15.out 2).1); (clear hb1))
              | ((with_reducible show Calls _ 176 #[(.agg #[.int .i64 s', .bool b', .slice A' n' c'])] y1 _); (refine (RSign_calls y _ _ y1 HU5.out).mono ?_); (rintro e y2 ⟨rfl, hb2⟩); (have HB2 := Lib.hid (HB1.out.trans (hb2.mono HB1.out.size))); (have HZ6 : Hid (Sl (Kind.int .i64) y2 (Rd D (w.heap.size + 3) y2) (.slice (some ⟨g, 0, none⟩) (xs.length + ys.length) (xs.length + ys.length)) zs) := Lib.hid (ints_lift HZ5.out HD.out HB1.out.size hb2)); (have hs6 := hb2.size); (have HX26 := Lib.hid ((hb2.block (w.heap.size + 2) (by omega)).trans HX25.out)); (clear hb2))
              | ((go_at_call 214); (refine (Rmade_calls (Dig.sgn z != Dig.sgn y) zs _ (Rd D (w.heap.size + 3) y2) y2 (Rd.lo HD.out HB2.out.size) HZ6.out HOZ.out).mono ?_); (rintro e y3 ⟨p3, rfl, hb3, h3⟩); (obtain ⟨s3, b3, A3, n3, c3', rfl⟩ := h3.shape); (have H3 := Lib.hid (made_in (W := y2) h3 hb3.size)); (have HB3' := Lib.hid (HB2.out.trans (hb3.mono HB2.out.size))); (have HX27 := Lib.hid ((hb3.block (w.heap.size + 2) (by omega)).trans HX26.out)); (obtain ⟨k0, f0⟩ := blk_at HX27.out 0); (obtain ⟨k1, f1⟩ := blk_at HX27.out 1); (obtain ⟨k2, f2⟩ := blk_at HX27.out 2); (clear h3 hb3)))
            all_goals
              go_wp2_with fail
              obtain ⟨wf, hwf, e0, e1, e2, hbel, hri⟩ := fin3 HD.out HB3'.out (Nat.le_add_right _ 2) (Nat.lt_succ_self _) HX27.out H3.out
              rw [← hwf]
              clear hwf
              exact bodyPost_ret (v := .agg #[.int .i64 s3, .bool b3, .slice A3 n3 c3']) (by simp [results, Tryz.results169, go_sem, e0, e1, e2]) rfl ⟨_, rfl, hbel, by rw [HVAL.out, prod_sgn] at hri; exact hri⟩

end Go.Proofs.YtoffbdlgmnpblaaGreat

/- Plain laws on the reference's long division. No program in sight. -/
namespace Go.Proofs.YtoffbdlgmnpblaaGreat.Dig

/-- the divisor, made great: as many digits as before, the last one not 0 -/
theorem norm_f {b : Int} (hb : 1 < b) {ys ps : List Int} {n : Nat} {f : Int} (oy : ok b ys) (ty : trimmed ys) (hn : ys.length = n + 1) (op : ok b ps) (hp : ps.length = n + 2) (hf : f = b / (gd ys n + 1)) (hv : val b ps = val b ys * f) :
    1 ≤ f ∧ f < b ∧ 0 < gd ys n ∧ val b (ps.take (n + 1)) = val b ys * f ∧ 0 < gd (ps.take (n + 1)) n ∧ b ^ n ≤ val b ys := by
  have ht := ok_get oy (by omega) n
  rw [← gd_int] at ht
  have hge := val_ge (b := b) (by omega) oy ty (by intro e; subst e; simp at hn)
  rw [hn, Nat.add_sub_cancel] at hge
  have hl := val_last (b := b) hn
  have htl := val_take_lt (b := b) (by omega) oy n
  have hP := pow_pos' (b := b) (by omega) n
  have ht0 : 0 < gd ys n := by
    apply Int.lt_of_not_ge
    intro h
    have : gd ys n = 0 := by omega
    rw [this, Int.mul_zero] at hl
    omega
  have hf1 : 1 ≤ f := by rw [hf]; exact (Int.le_ediv_iff_mul_le (by omega)).2 (by omega)
  have hf2 : f * (gd ys n + 1) ≤ b := by rw [hf]; exact Int.ediv_mul_le _ (by omega)
  have hfb : f < b := by
    have : f * 2 ≤ f * (gd ys n + 1) := Int.mul_le_mul_of_nonneg_left (by omega) (by omega)
    omega
  have hlt : val b ps < b ^ (n + 1) := by
    have h1 : val b ys * f < (b ^ n * (gd ys n + 1)) * f := Int.mul_lt_mul_of_pos_right (by grind) (by omega)
    have h2 : b ^ n * ((gd ys n + 1) * f) ≤ b ^ n * b := Int.mul_le_mul_of_nonneg_left (by rw [Int.mul_comm]; exact hf2) (by omega)
    rw [hv, Int.pow_succ]
    have e : (b ^ n * (gd ys n + 1)) * f = b ^ n * ((gd ys n + 1) * f) := Int.mul_assoc _ _ _
    omega
  have hz := zero_of_val_lt hb op (n + 1) hlt (n + 1) (Nat.le_refl _)
  have hlp := val_last (b := b) hp
  rw [hz, Int.mul_zero, Int.add_zero] at hlp
  refine ⟨hf1, hfb, ht0, by rw [← hlp, hv], ?_, hge⟩
  have hl2 : (ps.take (n + 1)).length = n + 1 := by rw [List.length_take]; omega
  have hv2 := val_last (b := b) hl2
  have ht2 := val_take_lt (b := b) (by omega) (ok_take op (n + 1)) n
  have h0 := ok_get (ok_take op (n + 1)) (show 0 < b by omega) n
  rw [← gd_int] at h0
  apply Int.lt_of_not_ge
  intro h
  have : gd (ps.take (n + 1)) n = 0 := by omega
  rw [this, Int.mul_zero, ← hlp, hv] at hv2
  have h1 : val b ys * 1 ≤ val b ys * f := Int.mul_le_mul_of_nonneg_left hf1 (by omega)
  omega

/-- the start of the long division -/
theorem long_first {b : Int} (hb : 1 < b) {xs us ys : List Int} {n : Nat} {f V : Int} (ox : ok b xs) (ou : ok b us) (hu : us.length = xs.length + 1) (hv : val b us = val b xs * f) (hf : 1 ≤ f) (hy : b ^ n ≤ val b ys) (hV : V = val b ys * f) (_hn : n + 1 ≤ xs.length) (m : Nat) (hm : m + (n + 1) = us.length) :
    LongAt b us (List.replicate m 0) V (val b xs * f) m := by
  refine ⟨ou, ok_replicate (by omega) _, ?_, ?_⟩
  · rw [List.drop_of_length_le (by simp), hv]
    simp [val]
  · have h1 := val_take_drop b us m (by omega)
    have h2 := val_nonneg (b := b) (by omega) (ok_take ou m)
    have h3 := val_lt (b := b) (by omega) ox
    have h4 : val b xs * f < b ^ xs.length * f := Int.mul_lt_mul_of_pos_right h3 (by omega)
    have h5 : b ^ n * f ≤ val b ys * f := Int.mul_le_mul_of_nonneg_right hy (by omega)
    have hP := pow_pos' (b := b) (by omega) m
    have h6 : b ^ m * (b ^ n * f) ≤ b ^ m * V := by rw [hV]; exact Int.mul_le_mul_of_nonneg_left h5 (by omega)
    have e : b ^ m * (b ^ n * f) = b ^ xs.length * f := by rw [← Int.mul_assoc, ← Int.pow_add]; congr 2; omega
    have h7 : b ^ m * val b (us.drop m) < b ^ m * V := by omega
    exact Int.lt_of_mul_lt_mul_left h7 (by omega)

/-- the window of a round -/
theorem win_at {b : Int} (hb : 1 < b) {zs vs : List Int} {k n : Nat} (oz : ok b zs) (ov : ok b vs) (hv : vs.length = n) (hk : k < zs.length) (hs : val b (zs.drop (k + 1)) < val b vs) :
    val b ((zs.drop k).take (n + 1)) = val b (zs.drop k) ∧ val b (zs.drop (k + (n + 1))) = 0 ∧ val b (zs.drop k) < b * val b vs ∧ 0 ≤ val b (zs.drop k) ∧ 0 < val b vs := by
  obtain ⟨h1, h2, h3, h4⟩ := window_zero hb oz ov hk hs
  refine ⟨((val_lt_of_zero (by omega) (ok_drop oz k) (n + 1) fun j hj => h1 j (by omega)).1).symm, ?_, h2, h3, h4⟩
  refine val_zero_of_all b _ fun j => ?_
  have := h1 (n + 1 + j) (by omega)
  rw [gd_drop] at this
  rw [getD_drop', ← gd_int, show k + (n + 1) + j = k + (n + 1 + j) by omega]
  exact this

/-- the estimate is never too little -/
theorem est_first {b : Int} (hb : 1 < b) {zs vs : List Int} {k n : Nat} (oz : ok b zs) (ov : ok b vs) (hv : vs.length = n + 1) (hk : k + (n + 1) < zs.length) (h0 : val b (zs.drop (k + (n + 2))) = 0) (hp : 0 < gd vs n) :
    val b (zs.drop k) / val b vs ≤ (gd zs (k + (n + 1)) * b + gd zs (k + (n + 1) - 1)) / gd vs n := by
  have hP := pow_pos' (b := b) (by omega) n
  have hV := val_last (b := b) hv
  have hVt := val_take_lt (b := b) (by omega) ov n
  have hVge : b ^ n * gd vs n ≤ val b vs := by omega
  have hVpos : 0 < val b vs := by have := Int.mul_pos hP hp; omega
  have e1 := val_take_drop b (zs.drop k) n (by rw [List.length_drop]; omega)
  have ht := val_take_lt (b := b) (by omega) (ok_drop oz k) n
  have e2 : val b ((zs.drop k).drop n) = gd zs (k + n) + b * (gd zs (k + (n + 1)) + b * 0) := by
    rw [List.drop_drop, val_drop b zs (k + n) (by omega), val_drop b zs (k + n + 1) (by omega), ← gd_int, ← gd_int, show k + n + 1 + 1 = k + (n + 2) by omega, h0]
    rfl
  rw [Int.le_ediv_iff_mul_le hp]
  have hq := Int.ediv_mul_le (val b (zs.drop k)) (show val b vs ≠ 0 by omega)
  have hq0 : 0 ≤ val b (zs.drop k) / val b vs := Int.ediv_nonneg (val_nonneg (by omega) (ok_drop oz k)) (by omega)
  generalize val b (zs.drop k) / val b vs = q at *
  have h1 : q * (b ^ n * gd vs n) ≤ q * val b vs := Int.mul_le_mul_of_nonneg_left hVge hq0
  have e3 : q * (b ^ n * gd vs n) = b ^ n * (q * gd vs n) := by grind
  rw [e2] at e1
  rw [show k + (n + 1) - 1 = k + n by omega]
  have h2 : b ^ n * (q * gd vs n) < b ^ n * (gd zs (k + (n + 1)) * b + gd zs (k + n) + 1) := by
    have e4 : b ^ n * (gd zs (k + n) + b * (gd zs (k + (n + 1)) + b * 0)) = b ^ n * (gd zs (k + (n + 1)) * b + gd zs (k + n)) := by grind
    have e5 : b ^ n * (gd zs (k + (n + 1)) * b + gd zs (k + n) + 1) = b ^ n * (gd zs (k + (n + 1)) * b + gd zs (k + n)) + b ^ n := by grind
    omega
  have := Int.lt_of_mul_lt_mul_left h2 (by omega)
  omega

/-- the window is replaced -/
theorem splice_at {b : Int} {zs ds : List Int} {k m : Nat} {W Y : Int} (hk : k + m ≤ zs.length) (hd : ds.length = m) (h0 : val b (zs.drop (k + m)) = 0) (hW : val b (zs.drop k) = W) (hY : val b ds = W - Y) :
    val b (zs.take k ++ (ds ++ zs.drop (k + m))) = val b zs - b ^ k * Y ∧ val b ((zs.take k ++ (ds ++ zs.drop (k + m))).drop k) = W - Y := by
  have hl : (zs.take k).length = k := by rw [List.length_take]; omega
  have e1 : val b (ds ++ zs.drop (k + m)) = W - Y := by rw [val_append, h0, Int.mul_zero, Int.add_zero, hY]
  refine ⟨?_, ?_⟩
  · rw [val_append, e1, hl, val_take_drop b zs k (by omega), hW]
    grind
  · rw [List.drop_append_of_le_length (by omega), List.drop_of_length_le (by omega), List.nil_append, e1]

/-- the digit that stands -/
theorem digit_ok {W V e : Int} (hV : 0 < V) (hq : W / V ≤ e) (he : V * e ≤ W) : e = W / V ∧ W - V * e < V := by
  have h1 : e ≤ W / V := (Int.le_ediv_iff_mul_le hV).2 (by rw [Int.mul_comm]; exact he)
  have h2 : e = W / V := by omega
  refine ⟨h2, ?_⟩
  have := Int.lt_mul_ediv_self_add (x := W) hV
  rw [h2]
  omega
theorem digit_less {W V e : Int} (hV : 0 < V) (he : ¬ V * e ≤ W) : W / V ≤ e - 1 := by
  have h : W / V < e := (Int.ediv_lt_iff_lt_mul hV).2 (by rw [Int.mul_comm]; omega)
  omega

/-- the end of the long division -/
theorem long_last {b : Int} (hb : 1 < b) {zs qs rs xs ys vs : List Int} {n : Nat} {f r : Int} (h : LongAt b zs qs (val b ys * f) (val b xs * f) 0) (ov : ok b vs) (hv : vs.length = n) (hV : val b vs = val b ys * f) (hf : 1 ≤ f)
    (hr : val b (zs.take n) = f * val b rs + r) (r0 : 0 ≤ r) (r1 : r < f) (_hrs : 0 ≤ val b rs) : val b xs = val b ys * val b qs + val b rs ∧ val b rs < val b ys := by
  have hs := h.small
  have he := h.eq
  simp only [List.drop_zero, Int.pow_zero, Int.one_mul] at hs he
  have hlt := val_lt (b := b) (by omega) ov
  rw [hv, hV] at hlt
  have e := (val_lt_of_zero (by omega) h.oz n fun j hj => zero_of_val_lt hb h.oz n (by omega) j hj).1
  rw [← e] at hr
  have h1 : f * (val b xs - val b ys * val b qs) = f * val b rs + r := by
    rw [← hr]; grind
  have h2 : r = f * (val b xs - val b ys * val b qs - val b rs) := by grind
  have h3 : val b xs - val b ys * val b qs - val b rs = 0 := by
    generalize val b xs - val b ys * val b qs - val b rs = d at h2
    rcases Int.lt_trichotomy d 0 with g | g | g
    · have : f * d ≤ f * (-1) := Int.mul_le_mul_of_nonneg_left (by omega) (by omega)
      omega
    · exact g
    · have : f * 1 ≤ f * d := Int.mul_le_mul_of_nonneg_left (by omega) (by omega)
      omega
  refine ⟨by omega, ?_⟩
  have h4 : f * val b rs < f * val b ys := by rw [Int.mul_comm f (val b ys)]; omega
  exact Int.lt_of_mul_lt_mul_left h4 (by omega)

end Go.Proofs.YtoffbdlgmnpblaaGreat.Dig
