/- Part 21: Rf12. -/
import Derived.Test.YtoffbdlgmnpblaaGreatJ20

/- The reference's long division. -/
namespace Go.Proofs.YtoffbdlgmnpblaaGreat
open Go.RowKit
set_option maxHeartbeats 8000000
set_option maxRecDepth 100000

theorem sgn_le (x : Int) : decide (Dig.sgn x ≤ 0) = decide (x ≤ 0) := by
  rw [decide_eq_decide]
  rcases Int.lt_trichotomy x 0 with h | h | h
  · rw [Dig.sgn_lt h]; omega
  · subst h; decide
  · rw [Dig.sgn_gt h]; omega

theorem Rdivided_calls (xs ys : List Int) (v u : Value) (D : Nat → Prop) (w : World) (hD : Lo D w) (h : Sl (Kind.int .i64) w D v xs) (h' : Sl (Kind.int .i64) w D u ys)
    (ox : Dig.ok 1073741824 xs) (oy : Dig.ok 1073741824 ys) (tx : Dig.trimmed xs) (ty : Dig.trimmed ys) (hx : xs.length ≤ 2000) (hy : ys.length ≤ 2000) (hy1 : 1 ≤ ys.length) :
    Calls Tryz.prog 248 #[v, u] w fun e w' => ∃ q r, e = .returned (.tuple #[q, r]) ∧ Below w.heap.size w w' ∧ ∃ qs rs, Sl (Kind.int .i64) w' (gr D w w') q qs ∧ Sl (Kind.int .i64) w' (gr D w w') r rs ∧ Dig.ok 1073741824 qs ∧ Dig.ok 1073741824 rs ∧
      Dig.val 1073741824 xs = Dig.val 1073741824 ys * Dig.val 1073741824 qs + Dig.val 1073741824 rs ∧ Dig.val 1073741824 rs < Dig.val 1073741824 ys := by
  obtain ⟨A, c, rfl, h1, h2, -⟩ := h.ints
  obtain ⟨A', c', rfl, h1', h2', -⟩ := h'.ints
  unfold maxLen at h2 h2'
  have HX := Lib.hid h
  have HY := Lib.hid h'
  have HD := Lib.hid hD
  have OX := Lib.hid ox
  have OY := Lib.hid oy
  have TX := Lib.hid tx
  have TY := Lib.hid ty
  clear h h' hD ox oy tx ty
  by_cases hone : ys.length = 1
  · obtain ⟨y, rfl⟩ := List.length_eq_one_iff.1 hone
    obtain ⟨ad, x, rfl, q0, hy0, hy2, hy3⟩ := dig_up HY.out (fun _ _ => rfl) OY.out 0 (by simp)
    rw [Addr.add_zero'] at q0
    replace hy0 : x = y := hy0
    subst hy0
    have hyp : 0 < x := by
      have hl : x ≠ 0 := TY.out (by simp)
      omega
    have HYV : Hid (Dig.val 1073741824 [x] = x) := Lib.hid (by show x + 1073741824 * 0 = x; omega)
    clear hone hy hy1 h1'
    go_enter Tryz.func248, Tryz.ntmps248
    go_wp2_with fail
    refine (Rshorter_calls xs _ D x w HD.out HX.out OX.out hyp hy3 (by omega)).mono ?_
    rintro e w1 ⟨v1, r, rfl, hb1, zs, hz, hoz, hvz, hr0, hr1, -⟩
    obtain ⟨Z, zc, rfl, -, -, -⟩ := hz.form
    have HZ := Lib.hid hz
    have HB1 := Lib.hid hb1
    have HOZ := Lib.hid hoz
    have HVZ := Lib.hid hvz
    clear hz hb1 hoz hvz q0
    go_wp2
    go_ret2
    have hb2 := (Below.refl w1.heap.size w1).alloc (Nat.le_refl _) (.cells #[.int .i64 r] 3)
    have hs1 := HB1.out.size
    have ho := own_one w1 w1.heap.size (Nat.le_refl _) 3 (.int .i64 r)
    refine ⟨_, _, rfl, HB1.out.trans (hb2.mono hs1), zs, [r], (HZ.out.same fun k hk => hb2.block k hk.2).mono fun k hk => .inr ⟨hk.1, by have := hk.2; have := hb2.size; omega⟩, ?_, HOZ.out, (fun d hd => by rw [List.mem_singleton] at hd; subst hd; exact ⟨hr0, by omega⟩), ?_, ?_⟩
    · exact (own_intsS (xs := [r]) (k := .i64) ho).mono fun k hk => .inr ⟨by have := hk.1; omega, hk.2.1⟩
    · rw [HVZ.out, HYV.out]; simp only [Dig.val]; omega
    · rw [HYV.out]; simp [Dig.val]; omega
  · have hq : ((ys.length : Int) == 1) = false := by rw [beq_eq_false_iff_ne]; omega
    obtain ⟨n, hn⟩ : ∃ n, ys.length = n + 1 := ⟨ys.length - 1, by omega⟩
    have hn1 : 1 ≤ n := by omega
    have HN := Lib.hid hn
    have hn2 : n < ys.length := by omega
    have hn3 : ys.length ≤ n + 1 := by omega
    clear hn hone
    go_enter Tryz.func248, Tryz.ntmps248
    go_wp2_with fail
    refine (Rcompare_calls xs ys _ _ _ _ w HX.out HY.out OX.out OY.out TX.out TY.out).mono ?_
    rintro e w1 ⟨rfl, hd1⟩
    have hb1 := hd1.below w.heap.size
    have HB1 := Lib.hid hb1
    have HX1 := Lib.hid (HX.out.same (HD.out.same hb1))
    have HY1 := Lib.hid (HY.out.same (HD.out.same hb1))
    have HD1 := Lib.hid (HD.out.up hb1.size)
    have HZ1 := Lib.hid hb1.size
    clear hb1 hd1
    by_cases hlt : Dig.val 1073741824 xs < Dig.val 1073741824 ys
    · have hs : Dig.sgn (Dig.val 1073741824 xs - Dig.val 1073741824 ys) = -1 := Dig.sgn_lt (by omega)
      have HLT := Lib.hid hlt
      rw [hs]
      clear hlt hs
      go_wp2
      go_ret2
      exact ⟨_, _, rfl, HB1.out, [], xs, Sl.nil _ _ _, HX1.out.mono fun _ hk => .inl hk, Dig.ok_nil _, OX.out, by simp [Dig.val], HLT.out⟩
    · have HGE := Lib.hid (show Dig.val 1073741824 ys ≤ Dig.val 1073741824 xs by omega)
      have hsg : ¬ Dig.sgn (Dig.val 1073741824 xs - Dig.val 1073741824 ys) < 0 := by
        unfold Dig.sgn; split; omega; split <;> omega
      generalize Dig.sgn (Dig.val 1073741824 xs - Dig.val 1073741824 ys) = sg at *
      have hlen : ys.length ≤ xs.length := by
        apply Nat.le_of_not_lt
        intro hl
        have := Dig.val_lt_of_length (by decide) OX.out OY.out TY.out hl
        omega
      obtain ⟨ad, t, rfl, q0, ht0, ht1, ht2⟩ := dig_up HY1.out (fun _ _ => rfl) OY.out n (by omega)
      have HT := Lib.hid ht0
      have hnn : ys.length - 1 = n := by omega
      have q1 : w1.cell? (ad.add (ys.length - 1)) = some (.int .i64 t) := by rw [hnn]; exact q0
      obtain ⟨f, hf⟩ : ∃ f : Int, f = 1073741824 / (t + 1) := ⟨_, rfl⟩
      have hf1 : 1 ≤ f ∧ f ≤ 1073741824 := by
        rw [hf]
        exact ⟨(Int.le_ediv_iff_mul_le (by omega)).2 (by omega), Int.ediv_le_self _ (by decide)⟩
      obtain ⟨hf1, hf2⟩ := hf1
      have HF := Lib.hid hf
      have HFE := Lib.hid hf.symm
      have HNN := Lib.hid hnn
      have hfb : f < 1073741824 := by
        have ht : t ≠ 0 := by
          have hl := TY.out (by intro e; subst e; simp at hy1)
          rw [List.getLast_eq_getElem] at hl
          intro e
          apply hl
          have e9 := Dig.gd_of (List.getElem?_eq_getElem (show n < ys.length by omega))
          rw [← ht0, e] at e9
          have : ys[ys.length - 1] = ys[n] := by congr 1
          rw [this, ← e9]
        have : (1073741824 : Int) / (t + 1) ≤ 536870912 := Int.ediv_le_of_le_mul (by omega) (by omega)
        omega
      obtain ⟨L, hLe⟩ : ∃ L : Nat, L = xs.length + 1 := ⟨_, rfl⟩
      have HLE := Lib.hid hLe
      have hL1 : xs.length < L := by omega
      have hL2 : L ≤ xs.length + 1 := by omega
      clear ht0 hlt hnn hf q0 hLe
      go_upto_region 7 with fail
      rw [HFE.out]
      go_cut [9, 10] from 43 to 51 (fun v9 v10 wx => ∃ (gu cu gv cv : Nat), v9 = .slice (some ⟨gu, 0, none⟩) L cu ∧ v10 = .slice (some ⟨gv, 0, none⟩) ys.length cv ∧ L ≤ cu ∧ cu ≤ 9223372036854775807 ∧ ys.length + 1 ≤ cv ∧ cv ≤ 9223372036854775807 ∧ gu < gv ∧ gv < wx.heap.size ∧ Hid (Below w.heap.size w wx ∧ ∃ us ps, wx.ownsRow w.heap.size 3 1 (.slice (some ⟨gu, 0, none⟩) L cu) L (ints us) ∧ wx.ownsRow w.heap.size 3 1 (.slice (some ⟨gv, 0, none⟩) (ys.length + 1) cv) (ys.length + 1) (ints ps) ∧ Dig.ok 1073741824 us ∧ Dig.ok 1073741824 ps ∧ Dig.val 1073741824 us = Dig.val 1073741824 xs * f ∧ Dig.val 1073741824 ps = Dig.val 1073741824 ys * f))
      case first =>
        have HXD : Hid (Sl (Kind.int .i64) w1.drew D (.slice A xs.length c) xs) := Lib.hid (HX1.out.same fun _ _ => rfl)
        have HYD : Hid (Sl (Kind.int .i64) w1.drew D (.slice (some ad) ys.length c') ys) := Lib.hid (HY1.out.same fun _ _ => rfl)
        have HBD : Hid (Below w.heap.size w w1.drew) := Lib.hid (HB1.out.drew)
        have HDD : Hid (Lo D w1.drew) := HD1
        have hzd : w.heap.size ≤ w1.drew.heap.size := HZ1.out
        go_region_with (first
          | ((with_reducible show Calls _ 260 #[(.slice A xs.length c), (.int .i64 f)] w1.drew _); (refine (Rscaled_calls xs f _ D w1.drew HDD.out HXD.out OX.out (by omega) (by omega) hfb).mono ?_); (rintro e y1 ⟨p1, rfl, hb2, us, hou, hoku, hvu, hlu⟩); (rw [hlu, ← HLE.out] at hou); (obtain ⟨gu, cu, rfl, hg1, hg2, hg3, hg4⟩ := own_g hou (by omega)); (have HOU := Lib.hid hou); (have HOKU := Lib.hid hoku); (have HVU := Lib.hid hvu); (have HB2 := Lib.hid (HBD.out.trans (hb2.mono hzd))); (have HY2 := Lib.hid (HYD.out.same (HDD.out.same hb2))); (have HD2 := Lib.hid (HDD.out.up hb2.size)); (have hzy := hb2.size); (clear hb2 hou hoku hvu hlu))
          | ((with_reducible show Calls _ 260 #[(.slice (some ad) ys.length c'), (.int .i64 f)] y1 _); (refine (Rscaled_calls ys f _ D y1 HD2.out HY2.out OY.out (by omega) (by omega) hfb).mono ?_); (rintro e y2 ⟨p2, rfl, hb3, ps, hop, hokp, hvp, hlp⟩); (rw [hlp] at hop); (obtain ⟨gv, cv, rfl, hg5, hg6, hg7, hg8⟩ := own_g hop (Nat.succ_pos _)); (have HOP := Lib.hid hop); (have HOKP := Lib.hid hokp); (have HVP := Lib.hid hvp); (have HB3 := Lib.hid (HB2.out.trans (hb3.mono HB2.out.size))); (have HOU2 := Lib.hid (own_stays HOU.out (hb3.block gu hg2))); (clear hb3 hop hokp hvp hlp)))
        all_goals
          unfold maxLen at hg4 hg8
          go_wp2_with fail
          go_meet
          exact ⟨_, _, _, _, rfl, rfl, hg3, by omega, hg7, by omega, by omega, hg6, Lib.hid ⟨HB3.out, _, _, own_base HOU2.out (by omega), own_base HOP.out (by omega), HOKU.out, HOKP.out, HVU.out, HVP.out⟩⟩
      case rest =>
        obtain ⟨w2, rfl⟩ : ∃ W1 : World, W1 = wc := ⟨_, rfl⟩
        obtain ⟨gu, cu, gv, cv, rfl, rfl, gg1, gg2, gg3, gg4, gg5, gg6, HC⟩ := hcut
        obtain ⟨hbc, us, ps, hou, hop, hoku, hokp, hvu, hvp⟩ := HC.out
        have hls : us.length = L := by have := hou.1; simpa using this
        have hlp : ps.length = ys.length + 1 := by have := hop.1; simpa using this
        obtain ⟨-, -, -, hvv, hv0, hyge⟩ := Dig.norm_f (by decide) OY.out TY.out HN.out hokp (by rw [hlp, HN.out]) (by rw [← HT.out]; exact HF.out) hvp
        rw [← HN.out] at hvv hv0
        obtain ⟨m, hm⟩ : ∃ m : Nat, m = L - ys.length := ⟨_, rfl⟩
        have hm1 : m + ys.length ≤ L := by omega
        have hm2 : L ≤ m + ys.length := by omega
        have hm0 : 1 ≤ m := by omega
        have he : ((L : Int) - (ys.length : Int)).toNat = m := by omega
        have HLA := Lib.hid (Dig.long_first (V := Dig.val 1073741824 ys * f) (by decide) OX.out hoku (by rw [hls, HLE.out]) hvu hf1 hyge rfl (by rw [← HN.out]; exact hlen) m (by rw [hls, ← HN.out]; omega))
        have HOU2 := Lib.hid hou
        have HOP2 := Lib.hid hop
        have HB2 := Lib.hid hbc
        have HLP := Lib.hid hlp
        have HOKP := Lib.hid hokp
        have HVV := Lib.hid hvv
        have HV0 := Lib.hid hv0
        have HEE := Lib.hid he
        clear hbc hou hop hoku hokp hvu hvp hls hlp hvv hv0 hyge hm HC q1 he
        go_wp2_with (refine wpList_mk1 elem_i64 rfl _ _ rfl (by intro cs h; cases h) w2.heap.size _ _ ((L : Int) - (ys.length : Int)) ((L : Int) - (ys.length : Int)) rfl rfl (by omega) (by omega) (by omega) (by omega) (Nat.le_refl _) ?_; intro w3 hown hb3 hz3 _; rw [HEE.out] at hown; rw [HEE.out]; have HO3 := Lib.hid hown; have HB3 := Lib.hid hb3; have HZ3 := Lib.hid hz3; clear hown hb3 hz3)
        obtain ⟨gq, hgq⟩ : ∃ g : Nat, g = w2.heap.size := ⟨_, rfl⟩
        rw [← hgq] at HO3
        rw [← hgq]
        have HGQ := Lib.hid hgq
        have hgvq : gv < gq := by omega
        have hwq : w.heap.size ≤ gq := by rw [hgq]; exact HB2.out.size
        clear hgq
        go_loopw [12] (fun v12 W => ∃ (k : Nat) (zs qs : List Int), k ≤ m ∧ v12 = .int .i64 ((k : Int) - 1) ∧ gq < W.heap.size ∧ Hid (Below w.heap.size w W) ∧ Hid (W.ownsRow w.heap.size 3 1 (.slice (some ⟨gu, 0, none⟩) L cu) L (ints zs)) ∧ Hid (W.ownsRow w.heap.size 3 1 (.slice (some ⟨gv, 0, none⟩) (ys.length + 1) cv) (ys.length + 1) (ints ps)) ∧ Hid (W.ownsRow w.heap.size 3 1 (.slice (some ⟨gq, 0, none⟩) m m) m (ints qs)) ∧ Hid (Dig.LongAt 1073741824 zs qs (Dig.val 1073741824 ys * f) (Dig.val 1073741824 xs * f) k)) (fun v12 _ => (intOf v12 + 1).toNat)
        case atStart =>
          refine ⟨m, us, List.replicate m 0, Nat.le_refl _, by go_num, by have := HZ3.out; have := HGQ.out; omega, Lib.hid (HB2.out.trans (HB3.out.mono HB2.out.size)), Lib.hid (own_stays HOU2.out (HB3.out.block gu (by omega))), Lib.hid (own_stays HOP2.out (HB3.out.block gv (by omega))), Lib.hid ?_, HLA.out⟩
          rw [show ints (List.replicate m 0) = List.replicate m (.int .i64 0) from List.map_replicate]
          exact own_base HO3.out (by rw [HGQ.out]; exact HB2.out.size)
        case round =>
          obtain ⟨k, zs, qs, hk, rfl, hgW, HBW, HOU, HOP, HOQ, HLK⟩ := hrel
          clear HLA HOU2 HOP2 HB2 HO3 HB3 HZ3
          by_cases hk0 : 0 < k
          · obtain ⟨j, rfl⟩ : ∃ j, k = j + 1 := ⟨k - 1, by omega⟩
            rw [show ((j + 1 : Nat) : Int) - 1 = (j : Int) from by omega]
            have hlz : zs.length = L := by have := HOU.out.1; simpa using this
            obtain ⟨vs, hvs⟩ : ∃ vs, vs = ps.take ys.length := ⟨_, rfl⟩
            have hvl : vs.length = ys.length := by rw [hvs, List.length_take, HLP.out]; omega
            have hvo : Dig.ok 1073741824 vs := by rw [hvs]; exact Dig.ok_take HOKP.out _
            have hvv : Dig.val 1073741824 vs = Dig.val 1073741824 ys * f := by rw [hvs]; exact HVV.out
            have hvn : Dig.gd ps (ys.length - 1) = Dig.gd vs n := by rw [show ys.length - 1 = n by have := HN.out; omega, hvs]; simp only [Dig.gd_int]; rw [Dig.getD_take_lt _ _ _ (by omega)]
            have hvp : 0 < Dig.gd vs n := by rw [hvs]; exact HV0.out
            obtain ⟨wa1, wa2, wa3, wa4, wa5⟩ := Dig.win_at (b := 1073741824) (zs := zs) (vs := vs) (k := j) (n := n + 1) (by decide) HLK.out.oz hvo (by rw [hvl, HN.out]) (by omega) (by rw [hvv]; exact HLK.out.small)
            have hest := Dig.est_first (b := 1073741824) (zs := zs) (vs := vs) (k := j) (n := n) (by decide) HLK.out.oz hvo (by rw [hvl, HN.out]) (by rw [hlz]; have := HN.out; omega) wa2 hvp
            rw [show n + 1 = ys.length from HN.out.symm] at hest
            obtain ⟨z1, -⟩ := own_cell HOU.out (j + ys.length) (.int .i64 (Dig.gd zs (j + ys.length))) (by rw [List.getElem?_map, Dig.gd_lt (by omega)]; rfl)
            obtain ⟨z2, -⟩ := own_cell HOU.out (j + ys.length - 1) (.int .i64 (Dig.gd zs (j + ys.length - 1))) (by rw [List.getElem?_map, Dig.gd_lt (by omega)]; rfl)
            obtain ⟨z3, -⟩ := own_cell HOP.out (ys.length - 1) (.int .i64 (Dig.gd ps (ys.length - 1))) (by rw [List.getElem?_map, Dig.gd_lt (by rw [HLP.out]; omega)]; rfl)
            obtain ⟨b1, b2⟩ : 0 ≤ Dig.gd zs (j + ys.length) ∧ Dig.gd zs (j + ys.length) < 1073741824 := Dig.ok_get HLK.out.oz (by decide) _
            obtain ⟨b3, b4⟩ : 0 ≤ Dig.gd zs (j + ys.length - 1) ∧ Dig.gd zs (j + ys.length - 1) < 1073741824 := Dig.ok_get HLK.out.oz (by decide) _
            obtain ⟨b5, b6⟩ : 0 ≤ Dig.gd vs n ∧ Dig.gd vs n < 1073741824 := Dig.ok_get hvo (by decide) _
            rw [hvn] at z3
            rw [← hvv] at HLK
            obtain ⟨W0, hW0⟩ : ∃ W0, W0 = Dig.val 1073741824 (zs.drop j) := ⟨_, rfl⟩
            obtain ⟨V, hV⟩ : ∃ V, V = Dig.val 1073741824 vs := ⟨_, rfl⟩
            obtain ⟨qh, hqh⟩ : ∃ q, q = W0 / V := ⟨_, rfl⟩
            rw [← hW0] at wa1 wa3 wa4 hest
            rw [← hV] at wa3 wa5 hest HLK
            rw [← hqh] at hest
            have hq0 : 0 ≤ qh := by rw [hqh]; exact Int.ediv_nonneg wa4 (by omega)
            have hq1 : qh ≤ 1073741823 := by
              have : W0 / V < 1073741824 := (Int.ediv_lt_iff_lt_mul wa5).2 wa3
              omega
            generalize Dig.gd zs (j + ys.length) = t1 at z1 b1 b2 hest
            generalize Dig.gd zs (j + ys.length - 1) = u2 at z2 b3 b4 hest
            generalize Dig.gd vs n = v1 at z3 b5 b6 hest hvp
            have HLZ := Lib.hid hlz
            have HVS := Lib.hid hvs
            have HVL := Lib.hid hvl
            have HVO := Lib.hid hvo
            have HVE := Lib.hid hV
            have HWE := Lib.hid hW0
            have HQE := Lib.hid hqh
            have HVF := Lib.hid (show V = Dig.val 1073741824 ys * f by rw [hV, hvv])
            have HW1 := Lib.hid wa1
            have HW2 := Lib.hid wa2
            have hV0 : 0 < V := wa5
            obtain ⟨win, hwin⟩ : ∃ win, win = (zs.drop j).take (ys.length + 1) := ⟨_, rfl⟩
            have HWIN := Lib.hid hwin
            have HWL := Lib.hid (show win.length = ys.length + 1 by rw [hwin, List.length_take, List.length_drop]; omega)
            have HWO := Lib.hid (show Dig.ok 1073741824 win by rw [hwin]; exact Dig.ok_take (Dig.ok_drop HLK.out.oz _) _)
            have HWV := Lib.hid (show Dig.val 1073741824 win = W0 by rw [hwin, HN.out]; exact wa1)
            have hme : qh ≤ min ((t1 * 1073741824 + u2) / v1) 1073741823 := by omega
            have hm9 : min ((t1 * 1073741824 + u2) / v1) 1073741823 ≤ 1073741823 := by omega
            clear hlz hvs hvl hvo hvv hvn wa1 wa2 wa3 wa4 wa5 hW0 hV hqh hwin hest
            go_wp2
            go_quiet (fail)
            generalize min ((t1 * 1073741824 + u2) / v1) 1073741823 = e0 at *
            have HBWo : Hid (Below w.heap.size w (wr.drewN nq)) := Lib.hid (below_drewN HBW.out nq)
            have HOUo : Hid ((wr.drewN nq).ownsRow w.heap.size 3 1 (.slice (some ⟨gu, 0, none⟩) L cu) L (ints zs)) := HOU
            have HOPo : Hid ((wr.drewN nq).ownsRow w.heap.size 3 1 (.slice (some ⟨gv, 0, none⟩) (ys.length + 1) cv) (ys.length + 1) (ints ps)) := HOP
            have HOQo : Hid ((wr.drewN nq).ownsRow w.heap.size 3 1 (.slice (some ⟨gq, 0, none⟩) m m) m (ints qs)) := HOQ
            have hgWo : gq < (wr.drewN nq).heap.size := hgW
            obtain ⟨wo, hwo⟩ : ∃ W : World, W = wr.drewN nq := ⟨_, rfl⟩
            rw [← hwo] at HBWo HOUo HOPo HOQo hgWo
            rw [← hwo]
            clear hwo z1 z2 z3 b1 b2 b3 b4 b5 b6 hvp HBW HOU HOP HOQ hgW
            go_wp2
            go_loopw [13] (fun v13 W => ∃ e : Int, v13 = .int .i64 e ∧ qh ≤ e ∧ e ≤ 1073741823 ∧ Hid (Below wo.heap.size wo W)) (fun v13 _ => (intOf v13 - qh).toNat)
            case atStart => exact ⟨e0, rfl, hme, hm9, Below.refl _ _⟩
            case round =>
              obtain ⟨e, rfl, he1, he2, HBI⟩ := hrel
              obtain ⟨wi, rfl⟩ : ∃ W : World, W = wr := ⟨_, rfl⟩
              have hsi := HBI.out.size
              have HOUi := Lib.hid (own_stays HOUo.out (HBI.out.block gu (by omega)))
              have HOPi := Lib.hid (own_stays HOPo.out (HBI.out.block gv (by omega)))
              have hsv := own_sub0 (D := (· < wi.heap.size)) HOPi.out (show gv < wi.heap.size by omega) ys.length (Nat.le_succ _)
              rw [← HVS.out] at hsv
              have HSV := Lib.hid hsv
              clear hsv
              go_wp2_with fail
              refine (Rscaled_calls vs e _ (· < wi.heap.size) wi (fun _ h => h) HSV.out HVO.out (by rw [HVL.out]; omega) (by omega) (by omega)).mono ?_
              rintro e' w5 ⟨p5, rfl, hb5, pe, hoe, hoke, hve, hle⟩
              rw [hle, HVL.out] at hoe
              obtain ⟨gp, cp, rfl, hp1, hp2, hp3, hp4⟩ := own_g hoe (Nat.succ_pos _)
              unfold maxLen at hp4
              have hs5 := hb5.size
              have HB5 := Lib.hid (HBI.out.trans (hb5.mono hsi))
              have HOU5 := Lib.hid (own_stays HOUi.out (hb5.block gu (by omega)))
              have HOE := Lib.hid hoe
              have HOKE := Lib.hid hoke
              have HVE5 := Lib.hid (show Dig.val 1073741824 pe = V * e by rw [hve, HVE.out])
              have HPL := Lib.hid (show pe.length = ys.length + 1 by rw [hle, HVL.out])
              clear hb5 hoe hoke hve hle HOUi HOPi HSV
              go_upto_region 15 with fail
              go_cut [106] from 93 to 106 (fun v wx => v = .bool (decide (V * e ≤ W0)) ∧ Hid (Below w5.heap.size w5 wx))
              case first =>
                have hgu5 : gu < w5.heap.size := by omega
                have hsp := own_sub0 (D := (· < w5.heap.size)) HOE.out hp2 (ys.length + 1) (Nat.le_refl _)
                rw [List.take_of_length_le (by rw [HPL.out]; omega)] at hsp
                have hsw := own_sub (D := (· < w5.heap.size)) HOU5.out hgu5 j (ys.length + 1) (cu - j) (by omega) (by omega) (by unfold maxLen; omega)
                rw [← HWIN.out] at hsw
                have hba := ((Below.refl w5.heap.size w5).alloc (Nat.le_refl _) (.cells #[] 3)).drew
                have HSP0 : Hid (Sl (Kind.int .i64) w5.drew (· < w5.heap.size) (.slice (some ⟨gp, 0, none⟩) (ys.length + 1) cp) pe) := Lib.hid (hsp.same fun _ _ => rfl)
                have HSP1 : Hid (Sl (Kind.int .i64) ((w5.alloc (.cells #[] 3)).drew) (· < w5.heap.size) (.slice (some ⟨gp, 0, none⟩) (ys.length + 1) cp) pe) := Lib.hid (hsp.same fun k hk => hba.block k hk)
                have HSW1 : Hid (Sl (Kind.int .i64) ((w5.alloc (.cells #[] 3)).drew) (· < w5.heap.size) (.slice (some ⟨gu, j, none⟩) (ys.length + 1) (cu - j)) win) := Lib.hid (hsw.same fun k hk => hba.block k hk)
                have HBA := Lib.hid hba
                have HSP := Lib.hid hsp
                clear hba hsp hsw
                have HPT := Lib.hid (show Dig.ok 1073741824 (Dig.trim pe) ∧ Dig.trimmed (Dig.trim pe) ∧ Dig.val 1073741824 (Dig.trim pe) = V * e from ⟨Dig.ok_trim HOKE.out, Dig.trim_trimmed _, by rw [Dig.val_trim, HVE5.out]⟩)
                have HWT := Lib.hid (show Dig.ok 1073741824 (Dig.trim win) ∧ Dig.trimmed (Dig.trim win) ∧ Dig.val 1073741824 (Dig.trim win) = W0 from ⟨Dig.ok_trim HWO.out, Dig.trim_trimmed _, by rw [Dig.val_trim, HWV.out]⟩)
                have hw1 : IntKind.i64.wrap ((j : Int) + (ys.length : Int)) = (j : Int) + (ys.length : Int) := IntWalk.i64_in _ (by omega)
                have hw2 : IntKind.i64.wrap ((j : Int) + (ys.length : Int) + 1) = (j : Int) + (ys.length : Int) + 1 := IntWalk.i64_in _ (by omega)
                have hc1 : (j : Int) + (ys.length : Int) + 1 ≤ (cu : Int) := by omega
                have hc0 : 0 ≤ (j : Int) + (ys.length : Int) + 1 := by omega
                have hc2 : ((j : Int) + (ys.length : Int) + 1).toNat = j + ys.length + 1 := by omega
                have hc3 : j ≤ j + ys.length + 1 := by omega
                have hc4 : ¬ cu = j := by omega
                have hc5 : j + ys.length + 1 - j = ys.length + 1 := by omega
                go_region_law (first
                  | (refine Rstep_appInts (D := (· < w5.heap.size)) rfl _ _ rfl w5.heap.size (.slice (some ⟨w5.heap.size, 0, none⟩) 0 0) [] win rfl ((own_none w5 w5.heap.size (Nat.le_refl _) 3 1).drew) _ rfl HSW1.out (by rw [HWL.out]; simp; omega) (by simp) (by rw [HWL.out]; omega) ?_; intro v6 w6 ho6 hg6 ha6; have hb6 := HBA.out.grown hg6 (by simp) (fun k hk => by cases hk; exact Nat.le_refl _); have ho6 : w6.ownsRow w5.heap.size 3 1 v6 win.length (ints win) := ho6; have HSW6 := Lib.hid ((own_intsS ho6).mono (D' := (· < w6.heap.size)) fun k hk => hk.2.1); have HSP6 : Hid (Sl (Kind.int .i64) w6 (· < w5.heap.size) (.slice (some ⟨gp, 0, none⟩) (ys.length + 1) cp) pe) := Lib.hid (HSP.out.same fun k hk => hb6.block k hk); have HB6 := Lib.hid hb6; obtain ⟨A6, c6, rfl, -, -, -⟩ := own_form ho6; clear ho6 hg6 ha6 hb6)
                  | (go_simp; with_reducible show Calls _ 261 #[(.slice (some ⟨gp, 0, none⟩) (ys.length + 1) cp)] _ _; first | (refine (Rtrim_calls pe _ _ w5.drew HSP0.out).mono ?_; rintro e7 w7 ⟨p7, rfl, rfl, hs7⟩; have HT0 := Lib.hid hs7; clear hs7) | (refine (Rtrim_calls pe _ _ ((w5.alloc (.cells #[] 3)).drew) HSP1.out).mono ?_; rintro e7 w7 ⟨p7, rfl, rfl, hs7⟩; have HT1 := Lib.hid hs7; clear hs7) | (refine (Rtrim_calls pe _ _ w6 HSP6.out).mono ?_; rintro e7 w7 ⟨p7, rfl, rfl, hs7⟩; have HT6 := Lib.hid hs7; clear hs7))
                  | (go_simp; go_at_call 261; refine (Rtrim_calls win _ _ w6 HSW6.out).mono ?_; rintro e8 w8 ⟨p8, rfl, rfl, hs8⟩; have HTW := Lib.hid hs8; clear hs8)
                  | (go_simp; go_at_call 216; (first | (refine (Rcompare_calls (Dig.trim pe) (Dig.trim win) _ _ _ _ w6 (HT6.out) HTW.out HPT.out.1 HWT.out.1 HPT.out.2.1 HWT.out.2.1).mono ?_) | (refine (Rcompare_calls (Dig.trim pe) (Dig.trim win) _ _ _ _ w6 (HT1.out.same fun k hk => (HB6.out.block k hk).trans (HBA.out.block k hk).symm) HTW.out HPT.out.1 HWT.out.1 HPT.out.2.1 HWT.out.2.1).mono ?_) | (refine (Rcompare_calls (Dig.trim pe) (Dig.trim win) _ _ _ _ w6 (HT0.out.same fun k hk => HB6.out.block k hk) HTW.out HPT.out.1 HWT.out.1 HPT.out.2.1 HWT.out.2.1).mono ?_)); rintro e9 w9 ⟨rfl, hd9⟩; have HB9 := Lib.hid (HB6.out.trans (hd9.below w5.heap.size)); clear hd9))
                all_goals
                  go_wp2_with fail
                  go_meet
                  exact ⟨by rw [sgn_le, HPT.out.2.2, HWT.out.2.2, show decide (V * e - W0 ≤ 0) = decide (V * e ≤ W0) from by rw [decide_eq_decide]; omega], HB9⟩
              case rest =>
                obtain ⟨w6, rfl⟩ : ∃ W : World, W = wc := ⟨_, rfl⟩
                obtain ⟨rfl, HC5⟩ := hcut
                have hs6 := HC5.out.size
                have HB6 := Lib.hid (HB5.out.trans (HC5.out.mono HB5.out.size))
                have HOU6 := Lib.hid (own_stays HOU5.out (HC5.out.block gu (by omega)))
                have HOE6 := Lib.hid (own_stays HOE.out (HC5.out.block gp (by omega)))
                by_cases hle : V * e ≤ W0
                · have hd : decide (V * e ≤ W0) = true := decide_eq_true hle
                  rw [hd]
                  obtain ⟨hd1, hd2⟩ := Dig.digit_ok hV0 (by rw [← HQE.out]; exact he1) hle
                  have HD2 := Lib.hid hd2
                  have hsp := own_sub0 (D := (· < w6.heap.size)) HOE6.out (by omega) (ys.length + 1) (Nat.le_refl _)
                  rw [List.take_of_length_le (by rw [HPL.out]; omega)] at hsp
                  have hsw := own_sub (D := (· < w6.heap.size)) HOU6.out (by omega) j (ys.length + 1) (cu - j) (by omega) (by omega) (by unfold maxLen; omega)
                  rw [← HWIN.out] at hsw
                  have HSP6 := Lib.hid hsp
                  have HSW6 := Lib.hid hsw
                  have HLE6 := Lib.hid (show Dig.val 1073741824 pe ≤ Dig.val 1073741824 win by rw [HVE5.out, HWV.out]; exact hle)
                  have hc5 : j + ys.length + 1 - j = ys.length + 1 := by omega
                  clear hd hd1 hd2 hle hsp hsw
                  go_wp2_with (first
                    | ((refine wpList_copyRow rfl _ _ rfl w.heap.size gu L cu j (L - j) (cu - j) ⟨gd, 0, none⟩ cd zs ds rfl rfl HOU7.out HAT7.out (by rw [HLD.out]; omega) (by rw [HLD.out]; omega) ?_); (intro w8 ho8 hk8 hz8 hb8 r8); (have HOU8 := Lib.hid ho8); (have HK8 := Lib.hid hk8); (have HB8 := Lib.hid hb8); (have HZ8 := Lib.hid hz8); (have hoq8 := own_stays HOQ7.out (hk8 gq (by omega))); (have HOQ8 := Lib.hid hoq8); (have HOP8 := Lib.hid (own_stays HOP7.out (hk8 gv (by omega)))); (obtain ⟨x1, x2⟩ := own_cell hoq8 j (.int .i64 (Dig.gd qs j)) (by rw [List.getElem?_map, Dig.gd_lt (by rw [HQL.out]; omega)]; rfl)); (generalize Dig.gd qs j = qx at x1); (clear ho8 hk8 hz8 hb8 hoq8))
                    | ((go_at_call 217); (refine (Rdifference_calls win pe _ _ (· < w6.heap.size) (· < w6.heap.size) w6 (fun _ h => h) (fun _ h => h) HSW6.out HSP6.out HWO.out HOKE.out (by rw [HWL.out]; omega) (by rw [HPL.out, HWL.out]; omega) HLE6.out).mono ?_); (rintro e' w7 ⟨p7, rfl, hb7, ds, hod, hokd, hvd, hld⟩); (have HLD := Lib.hid (show ds.length = ys.length + 1 by rw [hld, HWL.out])); (obtain ⟨gd, cd, rfl, hd1, hd2, hd3, hd4⟩ := own_g hod (by rw [HLD.out]; omega)); (unfold maxLen at hd4); (have hs7 := hb7.size); (have HB7 := Lib.hid (HB6.out.trans (hb7.mono HB6.out.size))); (have HOU7 := Lib.hid (own_stays HOU6.out (hb7.block gu (by omega)))); (have HOP7 := Lib.hid (own_stays HOPo.out (HB7.out.block gv (by omega)))); (have HOQ7 := Lib.hid (own_stays HOQo.out (HB7.out.block gq (by omega)))); (have HQL := Lib.hid (show qs.length = m by have := HOQo.out.1; simpa using this)); (have HAT7 : Hid (∀ i, i < ds.length → w7.cell? ((⟨gd, 0, none⟩ : Addr).add i) = some (.int .i64 (Dig.gd ds i))) := Lib.hid fun i hi => by have h9 := (own_cell hod i (.int .i64 (Dig.gd ds i)) (by rw [List.getElem?_map, Dig.gd_lt hi]; rfl)).1; have e9 : (⟨gd, 0, none⟩ : Addr).add i = ⟨gd, i, none⟩ := (by unfold Addr.add; split <;> simp_all); rw [e9]; exact h9); (have HOKD := Lib.hid hokd); (have HVD := Lib.hid (show Dig.val 1073741824 ds = W0 - V * e by rw [hvd, HWV.out, HVE5.out])); (clear hb7 hod hokd hvd hld)))
                  obtain ⟨sp1, sp2⟩ := Dig.splice_at (b := 1073741824) (zs := zs) (ds := ds) (k := j) (m := ys.length + 1) (W := W0) (Y := V * e) (by rw [HLZ.out]; omega) HLD.out (by have := HW2.out; rw [show n + 1 + 1 = ys.length + 1 by rw [HN.out]] at this; exact this) HWE.out.symm HVD.out
                  have hzs : zs.take j ++ (ds ++ zs.drop (j + ds.length)) = zs.take j ++ (ds ++ zs.drop (j + (ys.length + 1))) := by rw [HLD.out]
                  have hozs : Dig.ok 1073741824 (zs.take j ++ (ds ++ zs.drop (j + (ys.length + 1)))) := Dig.ok_append.2 ⟨Dig.ok_take HLK.out.oz _, Dig.ok_append.2 ⟨HOKD.out, Dig.ok_drop HLK.out.oz _⟩⟩
                  have hnx := HLK.out.next (k := j) (q := e) (by rw [HQL.out]; omega) hozs ⟨by omega, by omega⟩ (by rw [sp1, Int.mul_comm V e]) (by rw [sp2]; exact HD2.out)
                  rw [← hzs] at hnx
                  have hset : ∀ k, k ≠ gq → (w8.setCell ⟨gq, j, none⟩ (.int .i64 e)).heap[k]? = w8.heap[k]? := fun k hk => Below.heap_setCell _ _ _ _ hk
                  have hoq := own_set HOQ8.out j (by omega) (.int .i64 e)
                  rw [show (ints qs).set j (.int .i64 e) = ints (qs.set j e) from by simp [ints, List.map_set]] at hoq
                  refine ⟨⟨j, zs.take j ++ (ds ++ zs.drop (j + ds.length)), qs.set j e, by omega, rfl, ?_, Lib.hid ?_, Lib.hid (own_stays HOU8.out (hset gu (by omega))), Lib.hid (own_stays HOP8.out (hset gv (by omega))), Lib.hid hoq, Lib.hid (by rw [← HVF.out]; exact hnx)⟩, by simp [intOf]⟩
                  · have := HZ8.out; simp [World.setCell]; omega
                  · exact ((HBWo.out.trans (HB7.out.mono HBWo.out.size)).trans HB8.out).setCell (p := ⟨gq, j, none⟩) hwq _
                · have hd : decide (V * e ≤ W0) = false := decide_eq_false hle
                  rw [hd]
                  have hl := Dig.digit_less hV0 hle
                  rw [← HQE.out] at hl
                  clear hd hle
                  go_wp2
                  exact ⟨⟨e - 1, rfl, hl, by omega, HB6⟩, by show (e - 1 - qh).toNat < (e - qh).toNat; omega⟩
          · obtain rfl : k = 0 := by omega
            obtain ⟨w4, rfl⟩ : ∃ W : World, W = wr := ⟨_, rfl⟩
            have hsu := own_sub0 (D := (· < w4.heap.size)) HOU.out (by omega) ys.length (by omega)
            have HSU := Lib.hid hsu
            have HLU := Lib.hid (show (zs.take ys.length).length ≤ 1073741824 by rw [List.length_take]; omega)
            clear hsu hk0
            go_wp2_with fail
            refine (Rshorter_calls (zs.take ys.length) _ (· < w4.heap.size) f w4 (fun _ h => h) HSU.out (Dig.ok_take HLK.out.oz _) (by omega) hfb HLU.out).mono ?_
            rintro e w5 ⟨v5, r, rfl, hb5, rs, hrs, hokr, hvr, hr0, hr1, -⟩
            obtain ⟨R, rc, rfl, -, -, -⟩ := hrs.form
            have HRS := Lib.hid hrs
            have HOR := Lib.hid hokr
            have HVR := Lib.hid hvr
            have HB5 := Lib.hid hb5
            clear hb5 hrs hokr hvr
            go_wp2
            go_ret2
            have hs5 := HB5.out.size
            have hoq := own_stays HOQ.out (HB5.out.block gq (by omega))
            have hql : qs.length = m := by have := HOQ.out.1; simpa using this
            have hws := HBW.out.size
            have hsq := own_sub0 (D := gr D w w5) hoq (.inr ⟨hwq, by omega⟩) m (Nat.le_refl _)
            rw [List.take_of_length_le (by omega)] at hsq
            obtain ⟨la, lb⟩ := Dig.long_last (b := 1073741824) (ys := ys) (xs := xs) (vs := ps.take ys.length) (n := ys.length) (rs := rs) (r := r) (by decide) HLK.out (Dig.ok_take HOKP.out _) (by rw [List.length_take, HLP.out]; omega) HVV.out hf1 HVR.out hr0 hr1 (Dig.val_nonneg (by decide) HOR.out)
            exact ⟨_, _, rfl, HBW.out.trans (HB5.out.mono hws), qs, rs, hsq, HRS.out.mono fun k hk => .inr ⟨by have := hk.1; omega, hk.2⟩, HLK.out.oq, HOR.out, la, lb⟩

end Go.Proofs.YtoffbdlgmnpblaaGreat
