/- Part 10: Ex16 Ex17 Md1. -/
import Derived.Test.YtoffbdlgmnpblaaGreatJ09
import Derived.Deep.RegionHeld3

/- Package exact: the sum of rational numbers. -/
namespace Go.Proofs.YtoffbdlgmnpblaaGreat
open Go.RowKit
set_option maxHeartbeats 4000000
set_option maxRecDepth 100000

theorem dn_lift {w W W' : World} {D : Nat → Prop} {B : Nat} {s : Int} {A : Option Addr} {n c : Nat} {z : Int} (hD : Lo D w) (hs : w.heap.size ≤ W.heap.size) (h : IntC W (Dn D B W) s A n c z) (hb : Below W.heap.size W W') : IntC W' (Dn D B W') s A n c z :=
  (h.same ((lo_dn hD hs).same hb)).mono (dn_up hb.size)
theorem dn_gr {W W' : World} {D : Nat → Prop} {B : Nat} (hB : B ≤ W.heap.size) (hs : W.heap.size ≤ W'.heap.size) : ∀ k, gr (Dn D B W) W W' k → Dn D B W' k := by
  rintro k ((hk | hk) | hk)
  · exact .inl hk
  · exact .inr ⟨hk.1, by omega⟩
  · exact .inr ⟨by omega, hk.2⟩
theorem rat_boxes (w : World) (a b c : Array Value) (t : TypeId) (hc : c.size = 4) :
    let W := ((w.alloc (.cells a t)).alloc (.cells b t)).alloc (.cells c t)
    (∀ i, W.cell? ⟨w.heap.size, i, none⟩ = a[i]?) ∧ (∀ i, W.cell? ⟨w.heap.size + 1, i, none⟩ = b[i]?) ∧ Room W (w.heap.size + 1 + 1) 4 ∧ W.heap.size = w.heap.size + 3 ∧ Below w.heap.size w W := by
  refine ⟨fun i => ?_, fun i => ?_, Room.of_alloc _ c t 4 _ (by simp) (by omega), by simp, boxes3 _ _ _ _⟩
  · rw [World.cell?_alloc_lt _ _ _ (by simp <;> omega), World.cell?_alloc_lt _ _ _ (by simp)]; exact (box_cells w _ rfl a t i).1
  · rw [World.cell?_alloc_lt _ _ _ (by simp)]; exact (box_cells _ _ (by simp) b t i).1

theorem rat_stored' {w w3 : World} {D : Nat → Prop} {B g : Nat} {s : Int} {A : Option Addr} {n c : Nat} {s' : Int} {A' : Option Addr} {n' c' : Nat} {x : Rat} {l : Int} (hg : g < B) (hD : Lo D w) (hi : IntC w3 (Dn D B w3) s A n c x.num) (hj : IntC w3 (Dn D B w3) s' A' n' c' l) (hl : l = (x.den : Int) ∨ (l = 0 ∧ x.den = 1)) (hw : w.heap.size ≤ g) (u v u' v' : Value) :
    RatC ((((w3.setCell ⟨g, 0, none⟩ u).setCell ⟨g, 1, none⟩ v).setCell ⟨g, 2, none⟩ u').setCell ⟨g, 3, none⟩ v') (gr D w ((((w3.setCell ⟨g, 0, none⟩ u).setCell ⟨g, 1, none⟩ v).setCell ⟨g, 2, none⟩ u').setCell ⟨g, 3, none⟩ v')) (.agg #[.int .i64 s, .slice A n c, .int .i64 s', .slice A' n' c']) x := by
  have hn : ¬ Dn D B w3 g := not_dn hD hw hg
  have hm : ∀ k, Dn D B w3 k → gr D w ((((w3.setCell ⟨g, 0, none⟩ u).setCell ⟨g, 1, none⟩ v).setCell ⟨g, 2, none⟩ u').setCell ⟨g, 3, none⟩ v') k := by
    rintro k (h | h)
    · exact .inl h
    · exact .inr ⟨by omega, by simp [World.setCell]; omega⟩
  exact ⟨_, _, _, _, _, _, _, _, _, rfl, (hi.set4 g hn u v u' v').mono hm, (hj.set4 g hn u v u' v').mono hm, hl⟩

theorem RatAdd_big (s : Int) (A : Option Addr) (n c : Nat) (s' : Int) (A' : Option Addr) (n' c' : Nat) (l : Int) (x : Rat) (t : Int) (B : Option Addr) (m d : Nat) (t' : Int) (B' : Option Addr) (m' d' : Nat) (k : Int) (y : Rat) (D : Nat → Prop) (w : World) (hD : Lo D w)
    (h1 : IntC w D s A n c x.num) (h2 : IntC w D s' A' n' c' l) (h3 : l = (x.den : Int) ∨ (l = 0 ∧ x.den = 1)) (k1 : IntC w D t B m d y.num) (k2 : IntC w D t' B' m' d' k) (k3 : k = (y.den : Int) ∨ (k = 0 ∧ y.den = 1))
    (N : Nat) (hN : N ≤ 134217728) (fx : FitR N x) (fy : FitR N y) (hw : ((A'.isNone && decide (s' ≤ 1)) && (B'.isNone && decide (t' ≤ 1))) = false) :
    Calls Tryz.prog 152 #[.agg #[.int .i64 s, .slice A n c, .int .i64 s', .slice A' n' c'], .agg #[.int .i64 t, .slice B m d, .int .i64 t', .slice B' m' d']] w fun e w' => ∃ v, e = .returned v ∧ Below w.heap.size w w' ∧ RatC w' (gr D w w') v (x + y) := by
  have H1 := Lib.hid h1
  have H2 := Lib.hid h2
  have H3 := Lib.hid h3
  have K1 := Lib.hid k1
  have K2 := Lib.hid k2
  have K3 := Lib.hid k3
  have HXY := Lib.hid (show (x.den : Int) * (y.den : Int) ≠ 0 from Int.mul_ne_zero (by have := x.den_nz; omega) (by have := y.den_nz; omega))
  have HX0 := Lib.hid x.den_nz
  have HY0 := Lib.hid y.den_nz
  clear h1 h2 h3 k1 k2 k3
  go_enter Tryz.func152, Tryz.ntmps152
  go_upto_region 1 with fail
  obtain ⟨ca, cb, r2, hsz, hB0⟩ := rat_boxes w #[.int .i64 s, .slice A n c, .int .i64 s', .slice A' n' c'] #[.int .i64 t, .slice B m d, .int .i64 t', .slice B' m' d'] #[.int .i64 0, .slice none 0 0, .int .i64 0, .slice none 0 0] 158 rfl
  generalize ((w.alloc (.cells #[.int .i64 s, .slice A n c, .int .i64 s', .slice A' n' c'] 158)).alloc (.cells #[.int .i64 t, .slice B m d, .int .i64 t', .slice B' m' d'] 158)).alloc (.cells #[.int .i64 0, .slice none 0 0, .int .i64 0, .slice none 0 0] 158) = W0 at *
  have a0 := ca 0; have a1 := ca 1; have a2 := ca 2; have a3 := ca 3
  have b0 := cb 0; have b1 := cb 1; have b2 := cb 2; have b3 := cb 3
  simp only [List.getElem?_toArray, List.getElem?_cons_zero, List.getElem?_cons_succ] at a0 a1 a2 a3 b0 b1 b2 b3
  have z0 : w.heap.size < W0.heap.size := by omega
  have z1 : w.heap.size + 1 < W0.heap.size := by omega
  have HSZ := Lib.hid hsz
  clear hsz ca cb
  go_cut [10] from 5 to 10 (fun bv wx => bv = .bool false ∧ Below W0.heap.size W0 wx)
  case first =>
    cases hA : (A'.isNone && decide (s' ≤ 1)) with
    | false =>
      have HA := Lib.hid hA
      clear hA hw
      go_wp2_with fail
      refine (whole_raw _ _ _ _ _ _ _ _ _).mono ?_
      rintro e w1 ⟨rfl, hb1⟩
      rw [HA.out]
      go_wp2_with fail
      go_meet
      exact ⟨rfl, hb1⟩
    | true =>
      rw [hA, Bool.true_and] at hw
      have HA := Lib.hid hA
      have HW := Lib.hid hw
      clear hA hw
      go_wp2_with fail
      refine (whole_raw _ _ _ _ _ _ _ _ _).mono ?_
      rintro e w1 ⟨rfl, hb1⟩
      rw [HA.out]
      obtain ⟨hc1, hf1⟩ := bcell hb1
      go_wp2_with fail
      refine (whole_raw _ _ _ _ _ _ _ _ _).mono ?_
      rintro e w2 ⟨rfl, hb2⟩
      rw [HW.out]
      go_wp2_with fail
      go_meet
      exact ⟨rfl, hb1.trans (hb2.mono hb1.size)⟩
  case rest =>
    obtain ⟨rfl, hbc⟩ := hcut
    go_upto_region 3 with fail
    have a0 := (hbc.cell (p := ⟨w.heap.size, 0, none⟩) z0).trans a0
    have a1 := (hbc.cell (p := ⟨w.heap.size, 1, none⟩) z0).trans a1
    have a2 := (hbc.cell (p := ⟨w.heap.size, 2, none⟩) z0).trans a2
    have a3 := (hbc.cell (p := ⟨w.heap.size, 3, none⟩) z0).trans a3
    have b0 := (hbc.cell (p := ⟨w.heap.size + 1, 0, none⟩) z1).trans b0
    have b1 := (hbc.cell (p := ⟨w.heap.size + 1, 1, none⟩) z1).trans b1
    have b2 := (hbc.cell (p := ⟨w.heap.size + 1, 2, none⟩) z1).trans b2
    have b3 := (hbc.cell (p := ⟨w.heap.size + 1, 3, none⟩) z1).trans b3
    have hBc := hB0.trans (hbc.mono hB0.size)
    have r2 := r2.below hbc
    have hBp : w.heap.size + 3 ≤ wc.drew.heap.size := by have := HSZ.out; have := hbc.size; show _ ≤ wc.heap.size; omega
    have hwp : w.heap.size ≤ wc.drew.heap.size := by omega
    have up : ∀ k, D k → Dn D (w.heap.size + 3) wc.drew k := fun k hk => .inl hk
    have p1 := ((H1.out.below hD hBc).drew).mono up
    have p2 := ((H2.out.below hD hBc).drew).mono up
    have q1 := ((K1.out.below hD hBc).drew).mono up
    have q2 := ((K2.out.below hD hBc).drew).mono up
    have hh := held_start (W0 := wc) (B := w.heap.size + 2) (g := w.heap.size + 1 + 1) (nc := 4) r2.some r2.free r2.lt
    have HB : w.heap.size + 2 ≤ wc.heap.size := by have := r2.lt; omega
    have r2 := r2.drew
    have hT := (Below.refl wc.heap.size wc).drew
    clear up
    go_region_held3 (fun W => Below (w.heap.size + 2) wc W ∧ (∀ b o, b < w.heap.size + 2 → W.cell? ⟨b, o, none⟩ = wc.cell? ⟨b, o, none⟩) ∧ (∀ i, i < 4 → W.cell? ⟨w.heap.size + 1 + 1, i, none⟩ = some (cellOr (w.heap.size + 1 + 1) i W)) ∧ (∀ i, W.frozen? ⟨w.heap.size + 1 + 1, i, none⟩ = false) ∧ w.heap.size + 1 + 1 < W.heap.size)
      (first | exact hh | exact held_call HB (by assumption) hbq | exact held_set (Nat.le_refl _) (held_set (Nat.le_refl _) (held_set (Nat.le_refl _) (held_set (Nat.le_refl _) (by assumption) _ _) _ _) _ _) _ _ | go_keep)
      (first
        | (go_at_call_of 182 s; refine (Low_calls s A n c s' A' n' c' l x.den (Dn D (w.heap.size + 3) _) _ (lo_dn hD hwp) p2 H3.out HX0.out).mono ?_; rintro e wq ⟨lt, lB, lm, lk, rfl, hbq, hr⟩; have hrr := hr.mono (dn_up hbq.size); have p1 := dn_lift hD hwp p1 hbq; have p2 := dn_lift hD hwp p2 hbq; have q1 := dn_lift hD hwp q1 hbq; have q2 := dn_lift hD hwp q2 hbq; (try have hm' := dn_lift hD hwp hm' hbq); (try have hm := dn_lift hD hwp hm hbq); (try have ha := dn_lift hD hwp ha hbq); (try have hv := dn_lift hD hwp hu hbq); (try have hu := dn_lift hD hwp hu hbq); have r2 := r2.below hbq; have hT := hT.trans (hbq.mono hT.size); have hwp := Nat.le_trans hwp hbq.size; have hBp := Nat.le_trans hBp hbq.size; have hu := hrr)
        | (go_at_call_of 182 t; refine (Low_calls t B m d t' B' m' d' k y.den (Dn D (w.heap.size + 3) _) _ (lo_dn hD hwp) q2 K3.out HY0.out).mono ?_; rintro e wq ⟨lt, lB, lm, lk, rfl, hbq, hr⟩; have hrr := hr.mono (dn_up hbq.size); have p1 := dn_lift hD hwp p1 hbq; have p2 := dn_lift hD hwp p2 hbq; have q1 := dn_lift hD hwp q1 hbq; have q2 := dn_lift hD hwp q2 hbq; (try have hm' := dn_lift hD hwp hm' hbq); (try have hm := dn_lift hD hwp hm hbq); (try have ha := dn_lift hD hwp ha hbq); (try have hv := dn_lift hD hwp hu hbq); (try have hu := dn_lift hD hwp hu hbq); have r2 := r2.below hbq; have hT := hT.trans (hbq.mono hT.size); have hwp := Nat.le_trans hwp hbq.size; have hBp := Nat.le_trans hBp hbq.size; have hu := hrr)
        | (go_at_call_of 181 s; refine (Mul_calls _ _ _ _ _ _ _ _ _ _ (Dn D (w.heap.size + 3) _) _ (lo_dn hD hwp) p1 hu N (by omega) fx.num fy.den).mono ?_; rintro e wq ⟨mt, mB, mm, mk, rfl, hbq, hr⟩; have hrr := hr.mono (dn_gr hBp hbq.size); have p1 := dn_lift hD hwp p1 hbq; have p2 := dn_lift hD hwp p2 hbq; have q1 := dn_lift hD hwp q1 hbq; have q2 := dn_lift hD hwp q2 hbq; (try have hm' := dn_lift hD hwp hm' hbq); (try have hm := dn_lift hD hwp hm hbq); (try have ha := dn_lift hD hwp ha hbq); (try have hv := dn_lift hD hwp hu hbq); (try have hu := dn_lift hD hwp hu hbq); have r2 := r2.below hbq; have hT := hT.trans (hbq.mono hT.size); have hwp := Nat.le_trans hwp hbq.size; have hBp := Nat.le_trans hBp hbq.size; have hm := hrr)
        | (go_at_call_of 181 t; refine (Mul_calls _ _ _ _ _ _ _ _ _ _ (Dn D (w.heap.size + 3) _) _ (lo_dn hD hwp) q1 hu N (by omega) fy.num fx.den).mono ?_; rintro e wq ⟨mt, mB, mm, mk, rfl, hbq, hr⟩; have hrr := hr.mono (dn_gr hBp hbq.size); have p1 := dn_lift hD hwp p1 hbq; have p2 := dn_lift hD hwp p2 hbq; have q1 := dn_lift hD hwp q1 hbq; have q2 := dn_lift hD hwp q2 hbq; (try have hm' := dn_lift hD hwp hm' hbq); (try have hm := dn_lift hD hwp hm hbq); (try have ha := dn_lift hD hwp ha hbq); (try have hv := dn_lift hD hwp hu hbq); (try have hu := dn_lift hD hwp hu hbq); have r2 := r2.below hbq; have hT := hT.trans (hbq.mono hT.size); have hwp := Nat.le_trans hwp hbq.size; have hBp := Nat.le_trans hBp hbq.size; have hm' := hm; have hm := hrr)
        | (go_at_call 179; refine (Add_calls _ _ _ _ _ _ _ _ _ _ (Dn D (w.heap.size + 3) _) _ (lo_dn hD hwp) hm' hm (N + N) (by omega) (fx.num.mul fy.den) (fy.num.mul fx.den)).mono ?_; rintro e wq ⟨at', aB, am, ak, rfl, hbq, hr⟩; have hrr := hr.mono (dn_gr hBp hbq.size); have p1 := dn_lift hD hwp p1 hbq; have p2 := dn_lift hD hwp p2 hbq; have q1 := dn_lift hD hwp q1 hbq; have q2 := dn_lift hD hwp q2 hbq; (try have hm' := dn_lift hD hwp hm' hbq); (try have hm := dn_lift hD hwp hm hbq); (try have ha := dn_lift hD hwp ha hbq); (try have hv := dn_lift hD hwp hu hbq); (try have hu := dn_lift hD hwp hu hbq); have r2 := r2.below hbq; have hT := hT.trans (hbq.mono hT.size); have hwp := Nat.le_trans hwp hbq.size; have hBp := Nat.le_trans hBp hbq.size; have ha := hrr)
        | (go_at_call 180; refine (Ratio_calls _ _ _ _ _ _ _ _ _ _ (Dn D (w.heap.size + 3) _) _ (lo_dn hD hwp) ha hm HXY.out (N + N + 1) (by omega) ((fx.num.mul fy.den).add (fy.num.mul fx.den)) ((fx.den.mul fy.den).mono (by omega))).mono ?_; rintro e wq ⟨vr, rfl, hbq, hrat⟩; have hrat := hrat.mono (dn_gr hBp hbq.size); have hT := hT.trans (hbq.mono hT.size); have r2 := r2.below hbq; have hwp := Nat.le_trans hwp hbq.size; have hBp := Nat.le_trans hBp hbq.size; obtain ⟨rs, rA, rn, rc, rs', rA', rn', rc', rl, rfl, i1, i2, i3⟩ := hrat)
        | (go_at_call 181; refine (Mul_calls _ _ _ _ _ _ _ _ _ _ (Dn D (w.heap.size + 3) _) _ (lo_dn hD hwp) hv hu N (by omega) fx.den fy.den).mono ?_; rintro e wq ⟨mt, mB, mm, mk, rfl, hbq, hr⟩; have hrr := hr.mono (dn_gr hBp hbq.size); have p1 := dn_lift hD hwp p1 hbq; have p2 := dn_lift hD hwp p2 hbq; have q1 := dn_lift hD hwp q1 hbq; have q2 := dn_lift hD hwp q2 hbq; (try have hm' := dn_lift hD hwp hm' hbq); (try have hm := dn_lift hD hwp hm hbq); (try have ha := dn_lift hD hwp ha hbq); (try have hv := dn_lift hD hwp hu hbq); (try have hu := dn_lift hD hwp hu hbq); have r2 := r2.below hbq; have hT := hT.trans (hbq.mono hT.size); have hwp := Nat.le_trans hwp hbq.size; have hBp := Nat.le_trans hBp hbq.size; have hm := hrr))
    rename_i hHeld
    clear hHeld hh
    obtain ⟨u0, k0⟩ := r2.some 0 (by decide)
    obtain ⟨u1, k1⟩ := r2.some 1 (by decide)
    obtain ⟨u2, k2⟩ := r2.some 2 (by decide)
    obtain ⟨u3, k3⟩ := r2.some 3 (by decide)
    have I1 := Lib.hid i1
    have I2 := Lib.hid i2
    have I3 := Lib.hid i3
    have hB9 := hBc.trans (hT.mono hBc.size)
    clear i1 i2 i3 hrat p1 p2 q1 q2 hm hm' hu hv ha hrr hr
    go_wp2
    refine bodyPost_ret (v := .agg #[.int .i64 rs, .slice rA rn rc, .int .i64 rs', .slice rA' rn' rc']) (by simp [results, Tryz.results152, go_sem, k0, k1, k2, k3]) rfl ⟨_, rfl, below_set4 hB9 (by omega) _ _ _ _, ?_⟩
    rw [rat_add]
    exact rat_stored' (by omega) hD I1.out I2.out I3.out (by omega) _ _ _ _

theorem divInt_one (z : Int) : (Rat.divInt z 1).num = z ∧ (Rat.divInt z 1).den = 1 := by
  obtain ⟨-, -, -, -, -, v6, v7⟩ := ratio_val z 1 (by decide)
  rw [Int.gcd_one_right] at v6 v7
  simp at v6 v7
  exact ⟨v6, by omega⟩
theorem add_whole {x y : Rat} (hx : x.den = 1) (hy : y.den = 1) : (x + y).num = x.num + y.num ∧ (x + y).den = 1 := by
  rw [rat_add, hx, hy]
  have := divInt_one (x.num * ((1 : Nat) : Int) + y.num * ((1 : Nat) : Int))
  simpa using this

theorem RatAdd_calls (v u : Value) (x y : Rat) (D : Nat → Prop) (w : World) (hD : Lo D w) (hx : RatC w D v x) (hy : RatC w D u y) (N : Nat) (hN : N ≤ 134217728) (fx : FitR N x) (fy : FitR N y) :
    Calls Tryz.prog 152 #[v, u] w fun e w' => ∃ v, e = .returned v ∧ Below w.heap.size w w' ∧ RatC w' (gr D w w') v (x + y) := by
  obtain ⟨s, A, n, c, s', A', n', c', l, rfl, h1, h2, h3⟩ := hx
  obtain ⟨t, B, m, d, t', B', m', d', k, rfl, k1, k2, k3⟩ := hy
  cases hw : ((A'.isNone && decide (s' ≤ 1)) && (B'.isNone && decide (t' ≤ 1))) with
  | false => exact RatAdd_big s A n c s' A' n' c' l x t B m d t' B' m' d' k y D w hD h1 h2 h3 k1 k2 k3 N hN fx fy hw
  | true =>
    simp only [Bool.and_eq_true, decide_eq_true_eq, Option.isNone_iff_eq_none] at hw
    obtain ⟨⟨rfl, hs⟩, rfl, ht⟩ := hw
    have hdx : x.den = 1 := by
      obtain ⟨-, -, e, -, -⟩ := h2.nil_eq
      have := x.den_pos
      omega
    have hdy : y.den = 1 := by
      obtain ⟨-, -, e, -, -⟩ := k2.nil_eq
      have := y.den_pos
      omega
    have hbs : ((none : Option Addr).isNone && decide (s' ≤ 1)) = true := by simp [hs]
    have hbt : ((none : Option Addr).isNone && decide (t' ≤ 1)) = true := by simp [ht]
    have HBS := Lib.hid hbs
    have HBT := Lib.hid hbt
    have HDX := Lib.hid hdx
    have HDY := Lib.hid hdy
    have H1 := Lib.hid h1
    have K1 := Lib.hid k1
    clear h1 h2 h3 k1 k2 k3 hdx hdy hbs hbt hs ht
    go_enter Tryz.func152, Tryz.ntmps152
    go_upto_region 1 with fail
    obtain ⟨ca, cb, r2, hsz, hB0⟩ := rat_boxes w #[.int .i64 s, .slice A n c, .int .i64 s', .slice none n' c'] #[.int .i64 t, .slice B m d, .int .i64 t', .slice none m' d'] #[.int .i64 0, .slice none 0 0, .int .i64 0, .slice none 0 0] 158 rfl
    generalize ((w.alloc (.cells #[.int .i64 s, .slice A n c, .int .i64 s', .slice none n' c'] 158)).alloc (.cells #[.int .i64 t, .slice B m d, .int .i64 t', .slice none m' d'] 158)).alloc (.cells #[.int .i64 0, .slice none 0 0, .int .i64 0, .slice none 0 0] 158) = W0 at *
    have a0 := ca 0; have a1 := ca 1; have a2 := ca 2; have a3 := ca 3
    have b0 := cb 0; have b1 := cb 1; have b2 := cb 2; have b3 := cb 3
    simp only [List.getElem?_toArray, List.getElem?_cons_zero, List.getElem?_cons_succ] at a0 a1 a2 a3 b0 b1 b2 b3
    have z0 : w.heap.size < W0.heap.size := by omega
    have z1 : w.heap.size + 1 < W0.heap.size := by omega
    have HSZ := Lib.hid hsz
    clear hsz ca cb
    go_wp2_with fail
    refine (whole_raw _ _ _ _ _ _ _ _ _).mono ?_
    rintro e w1 ⟨rfl, hb1⟩
    rw [HBS.out]
    obtain ⟨hc1, hf1⟩ := bcell hb1
    go_wp2_with fail
    refine (whole_raw _ _ _ _ _ _ _ _ _).mono ?_
    rintro e w2 ⟨rfl, hb2⟩
    rw [HBT.out]
    have hT2 := hb1.trans (hb2.mono hb1.size)
    clear hc1 hf1
    obtain ⟨hc2, hf2⟩ := bcell hT2
    go_wp2_with fail
    have hB2 := hB0.trans (hT2.mono hB0.size)
    refine (Add_calls _ _ _ _ _ _ _ _ _ _ D _ (hD.up hB2.size) (H1.out.below hD hB2) (K1.out.below hD hB2) N (by omega) fx.num fy.num).mono ?_
    rintro e w3 ⟨at', aB, am, ak, rfl, hb3, hi⟩
    have hT3 := hT2.trans (hb3.mono hT2.size)
    have hB3 := hB0.trans (hT3.mono hB0.size)
    clear hc2 hf2
    have r3 := r2.below hT3
    obtain ⟨u0, k0⟩ := r3.some 0 (by decide)
    obtain ⟨u1, k1⟩ := r3.some 1 (by decide)
    obtain ⟨u2, k2⟩ := r3.some 2 (by decide)
    obtain ⟨u3, k3⟩ := r3.some 3 (by decide)
    have g0 := r3.free 0; have g1 := r3.free 1; have g2 := r3.free 2; have g3 := r3.free 3
    have z3 := r3.lt
    have hs2 := hT2.size
    have hs3 := hb3.size
    obtain ⟨f1, f2⟩ := add_whole HDX.out HDY.out
    rw [← f1] at hi
    have HI := Lib.hid hi
    have HF := Lib.hid f2
    clear hi f1 f2
    go_wp2
    refine bodyPost_ret (v := .agg #[.int .i64 at', .slice aB am ak, .int .i64 0, .slice none 0 0]) (by simp [results, Tryz.results152, go_sem, k0, k1, k2, k3]) rfl ⟨_, rfl, below_set4 hB3 (by omega) _ _ _ _, ?_⟩
    refine rat_stored' (B := w.heap.size + 3) (by omega) hD (HI.out.mono ?_) (IntC.small (z := 0) (by decide) (by decide)) (.inr ⟨rfl, HF.out⟩) (by omega) _ _ _ _
    rintro k (hk | hk)
    · exact .inl hk
    · exact .inr ⟨by have := HSZ.out; omega, hk.2⟩

end Go.Proofs.YtoffbdlgmnpblaaGreat

/- Package exact: the negation, the difference and the comparison of rational numbers, and whole numbers as such. -/
namespace Go.Proofs.YtoffbdlgmnpblaaGreat
open Go.RowKit
set_option maxHeartbeats 4000000
set_option maxRecDepth 100000

theorem Of_small (x : Int) (w : World) (h2 : -4611686018427387904 < x) (h3 : x < 4611686018427387904) :
    Calls Tryz.prog 183 #[.int .i64 x] w fun e w' => e = .returned (.agg #[.int .i64 x, .slice none 0 0]) ∧ Below w.heap.size w w' := by
  go_enter Tryz.func183, Tryz.ntmps183
  go_wp2
  exact bodyPost_ret (v := .agg #[.int .i64 x, .slice none 0 0]) (by simp [results, Tryz.results183, go_sem]) rfl ⟨rfl, ((Below.refl _ _).alloc (Nat.le_refl _) _)⟩

theorem RatNeg_raw (s : Int) (A : Option Addr) (n c : Nat) (s' : Int) (A' : Option Addr) (n' c' : Nat) (w : World) (h1 : -4611686018427387904 < s) (h2 : s < 4611686018427387904) :
    Calls Tryz.prog 239 #[.agg #[.int .i64 s, .slice A n c, .int .i64 s', .slice A' n' c']] w fun e w' => e = .returned (.agg #[.int .i64 (-s), .slice A n c, .int .i64 s', .slice A' n' c']) ∧ Below w.heap.size w w' := by
  go_enter Tryz.func239, Tryz.ntmps239
  go_wp2_with fail
  have hB0 := boxes2 w (.cells #[.int .i64 s, .slice A n c, .int .i64 s', .slice A' n' c'] 158) (.cells #[.int .i64 0, .slice none 0 0, .int .i64 0, .slice none 0 0] 158)
  go_region_with (go_at_call 235; refine (Neg_raw s A n c _ h1 h2).mono ?_; rintro e w1 ⟨rfl, hb1⟩; obtain ⟨hc1, hf1⟩ := bcell hb1; have hz1 : w.heap.size + 1 < w1.heap.size := by have := hb1.size; simp at this; omega)
  all_goals
    have hB1 : Below w.heap.size w w1 := (by first | exact hB0.trans (hb1.mono (by simp; omega)) | exact hB0.drew.trans (hb1.mono (by simp; omega)))
    go_wp2
    refine bodyPost_ret (v := .agg #[.int .i64 (-s), .slice A n c, .int .i64 s', .slice A' n' c']) (by simp [results, Tryz.results239, go_sem, hc1]) rfl ⟨rfl, below_set4 hB1 (by omega) _ _ _ _⟩

theorem IntC.small_s {w : World} {D : Nat → Prop} {s : Int} {A : Option Addr} {n c : Nat} {z : Int} (h : IntC w D s A n c z) : -4611686018427387904 < s ∧ s < 4611686018427387904 := by
  rcases h with ⟨rfl, rfl, rfl, rfl, h1, h2⟩ | ⟨xs, hs, ho, ht, hv, hsg, hz⟩
  · exact ⟨h1, h2⟩
  · rcases hsg with rfl | rfl <;> decide

theorem RatC.neg {w : World} {D : Nat → Prop} {v : Value} {x : Rat} (h : RatC w D v x) : ∃ s A n c s' A' n' c', v = .agg #[.int .i64 s, .slice A n c, .int .i64 s', .slice A' n' c'] ∧ (-4611686018427387904 < s ∧ s < 4611686018427387904) ∧ RatC w D (.agg #[.int .i64 (-s), .slice A n c, .int .i64 s', .slice A' n' c']) (-x) := by
  obtain ⟨s, A, n, c, s', A', n', c', l, rfl, h1, h2, h3⟩ := h
  exact ⟨s, A, n, c, s', A', n', c', rfl, h1.small_s, _, _, _, _, _, _, _, _, l, rfl, by rw [Rat.neg_num]; exact h1.neg, h2, by rw [Rat.neg_den]; exact h3⟩

theorem FitR.neg {N : Nat} {x : Rat} (h : FitR N x) : FitR N (-x) := by
  refine ⟨?_, by rw [Rat.neg_den]; exact h.den⟩
  rw [Rat.neg_num]
  exact ⟨by have := h.num.2; omega, by have := h.num.1; omega⟩

theorem undrew {w w1 : World} (h : Below w.drew.heap.size w.drew w1) : Below w.heap.size w w1 := (Below.refl w.heap.size w).drew.trans h

theorem RatSub_calls (v u : Value) (x y : Rat) (D : Nat → Prop) (w : World) (hD : Lo D w) (hx : RatC w D v x) (hy : RatC w D u y) (N : Nat) (hN : N ≤ 134217728) (fx : FitR N x) (fy : FitR N y) :
    Calls Tryz.prog 188 #[v, u] w fun e w' => ∃ v, e = .returned v ∧ Below w.heap.size w w' ∧ RatC w' (gr D w w') v (x - y) := by
  obtain ⟨s, A, n, c, s', A', n', c', rfl, ⟨b1, b2⟩, hy⟩ := hy.neg
  obtain ⟨t, B, m, d, t', B', m', d', l, rfl, h1, h2, h3⟩ := hx
  have hx : RatC w D (.agg #[.int .i64 t, .slice B m d, .int .i64 t', .slice B' m' d']) x := ⟨_, _, _, _, _, _, _, _, _, rfl, h1, h2, h3⟩
  clear h1 h2 h3
  have HX := Lib.hid hx
  have HY := Lib.hid hy
  clear hx hy
  go_enter Tryz.func188, Tryz.ntmps188
  go_upto_region 1 with fail
  obtain ⟨ca, cb, r2, hsz, hB0⟩ := rat_boxes w #[.int .i64 t, .slice B m d, .int .i64 t', .slice B' m' d'] #[.int .i64 s, .slice A n c, .int .i64 s', .slice A' n' c'] #[.int .i64 0, .slice none 0 0, .int .i64 0, .slice none 0 0] 158 rfl
  generalize ((w.alloc (.cells #[.int .i64 t, .slice B m d, .int .i64 t', .slice B' m' d'] 158)).alloc (.cells #[.int .i64 s, .slice A n c, .int .i64 s', .slice A' n' c'] 158)).alloc (.cells #[.int .i64 0, .slice none 0 0, .int .i64 0, .slice none 0 0] 158) = W0 at *
  have a0 := ca 0; have a1 := ca 1; have a2 := ca 2; have a3 := ca 3
  have b0 := cb 0; have b1' := cb 1; have b2' := cb 2; have b3 := cb 3
  simp only [List.getElem?_toArray, List.getElem?_cons_zero, List.getElem?_cons_succ] at a0 a1 a2 a3 b0 b1' b2' b3
  have z0 : w.heap.size < W0.heap.size := by omega
  have z1 : w.heap.size + 1 < W0.heap.size := by omega
  have HSZ := Lib.hid hsz
  clear hsz ca cb
  go_region_with (first
    | (go_at_call 239; refine (RatNeg_raw _ _ _ _ _ _ _ _ _ b1 b2).mono ?_; rintro e w1 ⟨rfl, hb1⟩; have hb1 := undrew hb1; obtain ⟨hc1, hf1⟩ := bcell hb1; have hz1 : W0.heap.size ≤ w1.heap.size := hb1.size; have hs1 := HSZ.out)
    | (go_at_call 152; refine (RatAdd_calls _ _ _ _ _ _ (hD.up (Nat.le_trans hB0.size hz1)) (HX.out.below hD (hB0.trans (Below.mono hb1 hB0.size))) (HY.out.below hD (hB0.trans (Below.mono hb1 hB0.size))) N hN fx fy.neg).mono ?_; rintro e w2 ⟨vr, rfl, hb2, hr⟩; clear hc1 hf1; have hT : Below W0.heap.size W0 w2 := Below.trans hb1 (Below.mono hb2 hz1); have r3 := r2.below hT; obtain ⟨u0, k0⟩ := r3.some 0 (by decide); obtain ⟨u1, k1⟩ := r3.some 1 (by decide); obtain ⟨u2, k2⟩ := r3.some 2 (by decide); obtain ⟨u3, k3⟩ := r3.some 3 (by decide); have g0 := r3.free 0; have g1 := r3.free 1; have g2 := r3.free 2; have g3 := r3.free 3; have z3 := r3.lt; obtain ⟨rs, rA, rn, rc, rs', rA', rn', rc', rl, rfl, i1, i2, i3⟩ := hr; have I1 := Lib.hid i1; have I2 := Lib.hid i2; have I3 := Lib.hid i3; clear i1 i2 i3))
  all_goals
    go_wp2
    refine bodyPost_ret (v := .agg #[.int .i64 rs, .slice rA rn rc, .int .i64 rs', .slice rA' rn' rc']) (by simp [results, Tryz.results188, go_sem, k0, k1, k2, k3]) rfl ⟨_, rfl, below_set4 (hB0.trans (hT.mono hB0.size)) (by omega) _ _ _ _, ?_⟩
    rw [Rat.sub_eq_add_neg]
    have hup : ∀ k, gr D w1 w2 k → Dn D (w.heap.size + 3) w2 k := by
      rintro k (hk | hk)
      · exact .inl hk
      · exact .inr ⟨by have := HSZ.out; omega, hk.2⟩
    exact rat_stored' (B := w.heap.size + 3) (by omega) hD (I1.out.mono hup) (I2.out.mono hup) I3.out (by omega) _ _ _ _

theorem Whole_calls (z : Int) (D : Nat → Prop) (w : World) (h1 : -4611686018427387904 < z) (h2 : z < 4611686018427387904) :
    Calls Tryz.prog 158 #[.int .i64 z] w fun e w' => ∃ v, e = .returned v ∧ Below w.heap.size w w' ∧ RatC w' D v (z : Rat) := by
  go_enter Tryz.func158, Tryz.ntmps158
  go_wp2_with fail
  refine (Of_small z _ h1 h2).mono ?_
  rintro e w1 ⟨rfl, hb1⟩
  obtain ⟨hc1, hf1⟩ := bcell hb1
  have hz1 : w.heap.size < w1.heap.size := by have := hb1.size; simp at this; omega
  go_wp2
  exact bodyPost_ret (v := .agg #[.int .i64 z, .slice none 0 0, .int .i64 0, .slice none 0 0]) (by simp [results, Tryz.results158, go_sem, hc1]) rfl ⟨_, rfl, below_set4 (((Below.refl w.heap.size w).alloc (Nat.le_refl _) _).trans (hb1.mono (by simp))) (by omega) _ _ _ _, 
    _, _, _, _, _, _, _, _, 0, rfl, by rw [Rat.num_intCast]; exact IntC.small h1 h2, IntC.small (by decide) (by decide), .inr ⟨rfl, Rat.den_intCast z⟩⟩

theorem RatCmp_calls (v u : Value) (x y : Rat) (D : Nat → Prop) (w : World) (hD : Lo D w) (hx : RatC w D v x) (hy : RatC w D u y) (N : Nat) (hN : N ≤ 134217728) (fx : FitR N x) (fy : FitR N y) :
    Calls Tryz.prog 157 #[v, u] w fun e w' => e = .returned (.int .i64 (Dig.sgn (x - y).num)) ∧ Below w.heap.size w w' := by
  obtain ⟨s, A, n, c, s', A', n', c', k, rfl, k1, k2, k3⟩ := hy
  have hy : RatC w D (.agg #[.int .i64 s, .slice A n c, .int .i64 s', .slice A' n' c']) y := ⟨_, _, _, _, _, _, _, _, _, rfl, k1, k2, k3⟩
  obtain ⟨t, B, m, d, t', B', m', d', l, rfl, h1, h2, h3⟩ := hx
  have hx : RatC w D (.agg #[.int .i64 t, .slice B m d, .int .i64 t', .slice B' m' d']) x := ⟨_, _, _, _, _, _, _, _, _, rfl, h1, h2, h3⟩
  clear h1 h2 h3 k1 k2 k3
  have HX := Lib.hid hx
  have HY := Lib.hid hy
  clear hx hy
  go_enter Tryz.func157, Tryz.ntmps157
  go_wp2_with fail
  have hB0 := boxes2 w (.cells #[.int .i64 t, .slice B m d, .int .i64 t', .slice B' m' d'] 158) (.cells #[.int .i64 s, .slice A n c, .int .i64 s', .slice A' n' c'] 158)
  refine (RatSub_calls _ _ x y D _ (hD.up hB0.size) (HX.out.below hD hB0) (HY.out.below hD hB0) N hN fx fy).mono ?_
  rintro e w1 ⟨vr, rfl, hb1, hr⟩
  have HR := Lib.hid hr
  clear hr
  go_wp2_with fail
  refine (RatSign_calls vr (x - y) _ _ ((hD.up hB0.size).gr hb1) HR.out).mono ?_
  rintro e w2 ⟨rfl, hb2⟩
  have hB2 := (hB0.trans (hb1.mono hB0.size)).trans (hb2.mono (by have := hb1.size; have := hB0.size; omega))
  go_wp2
  go_ret
  exact ⟨rfl, hB2⟩

end Go.Proofs.YtoffbdlgmnpblaaGreat

/- Package num: valid numbers, and numbers as rational numbers. -/
namespace Go.Proofs.YtoffbdlgmnpblaaGreat
open Go.RowKit
set_option maxHeartbeats 4000000
set_option maxRecDepth 100000

/-- a number is valid -/
def validN (t l : Int) : Bool := decide (1 ≤ l ∧ l ≤ 1152921504606846976 ∧ -1152921504606846976 ≤ t ∧ t ≤ 1152921504606846976 ∧ Int.gcd t l = 1)

theorem lo_none (w : World) : Lo (fun _ => False) w := fun _ h => h.elim

theorem fit_of_small {x : Int} (h1 : -4611686018427387904 < x) (h2 : x < 4611686018427387904) : Fit 2 x := by
  have e : B32 ^ 2 = 18446744073709551616 := by decide
  exact ⟨by omega, by omega⟩

/-- what is boxed -/
theorem box1 (w : World) (cs : Array Value) (t : TypeId) : (∀ i, (w.alloc (.cells cs t)).cell? ⟨w.heap.size, i, none⟩ = cs[i]?) ∧ (w.alloc (.cells cs t)).heap.size = w.heap.size + 1 ∧ Below w.heap.size w (w.alloc (.cells cs t)) :=
  ⟨fun i => (box_cells w _ rfl cs t i).1, by simp, (Below.refl _ _).alloc (Nat.le_refl _) _⟩

theorem IntC.small0 {w : World} {D : Nat → Prop} {z : Int} (h1 : -4611686018427387904 < z) (h2 : z < 4611686018427387904) : IntC w D z none 0 0 z := IntC.small h1 h2

theorem NumValid_calls (t l : Int) (w : World) :
    Calls Tryz.prog 156 #[.agg #[.int .i64 t, .int .i64 l]] w fun e w' => e = .returned (.bool (validN t l)) ∧ Below w.heap.size w w' := by
  by_cases hb : 1 ≤ l ∧ l ≤ 1152921504606846976 ∧ t ≤ 1152921504606846976 ∧ -1152921504606846976 ≤ t
  · obtain ⟨h1, h2, h3, h4⟩ := hb
    have hg : 0 ≤ (Int.gcd t l : Int) ∧ (Int.gcd t l : Int) ≤ 1152921504606846976 := by
      have : (Int.gcd t l : Int) ≤ l := Int.le_of_dvd (by omega) (Int.gcd_dvd_right t l)
      omega
    have hv : validN t l = decide ((Int.gcd t l : Int) = 1) := by unfold validN; rw [Bool.eq_iff_iff]; simp only [decide_eq_true_eq]; omega
    rw [hv]
    have hi : (-1152921504606846976 ≤ (Int.gcd t l : Int) ∧ (Int.gcd t l : Int) ≤ 1152921504606846976) := by omega
    have HI := Lib.hid hi
    clear hv hi hg
    go_enter Tryz.func156, Tryz.ntmps156
    go_upto_region 3 with fail
    obtain ⟨ca, hsz, hB0⟩ := box1 w #[.int .i64 t, .int .i64 l] 94
    generalize w.alloc (.cells #[.int .i64 t, .int .i64 l] 94) = W0 at *
    have a0 := ca 0; have a1 := ca 1
    simp only [List.getElem?_toArray, List.getElem?_cons_zero, List.getElem?_cons_succ] at a0 a1
    have z0 : w.heap.size < W0.heap.size := by omega
    clear hsz ca
    have hT := (Below.refl W0.heap.size W0).drew
    go_region_with (first
      | (go_at_call 183; refine (Of_small _ _ (by omega) (by omega)).mono ?_; rintro e wq ⟨rfl, hbq⟩; have hT := Below.trans hT (Below.mono hbq hT.size); obtain ⟨hc, hf⟩ := bcell hT)
      | (go_at_call 187; refine (Gcd_calls t none 0 0 t l none 0 0 l (fun _ => False) _ (lo_none _) (IntC.small0 (by omega) (by omega)) (IntC.small0 (by omega) (by omega)) 2 (by omega) (fit_of_small (by omega) (by omega)) (fit_of_small (by omega) (by omega))).mono ?_; rintro e wq ⟨gs, gA, gn, gc, rfl, hbq, hgq⟩; have hT := Below.trans hT (Below.mono hbq hT.size); obtain ⟨hc, hf⟩ := bcell hT; have HG := Lib.hid hgq; clear hgq)
      | (go_at_call 186; refine (Int_calls _ _ _ _ _ _ _ _ HG.out (by omega) (by omega)).mono ?_; rintro e wq ⟨hbq, rfl⟩; have hT := Below.trans hT (Below.mono hbq hT.size); rw [if_pos HI.out]))
    all_goals
      go_wp2
      go_ret
      refine ⟨ret_bool ?_, hB0.trans (hT.mono hB0.size)⟩
      rfl
  · have hv : validN t l = false := by unfold validN; rw [decide_eq_false]; omega
    rw [hv]
    clear hv
    have hb : l < 1 ∨ (1 ≤ l ∧ 1152921504606846976 < l) ∨ (1 ≤ l ∧ l ≤ 1152921504606846976 ∧ 1152921504606846976 < t) ∨ (1 ≤ l ∧ l ≤ 1152921504606846976 ∧ t ≤ 1152921504606846976 ∧ t < -1152921504606846976) := by omega
    rcases hb with h1 | ⟨h1, h2⟩ | ⟨h1, h2, h3⟩ | ⟨h1, h2, h3, h4⟩
    all_goals
      go_enter Tryz.func156, Tryz.ntmps156
      go_wp2
      go_ret
      exact ⟨rfl, (Below.refl _ _).alloc (Nat.le_refl _) _⟩

theorem ValidN.bounds {t l : Int} (h : validN t l = true) : 1 ≤ l ∧ l ≤ 1152921504606846976 ∧ -1152921504606846976 ≤ t ∧ t ≤ 1152921504606846976 := by
  unfold validN at h
  have := of_decide_eq_true h
  omega

theorem NumRat_calls (t l : Int) (w : World) (h1 : 1 ≤ l) (h2 : l ≤ 1152921504606846976) (h3 : -1152921504606846976 ≤ t) (h4 : t ≤ 1152921504606846976) :
    Calls Tryz.prog 153 #[.agg #[.int .i64 t, .int .i64 l]] w fun e w' => ∃ v, e = .returned v ∧ Below w.heap.size w w' ∧ RatC w' (nw w w') v (Rat.divInt t l) := by
  go_enter Tryz.func153, Tryz.ntmps153
  go_upto_region 1 with fail
  have cab := (box1 w #[.int .i64 t, .int .i64 l] 94)
  have hr0 := Room.of_alloc (w.alloc (.cells #[.int .i64 t, .int .i64 l] 94)) #[.int .i64 0, .slice none 0 0, .int .i64 0, .slice none 0 0] 158 4 (w.heap.size + 1) (by simp) (by simp)
  have cb : ∀ i, ((w.alloc (.cells #[.int .i64 t, .int .i64 l] 94)).alloc (.cells #[.int .i64 0, .slice none 0 0, .int .i64 0, .slice none 0 0] 158)).cell? ⟨w.heap.size, i, none⟩ = #[Value.int .i64 t, Value.int .i64 l][i]? := fun i => by
    rw [World.cell?_alloc_lt _ _ _ (by simp)]; exact cab.1 i
  have hsz : ((w.alloc (.cells #[.int .i64 t, .int .i64 l] 94)).alloc (.cells #[.int .i64 0, .slice none 0 0, .int .i64 0, .slice none 0 0] 158)).heap.size = w.heap.size + 2 := by simp
  have hB0 := boxes2 w (.cells #[.int .i64 t, .int .i64 l] 94) (.cells #[.int .i64 0, .slice none 0 0, .int .i64 0, .slice none 0 0] 158)
  generalize (w.alloc (.cells #[.int .i64 t, .int .i64 l] 94)).alloc (.cells #[.int .i64 0, .slice none 0 0, .int .i64 0, .slice none 0 0] 158) = W0 at *
  have a0 := cb 0; have a1 := cb 1
  simp only [List.getElem?_toArray, List.getElem?_cons_zero, List.getElem?_cons_succ] at a0 a1
  have z0 : w.heap.size < W0.heap.size := by omega
  have HSZ := Lib.hid hsz
  clear hsz cb cab
  have hT := (Below.refl W0.heap.size W0).drew
  go_region_with (first
      | (go_at_call 183; refine (Of_small _ _ (by omega) (by omega)).mono ?_; rintro e wq ⟨rfl, hbq⟩; have hT := Below.trans hT (Below.mono hbq hT.size); obtain ⟨hc, hf⟩ := bcell hT)
      | (go_at_call 180; refine (Ratio_calls t none 0 0 t l none 0 0 l (fun _ => False) _ (lo_none _) (IntC.small0 (by omega) (by omega)) (IntC.small0 (by omega) (by omega)) (by omega) 2 (by omega) (fit_of_small (by omega) (by omega)) (fit_of_small (by omega) (by omega))).mono ?_; rintro e wq ⟨gv, rfl, hbq, hrq⟩; have hT' := hT; have hT := Below.trans hT (Below.mono hbq hT.size); clear hc hf; have r3 := hr0.below hT; obtain ⟨u0, k0⟩ := r3.some 0 (by decide); obtain ⟨u1, k1⟩ := r3.some 1 (by decide); obtain ⟨u2, k2⟩ := r3.some 2 (by decide); obtain ⟨u3, k3⟩ := r3.some 3 (by decide); have g0 := r3.free 0; have g1 := r3.free 1; have g2 := r3.free 2; have g3 := r3.free 3; have z3 := r3.lt; obtain ⟨rs, rA, rn, rc, rs', rA', rn', rc', rl, rfl, i1, i2, i3⟩ := hrq; have I1 := Lib.hid i1; have I2 := Lib.hid i2; have I3 := Lib.hid i3; clear i1 i2 i3))
  all_goals
    go_wp2
    refine bodyPost_ret (v := .agg #[.int .i64 rs, .slice rA rn rc, .int .i64 rs', .slice rA' rn' rc']) (by simp [results, Tryz.results153, go_sem, k0, k1, k2, k3]) rfl ⟨_, rfl, below_set4 (hB0.trans (hT.mono hB0.size)) (by omega) _ _ _ _, ?_⟩
    have hup : ∀ W : World, W0.heap.size ≤ W.heap.size → ∀ k, gr (fun _ => False) W wq k → Dn (fun _ => False) (w.heap.size + 2) wq k := by
      rintro W hW k (hk | hk)
      · exact .inl hk
      · exact .inr ⟨by have := HSZ.out; omega, hk.2⟩
    refine (rat_stored' (D := fun _ => False) (w := w) (B := w.heap.size + 2) (g := w.heap.size + 1) (by omega) (lo_none _) (I1.out.mono (hup _ hT'.size)) (I2.out.mono (hup _ hT'.size)) I3.out (by omega) _ _ _ _).mono ?_
    rintro k (hk | hk)
    · exact hk.elim
    · exact hk

end Go.Proofs.YtoffbdlgmnpblaaGreat
