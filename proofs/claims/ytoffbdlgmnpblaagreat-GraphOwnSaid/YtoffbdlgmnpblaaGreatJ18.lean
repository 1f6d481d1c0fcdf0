/- Part 18 of 55: Ex17 Md1. -/
import Derived.Test.YtoffbdlgmnpblaaGreatJ17

/- Package exact: the negation, the difference and the comparison of rational numbers, and whole numbers as such. -/
namespace Go.Proofs.YtoffbdlgmnpblaaGreat
open Go.RowKit
set_option maxHeartbeats 4000000
set_option maxRecDepth 100000

theorem Of_small (x : Int) (w : World) (h2 : -4611686018427387904 < x) (h3 : x < 4611686018427387904) :
    Calls Tryz.prog 183 #[.int .i64 x] w fun e w' => e = .returned (.agg #[.int .i64 x, .slice none 0 0]) ∧ Below w.heap.size w w' := by
  go_enter Tryz.func183, Tryz.ntmps183
  go_wp2
  exact bodyPost_ret (v := .agg #[.int .i64 x, .slice none 0 0]) (by simp [results, Tryz.results183, go_sem]) rfl ⟨rfl, ((Below.refl _ _).alloc (Nat.le_refl _) _)⟩

theorem RatNeg_raw (s : Int) (A : Option Addr) (n c : Nat) (s' : Int) (A' : Option Addr) (n' c' : Nat) (w : World) (h1 : -4611686018427387904 < s) (h2 : s < 4611686018427387904) :
    Calls Tryz.prog 239 #[.agg #[.int .i64 s, .slice A n c, .int .i64 s', .slice A' n' c']] w fun e w' => e = .returned (.agg #[.int .i64 (-s), .slice A n c, .int .i64 s', .slice A' n' c']) ∧ Below w.heap.size w w' := by
  go_enter Tryz.func239, Tryz.ntmps239
  go_wp2_with fail
  have hB0 := boxes2 w (.cells #[.int .i64 s, .slice A n c, .int .i64 s', .slice A' n' c'] 158) (.cells #[.int .i64 0, .slice none 0 0, .int .i64 0, .slice none 0 0] 158)
  go_region_with (go_at_call 235; refine (Neg_raw s A n c _ h1 h2).mono ?_; rintro e w1 ⟨rfl, hb1⟩; obtain ⟨hc1, hf1⟩ := bcell hb1; have hz1 : w.heap.size + 1 < w1.heap.size := by have := hb1.size; simp at this; omega)
  all_goals
    have hB1 : Below w.heap.size w w1 := (by first | exact hB0.trans (hb1.mono (by simp; omega)) | exact hB0.drew.trans (hb1.mono (by simp; omega)))
    go_wp2
    refine bodyPost_ret (v := .agg #[.int .i64 (-s), .slice A n c, .int .i64 s', .slice A' n' c']) (by simp [results, Tryz.results239, go_sem, hc1]) rfl ⟨rfl, below_set4 hB1 (by omega) _ _ _ _⟩

theorem IntC.small_s {w : World} {D : Nat → Prop} {s : Int} {A : Option Addr} {n c : Nat} {z : Int} (h : IntC w D s A n c z) : -4611686018427387904 < s ∧ s < 4611686018427387904 := by
  rcases h with ⟨rfl, rfl, rfl, rfl, h1, h2⟩ | ⟨xs, hs, ho, ht, hv, hsg, hz⟩
  · exact ⟨h1, h2⟩
  · rcases hsg with rfl | rfl <;> decide

theorem RatC.neg {w : World} {D : Nat → Prop} {v : Value} {x : Rat} (h : RatC w D v x) : ∃ s A n c s' A' n' c', v = .agg #[.int .i64 s, .slice A n c, .int .i64 s', .slice A' n' c'] ∧ (-4611686018427387904 < s ∧ s < 4611686018427387904) ∧ RatC w D (.agg #[.int .i64 (-s), .slice A n c, .int .i64 s', .slice A' n' c']) (-x) := by
  obtain ⟨s, A, n, c, s', A', n', c', l, rfl, h1, h2, h3⟩ := h
  exact ⟨s, A, n, c, s', A', n', c', rfl, h1.small_s, _, _, _, _, _, _, _, _, l, rfl, by rw [Rat.neg_num]; exact h1.neg, h2, by rw [Rat.neg_den]; exact h3⟩

theorem FitR.neg {N : Nat} {x : Rat} (h : FitR N x) : FitR N (-x) := by
  refine ⟨?_, by rw [Rat.neg_den]; exact h.den⟩
  rw [Rat.neg_num]
  exact ⟨by have := h.num.2; omega, by have := h.num.1; omega⟩

theorem undrew {w w1 : World} (h : Below w.drew.heap.size w.drew w1) : Below w.heap.size w w1 := (Below.refl w.heap.size w).drew.trans h

theorem RatSub_calls (v u : Value) (x y : Rat) (D : Nat → Prop) (w : World) (hD : Lo D w) (hx : RatC w D v x) (hy : RatC w D u y) (N : Nat) (hN : N ≤ 134217728) (fx : FitR N x) (fy : FitR N y) :
    Calls Tryz.prog 188 #[v, u] w fun e w' => ∃ v, e = .returned v ∧ Below w.heap.size w w' ∧ RatC w' (gr D w w') v (x - y) := by
  obtain ⟨s, A, n, c, s', A', n', c', rfl, ⟨b1, b2⟩, hy⟩ := hy.neg
  obtain ⟨t, B, m, d, t', B', m', d', l, rfl, h1, h2, h3⟩ := hx
  have hx : RatC w D (.agg #[.int .i64 t, .slice B m d, .int .i64 t', .slice B' m' d']) x := ⟨_, _, _, _, _, _, _, _, _, rfl, h1, h2, h3⟩
  clear h1 h2 h3
  have HX := Lib.hid hx
  have HY := Lib.hid hy
  clear hx hy
  go_enter Tryz.func188, Tryz.ntmps188
  go_upto_region 1 with fail
  obtain ⟨ca, cb, r2, hsz, hB0⟩ := rat_boxes w #[.int .i64 t, .slice B m d, .int .i64 t', .slice B' m' d'] #[.int .i64 s, .slice A n c, .int .i64 s', .slice A' n' c'] #[.int .i64 0, .slice none 0 0, .int .i64 0, .slice none 0 0] 158 rfl
  generalize ((w.alloc (.cells #[.int .i64 t, .slice B m d, .int .i64 t', .slice B' m' d'] 158)).alloc (.cells #[.int .i64 s, .slice A n c, .int .i64 s', .slice A' n' c'] 158)).alloc (.cells #[.int .i64 0, .slice none 0 0, .int .i64 0, .slice none 0 0] 158) = W0 at *
  have a0 := ca 0; have a1 := ca 1; have a2 := ca 2; have a3 := ca 3
  have b0 := cb 0; have b1' := cb 1; have b2' := cb 2; have b3 := cb 3
  simp only [List.getElem?_toArray, List.getElem?_cons_zero, List.getElem?_cons_succ] at a0 a1 a2 a3 b0 b1' b2' b3
  have z0 : w.heap.size < W0.heap.size := by omega
  have z1 : w.heap.size + 1 < W0.heap.size := by omega
  have HSZ := Lib.hid hsz
  clear hsz ca cb
  go_region_with (first
    | (go_at_call 239; refine (RatNeg_raw _ _ _ _ _ _ _ _ _ b1 b2).mono ?_; rintro e w1 ⟨rfl, hb1⟩; have hb1 := undrew hb1; obtain ⟨hc1, hf1⟩ := bcell hb1; have hz1 : W0.heap.size ≤ w1.heap.size := hb1.size; have hs1 := HSZ.out)
    | (go_at_call 152; refine (RatAdd_calls _ _ _ _ _ _ (hD.up (Nat.le_trans hB0.size hz1)) (HX.out.below hD (hB0.trans (Below.mono hb1 hB0.size))) (HY.out.below hD (hB0.trans (Below.mono hb1 hB0.size))) N hN fx fy.neg).mono ?_; rintro e w2 ⟨vr, rfl, hb2, hr⟩; clear hc1 hf1; have hT : Below W0.heap.size W0 w2 := Below.trans hb1 (Below.mono hb2 hz1); have r3 := r2.below hT; obtain ⟨u0, k0⟩ := r3.some 0 (by decide); obtain ⟨u1, k1⟩ := r3.some 1 (by decide); obtain ⟨u2, k2⟩ := r3.some 2 (by decide); obtain ⟨u3, k3⟩ := r3.some 3 (by decide); have g0 := r3.free 0; have g1 := r3.free 1; have g2 := r3.free 2; have g3 := r3.free 3; have z3 := r3.lt; obtain ⟨rs, rA, rn, rc, rs', rA', rn', rc', rl, rfl, i1, i2, i3⟩ := hr; have I1 := Lib.hid i1; have I2 := Lib.hid i2; have I3 := Lib.hid i3; clear i1 i2 i3))
  all_goals
    go_wp2
    refine bodyPost_ret (v := .agg #[.int .i64 rs, .slice rA rn rc, .int .i64 rs', .slice rA' rn' rc']) (by simp [results, Tryz.results188, go_sem, k0, k1, k2, k3]) rfl ⟨_, rfl, below_set4 (hB0.trans (hT.mono hB0.size)) (by omega) _ _ _ _, ?_⟩
    rw [Rat.sub_eq_add_neg]
    have hup : ∀ k, gr D w1 w2 k → Dn D (w.heap.size + 3) w2 k := by
      rintro k (hk | hk)
      · exact .inl hk
      · exact .inr ⟨by have := HSZ.out; omega, hk.2⟩
    exact rat_stored' (B := w.heap.size + 3) (by omega) hD (I1.out.mono hup) (I2.out.mono hup) I3.out (by omega) _ _ _ _

theorem Whole_calls (z : Int) (D : Nat → Prop) (w : World) (h1 : -4611686018427387904 < z) (h2 : z < 4611686018427387904) :
    Calls Tryz.prog 158 #[.int .i64 z] w fun e w' => ∃ v, e = .returned v ∧ Below w.heap.size w w' ∧ RatC w' D v (z : Rat) := by
  go_enter Tryz.func158, Tryz.ntmps158
  go_wp2_with fail
  refine (Of_small z _ h1 h2).mono ?_
  rintro e w1 ⟨rfl, hb1⟩
  obtain ⟨hc1, hf1⟩ := bcell hb1
  have hz1 : w.heap.size < w1.heap.size := by have := hb1.size; simp at this; omega
  go_wp2
  exact bodyPost_ret (v := .agg #[.int .i64 z, .slice none 0 0, .int .i64 0, .slice none 0 0]) (by simp [results, Tryz.results158, go_sem, hc1]) rfl ⟨_, rfl, below_set4 (((Below.refl w.heap.size w).alloc (Nat.le_refl _) _).trans (hb1.mono (by simp))) (by omega) _ _ _ _, 
    _, _, _, _, _, _, _, _, 0, rfl, by rw [Rat.num_intCast]; exact IntC.small h1 h2, IntC.small (by decide) (by decide), .inr ⟨rfl, Rat.den_intCast z⟩⟩

theorem RatCmp_calls (v u : Value) (x y : Rat) (D : Nat → Prop) (w : World) (hD : Lo D w) (hx : RatC w D v x) (hy : RatC w D u y) (N : Nat) (hN : N ≤ 134217728) (fx : FitR N x) (fy : FitR N y) :
    Calls Tryz.prog 157 #[v, u] w fun e w' => e = .returned (.int .i64 (Dig.sgn (x - y).num)) ∧ Below w.heap.size w w' := by
  obtain ⟨s, A, n, c, s', A', n', c', k, rfl, k1, k2, k3⟩ := hy
  have hy : RatC w D (.agg #[.int .i64 s, .slice A n c, .int .i64 s', .slice A' n' c']) y := ⟨_, _, _, _, _, _, _, _, _, rfl, k1, k2, k3⟩
  obtain ⟨t, B, m, d, t', B', m', d', l, rfl, h1, h2, h3⟩ := hx
  have hx : RatC w D (.agg #[.int .i64 t, .slice B m d, .int .i64 t', .slice B' m' d']) x := ⟨_, _, _, _, _, _, _, _, _, rfl, h1, h2, h3⟩
  clear h1 h2 h3 k1 k2 k3
  have HX := Lib.hid hx
  have HY := Lib.hid hy
  clear hx hy
  go_enter Tryz.func157, Tryz.ntmps157
  go_wp2_with fail
  have hB0 := boxes2 w (.cells #[.int .i64 t, .slice B m d, .int .i64 t', .slice B' m' d'] 158) (.cells #[.int .i64 s, .slice A n c, .int .i64 s', .slice A' n' c'] 158)
  refine (RatSub_calls _ _ x y D _ (hD.up hB0.size) (HX.out.below hD hB0) (HY.out.below hD hB0) N hN fx fy).mono ?_
  rintro e w1 ⟨vr, rfl, hb1, hr⟩
  have HR := Lib.hid hr
  clear hr
  go_wp2_with fail
  refine (RatSign_calls vr (x - y) _ _ ((hD.up hB0.size).gr hb1) HR.out).mono ?_
  rintro e w2 ⟨rfl, hb2⟩
  have hB2 := (hB0.trans (hb1.mono hB0.size)).trans (hb2.mono (by have := hb1.size; have := hB0.size; omega))
  go_wp2
  go_ret
  exact ⟨rfl, hB2⟩

end Go.Proofs.YtoffbdlgmnpblaaGreat

/- Package num: valid numbers, and numbers as rational numbers. -/
namespace Go.Proofs.YtoffbdlgmnpblaaGreat
open Go.RowKit
set_option maxHeartbeats 4000000
set_option maxRecDepth 100000

/-- a number is valid -/
def validN (t l : Int) : Bool := decide (1 ≤ l ∧ l ≤ 1152921504606846976 ∧ -1152921504606846976 ≤ t ∧ t ≤ 1152921504606846976 ∧ Int.gcd t l = 1)

theorem lo_none (w : World) : Lo (fun _ => False) w := fun _ h => h.elim

theorem fit_of_small {x : Int} (h1 : -4611686018427387904 < x) (h2 : x < 4611686018427387904) : Fit 2 x := by
  have e : B32 ^ 2 = 18446744073709551616 := by decide
  exact ⟨by omega, by omega⟩

/-- what is boxed -/
theorem box1 (w : World) (cs : Array Value) (t : TypeId) : (∀ i, (w.alloc (.cells cs t)).cell? ⟨w.heap.size, i, none⟩ = cs[i]?) ∧ (w.alloc (.cells cs t)).heap.size = w.heap.size + 1 ∧ Below w.heap.size w (w.alloc (.cells cs t)) :=
  ⟨fun i => (box_cells w _ rfl cs t i).1, by simp, (Below.refl _ _).alloc (Nat.le_refl _) _⟩

theorem IntC.small0 {w : World} {D : Nat → Prop} {z : Int} (h1 : -4611686018427387904 < z) (h2 : z < 4611686018427387904) : IntC w D z none 0 0 z := IntC.small h1 h2

theorem NumValid_calls (t l : Int) (w : World) :
    Calls Tryz.prog 156 #[.agg #[.int .i64 t, .int .i64 l]] w fun e w' => e = .returned (.bool (validN t l)) ∧ Below w.heap.size w w' := by
  by_cases hb : 1 ≤ l ∧ l ≤ 1152921504606846976 ∧ t ≤ 1152921504606846976 ∧ -1152921504606846976 ≤ t
  · obtain ⟨h1, h2, h3, h4⟩ := hb
    have hg : 0 ≤ (Int.gcd t l : Int) ∧ (Int.gcd t l : Int) ≤ 1152921504606846976 := by
      have : (Int.gcd t l : Int) ≤ l := Int.le_of_dvd (by omega) (Int.gcd_dvd_right t l)
      omega
    have hv : validN t l = decide ((Int.gcd t l : Int) = 1) := by unfold validN; rw [Bool.eq_iff_iff]; simp only [decide_eq_true_eq]; omega
    rw [hv]
    have hi : (-1152921504606846976 ≤ (Int.gcd t l : Int) ∧ (Int.gcd t l : Int) ≤ 1152921504606846976) := by omega
    have HI := Lib.hid hi
    clear hv hi hg
    go_enter Tryz.func156, Tryz.ntmps156
    go_upto_region 3 with fail
    obtain ⟨ca, hsz, hB0⟩ := box1 w #[.int .i64 t, .int .i64 l] 94
    generalize w.alloc (.cells #[.int .i64 t, .int .i64 l] 94) = W0 at *
    have a0 := ca 0; have a1 := ca 1
    simp only [List.getElem?_toArray, List.getElem?_cons_zero, List.getElem?_cons_succ] at a0 a1
    have z0 : w.heap.size < W0.heap.size := by omega
    clear hsz ca
    have hT := (Below.refl W0.heap.size W0).drew
    go_region_with (first
      | (go_at_call 183; refine (Of_small _ _ (by omega) (by omega)).mono ?_; rintro e wq ⟨rfl, hbq⟩; have hT := Below.trans hT (Below.mono hbq hT.size); obtain ⟨hc, hf⟩ := bcell hT)
      | (go_at_call 187; refine (Gcd_calls t none 0 0 t l none 0 0 l (fun _ => False) _ (lo_none _) (IntC.small0 (by omega) (by omega)) (IntC.small0 (by omega) (by omega)) 2 (by omega) (fit_of_small (by omega) (by omega)) (fit_of_small (by omega) (by omega))).mono ?_; rintro e wq ⟨gs, gA, gn, gc, rfl, hbq, hgq⟩; have hT := Below.trans hT (Below.mono hbq hT.size); obtain ⟨hc, hf⟩ := bcell hT; have HG := Lib.hid hgq; clear hgq)
      | (go_at_call 186; refine (Int_calls _ _ _ _ _ _ _ _ HG.out (by omega) (by omega)).mono ?_; rintro e wq ⟨hbq, rfl⟩; have hT := Below.trans hT (Below.mono hbq hT.size); rw [if_pos HI.out]))
    all_goals
      go_wp2
      go_ret
      refine ⟨ret_bool ?_, hB0.trans (hT.mono hB0.size)⟩
      rfl
  · have hv : validN t l = false := by unfold validN; rw [decide_eq_false]; omega
    rw [hv]
    clear hv
    have hb : l < 1 ∨ (1 ≤ l ∧ 1152921504606846976 < l) ∨ (1 ≤ l ∧ l ≤ 1152921504606846976 ∧ 1152921504606846976 < t) ∨ (1 ≤ l ∧ l ≤ 1152921504606846976 ∧ t ≤ 1152921504606846976 ∧ t < -1152921504606846976) := by omega
    rcases hb with h1 | ⟨h1, h2⟩ | ⟨h1, h2, h3⟩ | ⟨h1, h2, h3, h4⟩
    all_goals
      go_enter Tryz.func156, Tryz.ntmps156
      go_wp2
      go_ret
      exact ⟨rfl, (Below.refl _ _).alloc (Nat.le_refl _) _⟩

theorem ValidN.bounds {t l : Int} (h : validN t l = true) : 1 ≤ l ∧ l ≤ 1152921504606846976 ∧ -1152921504606846976 ≤ t ∧ t ≤ 1152921504606846976 := by
  unfold validN at h
  have := of_decide_eq_true h
  omega

theorem NumRat_calls (t l : Int) (w : World) (h1 : 1 ≤ l) (h2 : l ≤ 1152921504606846976) (h3 : -1152921504606846976 ≤ t) (h4 : t ≤ 1152921504606846976) :
    Calls Tryz.prog 153 #[.agg #[.int .i64 t, .int .i64 l]] w fun e w' => ∃ v, e = .returned v ∧ Below w.heap.size w w' ∧ RatC w' (nw w w') v (Rat.divInt t l) := by
  go_enter Tryz.func153, Tryz.ntmps153
  go_upto_region 1 with fail
  have cab := (box1 w #[.int .i64 t, .int .i64 l] 94)
  have hr0 := Room.of_alloc (w.alloc (.cells #[.int .i64 t, .int .i64 l] 94)) #[.int .i64 0, .slice none 0 0, .int .i64 0, .slice none 0 0] 158 4 (w.heap.size + 1) (by simp) (by simp)
  have cb : ∀ i, ((w.alloc (.cells #[.int .i64 t, .int .i64 l] 94)).alloc (.cells #[.int .i64 0, .slice none 0 0, .int .i64 0, .slice none 0 0] 158)).cell? ⟨w.heap.size, i, none⟩ = #[Value.int .i64 t, Value.int .i64 l][i]? := fun i => by
    rw [World.cell?_alloc_lt _ _ _ (by simp)]; exact cab.1 i
  have hsz : ((w.alloc (.cells #[.int .i64 t, .int .i64 l] 94)).alloc (.cells #[.int .i64 0, .slice none 0 0, .int .i64 0, .slice none 0 0] 158)).heap.size = w.heap.size + 2 := by simp
  have hB0 := boxes2 w (.cells #[.int .i64 t, .int .i64 l] 94) (.cells #[.int .i64 0, .slice none 0 0, .int .i64 0, .slice none 0 0] 158)
  generalize (w.alloc (.cells #[.int .i64 t, .int .i64 l] 94)).alloc (.cells #[.int .i64 0, .slice none 0 0, .int .i64 0, .slice none 0 0] 158) = W0 at *
  have a0 := cb 0; have a1 := cb 1
  simp only [List.getElem?_toArray, List.getElem?_cons_zero, List.getElem?_cons_succ] at a0 a1
  have z0 : w.heap.size < W0.heap.size := by omega
  have HSZ := Lib.hid hsz
  clear hsz cb cab
  have hT := (Below.refl W0.heap.size W0).drew
  go_region_with (first
      | (go_at_call 183; refine (Of_small _ _ (by omega) (by omega)).mono ?_; rintro e wq ⟨rfl, hbq⟩; have hT := Below.trans hT (Below.mono hbq hT.size); obtain ⟨hc, hf⟩ := bcell hT)
      | (go_at_call 180; refine (Ratio_calls t none 0 0 t l none 0 0 l (fun _ => False) _ (lo_none _) (IntC.small0 (by omega) (by omega)) (IntC.small0 (by omega) (by omega)) (by omega) 2 (by omega) (fit_of_small (by omega) (by omega)) (fit_of_small (by omega) (by omega))).mono ?_; rintro e wq ⟨gv, rfl, hbq, hrq⟩; have hT' := hT; have hT := Below.trans hT (Below.mono hbq hT.size); clear hc hf; have r3 := hr0.below hT; obtain ⟨u0, k0⟩ := r3.some 0 (by decide); obtain ⟨u1, k1⟩ := r3.some 1 (by decide); obtain ⟨u2, k2⟩ := r3.some 2 (by decide); obtain ⟨u3, k3⟩ := r3.some 3 (by decide); have g0 := r3.free 0; have g1 := r3.free 1; have g2 := r3.free 2; have g3 := r3.free 3; have z3 := r3.lt; obtain ⟨rs, rA, rn, rc, rs', rA', rn', rc', rl, rfl, i1, i2, i3⟩ := hrq; have I1 := Lib.hid i1; have I2 := Lib.hid i2; have I3 := Lib.hid i3; clear i1 i2 i3))
  all_goals
    go_wp2
    refine bodyPost_ret (v := .agg #[.int .i64 rs, .slice rA rn rc, .int .i64 rs', .slice rA' rn' rc']) (by simp [results, Tryz.results153, go_sem, k0, k1, k2, k3]) rfl ⟨_, rfl, below_set4 (hB0.trans (hT.mono hB0.size)) (by omega) _ _ _ _, ?_⟩
    have hup : ∀ W : World, W0.heap.size ≤ W.heap.size → ∀ k, gr (fun _ => False) W wq k → Dn (fun _ => False) (w.heap.size + 2) wq k := by
      rintro W hW k (hk | hk)
      · exact .inl hk
      · exact .inr ⟨by have := HSZ.out; omega, hk.2⟩
    refine (rat_stored' (D := fun _ => False) (w := w) (B := w.heap.size + 2) (g := w.heap.size + 1) (by omega) (lo_none _) (I1.out.mono (hup _ hT'.size)) (I2.out.mono (hup _ hT'.size)) I3.out (by omega) _ _ _ _).mono ?_
    rintro k (hk | hk)
    · exact hk.elim
    · exact hk

end Go.Proofs.YtoffbdlgmnpblaaGreat
