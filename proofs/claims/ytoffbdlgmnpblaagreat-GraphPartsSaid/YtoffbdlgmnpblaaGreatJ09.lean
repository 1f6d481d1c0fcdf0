/- Part 9: Ex14 Ex15. -/
import Derived.Test.YtoffbdlgmnpblaaGreatJ08

/- Package exact: rational numbers, made of two integers. -/
namespace Go.Proofs.YtoffbdlgmnpblaaGreat
open Go.RowKit
set_option maxHeartbeats 4000000
set_option maxRecDepth 100000

/-- a block with k cells that may be written -/
structure Room (w : World) (g k : Nat) : Prop where
  some : ∀ i, i < k → ∃ v, w.cell? ⟨g, i, none⟩ = some v
  free : ∀ i, w.frozen? ⟨g, i, none⟩ = false
  lt : g < w.heap.size
theorem Room.below {w w' : World} {g k : Nat} (h : Room w g k) (hb : Below w.heap.size w w') : Room w' g k :=
  ⟨fun i hi => by obtain ⟨v, hv⟩ := h.some i hi; exact ⟨v, (hb.cell (p := ⟨g, i, none⟩) h.lt).trans hv⟩, fun i => (hb.frozen (p := ⟨g, i, none⟩) h.lt).trans (h.free i), Nat.lt_of_lt_of_le h.lt hb.size⟩
theorem Room.set {w : World} {g k : Nat} (h : Room w g k) (p : Addr) (u : Value) : Room (w.setCell p u) g k :=
  ⟨fun i hi => by obtain ⟨v, hv⟩ := h.some i hi; exact cell?_setCell_some (w := w) (p := p) (x := u) (q := ⟨g, i, none⟩) hv, fun i => by rw [World.frozen?_setCell]; exact h.free i, by simpa using h.lt⟩
theorem Room.drew {w : World} {g k : Nat} (h : Room w g k) : Room w.drew g k := ⟨h.some, h.free, h.lt⟩
theorem Room.of_alloc (w : World) (cs : Array Value) (t : TypeId) (k g : Nat) (hg : w.heap.size = g) (hk : k ≤ cs.size) : Room (w.alloc (.cells cs t)) g k :=
  ⟨fun i hi => ⟨cs[i], by rw [(box_cells w g hg cs t i).1, Array.getElem?_eq_getElem (by omega)]⟩, fun i => (box_cells w g hg cs t i).2, by simp; omega⟩
theorem Box.of_alloc_any (w : World) (s : Int) (A : Option Addr) (n c : Nat) (t : TypeId) : Box (w.alloc (.cells #[.int .i64 s, .slice A n c] t)) w.heap.size s A n c := Box.of_alloc w s A n c t _ rfl

/-- a rational number's fields stand for x -/
def RatC (w : World) (D : Nat → Prop) (v : Value) (x : Rat) : Prop :=
  ∃ s A n c s' A' n' c' l, v = .agg #[.int .i64 s, .slice A n c, .int .i64 s', .slice A' n' c'] ∧ IntC w D s A n c x.num ∧ IntC w D s' A' n' c' l ∧ (l = (x.den : Int) ∨ (l = 0 ∧ x.den = 1))
theorem RatC.same {w w' : World} {D : Nat → Prop} {v : Value} {x : Rat} (h : RatC w D v x) (hs : Same D w w') : RatC w' D v x := by
  obtain ⟨s, A, n, c, s', A', n', c', l, h1, h2, h3, h4⟩ := h
  exact ⟨s, A, n, c, s', A', n', c', l, h1, h2.same hs, h3.same hs, h4⟩
theorem RatC.mono {w : World} {D D' : Nat → Prop} {v : Value} {x : Rat} (h : RatC w D v x) (hs : ∀ k, D k → D' k) : RatC w D' v x := by
  obtain ⟨s, A, n, c, s', A', n', c', l, h1, h2, h3, h4⟩ := h
  exact ⟨s, A, n, c, s', A', n', c', l, h1, h2.mono hs, h3.mono hs, h4⟩
theorem RatC.below {D : Nat → Prop} {w w' : World} {v : Value} {x : Rat} (h : RatC w D v x) (hD : Lo D w) (hb : Below w.heap.size w w') : RatC w' D v x := h.same (hD.same hb)

theorem ratio_boxes (w : World) (s : Int) (A : Option Addr) (n c : Nat) (s' : Int) (A' : Option Addr) (n' c' : Nat) (cs : Array Value) (t t' : TypeId) (hk : 4 ≤ cs.size) :
    let W := ((w.alloc (.cells #[.int .i64 s, .slice A n c] t)).alloc (.cells #[.int .i64 s', .slice A' n' c'] t)).alloc (.cells cs t')
    Box W w.heap.size s A n c ∧ Box W (w.heap.size + 1) s' A' n' c' ∧ Room W (w.heap.size + 1 + 1) 4 ∧ Below w.heap.size w W :=
  ⟨((Box.of_alloc w s A n c t _ rfl).below ((Below.refl _ _).alloc (Nat.le_refl _) _)).below ((Below.refl _ _).alloc (Nat.le_refl _) _), (Box.of_alloc _ s' A' n' c' t _ (by simp)).below ((Below.refl _ _).alloc (Nat.le_refl _) _),
    Room.of_alloc _ cs t' 4 _ (by simp) hk, boxes3 _ _ _ _⟩
theorem ratio_val (x y : Int) (hy : y ≠ 0) : 1 ≤ (Int.gcd x y : Int) ∧ x.tdiv (Int.gcd x y) = x / (Int.gcd x y) ∧ y.tdiv (Int.gcd x y) = y / (Int.gcd x y) ∧ y / (Int.gcd x y : Int) ≠ 0 ∧ (y / (Int.gcd x y : Int) < 0 ↔ y < 0) ∧
    (Rat.divInt x y).num = y.sign * (x / (Int.gcd x y : Int)) ∧ ((Rat.divInt x y).den : Int) = y.sign * (y / (Int.gcd x y : Int)) := by
  have hp : 0 < Int.gcd x y := Nat.pos_of_ne_zero fun h => hy (Int.gcd_eq_zero_iff.1 h).2
  have d1 : (Int.gcd x y : Int) ∣ x := Int.gcd_dvd_left x y
  have d2 : (Int.gcd x y : Int) ∣ y := Int.gcd_dvd_right x y
  have e2 : (Rat.divInt x y).den = y.natAbs / Int.gcd y x := by rw [Rat.den_divInt, if_neg hy]
  have e1 := Rat.num_divInt x y
  rw [Int.gcd_comm y x] at e1 e2
  generalize Int.gcd x y = G at *
  obtain ⟨a, rfl⟩ := d1
  obtain ⟨b, rfl⟩ := d2
  have hG : (G : Int) ≠ 0 := by omega
  have hb : b ≠ 0 := fun h => hy (by rw [h]; simp)
  refine ⟨by omega, ?_, ?_, ?_, ?_, ?_, ?_⟩
  · rw [Int.mul_tdiv_cancel_left _ hG, Int.mul_ediv_cancel_left _ hG]
  · rw [Int.mul_tdiv_cancel_left _ hG, Int.mul_ediv_cancel_left _ hG]
  · rw [Int.mul_ediv_cancel_left _ hG]; exact hb
  · rw [Int.mul_ediv_cancel_left _ hG]
    constructor
    · intro h; exact Int.mul_neg_of_pos_of_neg (by omega) h
    · intro h
      rcases Int.lt_or_le b 0 with g | g
      · exact g
      · have := Int.mul_nonneg (show (0 : Int) ≤ G by omega) g; omega
  · rw [e1, Int.mul_ediv_cancel_left _ hG, show ((G : Int) * b).sign * (G * a) = G * (((G : Int) * b).sign * a) by grind, Int.mul_ediv_cancel_left _ hG]
  · rw [e2, Int.mul_ediv_cancel_left _ hG, Int.natAbs_mul, Int.natAbs_natCast, Nat.mul_div_cancel_left _ hp, Int.sign_mul, Int.sign_natCast_of_ne_zero (by omega), Int.one_mul]
    rcases Int.lt_trichotomy b 0 with g | g | g
    · rw [Int.sign_eq_neg_one_of_neg g]; omega
    · exact absurd g hb
    · rw [Int.sign_eq_one_of_pos g]; omega
/-- what a region or a call may have made: D, and new blocks from B on -/
abbrev Dn (D : Nat → Prop) (B : Nat) (w : World) : Nat → Prop := fun k => D k ∨ (B ≤ k ∧ k < w.heap.size)

theorem below_set4 {B : Nat} {a w : World} (h : Below B a w) {g : Nat} (hg : B ≤ g) (u v u' v' : Value) : Below B a ((((w.setCell ⟨g, 0, none⟩ u).setCell ⟨g, 1, none⟩ v).setCell ⟨g, 2, none⟩ u').setCell ⟨g, 3, none⟩ v') :=
  (((h.setCell (by exact hg) u).setCell (by exact hg) v).setCell (by exact hg) u').setCell (by exact hg) v'
theorem IntC.set4 {w : World} {D : Nat → Prop} {s : Int} {A : Option Addr} {n c : Nat} {z : Int} (h : IntC w D s A n c z) (g : Nat) (hg : ¬ D g) (u v u' v' : Value) :
    IntC ((((w.setCell ⟨g, 0, none⟩ u).setCell ⟨g, 1, none⟩ v).setCell ⟨g, 2, none⟩ u').setCell ⟨g, 3, none⟩ v') D s A n c z := (h.store2 g hg 0 1 u v).store2 g hg 2 3 u' v'
theorem rat_stored {w w3 : World} {D : Nat → Prop} {B g : Nat} {s : Int} {A : Option Addr} {n c : Nat} {s' : Int} {A' : Option Addr} {n' c' : Nat} {x : Rat} (hg : g < B) (hD : Lo D w) (hi : IntC w3 (Dn D B w3) s A n c x.num) (hj : IntC w3 (Dn D B w3) s' A' n' c' (x.den : Int)) (hw : w.heap.size ≤ g) (u v u' v' : Value) :
    RatC ((((w3.setCell ⟨g, 0, none⟩ u).setCell ⟨g, 1, none⟩ v).setCell ⟨g, 2, none⟩ u').setCell ⟨g, 3, none⟩ v') (gr D w ((((w3.setCell ⟨g, 0, none⟩ u).setCell ⟨g, 1, none⟩ v).setCell ⟨g, 2, none⟩ u').setCell ⟨g, 3, none⟩ v')) (.agg #[.int .i64 s, .slice A n c, .int .i64 s', .slice A' n' c']) x := by
  have hn : ¬ Dn D B w3 g := by
    rintro (h | h)
    · exact Nat.lt_irrefl _ (Nat.lt_of_lt_of_le (hD g h) hw)
    · omega
  have hm : ∀ k, Dn D B w3 k → gr D w ((((w3.setCell ⟨g, 0, none⟩ u).setCell ⟨g, 1, none⟩ v).setCell ⟨g, 2, none⟩ u').setCell ⟨g, 3, none⟩ v') k := by
    rintro k (h | h)
    · exact .inl h
    · exact .inr ⟨by omega, by simp [World.setCell]; omega⟩
  exact ⟨_, _, _, _, _, _, _, _, _, rfl, (hi.set4 g hn u v u' v').mono hm, (hj.set4 g hn u v u' v').mono hm, .inl rfl⟩

theorem dn_up {D : Nat → Prop} {B : Nat} {w w' : World} (h : w.heap.size ≤ w'.heap.size) : ∀ k, Dn D B w k → Dn D B w' k := by
  rintro k (hk | hk)
  · exact .inl hk
  · exact .inr ⟨hk.1, by omega⟩
theorem not_dn {w w3 : World} {D : Nat → Prop} {B g : Nat} (hD : Lo D w) (hw : w.heap.size ≤ g) (hg : g < B) : ¬ Dn D B w3 g := by
  rintro (h | h)
  · exact Nat.lt_irrefl _ (Nat.lt_of_lt_of_le (hD g h) hw)
  · omega
theorem lo_dn {w w3 : World} {D : Nat → Prop} {B : Nat} (hD : Lo D w) (hs : w.heap.size ≤ w3.heap.size) : Lo (Dn D B w3) w3 := by
  rintro k (h | h)
  · exact Nat.lt_of_lt_of_le (hD k h) hs
  · exact h.2

theorem Ratio_calls (s : Int) (A : Option Addr) (n c : Nat) (x : Int) (s' : Int) (A' : Option Addr) (n' c' : Nat) (y : Int) (D : Nat → Prop) (w : World) (hD : Lo D w)
    (hx : IntC w D s A n c x) (hy : IntC w D s' A' n' c' y) (hy0 : y ≠ 0) (N : Nat) (hN : N ≤ 536870912) (fx : Fit N x) (fy : Fit N y) :
    Calls Tryz.prog 180 #[.agg #[.int .i64 s, .slice A n c], .agg #[.int .i64 s', .slice A' n' c']] w fun e w' => ∃ v, e = .returned v ∧ Below w.heap.size w w' ∧ RatC w' (gr D w w') v (Rat.divInt x y) := by
  have hnil := fun (w : World) (a : Option Addr) (n c : Nat) => run_neq_slice_nil_any (P := Tryz.prog) w 154 199 a n c 0 0 Tryz.underlying154
  have HX := Lib.hid hx
  have HY := Lib.hid hy
  have HY0 := Lib.hid hy0
  clear hx hy hy0
  go_enter Tryz.func180, Tryz.ntmps180
  go_wp2_with fail
  obtain ⟨x0, x1, r2, hB0⟩ := ratio_boxes w s A n c s' A' n' c' #[.int .i64 0, .slice none 0 0, .int .i64 0, .slice none 0 0] 156 158 (by simp)
  generalize ((w.alloc (.cells #[.int .i64 s, .slice A n c] 156)).alloc (.cells #[.int .i64 s', .slice A' n' c'] 156)).alloc (.cells #[.int .i64 0, .slice none 0 0, .int .i64 0, .slice none 0 0] 158) = W0 at *
  have hL0 := hD.up hB0.size
  refine (Gcd_calls _ _ _ _ _ _ _ _ _ _ _ _ hL0 (HX.out.below hD hB0) (HY.out.below hD hB0) N hN fx fy).mono ?_
  rintro e w1 ⟨t, B, m, d, rfl, hb1, hg⟩
  go_upto_region 2 with fail
  have x5 := Box.of_alloc_any w1 t B m d 156
  have hA := (Below.refl w1.heap.size w1).alloc (Nat.le_refl _) (.cells #[.int .i64 t, .slice B m d] 156)
  have HW0s := Lib.hid (show w.heap.size + 3 ≤ W0.heap.size by have := r2.lt; omega)
  have hw2 : (w1.alloc (.cells #[.int .i64 t, .slice B m d] 156)).heap.size = w1.heap.size + 1 := by simp
  have HW2 := Lib.hid hw2
  clear hw2
  generalize w1.alloc (.cells #[.int .i64 t, .slice B m d] 156) = w2 at *
  have hs1 := hb1.size
  have x0 := (x0.below hb1).below hA
  have x1 := (x1.below hb1).below hA
  have r2 := (r2.below hb1).below hA
  have hB2 := (hB0.trans (hb1.mono hB0.size)).trans (hA.mono (by have := hB0.size; omega))
  have hL1 := hL0.gr hb1
  have hg2 := hg.same (hL1.same hA)
  obtain ⟨v1, v2, v3, v4, v5, v6, v7⟩ := ratio_val x y HY0.out
  have HV := Lib.hid (And.intro v2 (And.intro v3 (And.intro v6 v7)))
  clear hg v2 v3 v6 v7 hB0
  have c50 := x5.c0; have c51 := x5.c1; have z5 := x5.lt
  go_cut [16] from 9 to 16 (fun bv wx => bv = .bool (decide ((Int.gcd x y : Int) ≠ 1)) ∧ wx = w2)
  case first =>
    have hg3 := hg2
    rcases hg3 with ⟨rfl, rfl, rfl, hh, hg3, hg4⟩ | ⟨xs, hs, ho, ht, hv, hsg, hz⟩
    · rcases Int.lt_or_le 1 (Int.gcd x y : Int) with h1 | h1
      · have hne : (t != 1) = true := by rw [bne_iff_ne]; omega
        have HD := Lib.hid (show (Int.gcd x y : Int) ≠ 1 by omega)
        clear hh hg2 HV hnil v5 v4
        go_wp2_with fail
        go_meet
        exact ⟨by rw [decide_eq_true HD.out], rfl⟩
      · have hne : (t != 1) = false := by rw [bne_eq_false_iff_eq]; omega
        have HD := Lib.hid (show ¬ (Int.gcd x y : Int) ≠ 1 by omega)
        clear hh hg2 HV v5 v4
        go_wp2_with fail
        go_meet
        exact ⟨by rw [decide_eq_false HD.out], rfl⟩
    · obtain ⟨Ax, cx, ex, -, -, h6⟩ := hs.form
      obtain ⟨ad, e2, _⟩ := h6 (trimmed_ne hv)
      injection ex with e1 e3 e4
      subst e1 e2
      have h1 : (Int.gcd x y : Int) ≠ 1 := by rcases hsg with rfl | rfl <;> omega
      have HD := Lib.hid h1
      rcases hsg with rfl | rfl
      · clear hs hz hg2 HV v5 v4 h1 ht ho hv
        go_wp2_with fail
        go_meet
        exact ⟨by rw [decide_eq_true HD.out], rfl⟩
      · clear hs hz hg2 HV v5 v4 h1 ht ho hv
        go_wp2_with fail
        go_meet
        exact ⟨by rw [decide_eq_true HD.out], rfl⟩
  case rest =>
  obtain ⟨rfl, rfl⟩ := hcut
  go_upto_if 16 with fail
  go_cut [] from 16 to 28 (fun wx => ∃ (s : Int) (A : Option Addr) (n c : Nat) (s' : Int) (A' : Option Addr) (n' c' : Nat), Below w.heap.size w wx ∧ Box wx w.heap.size s A n c ∧ Box wx (w.heap.size + 1) s' A' n' c' ∧ Room wx (w.heap.size + 1 + 1) 4 ∧
      IntC wx (Dn D (w.heap.size + 3) wx) s A n c (x / (Int.gcd x y : Int)) ∧ IntC wx (Dn D (w.heap.size + 3) wx) s' A' n' c' (y / (Int.gcd x y : Int)))
  case first =>
    have hsW := hB2.size
    have z0 := x0.lt
    have z1 := x1.lt
    have z2 := r2.lt
    have hX := (HX.out.below hD hB2).mono (D' := Dn D (w.heap.size + 3) wc) fun k hk => .inl hk
    have hY := (HY.out.below hD hB2).mono (D' := Dn D (w.heap.size + 3) wc) fun k hk => .inl hk
    have hLE := lo_dn (w3 := wc) (B := w.heap.size + 3) hD hsW
    have hG := hg2.mono (D' := Dn D (w.heap.size + 3) wc) (by
      rintro k (hk | hk)
      · exact .inl hk
      · exact .inr ⟨by have := HW0s.out; omega, by have := HW2.out; omega⟩)
    have HGG := Lib.hid hG
    have HXX := Lib.hid hX
    have HYY := Lib.hid hY
    clear hG hX hY hg2
    by_cases hG1 : (Int.gcd x y : Int) = 1
    · have hd1 : decide ((Int.gcd x y : Int) ≠ 1) = false := decide_eq_false (by omega)
      rw [hd1]
      have H1 := Lib.hid hG1
      clear hG1
      go_wp2_with fail
      go_meet
      have hX := HXX.out
      have hY := HYY.out
      rw [H1.out, Int.ediv_one, Int.ediv_one]
      exact ⟨_, _, _, _, _, _, _, _, hB2, x0, x1, r2, hX, hY⟩
    · have hd1 : decide ((Int.gcd x y : Int) ≠ 1) = true := decide_eq_true hG1
      rw [hd1]
      have fG : Fit N (Int.gcd x y : Int) := fy.le (by omega) (by
        have h := Int.le_of_dvd (a := (Int.gcd x y : Int)) (b := Dig.ab y) (by have := HY0.out; unfold Dig.ab; split <;> omega) (by
          have h := Int.gcd_dvd_right x y
          unfold Dig.ab; split
          · exact Int.dvd_neg.2 h
          · exact h)
        exact h)
      have hG0 : (Int.gcd x y : Int) ≠ 0 := by omega
      have HG0 := Lib.hid hG0
      clear hG1 hG0
      have c00 := x0.c0; have c01 := x0.c1
      have f00 := x0.f0; have f01 := x0.f1
      go_wp2_with fail
      refine (Quo_calls _ _ _ _ _ _ _ _ _ _ _ _ hLE HXX.out HGG.out HG0.out N hN fx fG).mono ?_
      rintro e w3 ⟨t1, B1, m1, d1, t1', B1', m1', d1', rfl, hb3, hq1, -⟩
      have x0 := x0.below hb3
      have x1 := x1.below hb3
      have x5 := x5.below hb3
      have r2 := r2.below hb3
      have hs3 := hb3.size
      have hB3 := hB2.trans (hb3.mono hB2.size)
      clear c00 c01 f00 f01 c50 c51
      have f00 := x0.f0; have f01 := x0.f1; have c00 := x0.c0; have c01 := x0.c1
      have c10 := x1.c0; have c11 := x1.c1; have c50 := x5.c0; have c51 := x5.c1
      have f10 := x1.f0; have f11 := x1.f1
      have n0 := not_dn (w3 := wc) (B := w.heap.size + 3) (g := w.heap.size) hD (Nat.le_refl _) (by omega)
      have hne5 : ¬ w.heap.size = w1.heap.size := by have := HW0s.out; omega
      have hne6 : ¬ w1.heap.size = w.heap.size := by have := HW0s.out; omega
      have n0' : ¬ gr (Dn D (w.heap.size + 3) wc) wc w3 w.heap.size := not_gr (by omega) n0
      go_wp2_with fail
      have y0 := x0.set t1 B1 m1 d1
      have y1 := x1.far (g' := w.heap.size) (by omega) (.int .i64 t1) (.slice B1 m1 d1)
      have y5 := x5.far (g' := w.heap.size) (by have := HW0s.out; omega) (.int .i64 t1) (.slice B1 m1 d1)
      have s2 := (r2.set ⟨w.heap.size, 0, none⟩ (.int .i64 t1)).set ⟨w.heap.size, 1, none⟩ (.slice B1 m1 d1)
      have hB4 := below_set2 hB3 (Nat.le_refl _) (.int .i64 t1) (.slice B1 m1 d1)
      have hq4 := hq1.store2 w.heap.size n0' 0 1 (.int .i64 t1) (.slice B1 m1 d1)
      have hY4 := (HYY.out.same (hLE.same hb3)).store2 w.heap.size n0 0 1 (.int .i64 t1) (.slice B1 m1 d1)
      have hG4 := (HGG.out.same (hLE.same hb3)).store2 w.heap.size n0 0 1 (.int .i64 t1) (.slice B1 m1 d1)
      have hs4 : ((w3.setCell ⟨w.heap.size, 0, none⟩ (.int .i64 t1)).setCell ⟨w.heap.size, 1, none⟩ (.slice B1 m1 d1)).heap.size = w3.heap.size := by simp [World.setCell]
      have HS4 := Lib.hid hs4
      clear hs4 hq1 c00 c01 f00 f01 c50 c51 c10 c11 f10 f11
      generalize (w3.setCell ⟨w.heap.size, 0, none⟩ (.int .i64 t1)).setCell ⟨w.heap.size, 1, none⟩ (.slice B1 m1 d1) = w4 at *
      refine (Quo_calls _ _ _ _ _ _ _ _ _ _ _ _ (hLE.up (by have := HS4.out; omega)) hY4 hG4 HG0.out N hN fy fG).mono ?_
      rintro e w5 ⟨t2, B2, m2, d2, t2', B2', m2', d2', rfl, hb5, hq2, -⟩
      have y0 := y0.below hb5
      have y1 := y1.below hb5
      have s2 := s2.below hb5
      have hs5 := hb5.size
      have hB5 := hB4.trans (hb5.mono hB4.size)
      have hL4 : Lo (gr (Dn D (w.heap.size + 3) wc) wc w3) w4 := (hLE.gr hb3).up (by have := HS4.out; omega)
      have hq5 := hq4.same (hL4.same hb5)
      have z0 := y0.lt
      have z1 := y1.lt
      have z2 := s2.lt
      have f10 := y1.f0; have f11 := y1.f1; have c10 := y1.c0; have c11 := y1.c1
      go_wp2_with fail
      go_meet
      obtain ⟨e1, e2, -, -⟩ := HV.out
      rw [e1] at hq5
      rw [e2] at hq2
      have hs5' := HS4.out
      refine ⟨_, _, _, _, _, _, _, _, below_set2 hB5 (by omega) _ _, y0.far (by omega) _ _, y1.set _ _ _ _, (s2.set _ _).set _ _, (hq5.store2 (w.heap.size + 1) ?_ 0 1 _ _).mono ?_, (hq2.store2 (w.heap.size + 1) ?_ 0 1 _ _).mono ?_⟩
      · exact not_gr (by omega) (not_dn hD (by omega) (by omega))
      · rintro k ((hk | hk) | hk)
        · exact .inl hk
        · exact .inr ⟨hk.1, by simp [World.setCell]; omega⟩
        · exact .inr ⟨by omega, by simp [World.setCell]; omega⟩
      · exact not_gr (by omega) (not_dn hD (by omega) (by omega))
      · rintro k ((hk | hk) | hk)
        · exact .inl hk
        · exact .inr ⟨hk.1, by simp [World.setCell]; omega⟩
        · exact .inr ⟨by omega, by simp [World.setCell]; omega⟩
  case rest =>
    clear x0 x1 r2 x5 hg2 hB2 hL1 hA
    obtain ⟨s1, A1, n1, c1, s2, A2, n2, c2, hB, x0, x1, r2, hi, hj⟩ := hcut
    have hLx : Lo (Dn D (w.heap.size + 3) wc) wc := fun k hk => by
      have := hB.size
      rcases hk with hk | hk
      · exact Nat.lt_of_lt_of_le (hD k hk) this
      · exact hk.2
    have c00 := x0.c0; have c01 := x0.c1; have c10 := x1.c0; have c11 := x1.c1
    have f00 := x0.f0; have f01 := x0.f1; have f10 := x1.f0; have f11 := x1.f1
    go_wp2_with fail
    refine (Sign_calls _ _ _ _ _ _ _ hj).mono ?_
    rintro e w3 ⟨rfl, hb3⟩
    have x0 := x0.below hb3
    have x1 := x1.below hb3
    have r2 := r2.below hb3
    have hs0 := hB.size
    have hs3 := hb3.size
    have hB3 := hB.trans (hb3.mono hB.size)
    have hi := (hi.same (hLx.same hb3)).mono (dn_up hs3)
    have hj := (hj.same (hLx.same hb3)).mono (dn_up hs3)
    clear c00 c01 c10 c11 f00 f01 f10 f11
    have z0 := x0.lt
    have z1 := x1.lt
    have z2 := r2.lt
    obtain ⟨b1, b2⟩ := hi.s_lt
    obtain ⟨b3, b4⟩ := hj.s_lt
    have c00 := x0.c0; have c01 := x0.c1; have c10 := x1.c0; have c11 := x1.c1
    have f00 := x0.f0; have f01 := x0.f1; have f10 := x1.f0; have f11 := x1.f1
    rcases Int.lt_or_le y 0 with hy | hy
    · rw [Dig.sgn_lt (v5.2 hy)]
      have hns := Lib.hid (Int.sign_eq_neg_one_of_neg hy)
      go_upto_region 6 with fail
      go_cut [] from 32 to 35 (fun wx => Below w.heap.size w wx ∧ Box wx w.heap.size (-s1) A1 n1 c1 ∧ Box wx (w.heap.size + 1) (-s2) A2 n2 c2 ∧ Room wx (w.heap.size + 1 + 1) 4 ∧ IntC wx (Dn D (w.heap.size + 3) wx) (-s1) A1 n1 c1 (-(x / (Int.gcd x y : Int))) ∧ IntC wx (Dn D (w.heap.size + 3) wx) (-s2) A2 n2 c2 (-(y / (Int.gcd x y : Int))))
      case first =>
        have x0 := x0.drew
        have x1 := x1.drew
        have r2 := r2.drew
        have hB3 := hB3.drew
        have hi := hi.drew
        have hj := hj.drew
        have hLx := lo_dn (w3 := w3) (B := w.heap.size + 3) hD (by omega)
        have hLx := hLx.up (w' := w3.drew) (Nat.le_refl _)
        have hsz := Nat.le_refl w3.heap.size
        have c00 := x0.c0; have c01 := x0.c1; have c10 := x1.c0; have c11 := x1.c1
        have f00 := x0.f0; have f01 := x0.f1; have f10 := x1.f0; have f11 := x1.f1
        have HI := Lib.hid hi
        have HJ := Lib.hid hj
        clear hi hj
        go_region_with (go_at_call 235; refine (Neg_raw _ _ _ _ _ (by omega) (by omega)).mono ?_; rintro e w1 ⟨rfl, hb1⟩; have x0 := x0.below hb1; have x1 := x1.below hb1; have r2 := r2.below hb1; have c00 := x0.c0; have c01 := x0.c1; have c10 := x1.c0; have c11 := x1.c1; have f00 := x0.f0; have f01 := x0.f1; have f10 := x1.f0; have f11 := x1.f1; have hB3 := hB3.trans (hb1.mono hB3.size); have HI := Lib.hid (HI.out.same (hLx.same hb1)); have HJ := Lib.hid (HJ.out.same (hLx.same hb1)); have hLx := hLx.up hb1.size; have hsz := Nat.le_trans hsz hb1.size)
        all_goals
          go_wp2_with fail
          go_meet
          have z0 := x0.lt
          have z1 := x1.lt
          have z2 := r2.lt
          have n0 := not_dn (w3 := w3) (B := w.heap.size + 3) (g := w.heap.size) hD (Nat.le_refl _) (by omega)
          have n1 := not_dn (w3 := w3) (B := w.heap.size + 3) (g := w.heap.size + 1) hD (by omega) (by omega)
          refine ⟨below_set2 (below_set2 hB3 (Nat.le_refl _) _ _) (by omega) _ _, (x0.set _ _ _ _).far (by omega) _ _, (x1.far (by omega) _ _).set _ _ _ _, (((r2.set _ _).set _ _).set _ _).set _ _, (store4 HI.out.neg _ _ n0 n1 _ _ _ _).mono (dn_up ?_), (store4 HJ.out.neg _ _ n0 n1 _ _ _ _).mono (dn_up ?_)⟩
          · simpa [World.setCell] using hsz
          · simpa [World.setCell] using hsz
      case rest =>
        clear x0 x1 r2 c00 c01 c10 c11 f00 f01 f10 f11 z0 z1 z2 hi hj hB3
        obtain ⟨hB3, x0, x1, r2, hi, hj⟩ := hcut
        have z0 := x0.lt
        have z1 := x1.lt
        have z2 := r2.lt
        have c00 := x0.c0; have c01 := x0.c1; have c10 := x1.c0; have c11 := x1.c1
        have f00 := x0.f0; have f01 := x0.f1; have f10 := x1.f0; have f11 := x1.f1
        obtain ⟨u0, k0⟩ := r2.some 0 (by decide)
        obtain ⟨u1, k1⟩ := r2.some 1 (by decide)
        obtain ⟨u2, k2⟩ := r2.some 2 (by decide)
        obtain ⟨u3, k3⟩ := r2.some 3 (by decide)
        have g0 := r2.free 0; have g1 := r2.free 1; have g2 := r2.free 2; have g3 := r2.free 3
        go_wp2
        obtain ⟨e1, e2, e3, e4⟩ := HV.out
        rw [hns.out, show ∀ q : Int, -1 * q = -q by intro q; omega] at e3 e4
        rw [← e3] at hi
        rw [← e4] at hj
        refine bodyPost_ret (v := .agg #[.int .i64 (-s1), .slice A1 n1 c1, .int .i64 (-s2), .slice A2 n2 c2]) (by simp [results, Tryz.results180, go_sem, k0, k1, k2, k3]) rfl ⟨_, rfl, below_set4 hB3 (by omega) _ _ _ _, rat_stored (by omega) hD hi hj (by omega) _ _ _ _⟩
    · rw [Dig.sgn_gt (by have := mt v5.1 (by omega); omega)]
      obtain ⟨u0, k0⟩ := r2.some 0 (by decide)
      obtain ⟨u1, k1⟩ := r2.some 1 (by decide)
      obtain ⟨u2, k2⟩ := r2.some 2 (by decide)
      obtain ⟨u3, k3⟩ := r2.some 3 (by decide)
      have g0 := r2.free 0; have g1 := r2.free 1; have g2 := r2.free 2; have g3 := r2.free 3
      go_wp2
      have hyp : y.sign = 1 := Int.sign_eq_one_of_pos (by have := HY0.out; omega)
      obtain ⟨e1, e2, e3, e4⟩ := HV.out
      rw [hyp, Int.one_mul] at e3 e4
      rw [← e3] at hi
      rw [← e4] at hj
      refine bodyPost_ret (v := .agg #[.int .i64 s1, .slice A1 n1 c1, .int .i64 s2, .slice A2 n2 c2]) (by simp [results, Tryz.results180, go_sem, k0, k1, k2, k3]) rfl ⟨_, rfl, below_set4 hB3 (by omega) _ _ _ _, rat_stored (by omega) hD hi hj (by omega) _ _ _ _⟩

end Go.Proofs.YtoffbdlgmnpblaaGreat

/- Package exact: the parts of a rational number, its sign, its negation; how great its parts are. -/
namespace Go.Proofs.YtoffbdlgmnpblaaGreat
open Go.RowKit
set_option maxHeartbeats 4000000
set_option maxRecDepth 100000

theorem whole_raw (s : Int) (A : Option Addr) (n c : Nat) (s' : Int) (A' : Option Addr) (n' c' : Nat) (w : World) :
    Calls Tryz.prog 178 #[.agg #[.int .i64 s, .slice A n c, .int .i64 s', .slice A' n' c']] w fun e w' => e = .returned (.bool (A'.isNone && decide (s' ≤ 1))) ∧ Below w.heap.size w w' := by
  have hnil := fun (w : World) (a : Option Addr) (n c : Nat) => Lib.run_eql_slice_nil (P := Tryz.prog) w 154 199 a n c 0 0 Tryz.underlying154
  cases A' with
  | none =>
    rcases Int.lt_or_le 1 s' with h | h
    · have hd : decide (s' ≤ 1) = false := decide_eq_false (by omega)
      go_enter Tryz.func178, Tryz.ntmps178
      go_wp2
      go_ret
      exact ⟨ret_bool (by rw [hd]; rfl), (Below.refl _ _).alloc (Nat.le_refl _) _⟩
    · have hd : decide (s' ≤ 1) = true := decide_eq_true h
      go_enter Tryz.func178, Tryz.ntmps178
      go_wp2
      go_ret
      exact ⟨ret_bool (by rw [hd]; rfl), (Below.refl _ _).alloc (Nat.le_refl _) _⟩
  | some ad =>
    go_enter Tryz.func178, Tryz.ntmps178
    go_wp2
    go_ret
    exact ⟨rfl, (Below.refl _ _).alloc (Nat.le_refl _) _⟩

theorem RatSign_calls (v : Value) (x : Rat) (D : Nat → Prop) (w : World) (hD : Lo D w) (h : RatC w D v x) :
    Calls Tryz.prog 154 #[v] w fun e w' => e = .returned (.int .i64 (Dig.sgn x.num)) ∧ Below w.heap.size w w' := by
  obtain ⟨s, A, n, c, s', A', n', c', l, rfl, h1, h2, h3⟩ := h
  have H1 := Lib.hid h1
  clear h1 h2 h3
  go_enter Tryz.func154, Tryz.ntmps154
  go_wp2_with fail
  have hb := (Below.refl w.heap.size w).alloc (Nat.le_refl _) (.cells #[.int .i64 s, .slice A n c, .int .i64 s', .slice A' n' c'] 158)
  refine (Sign_calls _ _ _ _ _ D _ (H1.out.below hD hb)).mono ?_
  rintro e w1 ⟨rfl, hb1⟩
  go_wp2
  go_ret
  exact ⟨rfl, hb.trans (hb1.mono hb.size)⟩

theorem Low_calls (s : Int) (A : Option Addr) (n c : Nat) (s' : Int) (A' : Option Addr) (n' c' : Nat) (l : Int) (d : Nat) (D : Nat → Prop) (w : World) (hD : Lo D w) (h : IntC w D s' A' n' c' l) (hl : l = (d : Int) ∨ (l = 0 ∧ d = 1)) (hd : d ≠ 0) :
    Calls Tryz.prog 182 #[.agg #[.int .i64 s, .slice A n c, .int .i64 s', .slice A' n' c']] w fun e w' => ∃ t B m k, e = .returned (.agg #[.int .i64 t, .slice B m k]) ∧ Below w.heap.size w w' ∧ IntC w' D t B m k (d : Int) := by
  have H := Lib.hid h
  have HL := Lib.hid hl
  clear h hl
  go_enter Tryz.func182, Tryz.ntmps182
  go_wp2_with fail
  have hb := boxes2 w (.cells #[.int .i64 s, .slice A n c, .int .i64 s', .slice A' n' c'] 158) (.cells #[.int .i64 0, .slice none 0 0] 156)
  refine (Sign_calls _ _ _ _ _ D _ (H.out.below hD hb)).mono ?_
  rintro e w1 ⟨rfl, hb1⟩
  obtain ⟨hc1, hf1⟩ := bcell hb1
  have hz1 : w.heap.size + 1 < w1.heap.size := by have := hb1.size; simp at this; omega
  have hB1 := hb.trans (hb1.mono (by simp; omega))
  by_cases h0 : l = 0
  · have hd1 : d = 1 := by have := HL.out; omega
    subst hd1
    subst h0
    rw [show Dig.sgn 0 = 0 from rfl]
    go_wp2_with fail
    refine (one_calls _).mono ?_
    rintro e w2 ⟨rfl, hb2⟩
    have hT2 := hb1.trans (hb2.mono hb1.size)
    clear hc1 hf1
    obtain ⟨hc2, hf2⟩ := bcell hT2
    have hz2 : w.heap.size + 1 < w2.heap.size := by have := hb2.size; omega
    go_wp2
    refine bodyPost_ret (v := .agg #[.int .i64 1, .slice none 0 0]) (by simp [results, Tryz.results182, go_sem, hc2]) rfl ⟨_, _, _, _, rfl, below_set2 (hB1.trans (hb2.mono hB1.size)) (by omega) _ _, IntC.small (by decide) (by decide)⟩
  · have hs : (Dig.sgn l == 0) = false := by
      rw [beq_eq_false_iff_ne]; unfold Dig.sgn; split
      · omega
      · split <;> omega
    have hl : l = (d : Int) := by have := HL.out; omega
    subst hl
    clear h0
    go_wp2
    refine bodyPost_ret (v := .agg #[.int .i64 s', .slice A' n' c']) (by simp [results, Tryz.results182, go_sem, hc1]) rfl ⟨_, _, _, _, rfl, below_set2 hB1 (by omega) _ _, ?_⟩
    exact (H.out.below hD hB1).store2 _ (not_lo hD (by omega)) _ _ _ _

/-- how great a rational number's parts are -/
structure FitR (N : Nat) (x : Rat) : Prop where
  num : Fit N x.num
  den : Fit N (x.den : Int)
theorem Fit.mono {M N : Nat} {x : Int} (h : Fit M x) (hN : M ≤ N) : Fit N x := by
  have := Dig.pow_mono (b := B32) (by decide) hN
  exact ⟨by have := h.1; omega, by have := h.2; omega⟩
theorem FitR.mono {M N : Nat} {x : Rat} (h : FitR M x) (hN : M ≤ N) : FitR N x := ⟨h.num.mono hN, h.den.mono hN⟩
theorem Fit.ab {N : Nat} {x : Int} : Fit N x ↔ Dig.ab x < B32 ^ N := by
  constructor
  · rintro ⟨h1, h2⟩; unfold Dig.ab; split <;> omega
  · intro h; unfold Dig.ab at h; split at h
    · exact ⟨by omega, by omega⟩
    · have := Dig.pow_pos' (b := B32) (by decide) N; exact ⟨by omega, by omega⟩
theorem ab_mul (x y : Int) : Dig.ab (x * y) = Dig.ab x * Dig.ab y := by
  have h : ∀ z : Int, Dig.ab z = (z.natAbs : Int) := by intro z; unfold Dig.ab; split <;> omega
  rw [h, h, h, Int.natAbs_mul, Int.natCast_mul]
theorem Fit.mul {M N : Nat} {x y : Int} (h : Fit M x) (k : Fit N y) : Fit (M + N) (x * y) := by
  rw [Fit.ab] at *
  rw [ab_mul, Int.pow_add]
  have h0 := Dig.ab_nonneg x
  have k0 := Dig.ab_nonneg y
  have a1 : Dig.ab x * Dig.ab y ≤ Dig.ab x * B32 ^ N := Int.mul_le_mul_of_nonneg_left (by omega) h0
  have a2 : Dig.ab x * B32 ^ N < B32 ^ M * B32 ^ N := Int.mul_lt_mul_of_pos_right h (Dig.pow_pos' (by decide) N)
  omega
theorem Fit.add {N : Nat} {x y : Int} (h : Fit N x) (k : Fit N y) : Fit (N + 1) (x + y) := by
  have e : B32 ^ (N + 1) = B32 ^ N * 4294967296 := Int.pow_succ _ _
  have := Dig.pow_pos' (b := B32) (by decide) N
  obtain ⟨h1, h2⟩ := h
  obtain ⟨k1, k2⟩ := k
  exact ⟨by omega, by omega⟩
theorem Fit.quot {N : Nat} {x g : Int} (h : Fit N x) (hg : 0 < g) : Fit N (x / g) := by
  obtain ⟨h1, h2⟩ := h
  have hp := Dig.pow_pos' (b := B32) (by decide) N
  constructor
  · rcases Int.lt_or_le x 0 with hx | hx
    · have : x ≤ x / g := by
        rw [Int.le_ediv_iff_mul_le hg]
        have h := Int.mul_nonneg (show 0 ≤ -x by omega) (show 0 ≤ g - 1 by omega)
        have e : -x * (g - 1) = x - x * g := by grind
        omega
      omega
    · have := Int.ediv_nonneg hx (Int.le_of_lt hg); omega
  · rcases Int.lt_or_le x 0 with hx | hx
    · have := Int.ediv_neg_of_neg_of_pos hx hg; omega
    · have := Int.ediv_le_self g hx; omega
theorem FitR.divInt {N : Nat} {x y : Int} (h : Fit N x) (k : Fit N y) (hy : 0 < y) : FitR N (Rat.divInt x y) := by
  obtain ⟨v1, -, -, -, -, v6, v7⟩ := ratio_val x y (by omega)
  rw [Int.sign_eq_one_of_pos hy, Int.one_mul] at v6 v7
  exact ⟨by rw [v6]; exact h.quot (by omega), by rw [v7]; exact k.quot (by omega)⟩
theorem rat_add (x y : Rat) : x + y = Rat.divInt (x.num * (y.den : Int) + y.num * (x.den : Int)) ((x.den : Int) * (y.den : Int)) := by
  conv => lhs; rw [← Rat.num_divInt_den x, ← Rat.num_divInt_den y]
  exact Rat.divInt_add_divInt _ _ (by have := x.den_nz; omega) (by have := y.den_nz; omega)
theorem FitR.add {M N : Nat} {x y : Rat} (h : FitR M x) (k : FitR N y) : FitR (M + N + 1) (x + y) := by
  rw [rat_add]
  refine FitR.divInt ?_ ?_ ?_
  · exact (h.num.mul k.den).add (by rw [Nat.add_comm]; exact k.num.mul h.den)
  · exact (h.den.mul k.den).mono (by omega)
  · have := x.den_pos; have := y.den_pos; exact Int.mul_pos (by omega) (by omega)

end Go.Proofs.YtoffbdlgmnpblaaGreat
