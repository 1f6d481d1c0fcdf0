/- Part 14 of 55: Ex13. -/
import Derived.Test.YtoffbdlgmnpblaaGreatJ13
import Derived.Deep.RegionWith
import Derived.Deep.LoopGhost

/- Package exact: the greatest common divisor. -/
namespace Go.Proofs.YtoffbdlgmnpblaaGreat
open Go.RowKit
set_option maxHeartbeats 4000000
set_option maxRecDepth 100000

/-- a box at block g holds an integer's fields -/
structure Box (w : World) (g : Nat) (s : Int) (A : Option Addr) (n c : Nat) : Prop where
  c0 : w.cell? ⟨g, 0, none⟩ = some (.int .i64 s)
  c1 : w.cell? ⟨g, 1, none⟩ = some (.slice A n c)
  f0 : w.frozen? ⟨g, 0, none⟩ = false
  f1 : w.frozen? ⟨g, 1, none⟩ = false
  lt : g < w.heap.size

theorem Box.below {w w' : World} {g : Nat} {s : Int} {A : Option Addr} {n c : Nat} (h : Box w g s A n c) (hb : Below w.heap.size w w') : Box w' g s A n c :=
  ⟨(hb.cell (p := ⟨g, 0, none⟩) h.lt).trans h.c0, (hb.cell (p := ⟨g, 1, none⟩) h.lt).trans h.c1, (hb.frozen (p := ⟨g, 0, none⟩) h.lt).trans h.f0, (hb.frozen (p := ⟨g, 1, none⟩) h.lt).trans h.f1, Nat.lt_of_lt_of_le h.lt hb.size⟩

theorem IntC.drew {w : World} {D : Nat → Prop} {s : Int} {A : Option Addr} {n c : Nat} {z : Int} (h : IntC w D s A n c z) : IntC w.drew D s A n c z := h.same fun _ _ => rfl
theorem Box.drew {w : World} {g : Nat} {s : Int} {A : Option Addr} {n c : Nat} (h : Box w g s A n c) : Box w.drew g s A n c := ⟨h.c0, h.c1, h.f0, h.f1, h.lt⟩
theorem Box.of_alloc (w : World) (s : Int) (A : Option Addr) (n c : Nat) (t : TypeId) (g : Nat) (hg : w.heap.size = g) : Box (w.alloc (.cells #[.int .i64 s, .slice A n c] t)) g s A n c :=
  ⟨(box_cells w g hg _ t 0).1, (box_cells w g hg _ t 1).1, (box_cells w g hg _ t 0).2, (box_cells w g hg _ t 1).2, by simp; omega⟩
theorem boxes3_box (w : World) (s : Int) (A : Option Addr) (n c : Nat) (s' : Int) (A' : Option Addr) (n' c' : Nat) (s'' : Int) (A'' : Option Addr) (n'' c'' : Nat) (t : TypeId) :
    let W := ((w.alloc (.cells #[.int .i64 s, .slice A n c] t)).alloc (.cells #[.int .i64 s', .slice A' n' c'] t)).alloc (.cells #[.int .i64 s'', .slice A'' n'' c''] t)
    Box W w.heap.size s A n c ∧ Box W (w.heap.size + 1) s' A' n' c' ∧ Box W (w.heap.size + 1 + 1) s'' A'' n'' c'' ∧ Below w.heap.size w W :=
  ⟨((Box.of_alloc w s A n c t _ rfl).below ((Below.refl _ _).alloc (Nat.le_refl _) _)).below ((Below.refl _ _).alloc (Nat.le_refl _) _), (Box.of_alloc _ s' A' n' c' t _ (by simp)).below ((Below.refl _ _).alloc (Nat.le_refl _) _), Box.of_alloc _ s'' A'' n'' c'' t _ (by simp), boxes3 _ _ _ _⟩
/-- a value stored into a box, another box untouched -/
theorem Box.set {w : World} {g : Nat} {s : Int} {A : Option Addr} {n c : Nat} (h : Box w g s A n c) (t : Int) (B : Option Addr) (m d : Nat) :
    Box ((w.setCell ⟨g, 0, none⟩ (.int .i64 t)).setCell ⟨g, 1, none⟩ (.slice B m d)) g t B m d := by
  refine ⟨?_, ?_, ?_, ?_, by simpa using h.lt⟩
  · rw [World.cell?_setCell_other _ _ _ _ (by simp), World.cell?_setCell_same _ _ _ h.c0]
  · exact World.cell?_setCell_same _ _ _ (u := .slice A n c) (by rw [World.cell?_setCell_other _ _ _ _ (by simp)]; exact h.c1)
  · rw [World.frozen?_setCell, World.frozen?_setCell]; exact h.f0
  · rw [World.frozen?_setCell, World.frozen?_setCell]; exact h.f1
theorem Box.far {w : World} {g g' : Nat} {s : Int} {A : Option Addr} {n c : Nat} (h : Box w g s A n c) (hg : g ≠ g') (u v : Value) :
    Box ((w.setCell ⟨g', 0, none⟩ u).setCell ⟨g', 1, none⟩ v) g s A n c := by
  refine ⟨?_, ?_, ?_, ?_, by simpa using h.lt⟩
  · rw [World.cell?_setCell_other _ _ _ _ (by simp <;> omega), World.cell?_setCell_other _ _ _ _ (by simp <;> omega)]; exact h.c0
  · rw [World.cell?_setCell_other _ _ _ _ (by simp <;> omega), World.cell?_setCell_other _ _ _ _ (by simp <;> omega)]; exact h.c1
  · rw [World.frozen?_setCell, World.frozen?_setCell]; exact h.f0
  · rw [World.frozen?_setCell, World.frozen?_setCell]; exact h.f1
theorem below_set2 {B : Nat} {a w : World} (h : Below B a w) {g : Nat} (hg : B ≤ g) (u v : Value) : Below B a ((w.setCell ⟨g, 0, none⟩ u).setCell ⟨g, 1, none⟩ v) := (h.setCell (by exact hg) u).setCell (by exact hg) v
/-- two numbers whose greatest common divisor is looked for -/
structure Two (x y : Int) (a b : Nat) : Prop where
  gcd : Nat.gcd a b = Int.gcd x y
theorem Two.step {x y : Int} {a b : Nat} (h : Two x y a b) : Two x y b (a % b) := ⟨by rw [Nat.gcd_comm, ← Nat.gcd_rec, Nat.gcd_comm]; exact h.gcd⟩
theorem Fit.le {N : Nat} {z : Int} (h : Fit N z) {y : Int} (h0 : 0 ≤ y) (h1 : y ≤ Dig.ab z) : Fit N y := by
  obtain ⟨h2, h3⟩ := h
  have : Dig.ab z < B32 ^ N := by unfold Dig.ab; split <;> omega
  exact ⟨by omega, by omega⟩

theorem Gcd_calls (s : Int) (A : Option Addr) (n c : Nat) (x : Int) (s' : Int) (A' : Option Addr) (n' c' : Nat) (y : Int) (D : Nat → Prop) (w : World) (hD : Lo D w)
    (hx : IntC w D s A n c x) (hy : IntC w D s' A' n' c' y) (N : Nat) (hN : N ≤ 536870912) (fx : Fit N x) (fy : Fit N y) :
    Calls Tryz.prog 187 #[.agg #[.int .i64 s, .slice A n c], .agg #[.int .i64 s', .slice A' n' c']] w fun e w' => ∃ t B m d, e = .returned (.agg #[.int .i64 t, .slice B m d]) ∧ Below w.heap.size w w' ∧
      IntC w' (gr D w w') t B m d (Int.gcd x y : Int) := by
  obtain ⟨b1, b2⟩ := hx.s_lt
  obtain ⟨b3, b4⟩ := hy.s_lt
  have HX := Lib.hid hx
  have HY := Lib.hid hy
  clear hx hy
  go_enter Tryz.func187, Tryz.ntmps187
  go_upto_region 1 with fail
  obtain ⟨x0, x1, x2, hB0⟩ := boxes3_box w s A n c s' A' n' c' 0 none 0 0 156
  generalize ((w.alloc (.cells #[.int .i64 s, .slice A n c] 156)).alloc (.cells #[.int .i64 s', .slice A' n' c'] 156)).alloc (.cells #[.int .i64 0, .slice none 0 0] 156) = W0 at *
  have z0 := x0.lt
  have z1 := x1.lt
  have z2 := x2.lt
  go_cut [] from 7 to 10 (fun wx => Below w.heap.size w wx ∧ Box wx w.heap.size (Dig.ab s) A n c ∧ Box wx (w.heap.size + 1) (Dig.ab s') A' n' c' ∧ Box wx (w.heap.size + 1 + 1) 0 none 0 0)
  case first =>
    have x0 := x0.drew
    have x1 := x1.drew
    have x2 := x2.drew
    have hB0 := hB0.drew
    have c00 := x0.c0; have c01 := x0.c1; have c10 := x1.c0; have c11 := x1.c1
    have f00 := x0.f0; have f01 := x0.f1; have f10 := x1.f0; have f11 := x1.f1
    go_region_with (go_at_call 238; refine (Abs_raw _ _ _ _ _ (by omega) (by omega)).mono ?_; rintro e w1 ⟨rfl, hb1⟩; have x0 := x0.below hb1; have x1 := x1.below hb1; have x2 := x2.below hb1; have c00 := x0.c0; have c01 := x0.c1; have c10 := x1.c0; have c11 := x1.c1; have f00 := x0.f0; have f01 := x0.f1; have f10 := x1.f0; have f11 := x1.f1; have hB0 := hB0.trans (hb1.mono hB0.size))
    all_goals
      go_wp2_with fail
      go_meet
      exact ⟨below_set2 (below_set2 hB0 (Nat.le_refl _) _ _) (by omega) _ _, (x0.set _ _ _ _).far (by omega) _ _, (x1.far (by omega) _ _).set _ _ _ _, (x2.far (by omega) _ _).far (by omega) _ _⟩
  case rest =>
    obtain ⟨hB, y0, y1, y2⟩ := hcut
    clear x0 x1 x2 z0 z1 z2 hB0
    have hi := (HX.out.below hD hB).abs
    have hj := (HY.out.below hD hB).abs
    have hax : Dig.ab x = ((x.natAbs : Nat) : Int) := by unfold Dig.ab; split <;> omega
    have hay : Dig.ab y = ((y.natAbs : Nat) : Int) := by unfold Dig.ab; split <;> omega
    have hfx : Fit N (x.natAbs : Int) := by rw [← hax]; exact fx.le (Dig.ab_nonneg _) (Int.le_refl _)
    have hfy : Fit N (y.natAbs : Int) := by rw [← hay]; exact fy.le (Dig.ab_nonneg _) (Int.le_refl _)
    rw [hax] at hi
    rw [hay] at hj
    clear hax hay
    have HGX := Lib.hid hfx
    have HGY := Lib.hid hfy
    clear hfx hfy
    obtain ⟨wo, rfl⟩ : ∃ wo : World, wo = wc := ⟨_, rfl⟩
    go_wp2_with fail
    go_loopg [] y.natAbs (fun b wr => ∃ (a : Nat) (s : Int) (A : Option Addr) (n c : Nat) (s' : Int) (A' : Option Addr) (n' c' : Nat), Below w.heap.size w wr ∧ Box wr w.heap.size s A n c ∧ Box wr (w.heap.size + 1) s' A' n' c' ∧ Box wr (w.heap.size + 1 + 1) 0 none 0 0 ∧
        IntC wr (fun k => D k ∨ (w.heap.size + 3 ≤ k ∧ k < wr.heap.size)) s A n c (a : Int) ∧ IntC wr (fun k => D k ∨ (w.heap.size + 3 ≤ k ∧ k < wr.heap.size)) s' A' n' c' (b : Int) ∧ Fit N (a : Int) ∧ Fit N (b : Int) ∧ Two x y a b)
    case atStart => exact ⟨_, _, _, _, _, _, _, _, _, hB, y0, y1, y2, hi.mono fun k hk => .inl hk, hj.mono fun k hk => .inl hk, HGX.out, HGY.out, ⟨rfl⟩⟩
    case round =>
      clear y0 y1 y2 hB hi hj
      obtain ⟨a, s1, A1, n1, c1, s2, A2, n2, c2, hB, x0, x1, x2, hi, hj, fa, fb, hg⟩ := hrel
      have z0 := x0.lt
      have z1 := x1.lt
      have z2 := x2.lt
      have c00 := x0.c0; have c01 := x0.c1; have c10 := x1.c0; have c11 := x1.c1
      have f00 := x0.f0; have f01 := x0.f1; have f10 := x1.f0; have f11 := x1.f1
      have hL : Lo (fun k => D k ∨ (w.heap.size + 3 ≤ k ∧ k < wr.heap.size)) wr := fun k hk => by
        have := hB.size
        rcases hk with hk | hk
        · exact Nat.lt_of_lt_of_le (hD k hk) this
        · exact hk.2
      go_wp2_with fail
      refine (Sign_calls _ _ _ _ _ _ _ hj).mono ?_
      rintro e w1 ⟨rfl, hb1⟩
      have x0 := x0.below hb1
      have x1 := x1.below hb1
      have x2 := x2.below hb1
      have hB1 := hB.trans (hb1.mono hB.size)
      have hi1 := hi.same (hL.same hb1)
      have hj1 := hj.same (hL.same hb1)
      have hL1 := hL.up hb1.size
      clear hi hj c00 c01 c10 c11 f00 f01 f10 f11 z0 z1 z2
      have z0 := x0.lt
      have z1 := x1.lt
      have z2 := x2.lt
      have c00 := x0.c0; have c01 := x0.c1; have c10 := x1.c0; have c11 := x1.c1
      have f00 := x0.f0; have f01 := x0.f1; have f10 := x1.f0; have f11 := x1.f1
      have f20 := x2.f0; have f21 := x2.f1; have c20 := x2.c0; have c21 := x2.c1
      have hzz := x2.lt
      have hsz0 := hB.size
      have hsz1 := hb1.size
      by_cases hk : gk = 0
      · subst hk
        rw [show Dig.sgn ((0 : Nat) : Int) = 0 from rfl]
        go_wp2
        refine bodyPost_ret (v := .agg #[.int .i64 s1, .slice A1 n1 c1]) (by simp [results, Tryz.results187, go_sem, c20, c21]) rfl ⟨_, _, _, _, rfl, below_set2 hB1 (by omega) _ _, ?_⟩
        have e := hg.gcd
        rw [Nat.gcd_zero_right] at e
        rw [← e]
        refine (hi1.store2 (w.heap.size + 1 + 1) ?_ 0 1 _ _).mono ?_
        · rintro (hk | hk)
          · have := hD _ hk; omega
          · omega
        · rintro k (hk | hk)
          · exact .inl hk
          · exact .inr ⟨by omega, by simp [World.setCell]; omega⟩
      · rw [Dig.sgn_gt (by omega)]
        go_wp2_with fail
        refine (Quo_calls _ _ _ _ _ _ _ _ _ _ _ _ hL1 hi1 hj1 (by omega) N hN fa fb).mono ?_
        rintro e w2 ⟨t, B, m, d, t', B', m', d', rfl, hb2, hq, hr⟩
        go_upto_region 4 with fail
        have hA := boxes2 w2 (.cells #[.int .i64 t, .slice B m d] 156) (.cells #[.int .i64 t', .slice B' m' d'] 156)
        have x6 := Box.of_alloc (w2.alloc (.cells #[.int .i64 t, .slice B m d] 156)) t' B' m' d' 156 (w2.heap.size + 1) (by simp)
        have hsz2 := hb2.size
        have hw3 : ((w2.alloc (.cells #[.int .i64 t, .slice B m d] 156)).alloc (.cells #[.int .i64 t', .slice B' m' d'] 156)).heap.size = w2.heap.size + 2 := by simp
        have HW3 := Lib.hid hw3
        clear hw3 hi1
        generalize (w2.alloc (.cells #[.int .i64 t, .slice B m d] 156)).alloc (.cells #[.int .i64 t', .slice B' m' d'] 156) = w3 at *
        have x0 := (x0.below hb2).below hA
        have x1 := (x1.below hb2).below hA
        have x2 := (x2.below hb2).below hA
        have hB3 := (hB1.trans (hb2.mono hB1.size)).trans (hA.mono (by omega))
        have hr3 := hr.same (w' := w3) fun k hk => hA.block k (by
          rcases hk with hk | hk
          · have := hL1 k hk; omega
          · exact hk.2)
        have hj3 := (hj1.same (hL1.same hb2)).same (w' := w3) fun k hk => hA.block k (by have := hL1 k hk; omega)
        clear hr hj1 c00 c01 c10 c11 f00 f01 f10 f11 f20 f21 c20 c21 z0 z1 z2 hq
        have z0 := x0.lt
        have z1 := x1.lt
        have z2 := x2.lt
        have c00 := x0.c0; have c01 := x0.c1; have c10 := x1.c0; have c11 := x1.c1
        have f00 := x0.f0; have f01 := x0.f1; have f10 := x1.f0; have f11 := x1.f1
        have c60 := x6.c0; have c61 := x6.c1; have f60 := x6.f0; have f61 := x6.f1; have z6 := x6.lt
        go_region
        go_wp2_with fail
        have hpos : 0 < gk := Nat.pos_of_ne_zero hk
        have hm : (a : Int).tmod (gk : Int) = ((a % gk : Nat) : Int) := by rw [Int.ofNat_tmod]
        rw [hm] at hr3
        have hml := Nat.mod_lt a hpos
        have hmle := Nat.mod_le a gk
        go_roundg (a % gk)
        case measure => exact hml
        case rel =>
          have n0 : ∀ k, k = w.heap.size ∨ k = w.heap.size + 1 → ¬ (D k ∨ (w.heap.size + 3 ≤ k ∧ k < w1.heap.size)) := by
            rintro k hk (h | h)
            · have := hD _ h; omega
            · omega
          refine ⟨gk, s2, A2, n2, c2, t', B', m', d', (below_set2 (below_set2 hB3 (Nat.le_refl _) _ _) (by omega) _ _).drew, ((x0.set _ _ _ _).far (by omega) _ _).drew, ((x1.far (by omega) _ _).set _ _ _ _).drew, ((x2.far (by omega) _ _).far (by omega) _ _).drew, ?_, ?_, fb, ?_, hg.step⟩
          · refine (store4 hj3 w.heap.size (w.heap.size + 1) ?_ ?_ _ _ _ _).drew.mono ?_
            · rintro (h | h)
              · have := hD _ h; omega
              · omega
            · rintro (h | h)
              · have := hD _ h; omega
              · omega
            · rintro k (h | h)
              · exact .inl h
              · exact .inr ⟨h.1, by have := HW3.out; simp [World.setCell]; omega⟩
          · refine (store4 hr3 w.heap.size (w.heap.size + 1) ?_ ?_ _ _ _ _).drew.mono ?_
            · rintro ((h | h) | h)
              · have := hD _ h; omega
              · omega
              · omega
            · rintro ((h | h) | h)
              · have := hD _ h; omega
              · omega
              · omega
            · rintro k ((h | h) | h)
              · exact .inl h
              · exact .inr ⟨h.1, by have := HW3.out; simp [World.setCell]; omega⟩
              · exact .inr ⟨by omega, by have := HW3.out; simp [World.setCell]; omega⟩
          · exact fb.le (by omega) (by rw [Dig.ab_of_pos (by omega)]; omega)

end Go.Proofs.YtoffbdlgmnpblaaGreat
