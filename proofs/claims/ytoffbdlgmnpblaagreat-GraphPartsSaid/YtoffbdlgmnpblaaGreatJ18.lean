/- Part 18: Rf7. -/
import Derived.Test.YtoffbdlgmnpblaaGreatJ17
import Derived.Deep.CutRange
import Derived.Deep.RegionWith

/- The reference's exact integers: absolute values, sums, differences, comparisons. -/
namespace Go.Proofs.YtoffbdlgmnpblaaGreat
open Go.RowKit
set_option maxHeartbeats 4000000
set_option maxRecDepth 100000

/-- what came in, and what is new behind the boxes -/
abbrev Rd (D : Nat → Prop) (B : Nat) (W : World) : Nat → Prop := fun k => D k ∨ (B ≤ k ∧ k < W.heap.size)
section
variable {w W W' : World} {D : Nat → Prop} {B : Nat} {v : Value} {z : Int}
theorem Rd.lo (hD : Lo D w) (hs : w.heap.size ≤ W.heap.size) : Lo (Rd D B W) W := fun k hk => hk.elim (fun h => Nat.lt_of_lt_of_le (hD k h) hs) (·.2)
theorem Rd.up (hb : W.heap.size ≤ W'.heap.size) : ∀ k, Rd D B W k → Rd D B W' k := fun _ hk => hk.elim .inl fun h => .inr ⟨h.1, Nat.lt_of_lt_of_le h.2 hb⟩
theorem RIntV.lift (h : RIntV W (Rd D B W) v z) (hD : Lo D w) (hs : w.heap.size ≤ W.heap.size) (hb : Below W.heap.size W W') : RIntV W' (Rd D B W') v z :=
  (h.same ((Rd.lo hD hs).same hb)).mono (Rd.up hb.size)
theorem RIntV.start (h : RIntV w D v z) (hD : Lo D w) (hb : Below w.heap.size w W) : RIntV W (Rd D B W) v z := (h.same (hD.same hb)).mono fun _ => .inl
theorem RIntV.got (h : RIntV W' (gr (Rd D B W) W W') v z) (hB : B ≤ W.heap.size) (hb : Below W.heap.size W W') : RIntV W' (Rd D B W') v z :=
  h.mono fun k hk => by
    have := hb.size
    rcases hk with (h | h) | h
    · exact .inl h
    · exact .inr ⟨h.1, by omega⟩
    · exact .inr ⟨by omega, h.2⟩
theorem ints_lift {xs : List Int} (h : Sl (Kind.int .i64) W (Rd D B W) v xs) (hD : Lo D w) (hs : w.heap.size ≤ W.heap.size) (hb : Below W.heap.size W W') : Sl (Kind.int .i64) W' (Rd D B W') v xs :=
  (h.same ((Rd.lo hD hs).same hb)).mono (Rd.up hb.size)
theorem ints_got {xs : List Int} (h : Sl (Kind.int .i64) W' (gr (Rd D B W) W W') v xs) (hB : B ≤ W.heap.size) (hb : Below W.heap.size W W') : Sl (Kind.int .i64) W' (Rd D B W') v xs :=
  h.mono fun k hk => by
    have := hb.size
    rcases hk with (h | h) | h
    · exact .inl h
    · exact .inr ⟨h.1, by omega⟩
    · exact .inr ⟨by omega, h.2⟩
theorem ints_own {xs : List Int} {n : Nat} (h : W.ownsRow B 3 1 v n (ints xs)) : Sl (Kind.int .i64) W (Rd D B W) v xs := (own_intsS h).mono fun _ hk => .inr ⟨hk.1, hk.2.1⟩
theorem made_in {s : Int} (h : RIntV W' (Rd D B W) v s) (hb : W.heap.size ≤ W'.heap.size) : RIntV W' (Rd D B W') v s := h.mono (Rd.up hb)
/-- the result is stored into its box -/
theorem fin3 {g : Nat} {s : Int} {b : Bool} {A : Option Addr} {n c : Nat} {x0 y0 z0 : Value} {t : TypeId} (hD : Lo D w) (hb : Below w.heap.size w W) (hg : w.heap.size ≤ g) (hgB : g < B) (hx : W.heap[g]? = some (.cells #[x0, y0, z0] t (0, 0)))
    (h : RIntV W (Rd D B W) (.agg #[.int .i64 s, .bool b, .slice A n c]) z) :
    ∃ wf, wf = ((W.setCell ⟨g, 0, none⟩ (.int .i64 s)).setCell ⟨g, 1, none⟩ (.bool b)).setCell ⟨g, 2, none⟩ (.slice A n c) ∧ wf.cell? ⟨g, 0, none⟩ = some (.int .i64 s) ∧ wf.cell? ⟨g, 1, none⟩ = some (.bool b) ∧ wf.cell? ⟨g, 2, none⟩ = some (.slice A n c) ∧
      Below w.heap.size w wf ∧ RIntV wf (gr D w wf) (.agg #[.int .i64 s, .bool b, .slice A n c]) z := by
  have hbx := st3_blk hx (.int .i64 s) (.bool b) (.slice A n c)
  refine ⟨_, rfl, (blk_at hbx 0).1, (blk_at hbx 1).1, (blk_at hbx 2).1, st3_below hb hg _ _ _, RIntV.st3 h (fun k hk => ?_) _ _ _⟩
  have hs := st3_size W g (.int .i64 s) (.bool b) (.slice A n c)
  have hw := hb.size
  rcases hk with hk | hk
  · exact ⟨by have := hD k hk; omega, .inl hk⟩
  · exact ⟨by omega, .inr ⟨by omega, by rw [hs]; exact hk.2⟩⟩
end
theorem RIntV.shape {w : World} {D : Nat → Prop} {v : Value} {z : Int} (h : RIntV w D v z) : ∃ s b A n c, v = .agg #[.int .i64 s, .bool b, .slice A n c] := by
  obtain ⟨s, b, A, n, c, e, -⟩ := h
  exact ⟨s, b, A, n, c, e⟩

theorem RAbs_calls (z : Int) (v : Value) (D : Nat → Prop) (w : World) (hD : Lo D w) (h : RIntV w D v z) :
    Calls Tryz.prog 210 #[v] w fun e w' => ∃ v', e = .returned v' ∧ Below w.heap.size w w' ∧ RIntV w' (gr D w w') v' (Dig.ab z) := by
  have H := Lib.hid h
  obtain ⟨s, b, A, n, c, rfl⟩ := h.shape
  have HD := Lib.hid hD
  clear h hD
  obtain ⟨W0, hW0⟩ : ∃ W : World, W = (w.alloc (.cells #[.int .i64 s, .bool b, .slice A n c] 136)).alloc (.cells #[.int .i64 0, .bool false, .slice none 0 0] 136) := ⟨_, rfl⟩
  have hb0 : Below w.heap.size w W0 := by rw [hW0]; exact boxes2 _ _ _
  have hx0 : W0.heap[w.heap.size]? = some (.cells #[.int .i64 s, .bool b, .slice A n c] 136 (0, 0)) := by rw [hW0]; exact (heap_alloc_old _ _ (by simp)).trans (heap_alloc_new _ _)
  have hx1 : W0.heap[w.heap.size + 1]? = some (.cells #[.int .i64 0, .bool false, .slice none 0 0] 136 (0, 0)) := by
    have := heap_alloc_new (w.alloc (.cells #[.int .i64 s, .bool b, .slice A n c] 136)) (.cells #[.int .i64 0, .bool false, .slice none 0 0] 136)
    rw [World.size_alloc] at this
    rw [hW0]; exact this
  have hz0 : W0.heap.size = w.heap.size + 2 := by rw [hW0]; simp
  have H0 := Lib.hid (RIntV.start (B := w.heap.size + 2) H.out HD.out hb0)
  have HB0 := Lib.hid hb0
  have HX0 := Lib.hid hx0
  have HX1 := Lib.hid hx1
  have HZ0 := Lib.hid hz0
  have HW0 := Lib.hid hW0
  have HL0 := Lib.hid (Rd.lo (B := w.heap.size + 2) HD.out hb0.size)
  clear hb0 hx0 hx1 hz0 hW0
  go_enter Tryz.func210, Tryz.ntmps210
  go_upto_region 1 with fail
  rw [← HW0.out]
  clear HW0
  obtain ⟨c0, -⟩ := blk_at HX0.out 0
  obtain ⟨c1, -⟩ := blk_at HX0.out 1
  obtain ⟨c2, -⟩ := blk_at HX0.out 2
  go_wp2_with fail
  refine (RSign_calls z _ _ W0 H0.out).mono ?_
  rintro e w1 ⟨rfl, hb1⟩
  have HB1 := Lib.hid hb1
  have HX01 := Lib.hid ((hb1.block w.heap.size (by have := HZ0.out; omega)).trans HX0.out)
  have HX11 := Lib.hid ((hb1.block (w.heap.size + 1) (by have := HZ0.out; omega)).trans HX1.out)
  have H1 := Lib.hid (H0.out.lift HD.out HB0.out.size hb1)
  have HB01 := Lib.hid (HB0.out.trans (hb1.mono HB0.out.size))
  have hz1 := hb1.size
  clear c0 c1 c2 hb1
  obtain ⟨c0, -⟩ := blk_at HX01.out 0
  obtain ⟨c1, -⟩ := blk_at HX01.out 1
  obtain ⟨c2, -⟩ := blk_at HX01.out 2
  by_cases hz : z < 0
  · rw [Dig.sgn_lt hz]
    have HAB := Lib.hid (Dig.ab_of_neg hz)
    have HL1 := Lib.hid (Rd.lo (B := w.heap.size + 2) HD.out HB01.out.size)
    clear hz
    go_wp2_with fail
    refine (RMinus_calls z _ _ w1 HL1.out H1.out).mono ?_
    rintro e w2 ⟨v', rfl, hb2, h2⟩
    obtain ⟨s2, b2, A2, n2, c2', rfl⟩ := h2.shape
    have H2 := Lib.hid (made_in (W := w1) h2 hb2.size)
    have HB02 := Lib.hid (HB01.out.trans (hb2.mono HB01.out.size))
    have HX12 := Lib.hid ((hb2.block (w.heap.size + 1) (by have := HZ0.out; omega)).trans HX11.out)
    clear c0 c1 c2 hb2 h2
    obtain ⟨c0, f0⟩ := blk_at HX12.out 0
    obtain ⟨c1, f1⟩ := blk_at HX12.out 1
    obtain ⟨c2, f2⟩ := blk_at HX12.out 2
    go_wp2
    obtain ⟨wf, hwf, e0, e1, e2, hbel, hri⟩ := fin3 HD.out HB02.out (Nat.le_succ _) (Nat.lt_succ_self _) HX12.out H2.out
    rw [← hwf]
    clear hwf
    exact bodyPost_ret (v := .agg #[.int .i64 s2, .bool b2, .slice A2 n2 c2']) (by simp [results, Tryz.results210, go_sem, e0, e1, e2]) rfl ⟨_, rfl, hbel, by rw [HAB.out]; exact hri⟩
  · have hs : (Dig.sgn z < 0) = False := by simp; have := Dig.sgn_range z; rcases (show z = 0 ∨ 0 < z by omega) with h | h; (subst h; decide); (rw [Dig.sgn_gt h]; decide)
    have HAB := Lib.hid (Dig.ab_of_pos (show 0 ≤ z by omega))
    obtain ⟨sg, hsg⟩ : ∃ x, x = Dig.sgn z := ⟨_, rfl⟩
    rw [← hsg] at hs
    rw [← hsg]
    have hsn : ¬ sg < 0 := by rw [hs]; exact id
    clear hs hsg hz
    obtain ⟨d0, f0⟩ := blk_at HX11.out 0
    obtain ⟨d1, f1⟩ := blk_at HX11.out 1
    obtain ⟨d2, f2⟩ := blk_at HX11.out 2
    go_wp2
    obtain ⟨wf, hwf, e0, e1, e2, hbel, hri⟩ := fin3 HD.out HB01.out (Nat.le_succ _) (Nat.lt_succ_self _) HX11.out H1.out
    rw [← hwf]
    clear hwf
    exact bodyPost_ret (v := .agg #[.int .i64 s, .bool b, .slice A n c]) (by simp [results, Tryz.results210, go_sem, e0, e1, e2]) rfl ⟨_, rfl, hbel, by rw [HAB.out]; exact hri⟩

theorem rb3 (w : World) (a b c : Array Value) (t t' t'' : TypeId) : ∃ W, W = ((w.alloc (.cells a t)).alloc (.cells b t')).alloc (.cells c t'') ∧ Below w.heap.size w W ∧ W.heap.size = w.heap.size + 3 ∧ W.heap[w.heap.size]? = some (.cells a t (0, 0)) ∧ W.heap[w.heap.size + 1]? = some (.cells b t' (0, 0)) ∧ W.heap[w.heap.size + 2]? = some (.cells c t'' (0, 0)) := by
  refine ⟨_, rfl, boxes3 _ _ _ _, by simp, ?_, ?_, ?_⟩
  · exact (heap_alloc_old _ _ (by simp; omega)).trans ((heap_alloc_old _ _ (by simp)).trans (heap_alloc_new _ _))
  · have := heap_alloc_new (w.alloc (.cells a t)) (.cells b t')
    rw [World.size_alloc] at this
    exact (heap_alloc_old _ _ (by simp)).trans this
  · have := heap_alloc_new ((w.alloc (.cells a t)).alloc (.cells b t')) (.cells c t'')
    rw [World.size_alloc, World.size_alloc] at this
    exact this

theorem sgn_dec (z : Int) : decide (Dig.sgn z < 0) = decide (z < 0) := by
  rw [decide_eq_decide]
  rcases Int.lt_trichotomy z 0 with h | h | h
  · rw [Dig.sgn_lt h]; omega
  · subst h; decide
  · rw [Dig.sgn_gt h]; omega
theorem dig_len {xs : List Int} {z : Int} (ho : Dig.ok 1073741824 xs) (ht : Dig.trimmed xs) (hv : Dig.val 1073741824 xs = Dig.ab z) {N : Nat} (hz : Dig.ab z < 1073741824 ^ N) : xs.length ≤ N := by
  apply Nat.le_of_not_lt
  intro hl
  have h1 := Dig.val_ge (b := 1073741824) (by decide) ho ht (by intro e; subst e; simp at hl)
  have h2 := Dig.pow_mono (b := 1073741824) (by decide) (show N ≤ xs.length - 1 by omega)
  omega

theorem RPlus_calls (z y : Int) (v u : Value) (D : Nat → Prop) (w : World) (hD : Lo D w) (h : RIntV w D v z) (h' : RIntV w D u y) (hz : Dig.ab z < 1073741824 ^ 1000) (hy : Dig.ab y < 1073741824 ^ 1000) :
    Calls Tryz.prog 170 #[v, u] w fun e w' => ∃ v', e = .returned v' ∧ Below w.heap.size w w' ∧ RIntV w' (gr D w w') v' (z + y) := by
  have HV := Lib.hid h
  have HU := Lib.hid h'
  obtain ⟨s, b, A, n, c, rfl, hi⟩ := h
  obtain ⟨s', b', A', n', c', rfl, hi'⟩ := h'
  have HD := Lib.hid hD
  have HI := Lib.hid hi
  have HI' := Lib.hid hi'
  have HZ := Lib.hid hz
  have HY := Lib.hid hy
  clear hD hi hi' hz hy
  obtain ⟨W0, hW0, hb0, hz0, hx0, hx1, hx2⟩ := rb3 w #[.int .i64 s, .bool b, .slice A n c] #[.int .i64 s', .bool b', .slice A' n' c'] #[.int .i64 0, .bool false, .slice none 0 0] 136 136 136
  have HV0 := Lib.hid (RIntV.start (B := w.heap.size + 3) HV.out HD.out hb0)
  have HU0 := Lib.hid (RIntV.start (B := w.heap.size + 3) HU.out HD.out hb0)
  have HB0 := Lib.hid hb0
  have HX0 := Lib.hid hx0
  have HX1 := Lib.hid hx1
  have HX2 := Lib.hid hx2
  have HZ0 := Lib.hid hz0
  have HW0 := Lib.hid hW0
  have HL0 := Lib.hid (Rd.lo (B := w.heap.size + 3) HD.out hb0.size)
  clear hb0 hx0 hx1 hx2 hz0 hW0
  go_enter Tryz.func170, Tryz.ntmps170
  go_upto_region 1 with fail
  rw [← HW0.out]
  clear HW0
  obtain ⟨c0, -⟩ := blk_at HX0.out 0
  obtain ⟨c1, -⟩ := blk_at HX0.out 1
  obtain ⟨c2, -⟩ := blk_at HX0.out 2
  obtain ⟨d0, -⟩ := blk_at HX1.out 0
  obtain ⟨d1, -⟩ := blk_at HX1.out 1
  obtain ⟨d2, -⟩ := blk_at HX1.out 2
  by_cases hsm : n = 0 ∧ n' = 0
  · obtain ⟨rfl, rfl⟩ := hsm
    obtain ⟨rfl, hs⟩ : s = z ∧ (-2305843009213693952 < s ∧ s < 2305843009213693952) := by
      rcases HI.out with ⟨-, -, -, -, h4, h5, h6⟩ | ⟨xs, -, h1, -, -, h5, -⟩
      · subst h4; exact ⟨rfl, h5, h6⟩
      · have := h1.len.1; have := big_ne h5; omega
    obtain ⟨rfl, hs'⟩ : s' = y ∧ (-2305843009213693952 < s' ∧ s' < 2305843009213693952) := by
      rcases HI'.out with ⟨-, -, -, -, h4, h5, h6⟩ | ⟨xs, -, h1, -, -, h5, -⟩
      · subst h4; exact ⟨rfl, h5, h6⟩
      · have := h1.len.1; have := big_ne h5; omega
    go_wp2_with fail
    refine (ROf_calls (s + s') W0 (by omega) (by omega)).mono ?_
    rintro e w1 ⟨v', rfl, hb1, h1⟩
    obtain ⟨s2, b2, A2, n2, c2', rfl⟩ := h1.shape
    have HB01 := Lib.hid (HB0.out.trans (hb1.mono HB0.out.size))
    have HX21 := Lib.hid ((hb1.block (w.heap.size + 2) (by have := HZ0.out; omega)).trans HX2.out)
    have H1 := Lib.hid (h1.mono (D' := Rd D (w.heap.size + 3) w1) fun k hk => .inr ⟨by have := hk.1; have := HZ0.out; omega, hk.2⟩)
    clear hb1 h1 c0 c1 c2 d0 d1 d2
    obtain ⟨c0, f0⟩ := blk_at HX21.out 0
    obtain ⟨c1, f1⟩ := blk_at HX21.out 1
    obtain ⟨c2, f2⟩ := blk_at HX21.out 2
    go_wp2
    obtain ⟨wf, hwf, e0, e1, e2, hbel, hri⟩ := fin3 HD.out HB01.out (Nat.le_add_right _ 2) (Nat.lt_succ_self _) HX21.out H1.out
    rw [← hwf]
    clear hwf
    exact bodyPost_ret (v := .agg #[.int .i64 s2, .bool b2, .slice A2 n2 c2']) (by simp [results, Tryz.results170, go_sem, e0, e1, e2]) rfl ⟨_, rfl, hbel, hri⟩
  · go_cut [18] from 9 to 18 (fun bv wx => bv = .bool false ∧ wx = W0)
    case first =>
      by_cases hn : n = 0
      · subst hn
        have hq : ((n' : Int) == 0) = false := by have : ¬ n' = 0 := fun e => hsm ⟨rfl, e⟩; simpa using this
        go_wp2
        go_meet
        exact ⟨rfl, rfl⟩
      · go_wp2
        go_meet
        exact ⟨rfl, rfl⟩
    case rest =>
      obtain ⟨rfl, rfl⟩ := hcut
      clear hsm c0 c1 c2 d0 d1 d2
      obtain ⟨wo, rfl⟩ : ∃ wo : World, wo = wc := ⟨_, rfl⟩
      obtain ⟨c0, -⟩ := blk_at HX0.out 0
      obtain ⟨c1, -⟩ := blk_at HX0.out 1
      obtain ⟨c2, -⟩ := blk_at HX0.out 2
      obtain ⟨d0, -⟩ := blk_at HX1.out 0
      obtain ⟨d1, -⟩ := blk_at HX1.out 1
      obtain ⟨d2, -⟩ := blk_at HX1.out 2
      go_upto_region 3 with fail
      go_cut [5, 6] from 25 to 28 (fun v5 v6 wx => ∃ (PA : Option Addr) (pn pc : Nat) (QA : Option Addr) (qn qc : Nat), v5 = .slice PA pn pc ∧ v6 = .slice QA qn qc ∧ Hid (Below wo.heap.size wo wx ∧ ∃ xs ys, Sl (Kind.int .i64) wx (Rd D (w.heap.size + 3) wx) (.slice PA pn pc) xs ∧ Sl (Kind.int .i64) wx (Rd D (w.heap.size + 3) wx) (.slice QA qn qc) ys ∧ Dig.ok 1073741824 xs ∧ Dig.trimmed xs ∧ Dig.val 1073741824 xs = Dig.ab z ∧ Dig.ok 1073741824 ys ∧ Dig.trimmed ys ∧ Dig.val 1073741824 ys = Dig.ab y))
      case first =>
        have HVD : Hid (RIntV wo.drew (Rd D (w.heap.size + 3) wo.drew) (.agg #[.int .i64 s, .bool b, .slice A n c]) z) := Lib.hid (HV0.out.same fun _ _ => rfl)
        have HUD : Hid (RIntV wo.drew (Rd D (w.heap.size + 3) wo.drew) (.agg #[.int .i64 s', .bool b', .slice A' n' c']) y) := Lib.hid (HU0.out.same fun _ _ => rfl)
        have HLD : Hid (Lo (Rd D (w.heap.size + 3) wo.drew) wo.drew) := HL0
        have HBD : Hid (Below wo.heap.size wo wo.drew) := Lib.hid ((Below.refl _ _).drew)
        have HZD : Hid (w.heap.size + 3 ≤ wo.drew.heap.size) := Lib.hid (Nat.le_of_eq HZ0.out.symm)
        have hsz : w.heap.size + 3 = wo.drew.heap.size := HZ0.out.symm
        go_region_with (first
          | ((with_reducible show Calls _ 213 #[(.agg #[.int .i64 s, .bool b, .slice A n c])] wo.drew _); (refine (Rlist_calls z _ (Rd D (w.heap.size + 3) wo.drew) wo.drew HLD.out HVD.out).mono ?_); (rintro e y1 ⟨p1, rfl, hb1, xs, hx, hox, htx, hvx⟩); (have hx1 := ints_got hx HZD.out hb1); (have HXS := Lib.hid hx1); (have HXF : Hid (Dig.ok 1073741824 xs ∧ Dig.trimmed xs ∧ Dig.val 1073741824 xs = Dig.ab z) := Lib.hid ⟨hox, htx, hvx⟩); (obtain ⟨PA, pc, rfl, -, -, -⟩ := hx1.form); (have HB1 := Lib.hid (HBD.out.trans (hb1.mono HBD.out.size))); (have HU1 : Hid (RIntV y1 (Rd D (w.heap.size + 3) y1) (.agg #[.int .i64 s', .bool b', .slice A' n' c']) y) := Lib.hid (HUD.out.lift HD.out (by have := HBD.out.size; omega) hb1)); (have hs1 := hb1.size); (have HX11 := Lib.hid ((hb1.block (w.heap.size + 1) (by omega)).trans HX1.out)); (have e0 := (blk_at HX11.out 0).1); (have e1 := (blk_at HX11.out 1).1); (have e2 := (blk_at HX11.out 2).1); (clear hx hx1 hox htx hvx hb1))
          | ((with_reducible show Calls _ 213 #[(.agg #[.int .i64 s', .bool b', .slice A' n' c'])] y1 _); (refine (Rlist_calls y _ (Rd D (w.heap.size + 3) y1) y1 (Rd.lo HD.out (by omega)) HU1.out).mono ?_); (rintro e y2 ⟨p2, rfl, hb2, ys, hy, hoy, hty, hvy⟩); (have hy1 := ints_got hy (by omega) hb2); (have HYS := Lib.hid hy1); (have HYF : Hid (Dig.ok 1073741824 ys ∧ Dig.trimmed ys ∧ Dig.val 1073741824 ys = Dig.ab y) := Lib.hid ⟨hoy, hty, hvy⟩); (obtain ⟨QA, qc, rfl, -, -, -⟩ := hy1.form); (have HB2 := Lib.hid (HB1.out.trans (hb2.mono HB1.out.size))); (have HXS2 := Lib.hid (ints_lift HXS.out HD.out (by omega) hb2)); (clear hy hy1 hoy hty hvy hb2)))
        all_goals
          go_wp2_with fail
          go_meet
          exact ⟨_, _, _, _, _, _, rfl, rfl, Lib.hid ⟨HB2.out, xs, ys, HXS2.out, HYS.out, HXF.out.1, HXF.out.2.1, HXF.out.2.2, HYF.out.1, HYF.out.2.1, HYF.out.2.2⟩⟩
      case rest =>
        obtain ⟨w1, rfl⟩ : ∃ W1 : World, W1 = wc := ⟨_, rfl⟩
        obtain ⟨PA, pn, pc, QA, qn, qc, rfl, rfl, HC⟩ := hcut
        obtain ⟨hbc, xs, ys, hx, hy, hox, htx, hvx, hoy, hty, hvy⟩ := HC.out
        obtain ⟨rfl, gp1, gp2⟩ := hx.len
        obtain ⟨rfl, gq1, gq2⟩ := hy.len
        have HB01 := Lib.hid (HB0.out.trans (hbc.mono HB0.out.size))
        have HX01 := Lib.hid ((hbc.block w.heap.size (by have := HZ0.out; omega)).trans HX0.out)
        have HX11 := Lib.hid ((hbc.block (w.heap.size + 1) (by have := HZ0.out; omega)).trans HX1.out)
        have HX21 := Lib.hid ((hbc.block (w.heap.size + 2) (by have := HZ0.out; omega)).trans HX2.out)
        have HV1 := Lib.hid (HV0.out.lift HD.out HB0.out.size hbc)
        have HU1 := Lib.hid (HU0.out.lift HD.out HB0.out.size hbc)
        have hs1 : w.heap.size + 3 ≤ w1.heap.size := by have := hbc.size; have := HZ0.out; omega
        have HX1s := Lib.hid hx
        have HY1s := Lib.hid hy
        have HXL := Lib.hid (dig_len hox htx hvx HZ.out)
        have HYL := Lib.hid (dig_len hoy hty hvy HY.out)
        have HVX := Lib.hid hvx
        have HVY := Lib.hid hvy
        have HOX := Lib.hid hox
        have HOY := Lib.hid hoy
        have HTX := Lib.hid htx
        have HTY := Lib.hid hty
        clear hbc hx hy hvx hvy hox hoy htx hty HC c0 c1 c2 d0 d1 d2 HX0 HX1 HX2 HV0 HU0 HB0 HL0
        obtain ⟨c0, -⟩ := blk_at HX01.out 0
        obtain ⟨c1, -⟩ := blk_at HX01.out 1
        obtain ⟨c2, -⟩ := blk_at HX01.out 2
        obtain ⟨d0, -⟩ := blk_at HX11.out 0
        obtain ⟨d1, -⟩ := blk_at HX11.out 1
        obtain ⟨d2, -⟩ := blk_at HX11.out 2
        go_upto_region 4 with fail
        go_cut [7, 8] from 29 to 34 (fun v7 v8 wx => ∃ (one two : Bool), v7 = .bool one ∧ v8 = .bool two ∧ Hid (one = decide (z < 0) ∧ two = decide (y < 0) ∧ Below w1.heap.size w1 wx))
        case first =>
          have HVD : Hid (RIntV w1.drew (Rd D (w.heap.size + 3) w1.drew) (.agg #[.int .i64 s, .bool b, .slice A n c]) z) := Lib.hid (HV1.out.same fun _ _ => rfl)
          have HUD : Hid (RIntV w1.drew (Rd D (w.heap.size + 3) w1.drew) (.agg #[.int .i64 s', .bool b', .slice A' n' c']) y) := Lib.hid (HU1.out.same fun _ _ => rfl)
          have HBD : Hid (Below w1.heap.size w1 w1.drew) := Lib.hid ((Below.refl _ _).drew)
          have hsz : w.heap.size + 3 ≤ w1.drew.heap.size := hs1
          have HSZ := Lib.hid (sgn_dec z)
          have HSY := Lib.hid (sgn_dec y)
          go_region_with (first
            | ((with_reducible show Calls _ 176 #[(.agg #[.int .i64 s, .bool b, .slice A n c])] w1.drew _); (refine (RSign_calls z _ _ w1.drew HVD.out).mono ?_); (rintro e y1 ⟨rfl, hb1⟩); (have HB1 := Lib.hid (HBD.out.trans (hb1.mono HBD.out.size))); (have HU2 : Hid (RIntV y1 (Rd D (w.heap.size + 3) y1) (.agg #[.int .i64 s', .bool b', .slice A' n' c']) y) := Lib.hid (HUD.out.lift HD.out (by omega) hb1)); (have hs2 := hb1.size); (have HX12 := Lib.hid ((hb1.block (w.heap.size + 1) (by omega)).trans HX11.out)); (have e0 := (blk_at HX12.out 0).1); (have e1 := (blk_at HX12.out 1).1); (have e2 := (blk_at HX12.out 2).1); (clear hb1))
            | ((with_reducible show Calls _ 176 #[(.agg #[.int .i64 s', .bool b', .slice A' n' c'])] y1 _); (refine (RSign_calls y _ _ y1 HU2.out).mono ?_); (rintro e y2 ⟨rfl, hb2⟩); (have HB2 := Lib.hid (HB1.out.trans (hb2.mono HB1.out.size))); (clear hb2)))
          all_goals
            go_wp2_with fail
            go_meet
            exact ⟨_, _, rfl, rfl, Lib.hid ⟨HSZ.out, HSY.out, HB2.out⟩⟩
        case rest =>
          obtain ⟨one, two, rfl, rfl, HC⟩ := hcut
          obtain ⟨ho, ht, hbc⟩ := HC.out
          obtain ⟨w2, rfl⟩ : ∃ W1 : World, W1 = wc := ⟨_, rfl⟩
          have HB02 := Lib.hid (HB01.out.trans (hbc.mono HB01.out.size))
          have HX22 := Lib.hid ((hbc.block (w.heap.size + 2) (by omega)).trans HX21.out)
          have HX2s := Lib.hid (ints_lift HX1s.out HD.out HB01.out.size hbc)
          have HY2s := Lib.hid (ints_lift HY1s.out HD.out HB01.out.size hbc)
          have hs2 : w.heap.size + 3 ≤ w2.heap.size := Nat.le_trans hs1 hbc.size
          have HS := Lib.hid (show one = decide (z < 0) ∧ two = decide (y < 0) from ⟨ho, ht⟩)
          clear hbc ho ht HC c0 c1 c2 d0 d1 d2 HX01 HX11 HX21 HV1 HU1 HB01 HX1s HY1s
          have HL := Lib.hid (show xs.length ≤ 1000000 ∧ ys.length ≤ 1000000 from ⟨by have := HXL.out; omega, by have := HYL.out; omega⟩)
          cases one with
          | true =>
            cases two with
            | true =>
              have HS2 : Hid (decide (z < 0) = true ∧ decide (y < 0) = true) := Lib.hid ⟨HS.out.1.symm, HS.out.2.symm⟩
              have HAZ := Lib.hid (Dig.ab_of_neg (show z < 0 from of_decide_eq_true HS2.out.1))
              have HAY := Lib.hid (Dig.ab_of_neg (show y < 0 from of_decide_eq_true HS2.out.2))
              clear HS
              go_wp2_with fail
              refine (Rsum_calls xs ys _ _ _ _ w2 (Rd.lo HD.out (by omega)) (Rd.lo HD.out (by omega)) HX2s.out HY2s.out HOX.out HOY.out HL.out.1 HL.out.2).mono ?_
              rintro e w3 ⟨v3, rfl, hb3, zs, ho3, hok3, hv3, -⟩
              obtain ⟨Z3, zc3, rfl, -, -, -⟩ := own_form ho3
              have HO3 := Lib.hid ho3
              have HOK3 := Lib.hid hok3
              have HVV3 := Lib.hid hv3
              have HB03 := Lib.hid (HB02.out.trans (hb3.mono HB02.out.size))
              have HX23 := Lib.hid ((hb3.block (w.heap.size + 2) (by omega)).trans HX22.out)
              have hs3 : w.heap.size + 3 ≤ w3.heap.size := Nat.le_trans hs2 hb3.size
              clear hb3 ho3 hok3 hv3
              go_wp2_with fail
              refine (Rmade_calls true zs _ (Rd D (w.heap.size + 3) w3) w3 (Rd.lo HD.out (by omega)) (ints_own (own_base HO3.out (by omega))) HOK3.out).mono ?_
              rintro e w4 ⟨v4, rfl, hb4, h4⟩
              rw [show (if true = true then -Dig.val 1073741824 zs else Dig.val 1073741824 zs) = z + y by rw [HVV3.out, HVX.out, HVY.out]; rw [if_pos rfl, HAZ.out, HAY.out]; omega] at h4
              obtain ⟨s4, b4, A4, n4, c4, rfl⟩ := h4.shape
              have H4 := Lib.hid (made_in (W := w3) h4 hb4.size)
              have HB04 := Lib.hid (HB03.out.trans (hb4.mono HB03.out.size))
              have HX24 := Lib.hid ((hb4.block (w.heap.size + 2) (by omega)).trans HX23.out)
              clear hb4 h4
              obtain ⟨c0, f0⟩ := blk_at HX24.out 0
              obtain ⟨c1, f1⟩ := blk_at HX24.out 1
              obtain ⟨c2, f2⟩ := blk_at HX24.out 2
              go_wp2
              obtain ⟨wf, hwf, e0, e1, e2, hbel, hri⟩ := fin3 HD.out HB04.out (Nat.le_add_right _ 2) (Nat.lt_succ_self _) HX24.out H4.out
              rw [← hwf]
              clear hwf
              exact bodyPost_ret (v := .agg #[.int .i64 s4, .bool b4, .slice A4 n4 c4]) (by simp [results, Tryz.results170, go_sem, e0, e1, e2]) rfl ⟨_, rfl, hbel, hri⟩
            | false =>
              have HS2 : Hid (decide (z < 0) = true ∧ decide (y < 0) = false) := Lib.hid ⟨HS.out.1.symm, HS.out.2.symm⟩
              have HAZ := Lib.hid (Dig.ab_of_neg (show z < 0 from of_decide_eq_true HS2.out.1))
              have HAY := Lib.hid (Dig.ab_of_pos (show 0 ≤ y by have := of_decide_eq_false HS2.out.2; omega))
              clear HS
              go_wp2_with fail
              refine (Rcompare_calls xs ys _ _ _ _ w2 HX2s.out HY2s.out HOX.out HOY.out HTX.out HTY.out).mono ?_
              rintro e w3 ⟨rfl, hd3⟩
              have hb3 := hd3.below w2.heap.size
              have HB03 := Lib.hid (HB02.out.trans (hb3.mono HB02.out.size))
              have HX23 := Lib.hid ((hb3.block (w.heap.size + 2) (by omega)).trans HX22.out)
              have HX3s := Lib.hid (ints_lift HX2s.out HD.out HB02.out.size hb3)
              have HY3s := Lib.hid (ints_lift HY2s.out HD.out HB02.out.size hb3)
              have hs3 : w.heap.size + 3 ≤ w3.heap.size := Nat.le_trans hs2 hb3.size
              clear hb3 hd3 HB02 HX22 HX2s HY2s
              by_cases hcmp : Dig.val 1073741824 ys ≤ Dig.val 1073741824 xs
              · have hsg : 0 ≤ Dig.sgn (Dig.val 1073741824 xs - Dig.val 1073741824 ys) := by unfold Dig.sgn; split; omega; split <;> omega
                have HCM := Lib.hid hcmp
                have HLE := Lib.hid (show ys.length ≤ xs.length by
                  apply Nat.le_of_not_lt
                  intro hl
                  have := Dig.val_lt_of_length (by decide) HOX.out HOY.out HTY.out hl
                  omega)
                generalize Dig.sgn (Dig.val 1073741824 xs - Dig.val 1073741824 ys) = sg at *
                clear hcmp
                go_wp2_with fail
                refine (Rdifference_calls xs ys _ _ _ _ w3 (Rd.lo HD.out (by omega)) (Rd.lo HD.out (by omega)) HX3s.out HY3s.out HOX.out HOY.out HL.out.1 HLE.out HCM.out).mono ?_
                rintro e w4 ⟨v4, rfl, hb4, zs, ho4, hok4, hv4, -⟩
                obtain ⟨Z3, zc3, rfl, -, -, -⟩ := own_form ho4
                have HO4 := Lib.hid ho4
                have HOK4 := Lib.hid hok4
                have HVV4 := Lib.hid hv4
                have HB04 := Lib.hid (HB03.out.trans (hb4.mono HB03.out.size))
                have HX24 := Lib.hid ((hb4.block (w.heap.size + 2) (by omega)).trans HX23.out)
                have hs4 : w.heap.size + 3 ≤ w4.heap.size := Nat.le_trans hs3 hb4.size
                clear hb4 ho4 hok4 hv4
                go_wp2_with fail
                refine (Rmade_calls true zs _ (Rd D (w.heap.size + 3) w4) w4 (Rd.lo HD.out (by omega)) (ints_own (own_base HO4.out (by omega))) HOK4.out).mono ?_
                rintro e w5 ⟨v5, rfl, hb5, h5⟩
                rw [show (if true = true then -Dig.val 1073741824 zs else Dig.val 1073741824 zs) = z + y by rw [HVV4.out, HVX.out, HVY.out]; rw [if_pos rfl, HAZ.out, HAY.out]; omega] at h5
                obtain ⟨s4, b4, A4, n4, c4, rfl⟩ := h5.shape
                have H5 := Lib.hid (made_in (W := w4) h5 hb5.size)
                have HB05 := Lib.hid (HB04.out.trans (hb5.mono HB04.out.size))
                have HX25 := Lib.hid ((hb5.block (w.heap.size + 2) (by omega)).trans HX24.out)
                clear hb5 h5
                obtain ⟨c0, f0⟩ := blk_at HX25.out 0
                obtain ⟨c1, f1⟩ := blk_at HX25.out 1
                obtain ⟨c2, f2⟩ := blk_at HX25.out 2
                go_wp2
                obtain ⟨wf, hwf, e0, e1, e2, hbel, hri⟩ := fin3 HD.out HB05.out (Nat.le_add_right _ 2) (Nat.lt_succ_self _) HX25.out H5.out
                rw [← hwf]
                clear hwf
                exact bodyPost_ret (v := .agg #[.int .i64 s4, .bool b4, .slice A4 n4 c4]) (by simp [results, Tryz.results170, go_sem, e0, e1, e2]) rfl ⟨_, rfl, hbel, hri⟩
              · have hsg : Dig.sgn (Dig.val 1073741824 xs - Dig.val 1073741824 ys) < 0 := by rw [Dig.sgn_lt (by omega)]; decide
                have HCM := Lib.hid (show Dig.val 1073741824 xs ≤ Dig.val 1073741824 ys by omega)
                have HLE := Lib.hid (show xs.length ≤ ys.length by
                  apply Nat.le_of_not_lt
                  intro hl
                  have := Dig.val_lt_of_length (by decide) HOY.out HOX.out HTX.out hl
                  omega)
                generalize Dig.sgn (Dig.val 1073741824 xs - Dig.val 1073741824 ys) = sg at *
                clear hcmp
                go_wp2_with fail
                refine (Rdifference_calls ys xs _ _ _ _ w3 (Rd.lo HD.out (by omega)) (Rd.lo HD.out (by omega)) HY3s.out HX3s.out HOY.out HOX.out HL.out.2 HLE.out HCM.out).mono ?_
                rintro e w4 ⟨v4, rfl, hb4, zs, ho4, hok4, hv4, -⟩
                obtain ⟨Z3, zc3, rfl, -, -, -⟩ := own_form ho4
                have HO4 := Lib.hid ho4
                have HOK4 := Lib.hid hok4
                have HVV4 := Lib.hid hv4
                have HB04 := Lib.hid (HB03.out.trans (hb4.mono HB03.out.size))
                have HX24 := Lib.hid ((hb4.block (w.heap.size + 2) (by omega)).trans HX23.out)
                have hs4 : w.heap.size + 3 ≤ w4.heap.size := Nat.le_trans hs3 hb4.size
                clear hb4 ho4 hok4 hv4
                go_wp2_with fail
                refine (Rmade_calls false zs _ (Rd D (w.heap.size + 3) w4) w4 (Rd.lo HD.out (by omega)) (ints_own (own_base HO4.out (by omega))) HOK4.out).mono ?_
                rintro e w5 ⟨v5, rfl, hb5, h5⟩
                rw [show (if false = true then -Dig.val 1073741824 zs else Dig.val 1073741824 zs) = z + y by rw [HVV4.out, HVX.out, HVY.out]; rw [if_neg (by decide), HAZ.out, HAY.out]; omega] at h5
                obtain ⟨s4, b4, A4, n4, c4, rfl⟩ := h5.shape
                have H5 := Lib.hid (made_in (W := w4) h5 hb5.size)
                have HB05 := Lib.hid (HB04.out.trans (hb5.mono HB04.out.size))
                have HX25 := Lib.hid ((hb5.block (w.heap.size + 2) (by omega)).trans HX24.out)
                clear hb5 h5
                obtain ⟨c0, f0⟩ := blk_at HX25.out 0
                obtain ⟨c1, f1⟩ := blk_at HX25.out 1
                obtain ⟨c2, f2⟩ := blk_at HX25.out 2
                go_wp2
                obtain ⟨wf, hwf, e0, e1, e2, hbel, hri⟩ := fin3 HD.out HB05.out (Nat.le_add_right _ 2) (Nat.lt_succ_self _) HX25.out H5.out
                rw [← hwf]
                clear hwf
                exact bodyPost_ret (v := .agg #[.int .i64 s4, .bool b4, .slice A4 n4 c4]) (by simp [results, Tryz.results170, go_sem, e0, e1, e2]) rfl ⟨_, rfl, hbel, hri⟩
          | false =>
            cases two with
            | true =>
              have HS2 : Hid (decide (z < 0) = false ∧ decide (y < 0) = true) := Lib.hid ⟨HS.out.1.symm, HS.out.2.symm⟩
              have HAZ := Lib.hid (Dig.ab_of_pos (show 0 ≤ z by have := of_decide_eq_false HS2.out.1; omega))
              have HAY := Lib.hid (Dig.ab_of_neg (show y < 0 from of_decide_eq_true HS2.out.2))
              clear HS
              go_wp2_with fail
              refine (Rcompare_calls xs ys _ _ _ _ w2 HX2s.out HY2s.out HOX.out HOY.out HTX.out HTY.out).mono ?_
              rintro e w3 ⟨rfl, hd3⟩
              have hb3 := hd3.below w2.heap.size
              have HB03 := Lib.hid (HB02.out.trans (hb3.mono HB02.out.size))
              have HX23 := Lib.hid ((hb3.block (w.heap.size + 2) (by omega)).trans HX22.out)
              have HX3s := Lib.hid (ints_lift HX2s.out HD.out HB02.out.size hb3)
              have HY3s := Lib.hid (ints_lift HY2s.out HD.out HB02.out.size hb3)
              have hs3 : w.heap.size + 3 ≤ w3.heap.size := Nat.le_trans hs2 hb3.size
              clear hb3 hd3 HB02 HX22 HX2s HY2s
              by_cases hcmp : Dig.val 1073741824 ys ≤ Dig.val 1073741824 xs
              · have hsg : 0 ≤ Dig.sgn (Dig.val 1073741824 xs - Dig.val 1073741824 ys) := by unfold Dig.sgn; split; omega; split <;> omega
                have HCM := Lib.hid hcmp
                have HLE := Lib.hid (show ys.length ≤ xs.length by
                  apply Nat.le_of_not_lt
                  intro hl
                  have := Dig.val_lt_of_length (by decide) HOX.out HOY.out HTY.out hl
                  omega)
                generalize Dig.sgn (Dig.val 1073741824 xs - Dig.val 1073741824 ys) = sg at *
                clear hcmp
                go_wp2_with fail
                refine (Rdifference_calls xs ys _ _ _ _ w3 (Rd.lo HD.out (by omega)) (Rd.lo HD.out (by omega)) HX3s.out HY3s.out HOX.out HOY.out HL.out.1 HLE.out HCM.out).mono ?_
                rintro e w4 ⟨v4, rfl, hb4, zs, ho4, hok4, hv4, -⟩
                obtain ⟨Z3, zc3, rfl, -, -, -⟩ := own_form ho4
                have HO4 := Lib.hid ho4
                have HOK4 := Lib.hid hok4
                have HVV4 := Lib.hid hv4
                have HB04 := Lib.hid (HB03.out.trans (hb4.mono HB03.out.size))
                have HX24 := Lib.hid ((hb4.block (w.heap.size + 2) (by omega)).trans HX23.out)
                have hs4 : w.heap.size + 3 ≤ w4.heap.size := Nat.le_trans hs3 hb4.size
                clear hb4 ho4 hok4 hv4
                go_wp2_with fail
                refine (Rmade_calls false zs _ (Rd D (w.heap.size + 3) w4) w4 (Rd.lo HD.out (by omega)) (ints_own (own_base HO4.out (by omega))) HOK4.out).mono ?_
                rintro e w5 ⟨v5, rfl, hb5, h5⟩
                rw [show (if false = true then -Dig.val 1073741824 zs else Dig.val 1073741824 zs) = z + y by rw [HVV4.out, HVX.out, HVY.out]; rw [if_neg (by decide), HAZ.out, HAY.out]; omega] at h5
                obtain ⟨s4, b4, A4, n4, c4, rfl⟩ := h5.shape
                have H5 := Lib.hid (made_in (W := w4) h5 hb5.size)
                have HB05 := Lib.hid (HB04.out.trans (hb5.mono HB04.out.size))
                have HX25 := Lib.hid ((hb5.block (w.heap.size + 2) (by omega)).trans HX24.out)
                clear hb5 h5
                obtain ⟨c0, f0⟩ := blk_at HX25.out 0
                obtain ⟨c1, f1⟩ := blk_at HX25.out 1
                obtain ⟨c2, f2⟩ := blk_at HX25.out 2
                go_wp2
                obtain ⟨wf, hwf, e0, e1, e2, hbel, hri⟩ := fin3 HD.out HB05.out (Nat.le_add_right _ 2) (Nat.lt_succ_self _) HX25.out H5.out
                rw [← hwf]
                clear hwf
                exact bodyPost_ret (v := .agg #[.int .i64 s4, .bool b4, .slice A4 n4 c4]) (by simp [results, Tryz.results170, go_sem, e0, e1, e2]) rfl ⟨_, rfl, hbel, hri⟩
              · have hsg : Dig.sgn (Dig.val 1073741824 xs - Dig.val 1073741824 ys) < 0 := by rw [Dig.sgn_lt (by omega)]; decide
                have HCM := Lib.hid (show Dig.val 1073741824 xs ≤ Dig.val 1073741824 ys by omega)
                have HLE := Lib.hid (show xs.length ≤ ys.length by
                  apply Nat.le_of_not_lt
                  intro hl
                  have := Dig.val_lt_of_length (by decide) HOY.out HOX.out HTX.out hl
                  omega)
                generalize Dig.sgn (Dig.val 1073741824 xs - Dig.val 1073741824 ys) = sg at *
                clear hcmp
                go_wp2_with fail
                refine (Rdifference_calls ys xs _ _ _ _ w3 (Rd.lo HD.out (by omega)) (Rd.lo HD.out (by omega)) HY3s.out HX3s.out HOY.out HOX.out HL.out.2 HLE.out HCM.out).mono ?_
                rintro e w4 ⟨v4, rfl, hb4, zs, ho4, hok4, hv4, -⟩
                obtain ⟨Z3, zc3, rfl, -, -, -⟩ := own_form ho4
                have HO4 := Lib.hid ho4
                have HOK4 := Lib.hid hok4
                have HVV4 := Lib.hid hv4
                have HB04 := Lib.hid (HB03.out.trans (hb4.mono HB03.out.size))
                have HX24 := Lib.hid ((hb4.block (w.heap.size + 2) (by omega)).trans HX23.out)
                have hs4 : w.heap.size + 3 ≤ w4.heap.size := Nat.le_trans hs3 hb4.size
                clear hb4 ho4 hok4 hv4
                go_wp2_with fail
                refine (Rmade_calls true zs _ (Rd D (w.heap.size + 3) w4) w4 (Rd.lo HD.out (by omega)) (ints_own (own_base HO4.out (by omega))) HOK4.out).mono ?_
                rintro e w5 ⟨v5, rfl, hb5, h5⟩
                rw [show (if true = true then -Dig.val 1073741824 zs else Dig.val 1073741824 zs) = z + y by rw [HVV4.out, HVX.out, HVY.out]; rw [if_pos rfl, HAZ.out, HAY.out]; omega] at h5
                obtain ⟨s4, b4, A4, n4, c4, rfl⟩ := h5.shape
                have H5 := Lib.hid (made_in (W := w4) h5 hb5.size)
                have HB05 := Lib.hid (HB04.out.trans (hb5.mono HB04.out.size))
                have HX25 := Lib.hid ((hb5.block (w.heap.size + 2) (by omega)).trans HX24.out)
                clear hb5 h5
                obtain ⟨c0, f0⟩ := blk_at HX25.out 0
                obtain ⟨c1, f1⟩ := blk_at HX25.out 1
                obtain ⟨c2, f2⟩ := blk_at HX25.out 2
                go_wp2
                obtain ⟨wf, hwf, e0, e1, e2, hbel, hri⟩ := fin3 HD.out HB05.out (Nat.le_add_right _ 2) (Nat.lt_succ_self _) HX25.out H5.out
                rw [← hwf]
                clear hwf
                exact bodyPost_ret (v := .agg #[.int .i64 s4, .bool b4, .slice A4 n4 c4]) (by simp [results, Tryz.results170, go_sem, e0, e1, e2]) rfl ⟨_, rfl, hbel, hri⟩
            | false =>
              have HS2 : Hid (decide (z < 0) = false ∧ decide (y < 0) = false) := Lib.hid ⟨HS.out.1.symm, HS.out.2.symm⟩
              have HAZ := Lib.hid (Dig.ab_of_pos (show 0 ≤ z by have := of_decide_eq_false HS2.out.1; omega))
              have HAY := Lib.hid (Dig.ab_of_pos (show 0 ≤ y by have := of_decide_eq_false HS2.out.2; omega))
              clear HS
              go_wp2_with fail
              refine (Rsum_calls xs ys _ _ _ _ w2 (Rd.lo HD.out (by omega)) (Rd.lo HD.out (by omega)) HX2s.out HY2s.out HOX.out HOY.out HL.out.1 HL.out.2).mono ?_
              rintro e w3 ⟨v3, rfl, hb3, zs, ho3, hok3, hv3, -⟩
              obtain ⟨Z3, zc3, rfl, -, -, -⟩ := own_form ho3
              have HO3 := Lib.hid ho3
              have HOK3 := Lib.hid hok3
              have HVV3 := Lib.hid hv3
              have HB03 := Lib.hid (HB02.out.trans (hb3.mono HB02.out.size))
              have HX23 := Lib.hid ((hb3.block (w.heap.size + 2) (by omega)).trans HX22.out)
              have hs3 : w.heap.size + 3 ≤ w3.heap.size := Nat.le_trans hs2 hb3.size
              clear hb3 ho3 hok3 hv3
              go_wp2_with fail
              refine (Rmade_calls false zs _ (Rd D (w.heap.size + 3) w3) w3 (Rd.lo HD.out (by omega)) (ints_own (own_base HO3.out (by omega))) HOK3.out).mono ?_
              rintro e w4 ⟨v4, rfl, hb4, h4⟩
              rw [show (if false = true then -Dig.val 1073741824 zs else Dig.val 1073741824 zs) = z + y by rw [HVV3.out, HVX.out, HVY.out]; rw [if_neg (by decide), HAZ.out, HAY.out]] at h4
              obtain ⟨s4, b4, A4, n4, c4, rfl⟩ := h4.shape
              have H4 := Lib.hid (made_in (W := w3) h4 hb4.size)
              have HB04 := Lib.hid (HB03.out.trans (hb4.mono HB03.out.size))
              have HX24 := Lib.hid ((hb4.block (w.heap.size + 2) (by omega)).trans HX23.out)
              clear hb4 h4
              obtain ⟨c0, f0⟩ := blk_at HX24.out 0
              obtain ⟨c1, f1⟩ := blk_at HX24.out 1
              obtain ⟨c2, f2⟩ := blk_at HX24.out 2
              go_wp2
              obtain ⟨wf, hwf, e0, e1, e2, hbel, hri⟩ := fin3 HD.out HB04.out (Nat.le_add_right _ 2) (Nat.lt_succ_self _) HX24.out H4.out
              rw [← hwf]
              clear hwf
              exact bodyPost_ret (v := .agg #[.int .i64 s4, .bool b4, .slice A4 n4 c4]) (by simp [results, Tryz.results170, go_sem, e0, e1, e2]) rfl ⟨_, rfl, hbel, hri⟩

end Go.Proofs.YtoffbdlgmnpblaaGreat
