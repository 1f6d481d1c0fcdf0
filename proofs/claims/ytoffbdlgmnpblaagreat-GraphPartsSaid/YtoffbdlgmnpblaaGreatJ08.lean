/- Part 8: Ex11 Ex12 Ex13. -/
import Derived.Test.YtoffbdlgmnpblaaGreatJ07
import Derived.Deep.RegionWith
import Derived.Deep.LoopGhost

/- Package exact: the quotient and the rest of integers. -/
namespace Go.Proofs.YtoffbdlgmnpblaaGreat
open Go.RowKit
set_option maxHeartbeats 4000000
set_option maxRecDepth 100000

theorem ab_lt {x : Int} (h : x < 0) : Dig.ab x = -x := by unfold Dig.ab; rw [if_pos h]
theorem ab_ge {x : Int} (h : 0 ≤ x) : Dig.ab x = x := by unfold Dig.ab; rw [if_neg (by omega)]
theorem tdiv_eq (x y q r : Int) (h : Dig.ab x = Dig.ab y * q + r) (h0 : 0 ≤ r) (h1 : r < Dig.ab y) : Dig.sgn x * Dig.sgn y * q = x.tdiv y ∧ Dig.sgn x * r = x.tmod y := by
  obtain ⟨e1, e2⟩ := Dig.quot_of (U := Dig.ab x) (V := Dig.ab y) (q := q) (R := r) (by omega) (by rw [h, Int.mul_comm]) h0 h1
  have hx0 := Dig.ab_nonneg x
  have t1 : (Dig.ab x).tdiv (Dig.ab y) = q := by rw [Int.tdiv_eq_ediv_of_nonneg hx0]; exact e1
  have t2 : (Dig.ab x).tmod (Dig.ab y) = r := by rw [Int.tmod_eq_emod_of_nonneg hx0]; exact e2
  rcases Int.lt_trichotomy x 0 with hx | rfl | hx
  · rw [Dig.sgn_lt hx]
    rcases Int.lt_trichotomy y 0 with hy | rfl | hy
    · rw [Dig.sgn_lt hy]
      rw [ab_lt hx, ab_lt hy, Int.neg_tdiv, Int.tdiv_neg] at t1
      rw [ab_lt hx, ab_lt hy, Int.neg_tmod, Int.tmod_neg] at t2
      omega
    · rw [ab_ge (Int.le_refl _)] at h1; omega
    · rw [Dig.sgn_gt hy]
      rw [ab_lt hx, ab_ge (Int.le_of_lt hy), Int.neg_tdiv] at t1
      rw [ab_lt hx, ab_ge (Int.le_of_lt hy), Int.neg_tmod] at t2
      omega
  · rw [ab_ge (Int.le_refl _)] at t1 t2
    rw [Int.zero_tdiv] at t1
    rw [Int.zero_tmod] at t2
    subst t1 t2
    simp
  · rw [Dig.sgn_gt hx]
    rcases Int.lt_trichotomy y 0 with hy | rfl | hy
    · rw [Dig.sgn_lt hy]
      rw [ab_ge (Int.le_of_lt hx), ab_lt hy, Int.tdiv_neg] at t1
      rw [ab_ge (Int.le_of_lt hx), ab_lt hy, Int.tmod_neg] at t2
      omega
    · rw [ab_ge (Int.le_refl _)] at h1; omega
    · rw [Dig.sgn_gt hy]
      rw [ab_ge (Int.le_of_lt hx), ab_ge (Int.le_of_lt hy)] at t1
      rw [ab_ge (Int.le_of_lt hx), ab_ge (Int.le_of_lt hy)] at t2
      omega

theorem one_digit (w : World) (t : TypeId) (a : Int) (D : Nat → Prop) (hD : D w.heap.size) : Sl (Kind.int .u32) (w.alloc (.cells #[.int .u32 a] t)) D (.slice (some ⟨w.heap.size, 0, none⟩) 1 1) [a] := by
  exact Sl.of_ints (xs := [a]) (Nat.le_refl _) (by simp [maxLen]) fun _ => ⟨_, rfl, hD, fun i hi => by
    have h := heap_alloc_new w (.cells #[.int .u32 a] t)
    have e : (⟨w.heap.size, 0, none⟩ : Addr).add i = ⟨w.heap.size, i, none⟩ := by unfold Addr.add; split <;> simp_all
    rw [e]
    match i, hi with
    | 0, _ => exact cell_of_row _ _ _ _ _ _ h⟩
theorem store4 {w : World} {D : Nat → Prop} {s : Int} {A : Option Addr} {n c : Nat} {z : Int} (h : IntC w D s A n c z) (g g' : Nat) (hg : ¬ D g) (hg' : ¬ D g') (u v u' v' : Value) :
    IntC ((((w.setCell ⟨g, 0, none⟩ u).setCell ⟨g, 1, none⟩ v).setCell ⟨g', 0, none⟩ u').setCell ⟨g', 1, none⟩ v') D s A n c z := (h.store2 g hg 0 1 u v).store2 g' hg' 0 1 u' v'
theorem one_eq {xs : List Int} (h : xs.length = 1) : xs = [Dig.gd xs 0] := by
  match xs, h with
  | [a], _ => rfl

theorem Quo_calls (s : Int) (A : Option Addr) (n c : Nat) (x : Int) (s' : Int) (A' : Option Addr) (n' c' : Nat) (y : Int) (D : Nat → Prop) (w : World) (hD : Lo D w)
    (hx : IntC w D s A n c x) (hy : IntC w D s' A' n' c' y) (hy0 : y ≠ 0) (N : Nat) (hN : N ≤ 536870912) (fx : Fit N x) (fy : Fit N y) :
    Calls Tryz.prog 234 #[.agg #[.int .i64 s, .slice A n c], .agg #[.int .i64 s', .slice A' n' c']] w fun e w' => ∃ t B m d t' B' m' d', e = .returned (.tuple #[.agg #[.int .i64 t, .slice B m d], .agg #[.int .i64 t', .slice B' m' d']]) ∧ Below w.heap.size w w' ∧
      IntC w' (gr D w w') t B m d (x.tdiv y) ∧ IntC w' (gr D w w') t' B' m' d' (x.tmod y) := by
  have hnil := fun (w : World) (a : Option Addr) (n c : Nat) => Lib.run_eql_slice_nil (P := Tryz.prog) w 154 199 a n c 0 0 Tryz.underlying154
  have HX := Lib.hid hx
  have HY := Lib.hid hy
  have HY0 := Lib.hid hy0
  by_cases hb : A = none ∧ A' = none
  · obtain ⟨rfl, rfl⟩ := hb
    obtain ⟨rfl, rfl, rfl, h1, h2⟩ := hx.nil_eq
    obtain ⟨rfl, rfl, rfl, h3, h4⟩ := hy.nil_eq
    go_enter Tryz.func234, Tryz.ntmps234
    go_upto_region 2 with fail
    go_region
    go_wp2
    have g1 : (s.tdiv s').natAbs = s.natAbs / s'.natAbs := Int.natAbs_tdiv _ _
    have g2 : (s.tmod s').natAbs = s.natAbs % s'.natAbs := Int.natAbs_tmod _ _
    have g3 : s.natAbs / s'.natAbs ≤ s.natAbs := Nat.div_le_self _ _
    have g4 : s.natAbs % s'.natAbs ≤ s.natAbs := Nat.mod_le _ _
    rw [show wrap64 (s.tdiv s') = s.tdiv s' by unfold wrap64; omega]
    refine bodyPost_ret (v := .tuple #[.agg #[.int .i64 (s.tdiv s'), .slice none 0 0], .agg #[.int .i64 (s.tmod s'), .slice none 0 0]]) (by simp [results, Tryz.results234, go_sem]) rfl ⟨_, _, _, _, _, _, _, _, rfl, ?_, ?_, ?_⟩
    · exact below_drewN (boxes4 _ _ _ _ _) 1
    · exact IntC.small (by omega) (by omega)
    · exact IntC.small (by omega) (by omega)
  · clear hx hy hy0
    have hcase : (∃ ad, A = some ad) ∨ (A = none ∧ ∃ ad, A' = some ad) := by
      cases A with
      | some ad => exact .inl ⟨ad, rfl⟩
      | none => cases A' with
        | some ad => exact .inr ⟨rfl, ad, rfl⟩
        | none => exact absurd ⟨rfl, rfl⟩ hb
    clear hb
    rcases hcase with ⟨ad, rfl⟩ | ⟨rfl, ad, rfl⟩
    all_goals
      go_enter Tryz.func234, Tryz.ntmps234
      go_wp2_with fail
      refine (digits_calls s _ n c x D _ (hD.up (boxes4 _ _ _ _ _).size) (HX.out.below hD (boxes4 _ _ _ _ _))).mono ?_
      rintro e w1 ⟨A1, n1, c1, xs, rfl, hb1, hs1, o1, t1, v1⟩
      have hB1 := (boxes4 _ _ _ _ _).trans (hb1.mono (by simp <;> omega))
      obtain ⟨hc1, hf1⟩ := bcell hb1
      have hz1 : w.heap.size + 3 < w1.heap.size := by have := hb1.size; simp at this; omega
      go_wp2_with fail
      refine (digits_calls s' _ n' c' y D _ (hD.up hB1.size) (HY.out.below hD hB1)).mono ?_
      rintro e w2 ⟨A2, n2, c2, ys, rfl, hb2, hs2, o2, t2, v2⟩
      have hT2 := hb1.trans (hb2.mono hb1.size)
      have hB2 := (boxes4 _ _ _ _ _).trans (hT2.mono (by simp <;> omega))
      clear hc1 hf1
      obtain ⟨hc2, hf2⟩ := bcell hT2
      have hz2 : w.heap.size + 3 < w2.heap.size := by have := hb2.size; omega
      have hL1 := (hD.up (boxes4 _ _ _ _ _).size).gr hb1
      have hL2 := (hD.up hB1.size).gr hb2
      have hs1' := hs1.same (hL1.same hb2)
      have l1 := fx.len o1 t1 v1
      have l2 := fy.len o2 t2 v2
      obtain ⟨r1, r2⟩ := Dig.sgn_range x
      obtain ⟨r3, r4⟩ := Dig.sgn_range y
      obtain ⟨r5, r6⟩ := sgn_mul x y
      go_wp2_with fail
      refine (compare_calls xs ys _ _ _ _ _ hs1' hs2 o1 o2 t1 t2).mono ?_
      rintro e w3 ⟨rfl, n3, rfl⟩
      have hd3 : Below w2.heap.size w2 (w2.drewN n3) := below_drewN (Below.refl _ _) _
      have hT3 := hT2.trans (hd3.mono hT2.size)
      have hB3 := hB2.trans (hd3.mono hB2.size)
      have hs1q := hs1'.same (same_drewN _ w2 n3)
      have hs2q := hs2.same (same_drewN _ w2 n3)
      have hLq1 := (hL1.up hb2.size).up hd3.size
      have hLq2 := hL2.up hd3.size
      by_cases hcmp : Dig.val B32 xs < Dig.val B32 ys
      · have hge : Dig.sgn (Dig.val B32 xs - Dig.val B32 ys) < 0 := by
          rw [Dig.sgn_lt (by omega)]; decide
        generalize Dig.sgn (Dig.val B32 xs - Dig.val B32 ys) = q at *
        go_upto_region 6 with fail
        go_region
        go_wp2
        obtain ⟨f1, f2⟩ := tdiv_eq x y 0 (Dig.ab x) (by omega) (Dig.ab_nonneg x) (by omega)
        rw [Int.mul_zero] at f1
        rw [Dig.sgn_ab] at f2
        rw [← f1, ← f2]
        have hsz : (w2.drewN (n3 + 1)).heap.size = w2.heap.size := rfl
        have hBq : Below w.heap.size w (w2.drewN (n3 + 1)) := below_drewN hB2 _
        refine bodyPost_ret (v := .tuple #[.agg #[.int .i64 0, .slice none 0 0], .agg #[.int .i64 s, .slice _ n c]]) (by simp [results, Tryz.results234, go_sem, hc2]; rfl) rfl ⟨_, _, _, _, _, _, _, _, rfl, ?_, ?_, ?_⟩
        · exact (((hBq.setCell (by simp <;> omega) _).setCell (by simp <;> omega) _).setCell (by simp <;> omega) _).setCell (by simp <;> omega) _
        · exact IntC.small (by decide) (by decide)
        · exact (store4 (HX.out.below hD hBq) _ _ (not_lo hD (by first | omega | (simp <;> omega))) (not_lo hD (by first | omega | (simp <;> omega))) _ _ _ _).mono fun k hk => .inl hk
      · have hge : 0 ≤ Dig.sgn (Dig.val B32 xs - Dig.val B32 ys) := by
          unfold Dig.sgn; split
          · omega
          · split <;> omega
        generalize Dig.sgn (Dig.val B32 xs - Dig.val B32 ys) = q at *
        obtain ⟨rfl, -, -⟩ := hs1q.len
        obtain ⟨rfl, -, -⟩ := hs2q.len
        have hsz : (w2.drewN n3).heap.size = w2.heap.size := rfl
        have hy1 : 0 < Dig.val B32 ys := by
          rw [v2]
          have := HY0.out
          unfold Dig.ab
          split <;> omega
        have hyl : 1 ≤ ys.length := by
          cases ys with
          | nil => simp [Dig.val] at hy1
          | cons => simp
        have hxl := len_le_of_val o1 o2 t2 (Int.not_lt.1 hcmp)
        have hsx : ¬ Dig.sgn x = 0 := by
          intro h
          have : x = 0 := by have := Dig.sgn_ab x; rw [h] at this; omega
          subst this
          rw [ab_ge (Int.le_refl _)] at v1
          omega
        have hsy : ¬ Dig.sgn y = 0 := by
          intro h
          have : y = 0 := by have := Dig.sgn_ab y; rw [h] at this; omega
          exact HY0.out this
        have hsxy : ¬ Dig.sgn x * Dig.sgn y = 0 := Int.mul_ne_zero hsx hsy
        have HS1 := Lib.hid hsx
        have HS2 := Lib.hid hsxy
        clear hsx hsy hsxy
        by_cases hone : ys.length = 1
        · have he1 : ((ys.length : Int) == 1) = true := by rw [hone]; rfl
          have hys := one_eq hone
          have HONE := Lib.hid hone
          obtain ⟨adY, rfl, -, hcy⟩ := hs2.nums (by omega)
          have hcy0 := hcy 0 (by omega)
          have hcy1 : w2.cell? adY = some (.int .u32 (Dig.gd ys 0)) := by have := hcy0; rwa [Addr.add_zero'] at this
          have hyv : Dig.val B32 ys = Dig.gd ys 0 := by conv => lhs; rw [hys]; simp [Dig.val]
          obtain ⟨by1, by2⟩ : 0 ≤ Dig.gd ys 0 ∧ Dig.gd ys 0 < 4294967296 := Dig.ok_get o2 (by decide) 0
          have HYV := Lib.hid hyv
          have HYS := Lib.hid hys
          have hy2 : 0 < Dig.gd ys 0 := by rw [← hyv]; exact hy1
          clear hone hcy hyv hys
          go_wp2_with fail
          refine (short_calls xs _ _ (Dig.gd ys 0) _ hLq1 hs1q o1 hy2 by2 (by omega)).mono ?_
          rintro e w4 ⟨v4, r, zs, rfl, hb4, hs4, o4, e4, r0, rlt⟩
          have hT4 := hT3.trans (hb4.mono hT3.size)
          go_wp2_with fail
          refine (made_calls (Dig.sgn x * Dig.sgn y) zs _ _ _ hs4 (fun k hk => hk.2) o4 r5 r6 (fun h => absurd h HS2.out)).mono ?_
          rintro e w5 ⟨t, B, m, d, rfl, hb5, hi⟩
          have hT5 := hT4.trans (hb5.mono hT4.size)
          go_wp2_with fail
          refine (made_calls (Dig.sgn x) [r] _ (fun k => k = w5.heap.size) _ (one_digit _ _ _ _ rfl) (fun k hk => by subst hk; simp) (by intro d hd; simp at hd; subst hd; exact ⟨r0, by show d < 4294967296; omega⟩) r1 r2 (fun h => absurd h HS1.out)).mono ?_
          rintro e w6 ⟨t', B', m', d', rfl, hb6, hi'⟩
          have hA6 := (Below.refl w5.heap.size w5).alloc (Nat.le_refl _) (.cells #[.int .u32 r] 199)
          have hT6 := hT5.trans ((hA6.trans (hb6.mono hA6.size)).mono hT5.size)
          clear hc2 hf2
          obtain ⟨hc6, hf6⟩ := bcell hT6
          have hs4s := hb4.size
          have hs5s := hb5.size
          have hz6 : w.heap.size + 3 < w6.heap.size := by have := hb6.size; simp at this; omega
          have hB6 := (boxes4 _ _ _ _ _).trans (hT6.mono (by simp <;> omega))
          go_wp2
          obtain ⟨f1, f2⟩ := tdiv_eq x y (Dig.val B32 zs) (r := r) (by rw [← v1, ← v2, HYV.out]; exact e4) r0 (by rw [← v2, HYV.out]; exact rlt)
          rw [← f1, ← f2]
          refine bodyPost_ret (v := .tuple #[.agg #[.int .i64 t, .slice B m d], .agg #[.int .i64 t', .slice B' m' d']]) (by simp [results, Tryz.results234, go_sem, hc6]) rfl ⟨_, _, _, _, _, _, _, _, rfl, ?_, ?_, ?_⟩
          · exact (((hB6.setCell (by simp <;> omega) _).setCell (by simp <;> omega) _).setCell (by simp <;> omega) _).setCell (by simp <;> omega) _
          · exact (store4 (hi.same fun k hk => ((hb6.block k (by have := hk.2; simp; omega)).trans (Below.heap_alloc _ _ k (by have := hk.2; omega)))) _ _ (not_nw (by first | omega | (simp <;> omega))) (not_nw (by first | omega | (simp <;> omega))) _ _ _ _).mono fun k hk => .inr ⟨by have := hk.1; omega, by have := hk.2; have := hb6.size; simp [World.setCell] at *; omega⟩
          · rw [show Dig.val B32 [r] = r by simp [Dig.val]] at hi'
            exact (store4 hi' _ _ (by omega) (by omega) _ _ _ _).mono fun k hk => .inr ⟨by omega, by subst hk; have := hb6.size; simp [World.setCell] at *; omega⟩
        · have hG : Lo (fun k => k < (w2.drewN n3).heap.size) (w2.drewN n3) := fun k hk => hk
          have hs1r := hs1q.mono (D' := fun k => k < (w2.drewN n3).heap.size) hLq1
          have hs2r := hs2q.mono (D' := fun k => k < (w2.drewN n3).heap.size) hLq2
          have hone' : ((ys.length : Int) == 1) = false := by rw [beq_eq_false_iff_ne]; omega
          have hlong : 2 ≤ ys.length := by omega
          clear hone
          go_wp2_with fail
          refine (long_calls xs ys _ _ _ _ hG hs1r hs2r o1 o2 t2 hlong hxl (by omega)).mono ?_
          rintro e w4 ⟨v4, u4, zs, rs, rfl, hb4, hs4, hs4', o4, o4', e4, rlt⟩
          have hT4 := hT3.trans (hb4.mono hT3.size)
          go_wp2_with fail
          refine (made_calls (Dig.sgn x * Dig.sgn y) zs _ _ _ hs4 (fun k hk => hk.2) o4 r5 r6 (fun h => absurd h HS2.out)).mono ?_
          rintro e w5 ⟨t, B, m, d, rfl, hb5, hi⟩
          have hT5 := hT4.trans (hb5.mono hT4.size)
          go_wp2_with fail
          have hl4 : Lo (nw (w2.drewN n3) w4) w4 := fun k hk => hk.2
          refine (made_calls (Dig.sgn x) rs _ _ _ (hs4'.same (hl4.same hb5)) (hl4.up hb5.size) o4' r1 r2 (fun h => absurd h HS1.out)).mono ?_
          rintro e w6 ⟨t', B', m', d', rfl, hb6, hi'⟩
          have hT6 := hT5.trans (hb6.mono hT5.size)
          clear hc2 hf2
          obtain ⟨hc6, hf6⟩ := bcell hT6
          have hs4s := hb4.size
          have hs5s := hb5.size
          have hz6 : w.heap.size + 3 < w6.heap.size := by have := hb6.size;  omega
          have hB6 := (boxes4 _ _ _ _ _).trans (hT6.mono (by simp <;> omega))
          go_wp2
          obtain ⟨f1, f2⟩ := tdiv_eq x y (Dig.val B32 zs) (r := Dig.val B32 rs) (by rw [← v1, ← v2]; exact e4) (Dig.val_nonneg (by decide) o4') (by rw [← v2]; exact rlt)
          rw [← f1, ← f2]
          refine bodyPost_ret (v := .tuple #[.agg #[.int .i64 t, .slice B m d], .agg #[.int .i64 t', .slice B' m' d']]) (by simp [results, Tryz.results234, go_sem, hc6]) rfl ⟨_, _, _, _, _, _, _, _, rfl, ?_, ?_, ?_⟩
          · exact (((hB6.setCell (by simp <;> omega) _).setCell (by simp <;> omega) _).setCell (by simp <;> omega) _).setCell (by simp <;> omega) _
          · exact (store4 (hi.same fun k hk => (hb6.block k (by have := hk.2; omega))) _ _ (not_nw (by first | omega | (simp <;> omega))) (not_nw (by first | omega | (simp <;> omega))) _ _ _ _).mono fun k hk => .inr ⟨by have := hk.1; omega, by have := hk.2; have := hb6.size; simp [World.setCell] at *; omega⟩
          · exact (store4 hi' _ _ (not_nw (by first | omega | (simp <;> omega))) (not_nw (by first | omega | (simp <;> omega))) _ _ _ _).mono fun k hk => .inr ⟨by have := hk.1; omega, by have := hk.2; have := hb6.size; simp [World.setCell] at *; omega⟩

end Go.Proofs.YtoffbdlgmnpblaaGreat

/- Package exact: small contracts that ask nothing of a number's digits; the greatest common divisor. -/
namespace Go.Proofs.YtoffbdlgmnpblaaGreat
open Go.RowKit
set_option maxHeartbeats 4000000
set_option maxRecDepth 100000

theorem boxes2 (w : World) (a b : Obj) : Below w.heap.size w ((w.alloc a).alloc b) := ((Below.refl _ _).alloc (Nat.le_refl _) a).alloc (by simp) b

theorem Neg_raw (s : Int) (A : Option Addr) (n c : Nat) (w : World) (h1 : -4611686018427387904 < s) (h2 : s < 4611686018427387904) :
    Calls Tryz.prog 235 #[.agg #[.int .i64 s, .slice A n c]] w fun e w' => e = .returned (.agg #[.int .i64 (-s), .slice A n c]) ∧ Below w.heap.size w w' := by
  go_enter Tryz.func235, Tryz.ntmps235
  go_wp2
  exact bodyPost_ret (v := .agg #[.int .i64 (-s), .slice A n c]) (by simp [results, Tryz.results235, go_sem]) rfl ⟨rfl, boxes2 _ _ _⟩

theorem Abs_raw (s : Int) (A : Option Addr) (n c : Nat) (w : World) (h1 : -4611686018427387904 < s) (h2 : s < 4611686018427387904) :
    Calls Tryz.prog 238 #[.agg #[.int .i64 s, .slice A n c]] w fun e w' => e = .returned (.agg #[.int .i64 (Dig.ab s), .slice A n c]) ∧ Below w.heap.size w w' := by
  by_cases hs : s < 0
  · rw [Dig.ab_of_neg (by omega)]
    go_enter Tryz.func238, Tryz.ntmps238
    go_wp2_with fail
    refine (Neg_raw s A n c _ h1 h2).mono ?_
    rintro e w1 ⟨rfl, hb1⟩
    obtain ⟨hc1, hf1⟩ := bcell hb1
    have hz1 : w.heap.size + 1 < w1.heap.size := by have := hb1.size; simp at this; omega
    go_wp2
    refine bodyPost_ret (v := .agg #[.int .i64 (-s), .slice A n c]) (by simp [results, Tryz.results238, go_sem, hc1]) rfl ⟨rfl, ?_⟩
    exact (((boxes2 _ _ _).trans (hb1.mono (by simp; omega))).setCell (by simp) _).setCell (by simp) _
  · rw [Dig.ab_of_pos (by omega)]
    go_enter Tryz.func238, Tryz.ntmps238
    go_wp2
    exact bodyPost_ret (v := .agg #[.int .i64 s, .slice A n c]) (by simp [results, Tryz.results238, go_sem]) rfl ⟨rfl, boxes2 _ _ _⟩

theorem IntC.abs {w : World} {D : Nat → Prop} {s : Int} {A : Option Addr} {n c : Nat} {z : Int} (h : IntC w D s A n c z) : IntC w D (Dig.ab s) A n c (Dig.ab z) := by
  obtain ⟨h1, h2⟩ := h.sgn_eq
  by_cases hs : s < 0
  · rw [Dig.ab_of_neg (by omega), Dig.ab_of_neg (by omega)]; exact h.neg
  · rw [Dig.ab_of_pos (by omega), Dig.ab_of_pos (by omega)]; exact h

theorem one_calls (w : World) : Calls Tryz.prog 237 #[] w fun e w' => e = .returned (.agg #[.int .i64 1, .slice none 0 0]) ∧ Below w.heap.size w w' := by
  go_enter Tryz.func237, Tryz.ntmps237
  go_wp2
  exact bodyPost_ret (v := .agg #[.int .i64 1, .slice none 0 0]) (by simp [results, Tryz.results237, go_sem]) rfl ⟨rfl, by
    exact (Below.refl _ _).alloc (Nat.le_refl _) _⟩

/-- 'Int': a number within a bound -/
theorem Int_calls (s : Int) (A : Option Addr) (n c : Nat) (z b : Int) (D : Nat → Prop) (w : World) (h : IntC w D s A n c z) (hb0 : 0 ≤ b) (hb1 : b < 4611686018427387904) :
    Calls Tryz.prog 186 #[.agg #[.int .i64 s, .slice A n c], .int .i64 b] w fun e w' => Below w.heap.size w w' ∧
      e = .returned (.tuple #[.int .i64 (if -b ≤ z ∧ z ≤ b then z else 0), .bool (decide (-b ≤ z ∧ z ≤ b))]) := by
  have hnil := fun (w : World) (a : Option Addr) (n c : Nat) => run_neq_slice_nil_any (P := Tryz.prog) w 154 199 a n c 0 0 Tryz.underlying154
  rcases h with ⟨rfl, rfl, rfl, rfl, h1, h2⟩ | ⟨xs, hs, ho, ht, hv, hsg, hz⟩
  · by_cases hin : -b ≤ s ∧ s ≤ b
    · rw [if_pos hin, decide_eq_true hin]
      obtain ⟨i1, i2⟩ := hin
      go_enter Tryz.func186, Tryz.ntmps186
      go_wp2
      go_ret2
      exact ⟨(Below.refl _ _).alloc (Nat.le_refl _) _, rfl⟩
    · rw [if_neg hin, decide_eq_false hin]
      have hin2 : s < -b ∨ (-b ≤ s ∧ b < s) := by omega
      clear hin
      rcases hin2 with i1 | ⟨i1, i2⟩
      all_goals
        go_enter Tryz.func186, Tryz.ntmps186
        go_wp2
        go_ret2
        exact ⟨(Below.refl _ _).alloc (Nat.le_refl _) _, rfl⟩
  · obtain ⟨A1, c1, e1, -, -, h6⟩ := hs.form
    obtain ⟨ad, e2, _⟩ := h6 (trimmed_ne hv)
    injection e1 with e1 e3 e4
    subst e1 e2
    have hin : ¬ (-b ≤ z ∧ z ≤ b) := by
      rcases hsg with rfl | rfl <;> omega
    rw [if_neg hin, decide_eq_false hin]
    clear hs hz hin hv ht ho hsg
    go_enter Tryz.func186, Tryz.ntmps186
    go_wp2
    go_ret2
    exact ⟨(Below.refl _ _).alloc (Nat.le_refl _) _, rfl⟩

end Go.Proofs.YtoffbdlgmnpblaaGreat

/- Package exact: the greatest common divisor. -/
namespace Go.Proofs.YtoffbdlgmnpblaaGreat
open Go.RowKit
set_option maxHeartbeats 4000000
set_option maxRecDepth 100000

/-- a box at block g holds an integer's fields -/
structure Box (w : World) (g : Nat) (s : Int) (A : Option Addr) (n c : Nat) : Prop where
  c0 : w.cell? ⟨g, 0, none⟩ = some (.int .i64 s)
  c1 : w.cell? ⟨g, 1, none⟩ = some (.slice A n c)
  f0 : w.frozen? ⟨g, 0, none⟩ = false
  f1 : w.frozen? ⟨g, 1, none⟩ = false
  lt : g < w.heap.size

theorem Box.below {w w' : World} {g : Nat} {s : Int} {A : Option Addr} {n c : Nat} (h : Box w g s A n c) (hb : Below w.heap.size w w') : Box w' g s A n c :=
  ⟨(hb.cell (p := ⟨g, 0, none⟩) h.lt).trans h.c0, (hb.cell (p := ⟨g, 1, none⟩) h.lt).trans h.c1, (hb.frozen (p := ⟨g, 0, none⟩) h.lt).trans h.f0, (hb.frozen (p := ⟨g, 1, none⟩) h.lt).trans h.f1, Nat.lt_of_lt_of_le h.lt hb.size⟩

theorem IntC.drew {w : World} {D : Nat → Prop} {s : Int} {A : Option Addr} {n c : Nat} {z : Int} (h : IntC w D s A n c z) : IntC w.drew D s A n c z := h.same fun _ _ => rfl
theorem Box.drew {w : World} {g : Nat} {s : Int} {A : Option Addr} {n c : Nat} (h : Box w g s A n c) : Box w.drew g s A n c := ⟨h.c0, h.c1, h.f0, h.f1, h.lt⟩
theorem Box.of_alloc (w : World) (s : Int) (A : Option Addr) (n c : Nat) (t : TypeId) (g : Nat) (hg : w.heap.size = g) : Box (w.alloc (.cells #[.int .i64 s, .slice A n c] t)) g s A n c :=
  ⟨(box_cells w g hg _ t 0).1, (box_cells w g hg _ t 1).1, (box_cells w g hg _ t 0).2, (box_cells w g hg _ t 1).2, by simp; omega⟩
theorem boxes3_box (w : World) (s : Int) (A : Option Addr) (n c : Nat) (s' : Int) (A' : Option Addr) (n' c' : Nat) (s'' : Int) (A'' : Option Addr) (n'' c'' : Nat) (t : TypeId) :
    let W := ((w.alloc (.cells #[.int .i64 s, .slice A n c] t)).alloc (.cells #[.int .i64 s', .slice A' n' c'] t)).alloc (.cells #[.int .i64 s'', .slice A'' n'' c''] t)
    Box W w.heap.size s A n c ∧ Box W (w.heap.size + 1) s' A' n' c' ∧ Box W (w.heap.size + 1 + 1) s'' A'' n'' c'' ∧ Below w.heap.size w W :=
  ⟨((Box.of_alloc w s A n c t _ rfl).below ((Below.refl _ _).alloc (Nat.le_refl _) _)).below ((Below.refl _ _).alloc (Nat.le_refl _) _), (Box.of_alloc _ s' A' n' c' t _ (by simp)).below ((Below.refl _ _).alloc (Nat.le_refl _) _), Box.of_alloc _ s'' A'' n'' c'' t _ (by simp), boxes3 _ _ _ _⟩
/-- a value stored into a box, another box untouched -/
theorem Box.set {w : World} {g : Nat} {s : Int} {A : Option Addr} {n c : Nat} (h : Box w g s A n c) (t : Int) (B : Option Addr) (m d : Nat) :
    Box ((w.setCell ⟨g, 0, none⟩ (.int .i64 t)).setCell ⟨g, 1, none⟩ (.slice B m d)) g t B m d := by
  refine ⟨?_, ?_, ?_, ?_, by simpa using h.lt⟩
  · rw [World.cell?_setCell_other _ _ _ _ (by simp), World.cell?_setCell_same _ _ _ h.c0]
  · exact World.cell?_setCell_same _ _ _ (u := .slice A n c) (by rw [World.cell?_setCell_other _ _ _ _ (by simp)]; exact h.c1)
  · rw [World.frozen?_setCell, World.frozen?_setCell]; exact h.f0
  · rw [World.frozen?_setCell, World.frozen?_setCell]; exact h.f1
theorem Box.far {w : World} {g g' : Nat} {s : Int} {A : Option Addr} {n c : Nat} (h : Box w g s A n c) (hg : g ≠ g') (u v : Value) :
    Box ((w.setCell ⟨g', 0, none⟩ u).setCell ⟨g', 1, none⟩ v) g s A n c := by
  refine ⟨?_, ?_, ?_, ?_, by simpa using h.lt⟩
  · rw [World.cell?_setCell_other _ _ _ _ (by simp <;> omega), World.cell?_setCell_other _ _ _ _ (by simp <;> omega)]; exact h.c0
  · rw [World.cell?_setCell_other _ _ _ _ (by simp <;> omega), World.cell?_setCell_other _ _ _ _ (by simp <;> omega)]; exact h.c1
  · rw [World.frozen?_setCell, World.frozen?_setCell]; exact h.f0
  · rw [World.frozen?_setCell, World.frozen?_setCell]; exact h.f1
theorem below_set2 {B : Nat} {a w : World} (h : Below B a w) {g : Nat} (hg : B ≤ g) (u v : Value) : Below B a ((w.setCell ⟨g, 0, none⟩ u).setCell ⟨g, 1, none⟩ v) := (h.setCell (by exact hg) u).setCell (by exact hg) v
/-- two numbers whose greatest common divisor is looked for -/
structure Two (x y : Int) (a b : Nat) : Prop where
  gcd : Nat.gcd a b = Int.gcd x y
theorem Two.step {x y : Int} {a b : Nat} (h : Two x y a b) : Two x y b (a % b) := ⟨by rw [Nat.gcd_comm, ← Nat.gcd_rec, Nat.gcd_comm]; exact h.gcd⟩
theorem Fit.le {N : Nat} {z : Int} (h : Fit N z) {y : Int} (h0 : 0 ≤ y) (h1 : y ≤ Dig.ab z) : Fit N y := by
  obtain ⟨h2, h3⟩ := h
  have : Dig.ab z < B32 ^ N := by unfold Dig.ab; split <;> omega
  exact ⟨by omega, by omega⟩

theorem Gcd_calls (s : Int) (A : Option Addr) (n c : Nat) (x : Int) (s' : Int) (A' : Option Addr) (n' c' : Nat) (y : Int) (D : Nat → Prop) (w : World) (hD : Lo D w)
    (hx : IntC w D s A n c x) (hy : IntC w D s' A' n' c' y) (N : Nat) (hN : N ≤ 536870912) (fx : Fit N x) (fy : Fit N y) :
    Calls Tryz.prog 187 #[.agg #[.int .i64 s, .slice A n c], .agg #[.int .i64 s', .slice A' n' c']] w fun e w' => ∃ t B m d, e = .returned (.agg #[.int .i64 t, .slice B m d]) ∧ Below w.heap.size w w' ∧
      IntC w' (gr D w w') t B m d (Int.gcd x y : Int) := by
  obtain ⟨b1, b2⟩ := hx.s_lt
  obtain ⟨b3, b4⟩ := hy.s_lt
  have HX := Lib.hid hx
  have HY := Lib.hid hy
  clear hx hy
  go_enter Tryz.func187, Tryz.ntmps187
  go_upto_region 1 with fail
  obtain ⟨x0, x1, x2, hB0⟩ := boxes3_box w s A n c s' A' n' c' 0 none 0 0 156
  generalize ((w.alloc (.cells #[.int .i64 s, .slice A n c] 156)).alloc (.cells #[.int .i64 s', .slice A' n' c'] 156)).alloc (.cells #[.int .i64 0, .slice none 0 0] 156) = W0 at *
  have z0 := x0.lt
  have z1 := x1.lt
  have z2 := x2.lt
  go_cut [] from 7 to 10 (fun wx => Below w.heap.size w wx ∧ Box wx w.heap.size (Dig.ab s) A n c ∧ Box wx (w.heap.size + 1) (Dig.ab s') A' n' c' ∧ Box wx (w.heap.size + 1 + 1) 0 none 0 0)
  case first =>
    have x0 := x0.drew
    have x1 := x1.drew
    have x2 := x2.drew
    have hB0 := hB0.drew
    have c00 := x0.c0; have c01 := x0.c1; have c10 := x1.c0; have c11 := x1.c1
    have f00 := x0.f0; have f01 := x0.f1; have f10 := x1.f0; have f11 := x1.f1
    go_region_with (go_at_call 238; refine (Abs_raw _ _ _ _ _ (by omega) (by omega)).mono ?_; rintro e w1 ⟨rfl, hb1⟩; have x0 := x0.below hb1; have x1 := x1.below hb1; have x2 := x2.below hb1; have c00 := x0.c0; have c01 := x0.c1; have c10 := x1.c0; have c11 := x1.c1; have f00 := x0.f0; have f01 := x0.f1; have f10 := x1.f0; have f11 := x1.f1; have hB0 := hB0.trans (hb1.mono hB0.size))
    all_goals
      go_wp2_with fail
      go_meet
      exact ⟨below_set2 (below_set2 hB0 (Nat.le_refl _) _ _) (by omega) _ _, (x0.set _ _ _ _).far (by omega) _ _, (x1.far (by omega) _ _).set _ _ _ _, (x2.far (by omega) _ _).far (by omega) _ _⟩
  case rest =>
    obtain ⟨hB, y0, y1, y2⟩ := hcut
    clear x0 x1 x2 z0 z1 z2 hB0
    have hi := (HX.out.below hD hB).abs
    have hj := (HY.out.below hD hB).abs
    have hax : Dig.ab x = ((x.natAbs : Nat) : Int) := by unfold Dig.ab; split <;> omega
    have hay : Dig.ab y = ((y.natAbs : Nat) : Int) := by unfold Dig.ab; split <;> omega
    have hfx : Fit N (x.natAbs : Int) := by rw [← hax]; exact fx.le (Dig.ab_nonneg _) (Int.le_refl _)
    have hfy : Fit N (y.natAbs : Int) := by rw [← hay]; exact fy.le (Dig.ab_nonneg _) (Int.le_refl _)
    rw [hax] at hi
    rw [hay] at hj
    clear hax hay
    have HGX := Lib.hid hfx
    have HGY := Lib.hid hfy
    clear hfx hfy
    obtain ⟨wo, rfl⟩ : ∃ wo : World, wo = wc := ⟨_, rfl⟩
    go_wp2_with fail
    go_loopg [] y.natAbs (fun b wr => ∃ (a : Nat) (s : Int) (A : Option Addr) (n c : Nat) (s' : Int) (A' : Option Addr) (n' c' : Nat), Below w.heap.size w wr ∧ Box wr w.heap.size s A n c ∧ Box wr (w.heap.size + 1) s' A' n' c' ∧ Box wr (w.heap.size + 1 + 1) 0 none 0 0 ∧
        IntC wr (fun k => D k ∨ (w.heap.size + 3 ≤ k ∧ k < wr.heap.size)) s A n c (a : Int) ∧ IntC wr (fun k => D k ∨ (w.heap.size + 3 ≤ k ∧ k < wr.heap.size)) s' A' n' c' (b : Int) ∧ Fit N (a : Int) ∧ Fit N (b : Int) ∧ Two x y a b)
    case atStart => exact ⟨_, _, _, _, _, _, _, _, _, hB, y0, y1, y2, hi.mono fun k hk => .inl hk, hj.mono fun k hk => .inl hk, HGX.out, HGY.out, ⟨rfl⟩⟩
    case round =>
      clear y0 y1 y2 hB hi hj
      obtain ⟨a, s1, A1, n1, c1, s2, A2, n2, c2, hB, x0, x1, x2, hi, hj, fa, fb, hg⟩ := hrel
      have z0 := x0.lt
      have z1 := x1.lt
      have z2 := x2.lt
      have c00 := x0.c0; have c01 := x0.c1; have c10 := x1.c0; have c11 := x1.c1
      have f00 := x0.f0; have f01 := x0.f1; have f10 := x1.f0; have f11 := x1.f1
      have hL : Lo (fun k => D k ∨ (w.heap.size + 3 ≤ k ∧ k < wr.heap.size)) wr := fun k hk => by
        have := hB.size
        rcases hk with hk | hk
        · exact Nat.lt_of_lt_of_le (hD k hk) this
        · exact hk.2
      go_wp2_with fail
      refine (Sign_calls _ _ _ _ _ _ _ hj).mono ?_
      rintro e w1 ⟨rfl, hb1⟩
      have x0 := x0.below hb1
      have x1 := x1.below hb1
      have x2 := x2.below hb1
      have hB1 := hB.trans (hb1.mono hB.size)
      have hi1 := hi.same (hL.same hb1)
      have hj1 := hj.same (hL.same hb1)
      have hL1 := hL.up hb1.size
      clear hi hj c00 c01 c10 c11 f00 f01 f10 f11 z0 z1 z2
      have z0 := x0.lt
      have z1 := x1.lt
      have z2 := x2.lt
      have c00 := x0.c0; have c01 := x0.c1; have c10 := x1.c0; have c11 := x1.c1
      have f00 := x0.f0; have f01 := x0.f1; have f10 := x1.f0; have f11 := x1.f1
      have f20 := x2.f0; have f21 := x2.f1; have c20 := x2.c0; have c21 := x2.c1
      have hzz := x2.lt
      have hsz0 := hB.size
      have hsz1 := hb1.size
      by_cases hk : gk = 0
      · subst hk
        rw [show Dig.sgn ((0 : Nat) : Int) = 0 from rfl]
        go_wp2
        refine bodyPost_ret (v := .agg #[.int .i64 s1, .slice A1 n1 c1]) (by simp [results, Tryz.results187, go_sem, c20, c21]) rfl ⟨_, _, _, _, rfl, below_set2 hB1 (by omega) _ _, ?_⟩
        have e := hg.gcd
        rw [Nat.gcd_zero_right] at e
        rw [← e]
        refine (hi1.store2 (w.heap.size + 1 + 1) ?_ 0 1 _ _).mono ?_
        · rintro (hk | hk)
          · have := hD _ hk; omega
          · omega
        · rintro k (hk | hk)
          · exact .inl hk
          · exact .inr ⟨by omega, by simp [World.setCell]; omega⟩
      · rw [Dig.sgn_gt (by omega)]
        go_wp2_with fail
        refine (Quo_calls _ _ _ _ _ _ _ _ _ _ _ _ hL1 hi1 hj1 (by omega) N hN fa fb).mono ?_
        rintro e w2 ⟨t, B, m, d, t', B', m', d', rfl, hb2, hq, hr⟩
        go_upto_region 4 with fail
        have hA := boxes2 w2 (.cells #[.int .i64 t, .slice B m d] 156) (.cells #[.int .i64 t', .slice B' m' d'] 156)
        have x6 := Box.of_alloc (w2.alloc (.cells #[.int .i64 t, .slice B m d] 156)) t' B' m' d' 156 (w2.heap.size + 1) (by simp)
        have hsz2 := hb2.size
        have hw3 : ((w2.alloc (.cells #[.int .i64 t, .slice B m d] 156)).alloc (.cells #[.int .i64 t', .slice B' m' d'] 156)).heap.size = w2.heap.size + 2 := by simp
        have HW3 := Lib.hid hw3
        clear hw3 hi1
        generalize (w2.alloc (.cells #[.int .i64 t, .slice B m d] 156)).alloc (.cells #[.int .i64 t', .slice B' m' d'] 156) = w3 at *
        have x0 := (x0.below hb2).below hA
        have x1 := (x1.below hb2).below hA
        have x2 := (x2.below hb2).below hA
        have hB3 := (hB1.trans (hb2.mono hB1.size)).trans (hA.mono (by omega))
        have hr3 := hr.same (w' := w3) fun k hk => hA.block k (by
          rcases hk with hk | hk
          · have := hL1 k hk; omega
          · exact hk.2)
        have hj3 := (hj1.same (hL1.same hb2)).same (w' := w3) fun k hk => hA.block k (by have := hL1 k hk; omega)
        clear hr hj1 c00 c01 c10 c11 f00 f01 f10 f11 f20 f21 c20 c21 z0 z1 z2 hq
        have z0 := x0.lt
        have z1 := x1.lt
        have z2 := x2.lt
        have c00 := x0.c0; have c01 := x0.c1; have c10 := x1.c0; have c11 := x1.c1
        have f00 := x0.f0; have f01 := x0.f1; have f10 := x1.f0; have f11 := x1.f1
        have c60 := x6.c0; have c61 := x6.c1; have f60 := x6.f0; have f61 := x6.f1; have z6 := x6.lt
        go_region
        go_wp2_with fail
        have hpos : 0 < gk := Nat.pos_of_ne_zero hk
        have hm : (a : Int).tmod (gk : Int) = ((a % gk : Nat) : Int) := by rw [Int.ofNat_tmod]
        rw [hm] at hr3
        have hml := Nat.mod_lt a hpos
        have hmle := Nat.mod_le a gk
        go_roundg (a % gk)
        case measure => exact hml
        case rel =>
          have n0 : ∀ k, k = w.heap.size ∨ k = w.heap.size + 1 → ¬ (D k ∨ (w.heap.size + 3 ≤ k ∧ k < w1.heap.size)) := by
            rintro k hk (h | h)
            · have := hD _ h; omega
            · omega
          refine ⟨gk, s2, A2, n2, c2, t', B', m', d', (below_set2 (below_set2 hB3 (Nat.le_refl _) _ _) (by omega) _ _).drew, ((x0.set _ _ _ _).far (by omega) _ _).drew, ((x1.far (by omega) _ _).set _ _ _ _).drew, ((x2.far (by omega) _ _).far (by omega) _ _).drew, ?_, ?_, fb, ?_, hg.step⟩
          · refine (store4 hj3 w.heap.size (w.heap.size + 1) ?_ ?_ _ _ _ _).drew.mono ?_
            · rintro (h | h)
              · have := hD _ h; omega
              · omega
            · rintro (h | h)
              · have := hD _ h; omega
              · omega
            · rintro k (h | h)
              · exact .inl h
              · exact .inr ⟨h.1, by have := HW3.out; simp [World.setCell]; omega⟩
          · refine (store4 hr3 w.heap.size (w.heap.size + 1) ?_ ?_ _ _ _ _).drew.mono ?_
            · rintro ((h | h) | h)
              · have := hD _ h; omega
              · omega
              · omega
            · rintro ((h | h) | h)
              · have := hD _ h; omega
              · omega
              · omega
            · rintro k ((h | h) | h)
              · exact .inl h
              · exact .inr ⟨h.1, by have := HW3.out; simp [World.setCell]; omega⟩
              · exact .inr ⟨by omega, by have := HW3.out; simp [World.setCell]; omega⟩
          · exact fb.le (by omega) (by rw [Dig.ab_of_pos (by omega)]; omega)

end Go.Proofs.YtoffbdlgmnpblaaGreat
