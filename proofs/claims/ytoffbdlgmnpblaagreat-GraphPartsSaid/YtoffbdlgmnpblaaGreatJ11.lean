/- Part 11: Md3 Md4. -/
import Derived.Test.YtoffbdlgmnpblaaGreatJ10
import Derived.Test.YtoffbdlgmnpblaaGreatJ02

/- Package model: a choice is valid. -/
namespace Go.Proofs.YtoffbdlgmnpblaaGreat
open Go.RowKit
set_option maxHeartbeats 4000000
set_option maxRecDepth 100000

/-! ### What is meant -/
def ratOf (x : Num) : Rat := Rat.divInt x.top x.low
def sumOf (l : List Br) : Rat := l.foldl (fun s b => s + ratOf b.ch) 0
/-- the branches rise, lead to states and have valid chances -/
def brsOk (n : Int) : Int → List Br → Bool
  | _, [] => true
  | last, b :: bs => (decide (last < b.to ∧ b.to < n ∧ 0 < b.ch.top) && validN b.ch.top b.ch.low) && brsOk n b.to bs
def choiceB (n : Int) (c : Ch) : Bool := validN c.rw.top c.rw.low && (decide (1 ≤ c.brs.length ∧ c.brs.length ≤ 8) && (brsOk n (-1) c.brs && decide (sumOf c.brs = 1)))

theorem sumOf_succ (l : List Br) (j : Nat) (b : Br) (h : l[j]? = some b) : sumOf (l.take (j + 1)) = sumOf (l.take j) + ratOf b.ch := by
  rw [List.take_add_one, h]
  simp [sumOf, List.foldl_append]
theorem brsOk_drop (n last : Int) (l : List Br) (j : Nat) (b : Br) (h : l[j]? = some b) : brsOk n last (l.drop j) = ((decide (last < b.to ∧ b.to < n ∧ 0 < b.ch.top) && validN b.ch.top b.ch.low) && brsOk n b.to (l.drop (j + 1))) := by
  obtain ⟨hj, rfl⟩ := List.getElem?_eq_some_iff.1 h
  rw [List.drop_eq_getElem_cons hj]
  rfl
theorem sgn_one (x : Rat) : (Dig.sgn (x - 1).num == 0) = decide (x = 1) := by
  rw [Bool.eq_iff_iff, beq_iff_eq, decide_eq_true_eq]
  constructor
  · intro h
    have h0 : (x - 1).num = 0 := by
      unfold Dig.sgn at h
      split at h
      · cases h
      · split at h
        · cases h
        · omega
    have : x - 1 = 0 := Rat.num_eq_zero.1 h0
    grind
  · rintro rfl
    rw [Rat.sub_self]
    rfl
theorem FitR.zero : FitR 1 0 := by
  have e : B32 ^ 1 = 4294967296 := by decide
  exact ⟨⟨by rw [e]; decide, by rw [e]; decide⟩, ⟨by rw [e]; decide, by rw [e]; decide⟩⟩
theorem FitR.one : FitR 1 ((1 : Int) : Rat) := by
  have e : B32 ^ 1 = 4294967296 := by decide
  exact ⟨⟨by rw [e]; decide, by rw [e]; decide⟩, ⟨by rw [e]; decide, by rw [e]; decide⟩⟩
theorem FitR.ofNum {x : Num} (h1 : 1 ≤ x.low) (h2 : x.low ≤ 1152921504606846976) (h3 : -1152921504606846976 ≤ x.top) (h4 : x.top ≤ 1152921504606846976) : FitR 2 (ratOf x) := FitR.divInt (fit_of_small (by omega) (by omega)) (fit_of_small (by omega) (by omega)) (by omega)

/-! ### A rational number in a cell of its own -/
structure RatCell (W : World) (g B : Nat) (x : Rat) : Prop where
  ex : ∃ s A n c s' A' n' c', (W.cell? ⟨g, 0, none⟩ = some (.int .i64 s) ∧ W.cell? ⟨g, 1, none⟩ = some (.slice A n c) ∧ W.cell? ⟨g, 2, none⟩ = some (.int .i64 s') ∧ W.cell? ⟨g, 3, none⟩ = some (.slice A' n' c')) ∧
    RatC W (fun k => B ≤ k ∧ k < W.heap.size) (.agg #[.int .i64 s, .slice A n c, .int .i64 s', .slice A' n' c']) x
  free : ∀ i, W.frozen? ⟨g, i, none⟩ = false
  lt : g < W.heap.size
theorem lo_from (B : Nat) (W : World) : Lo (fun k => B ≤ k ∧ k < W.heap.size) W := fun _ h => h.2
theorem RatCell.below {W W' : World} {g B : Nat} {x : Rat} (h : RatCell W g B x) (hb : Below W.heap.size W W') : RatCell W' g B x := by
  obtain ⟨⟨s, A, n, c, s', A', n', c', ⟨h0, h1, h2, h3⟩, hr⟩, hf, hl⟩ := h
  refine ⟨⟨s, A, n, c, s', A', n', c', ⟨?_, ?_, ?_, ?_⟩, (hr.below (lo_from B W) hb).mono fun k hk => ⟨hk.1, Nat.lt_of_lt_of_le hk.2 hb.size⟩⟩, fun i => (hb.frozen (p := ⟨g, i, none⟩) hl).trans (hf i), Nat.lt_of_lt_of_le hl hb.size⟩
  · exact (hb.cell (p := ⟨g, 0, none⟩) hl).trans h0
  · exact (hb.cell (p := ⟨g, 1, none⟩) hl).trans h1
  · exact (hb.cell (p := ⟨g, 2, none⟩) hl).trans h2
  · exact (hb.cell (p := ⟨g, 3, none⟩) hl).trans h3
theorem set4_cells (w : World) (g : Nat) (a b c d a' b' c' d' : Value) (h0 : w.cell? ⟨g, 0, none⟩ = some a') (h1 : w.cell? ⟨g, 1, none⟩ = some b') (h2 : w.cell? ⟨g, 2, none⟩ = some c') (h3 : w.cell? ⟨g, 3, none⟩ = some d') :
    let W := (((w.setCell ⟨g, 0, none⟩ a).setCell ⟨g, 1, none⟩ b).setCell ⟨g, 2, none⟩ c).setCell ⟨g, 3, none⟩ d
    W.cell? ⟨g, 0, none⟩ = some a ∧ W.cell? ⟨g, 1, none⟩ = some b ∧ W.cell? ⟨g, 2, none⟩ = some c ∧ W.cell? ⟨g, 3, none⟩ = some d := by
  refine ⟨?_, ?_, ?_, ?_⟩ <;> simp [go_sem, h0, h1, h2, h3]
theorem RatCell.store {W : World} {g B : Nat} {x y : Rat} (h : RatCell W g B x) (hg : g < B) {s : Int} {A : Option Addr} {n c : Nat} {s' : Int} {A' : Option Addr} {n' c' : Nat} (hr : RatC W (fun k => B ≤ k ∧ k < W.heap.size) (.agg #[.int .i64 s, .slice A n c, .int .i64 s', .slice A' n' c']) y) :
    RatCell ((((W.setCell ⟨g, 0, none⟩ (.int .i64 s)).setCell ⟨g, 1, none⟩ (.slice A n c)).setCell ⟨g, 2, none⟩ (.int .i64 s')).setCell ⟨g, 3, none⟩ (.slice A' n' c')) g B y := by
  obtain ⟨⟨_, _, _, _, _, _, _, _, ⟨h0, h1, h2, h3⟩, -⟩, hf, hl⟩ := h
  obtain ⟨_, _, _, _, _, _, _, _, l, e, r1, r2, r3⟩ := hr
  cases e
  have hn : ¬ (B ≤ g ∧ g < W.heap.size) := by omega
  refine ⟨⟨_, _, _, _, _, _, _, _, set4_cells W g _ _ _ _ _ _ _ _ h0 h1 h2 h3, _, _, _, _, _, _, _, _, l, rfl, (r1.set4 g hn _ _ _ _).mono ?_, (r2.set4 g hn _ _ _ _).mono ?_, r3⟩, fun i => ?_, ?_⟩
  · intro k hk; exact ⟨hk.1, by simpa [World.setCell] using hk.2⟩
  · intro k hk; exact ⟨hk.1, by simpa [World.setCell] using hk.2⟩
  · simp [World.frozen?_setCell, hf]
  · simpa [World.setCell] using hl
theorem RatCell.new (w : World) (t : TypeId) (B : Nat) : RatCell (w.alloc (.cells #[.int .i64 0, .slice none 0 0, .int .i64 0, .slice none 0 0] t)) w.heap.size B 0 := by
  refine ⟨⟨0, none, 0, 0, 0, none, 0, 0, ⟨?_, ?_, ?_, ?_⟩, _, _, _, _, _, _, _, _, 0, rfl, IntC.small (by decide) (by decide), IntC.small (by decide) (by decide), .inr ⟨rfl, rfl⟩⟩, fun i => (box_cells w _ rfl _ t i).2, by simp⟩
  all_goals exact (box_cells w _ rfl _ t _).1

theorem choice_calls (n : Int) (x : Ch) (A : Option Addr) (m c : Nat) (D : Nat → Prop) (w : World) (hD : Lo D w) (h : Sl Kind.br w D (.slice A m c) x.brs) :
    Calls Tryz.prog 123 #[.int .i64 n, .agg #[.int .i64 x.rw.top, .int .i64 x.rw.low, .slice A m c]] w fun e w' => e = .returned (.bool (choiceB n x)) ∧ Below w.heap.size w w' := by
  obtain ⟨rfl, h1, h2⟩ := h.len
  unfold maxLen at h2
  have H := Lib.hid h
  clear h
  generalize hr : x.rw = r at *
  obtain ⟨t, l⟩ := r
  have HV := Lib.hid (show choiceB n x = (validN t l && (decide (1 ≤ x.brs.length ∧ x.brs.length ≤ 8) && (brsOk n (-1) x.brs && decide (sumOf x.brs = 1)))) by unfold choiceB; rw [hr])
  clear hr
  cases hv : validN t l with
  | false =>
    have HV' := Lib.hid (show choiceB n x = false by rw [HV.out, hv]; rfl)
    have HVV := Lib.hid hv
    clear hv
    go_enter Tryz.func123, Tryz.ntmps123
    go_wp2_with fail
    refine (NumValid_calls t l _).mono ?_
    rintro e w1 ⟨rfl, hb1⟩
    rw [HVV.out]
    go_wp2
    go_ret
    exact ⟨ret_bool HV'.out.symm, ((Below.refl _ _).alloc (Nat.le_refl _) _).trans (hb1.mono (by simp))⟩
  | true =>
    have HVV := Lib.hid hv
    clear hv
    go_enter Tryz.func123, Tryz.ntmps123
    go_wp2_with fail
    have hB0 := (Below.refl w.heap.size w).alloc (Nat.le_refl _) (.cells #[.int .i64 t, .int .i64 l, .slice A x.brs.length c] 97)
    refine (NumValid_calls t l _).mono ?_
    rintro e w1 ⟨rfl, hb1⟩
    rw [HVV.out]
    obtain ⟨hc1, hf1⟩ := bcell hb1
    have hs1 : w.heap.size < w1.heap.size := by have := hb1.size; simp at this; omega
    have hB1 := hB0.trans (hb1.mono (by simp))
    by_cases hlen : x.brs.length < 1 ∨ 8 < x.brs.length
    · have HV' := Lib.hid (show choiceB n x = false by rw [HV.out, decide_eq_false (show ¬ (1 ≤ x.brs.length ∧ x.brs.length ≤ 8) by omega)]; simp)
      rcases hlen with hlen | hlen
      all_goals
        go_wp2_with fail
        go_ret
        exact ⟨ret_bool HV'.out.symm, hB1⟩
    · have hl1 : 1 ≤ x.brs.length := by omega
      have hl8 : x.brs.length ≤ 8 := by omega
      clear hlen
      go_wp2_with fail
      have hR0 := RatCell.new w1 158 (w1.heap.size + 1)
      have hB0' := hB1.alloc (by omega) (.cells #[.int .i64 0, .slice none 0 0, .int .i64 0, .slice none 0 0] 158)
      have hz0 : (w1.alloc (.cells #[.int .i64 0, .slice none 0 0, .int .i64 0, .slice none 0 0] 158)).heap.size = w1.heap.size + 1 := by simp
      generalize w1.alloc (.cells #[.int .i64 0, .slice none 0 0, .int .i64 0, .slice none 0 0] 158) = W0 at *
      have HZ0 := Lib.hid hz0
      have HV2 := Lib.hid (show choiceB n x = (brsOk n (-1) x.brs && decide (sumOf x.brs = 1)) by rw [HV.out, decide_eq_true (show (1 ≤ x.brs.length ∧ x.brs.length ≤ 8) by omega)]; simp [HVV.out])
      clear hz0 HV hc1 hf1 hB0
      go_loopw [6, 28] (fun last k W => ∃ (j : Nat) (la : Int), j ≤ x.brs.length ∧ last = .int .i64 la ∧ k = .int .i64 (j : Int) ∧ Hid (brsOk n (-1) x.brs = brsOk n la (x.brs.drop j)) ∧ Below w.heap.size w W ∧ w1.heap.size + 1 ≤ W.heap.size ∧ RatCell W w1.heap.size (w1.heap.size + 1) (sumOf (x.brs.take j)) ∧ FitR (1 + 3 * j) (sumOf (x.brs.take j))) (fun _ k _ => x.brs.length - (intOf k).toNat)
      case atStart => exact ⟨0, -1, Nat.zero_le _, rfl, rfl, rfl, hB0', by have := HZ0.out; omega, hR0, FitR.zero⟩
      case round =>
        obtain ⟨j, la, hj, rfl, rfl, HA, hBW, hsW, hRW, hFW⟩ := hrel
        by_cases hlt : j < x.brs.length
        · obtain ⟨b, hb⟩ : ∃ b, x.brs[j]? = some b := ⟨_, List.getElem?_eq_getElem hlt⟩
          obtain ⟨ad, rfl, hDa, q0, q1, q2⟩ := (H.out.same (hD.same hBW)).br_at j b hb
          have HB := Lib.hid hb
          have hdrop := brsOk_drop n la x.brs j b hb
          have HDR := Lib.hid hdrop
          clear hb hdrop
          have hfalse : (la < b.to ∧ b.to < n ∧ 0 < b.ch.top → validN b.ch.top b.ch.low = true → False) → choiceB n x = false := by
            intro hno
            rw [HV2.out, HA.out, HDR.out]
            cases hv : validN b.ch.top b.ch.low with
            | false => simp
            | true => rw [decide_eq_false (fun hh => hno hh hv)]; rfl
          have HF := Lib.hid hfalse
          have hBW1 : Below w.heap.size w (wr.alloc (.cells #[.int .i64 b.to, .int .i64 b.ch.top, .int .i64 b.ch.low] 103)) := hBW.alloc (by omega) _
          clear hfalse
          by_cases hto : la < b.to ∧ b.to < n
          · obtain ⟨hto1, hto2⟩ := hto
            go_wp2_with fail
            refine (NumValid_calls b.ch.top b.ch.low _).mono ?_
            rintro e w2 ⟨rfl, hb2⟩
            have hB2 := hBW1.trans (hb2.mono hBW1.size)
            cases hv : validN b.ch.top b.ch.low with
            | false =>
              have HV3 := Lib.hid (HF.out fun _ h => by rw [hv] at h; cases h)
              clear hv
              go_wp2_with fail
              go_ret
              exact ⟨ret_bool HV3.out.symm, hB2⟩
            | true =>
              obtain ⟨n1, n2, n3, n4⟩ := ValidN.bounds hv
              have HVB := Lib.hid hv
              clear hv
              obtain ⟨hc2, hf2⟩ := bcell hb2
              have hs2 : wr.heap.size < w2.heap.size := by have := hb2.size; simp at this; omega
              by_cases htop : b.ch.top ≤ 0
              · have HV3 := Lib.hid (HF.out fun h _ => by omega)
                go_wp2_with fail
                go_ret
                exact ⟨ret_bool HV3.out.symm, hB2⟩
              · have htop' : 0 < b.ch.top := by omega
                clear htop
                go_upto_region 11 with fail
                have hR2 := hRW.below (((Below.refl wr.heap.size wr).alloc (Nat.le_refl _) (.cells #[.int .i64 b.to, .int .i64 b.ch.top, .int .i64 b.ch.low] 103)).trans (hb2.mono (by simp)))
                have b1 : w2.cell? ⟨wr.heap.size, 1, none⟩ = some (.int .i64 b.ch.top) := (hb2.cell (p := ⟨wr.heap.size, 1, none⟩) (by simp)).trans (box_cells wr _ rfl _ _ 1).1
                have b2 : w2.cell? ⟨wr.heap.size, 2, none⟩ = some (.int .i64 b.ch.low) := (hb2.cell (p := ⟨wr.heap.size, 2, none⟩) (by simp)).trans (box_cells wr _ rfl _ _ 2).1
                have hRS := hR2
                obtain ⟨⟨s, rA, rn, rc, s', rA', rn', rc', ⟨c0, c1, c2, c3⟩, hs⟩, hfr, hlt5⟩ := hR2
                have HS := Lib.hid hs
                have f0 := hfr 0; have f1 := hfr 1; have f2 := hfr 2; have f3 := hfr 3
                have hs3 : w1.heap.size + 1 ≤ w2.heap.size := by omega
                clear hs hc2 hf2 hRW hfr hb2 q0 q1 q2
                have hT := (Below.refl w2.heap.size w2).drew
                go_region_with (first
                  | (go_at_call 153; refine (NumRat_calls _ _ _ n1 n2 n3 n4).mono ?_; rintro e wq ⟨vq, rfl, hbq, hrq⟩; have hTs := hT.size; have hT := Below.trans hT (Below.mono hbq hT.size); obtain ⟨hc, hf⟩ := bcell hT; have HQ := Lib.hid (RatC.mono hrq (fun k hk => (⟨Nat.le_trans (Nat.le_trans hs3 hTs) hk.1, hk.2⟩ : w1.heap.size + 1 ≤ k ∧ k < wq.heap.size))); clear hrq)
                  | (go_at_call 152; refine (RatAdd_calls _ _ (sumOf (x.brs.take j)) (ratOf b.ch) (fun k => w1.heap.size + 1 ≤ k ∧ k < wq.heap.size) _ (lo_from _ _) ((HS.out.below (lo_from _ _) hT).mono (fun k hk => ⟨hk.1, Nat.lt_of_lt_of_le hk.2 hT.size⟩)) HQ.out (2 + 3 * j) (by omega) (hFW.mono (by omega)) ((FitR.ofNum n1 n2 n3 n4).mono (by omega))).mono ?_; rintro e wz ⟨vz, rfl, hbz, hrz⟩; have hT2 := Below.trans hT (Below.mono hbz hT.size); clear hc hf; obtain ⟨hc, hf⟩ := bcell hT2; obtain ⟨zs, zA, zn, zc, zs', zA', zn', zc', zl, rfl, i1, i2, i3⟩ := hrz; have I1 := Lib.hid i1; have I2 := Lib.hid i2; have I3 := Lib.hid i3; clear i1 i2 i3))
                all_goals
                  go_wp2
                  have hsq := hT.size
                  have hup : ∀ k, gr (fun k => w1.heap.size + 1 ≤ k ∧ k < wq.heap.size) wq wz k → w1.heap.size + 1 ≤ k ∧ k < wz.heap.size := by
                    rintro k (hk | hk)
                    · exact ⟨hk.1, Nat.lt_of_lt_of_le hk.2 hbz.size⟩
                    · exact ⟨by omega, hk.2⟩
                  refine ⟨⟨j + 1, b.to, by omega, rfl, by go_num, ?_, below_set4 (hB2.trans (hT2.mono hB2.size)) (by omega) _ _ _ _, by simp [World.setCell]; have := hT2.size; omega, ?_, ?_⟩, by simp [intOf]; omega⟩
                  · have : brsOk n (-1) x.brs = brsOk n b.to (x.brs.drop (j + 1)) := by
                      rw [HA.out, HDR.out, HVB.out, decide_eq_true (show la < b.to ∧ b.to < n ∧ 0 < b.ch.top from ⟨hto1, hto2, htop'⟩)]
                      simp
                    exact this
                  · rw [sumOf_succ _ _ _ HB.out]
                    exact (hRS.below hT2).store (by omega) ⟨_, _, _, _, _, _, _, _, _, rfl, I1.out.mono hup, I2.out.mono hup, I3.out⟩
                  · rw [sumOf_succ _ _ _ HB.out]
                    exact (hFW.add (FitR.ofNum n1 n2 n3 n4)).mono (by omega)
          · have HV3 := Lib.hid (HF.out fun h _ => by omega)
            have hto' : b.to ≤ la ∨ (la < b.to ∧ n ≤ b.to) := by omega
            clear hto
            rcases hto' with hto | ⟨hto, hto'⟩
            all_goals
              go_wp2_with fail
              go_ret
              exact ⟨ret_bool HV3.out.symm, hBW1⟩
        · obtain rfl : j = x.brs.length := by omega
          clear hlt
          have HV3 := Lib.hid (show choiceB n x = (Dig.sgn (sumOf x.brs - 1).num == 0) by rw [HV2.out, HA.out, List.drop_length, sgn_one]; rfl)
          rw [List.take_length] at hRW hFW
          clear HA
          go_upto_region 13 with fail
          obtain ⟨⟨s, rA, rn, rc, s', rA', rn', rc', ⟨c0, c1, c2, c3⟩, hs⟩, -, hlt5⟩ := hRW
          have HS := Lib.hid hs
          clear hs
          have hT := (Below.refl wr.heap.size wr).drew
          go_region_with (first
            | (go_at_call 158; refine (Whole_calls _ (fun k => w1.heap.size + 1 ≤ k ∧ k < wr.heap.size) _ (by decide) (by decide)).mono ?_; rintro e wq ⟨vq, rfl, hbq, hrq⟩; have hT := Below.trans hT (Below.mono hbq hT.size); obtain ⟨hc, hf⟩ := bcell hT; have HQ := Lib.hid hrq; clear hrq)
            | (go_at_call 157; refine (RatCmp_calls _ _ (sumOf x.brs) ((1 : Int) : Rat) (fun k => w1.heap.size + 1 ≤ k ∧ k < wr.heap.size) _ ((lo_from _ wr).up hT.size) (HS.out.below (lo_from _ _) hT) HQ.out 25 (by omega) (hFW.mono (by omega)) (FitR.one.mono (by omega))).mono ?_; rintro e wz ⟨rfl, hbz⟩; have hT2 := Below.trans hT (Below.mono hbz hT.size)))
          all_goals
            go_wp2
            go_ret
            exact ⟨ret_bool HV3.out.symm, hBW.trans (hT2.mono hBW.size)⟩

end Go.Proofs.YtoffbdlgmnpblaaGreat

/- Package model: a model is valid; a set is valid. -/
namespace Go.Proofs.YtoffbdlgmnpblaaGreat
open Go.RowKit
set_option maxHeartbeats 4000000
set_option maxRecDepth 100000

def stB (n : Int) (s : St) : Bool := decide (0 ≤ s.owner ∧ s.owner ≤ 1 ∧ 0 ≤ s.mark ∧ s.mark ≤ 63 ∧ 1 ≤ s.chs.length ∧ s.chs.length ≤ 8) && s.chs.all (choiceB n)
/-- a model is valid -/
def validB (m : List St) : Bool := decide (1 ≤ m.length ∧ m.length ≤ 40) && m.all (stB m.length)

theorem all_take {α : Type} (P : α → Bool) (l : List α) (j : Nat) (x : α) (h : l[j]? = some x) (h1 : (l.take j).all P = true) (h2 : P x = true) : (l.take (j + 1)).all P = true := by
  rw [List.take_add_one, h]
  simp only [List.all_append, h1, Option.toList_some, List.all_cons, h2, List.all_nil, Bool.and_true]
theorem all_no {α : Type} (P : α → Bool) (l : List α) (j : Nat) (x : α) (h : l[j]? = some x) (h2 : P x = false) : l.all P = false := by
  rw [List.all_eq_false]
  exact ⟨x, List.mem_of_getElem? h, by simp [h2]⟩

theorem cells3 {w W : World} {D : Nat → Prop} {ad : Addr} {i : Nat} {a b c : Value} (hD : Lo D w) (hd : D ad.block) (hb : Below w.heap.size w W)
    (h : w.cell? (ad.add (i * 3)) = some a ∧ w.cell? ⟨(ad.add (i * 3)).block, (ad.add (i * 3)).off + 1, none⟩ = some b ∧ w.cell? ⟨(ad.add (i * 3)).block, (ad.add (i * 3)).off + 2, none⟩ = some c) :
    W.cell? (ad.add (i * 3)) = some a ∧ W.cell? ⟨(ad.add (i * 3)).block, (ad.add (i * 3)).off + 1, none⟩ = some b ∧ W.cell? ⟨(ad.add (i * 3)).block, (ad.add (i * 3)).off + 2, none⟩ = some c := by
  have hl : (ad.add (i * 3)).block < w.heap.size := by rw [block_of_add]; exact hD _ hd
  exact ⟨(hb.cell hl).trans h.1, (hb.cell (p := ⟨(ad.add (i * 3)).block, (ad.add (i * 3)).off + 1, none⟩) hl).trans h.2.1, (hb.cell (p := ⟨(ad.add (i * 3)).block, (ad.add (i * 3)).off + 2, none⟩) hl).trans h.2.2⟩
/-- an element's cells in a later world, what it holds in the first one -/
theorem Sl.st_up {w W : World} {D : Nat → Prop} {A : Option Addr} {n c : Nat} {xs : List St} (h : Sl Kind.st w D (.slice A n c) xs) (hD : Lo D w) (hb : Below w.heap.size w W) (i : Nat) (x : St) (hx : xs[i]? = some x) :
    ∃ ad B m d, A = some ad ∧ D ad.block ∧ W.cell? (ad.add (i * 3)) = some (.int .i64 x.owner) ∧ W.cell? ⟨(ad.add (i * 3)).block, (ad.add (i * 3)).off + 1, none⟩ = some (.int .i64 x.mark) ∧ W.cell? ⟨(ad.add (i * 3)).block, (ad.add (i * 3)).off + 2, none⟩ = some (.slice B m d) ∧ Sl Kind.ch w D (.slice B m d) x.chs := by
  obtain ⟨ad, B, m, d, e, hd, q0, q1, q2, hs⟩ := h.st_at i x hx
  obtain ⟨r0, r1, r2⟩ := cells3 hD hd hb ⟨q0, q1, q2⟩
  exact ⟨ad, B, m, d, e, hd, r0, r1, r2, hs⟩
theorem Sl.ch_up {w W : World} {D : Nat → Prop} {A : Option Addr} {n c : Nat} {xs : List Ch} (h : Sl Kind.ch w D (.slice A n c) xs) (hD : Lo D w) (hb : Below w.heap.size w W) (i : Nat) (x : Ch) (hx : xs[i]? = some x) :
    ∃ ad B m d, A = some ad ∧ D ad.block ∧ W.cell? (ad.add (i * 3)) = some (.int .i64 x.rw.top) ∧ W.cell? ⟨(ad.add (i * 3)).block, (ad.add (i * 3)).off + 1, none⟩ = some (.int .i64 x.rw.low) ∧ W.cell? ⟨(ad.add (i * 3)).block, (ad.add (i * 3)).off + 2, none⟩ = some (.slice B m d) ∧ Sl Kind.br w D (.slice B m d) x.brs := by
  obtain ⟨ad, B, m, d, e, hd, q0, q1, q2, hs⟩ := h.ch_at i x hx
  obtain ⟨r0, r1, r2⟩ := cells3 hD hd hb ⟨q0, q1, q2⟩
  exact ⟨ad, B, m, d, e, hd, r0, r1, r2, hs⟩
theorem Sl.br_up {w W : World} {D : Nat → Prop} {A : Option Addr} {n c : Nat} {xs : List Br} (h : Sl Kind.br w D (.slice A n c) xs) (hD : Lo D w) (hb : Below w.heap.size w W) (i : Nat) (x : Br) (hx : xs[i]? = some x) :
    ∃ ad, A = some ad ∧ D ad.block ∧ W.cell? (ad.add (i * 3)) = some (.int .i64 x.to) ∧ W.cell? ⟨(ad.add (i * 3)).block, (ad.add (i * 3)).off + 1, none⟩ = some (.int .i64 x.ch.top) ∧ W.cell? ⟨(ad.add (i * 3)).block, (ad.add (i * 3)).off + 2, none⟩ = some (.int .i64 x.ch.low) := by
  obtain ⟨ad, e, hd, q0, q1, q2⟩ := h.br_at i x hx
  obtain ⟨r0, r1, r2⟩ := cells3 hD hd hb ⟨q0, q1, q2⟩
  exact ⟨ad, e, hd, r0, r1, r2⟩

theorem Valid_calls (m : List St) (v : Value) (D : Nat → Prop) (w : World) (hD : Lo D w) (h : ModelC w D v m) :
    Calls Tryz.prog 71 #[v] w fun e w' => e = .returned (.bool (validB m)) ∧ Below w.heap.size w w' := by
  obtain ⟨u, rfl, h⟩ := h
  obtain ⟨A, c, rfl, h1, h2, -⟩ := h.form
  unfold maxLen at h2
  have H := Lib.hid h
  clear h
  by_cases hlen : m.length < 1 ∨ 40 < m.length
  · have HV := Lib.hid (show validB m = false by unfold validB; rw [decide_eq_false (show ¬ (1 ≤ m.length ∧ m.length ≤ 40) by omega)]; rfl)
    rcases hlen with hlen | hlen
    all_goals
      go_enter Tryz.func71, Tryz.ntmps71
      go_wp2
      go_ret
      exact ⟨ret_bool HV.out.symm, (Below.refl _ _).alloc (Nat.le_refl _) _⟩
  · have hl1 : 1 ≤ m.length := by omega
    have hl2 : m.length ≤ 40 := by omega
    have HV := Lib.hid (show validB m = m.all (stB m.length) by unfold validB; rw [decide_eq_true (show (1 ≤ m.length ∧ m.length ≤ 40) by omega)]; rfl)
    clear hlen
    go_enter Tryz.func71, Tryz.ntmps71
    go_wp2
    have hB0 := (Below.refl w.heap.size w).alloc (Nat.le_refl _) (.cells #[.slice A m.length c] 24)
    go_loopw [20] (fun k W => ∃ (j : Nat), j ≤ m.length ∧ k = .int .i64 (j : Int) ∧ Hid ((m.take j).all (stB m.length) = true) ∧ Below w.heap.size w W) (fun k _ => m.length - (intOf k).toNat)
    case atStart => exact ⟨0, Nat.zero_le _, rfl, rfl, hB0⟩
    case round =>
      obtain ⟨j, hj, rfl, HA, hBW⟩ := hrel
      by_cases hlt : j < m.length
      · obtain ⟨s, hs⟩ : ∃ s, m[j]? = some s := ⟨_, List.getElem?_eq_getElem hlt⟩
        obtain ⟨ad, B, p, d, rfl, hDa, q0, q1, q2, hsc⟩ := H.out.st_up hD hBW j s hs
        obtain ⟨rfl, hp1, hp2⟩ := hsc.len
        unfold maxLen at hp2
        have HS := Lib.hid hs
        have HC := Lib.hid hsc
        clear hs hsc
        have hBW1 : Below w.heap.size w (wr.alloc (.cells #[.int .i64 s.owner, .int .i64 s.mark, .slice B s.chs.length d] 79)) := hBW.alloc hBW.size _
        by_cases hok : 0 ≤ s.owner ∧ s.owner ≤ 1 ∧ 0 ≤ s.mark ∧ s.mark ≤ 63 ∧ 1 ≤ s.chs.length ∧ s.chs.length ≤ 8
        · have HOK := Lib.hid (show stB m.length s = s.chs.all (choiceB m.length) by unfold stB; rw [decide_eq_true hok]; rfl)
          obtain ⟨o1, o2, o3, o4, o5, o6⟩ := hok
          go_wp2
          go_loopw [57] (fun k W => ∃ (i : Nat), i ≤ s.chs.length ∧ k = .int .i64 (i : Int) ∧ Hid ((s.chs.take i).all (choiceB m.length) = true) ∧ Below w.heap.size w W) (fun k _ => s.chs.length - (intOf k).toNat)
          case atStart => exact ⟨0, Nat.zero_le _, rfl, rfl, hBW1⟩
          case round =>
            obtain ⟨i, hi, rfl, HA2, hBW2⟩ := hrel
            by_cases hlt2 : i < s.chs.length
            · obtain ⟨x, hx⟩ : ∃ x, s.chs[i]? = some x := ⟨_, List.getElem?_eq_getElem hlt2⟩
              have HX := Lib.hid hx
              obtain ⟨ad2, B2, p2, d2, rfl, hDa2, r0, r1, r2, hxc⟩ := HC.out.ch_up hD hBW2 i x hx
              have hxc' := hxc.same (hD.same (hBW2.alloc hBW2.size (.cells #[.int .i64 x.rw.top, .int .i64 x.rw.low, .slice B2 p2 d2] 97)))
              have HX2 := Lib.hid hxc'
              have hBW3 : Below w.heap.size w (wr.alloc (.cells #[.int .i64 x.rw.top, .int .i64 x.rw.low, .slice B2 p2 d2] 97)) := hBW2.alloc hBW2.size _
              clear hx hxc hxc'
              go_wp2_with fail
              refine (choice_calls m.length x B2 p2 d2 D _ (hD.up hBW3.size) HX2.out).mono ?_
              rintro e w2 ⟨rfl, hb2⟩
              have hB2 := hBW3.trans (hb2.mono hBW3.size)
              cases hv : choiceB m.length x with
              | false =>
                have HF := Lib.hid (show validB m = false by rw [HV.out]; exact all_no _ _ _ _ HS.out (by rw [HOK.out]; exact all_no _ _ _ _ HX.out hv))
                clear hv
                go_wp2_with fail
                go_ret
                exact ⟨ret_bool HF.out.symm, hB2⟩
              | true =>
                have HF := Lib.hid (all_take _ _ _ _ HX.out HA2.out hv)
                clear hv
                go_wp2
                exact ⟨⟨i + 1, by omega, by go_num, HF, hB2⟩, by simp [intOf]; omega⟩
            · obtain rfl : i = s.chs.length := by omega
              have HF := Lib.hid (all_take (stB m.length) _ _ _ HS.out HA.out (by rw [HOK.out]; have := HA2.out; rwa [List.take_length] at this))
              clear hlt2
              go_wp2
              exact ⟨⟨j + 1, by omega, by go_num, HF, hBW2⟩, by simp [intOf]; omega⟩
        · have HF := Lib.hid (show validB m = false by rw [HV.out]; exact all_no _ _ _ _ HS.out (by unfold stB; rw [decide_eq_false hok]; rfl))
          have hok' : s.owner < 0 ∨ (0 ≤ s.owner ∧ 1 < s.owner) ∨ (0 ≤ s.owner ∧ s.owner ≤ 1 ∧ s.mark < 0) ∨ (0 ≤ s.owner ∧ s.owner ≤ 1 ∧ 0 ≤ s.mark ∧ 63 < s.mark) ∨ (0 ≤ s.owner ∧ s.owner ≤ 1 ∧ 0 ≤ s.mark ∧ s.mark ≤ 63 ∧ s.chs.length < 1) ∨ (0 ≤ s.owner ∧ s.owner ≤ 1 ∧ 0 ≤ s.mark ∧ s.mark ≤ 63 ∧ 1 ≤ s.chs.length ∧ 8 < s.chs.length) := by omega
          clear hok
          rcases hok' with o1 | ⟨o1, o2⟩ | ⟨o1, o2, o3⟩ | ⟨o1, o2, o3, o4⟩ | ⟨o1, o2, o3, o4, o5⟩ | ⟨o1, o2, o3, o4, o5, o6⟩
          all_goals
            go_wp2
            go_ret
            exact ⟨ret_bool HF.out.symm, hBW1⟩
      · obtain rfl : j = m.length := by omega
        have HF := Lib.hid (show validB m = true by rw [HV.out, ← HA.out, List.take_length])
        clear hlt
        go_wp2
        go_ret
        exact ⟨ret_bool HF.out.symm, hBW⟩

end Go.Proofs.YtoffbdlgmnpblaaGreat
