/- Part 26: Enb Enc End En3 Ene. -/
import Derived.Test.YtoffbdlgmnpblaaGreatJ25
import Derived.Laws.CopyOwn
import Derived.Test.YtoffbdlgmnpblaaGreatJ11

/- Package ends: Found, Maximal. -/
namespace Go.Proofs.YtoffbdlgmnpblaaGreat
open Go.RowKit
set_option maxHeartbeats 4000000
set_option maxRecDepth 100000

def allStates (n : Nat) : List Int := markedBy n fun _ => true
theorem all_good {n : Nat} (h : 0 < n) : Enp.Good n (allStates n) := by
  have e : allStates n = (List.range n).map (fun k : Nat => (k : Int)) := by unfold allStates markedBy; rw [List.filter_eq_self.2 fun _ _ => rfl]
  rw [e]
  refine ⟨fun h9 => ?_, ?_, fun x hx => ?_⟩
  · have := congrArg List.length h9; simp at this; omega
  · rw [List.pairwise_map]
    exact List.pairwise_lt_range.imp fun h => by omega
  · obtain ⟨k, hk, rfl⟩ := List.mem_map.1 hx
    have := List.mem_range.1 hk
    omega
def foundOf (m : List St) : List Endp := insideOf m (allStates m.length)

theorem yes_calls (s : Int) (W : World) : Calls Tryz.prog 146 #[.int .i64 s] W fun e w' => e = .returned (.bool true) ∧ W = w' := by
  go_enter Tryz.func146, Tryz.ntmps146
  go_wp2
  go_ret
  exact ⟨rfl, rfl⟩
theorem enter_yes : ∀ args w, (callFunc 146 args).run Tryz.prog w = .ok (.enter 146 args) w := enter_of Tryz.func146 (by kernel_rfl) (by kernel_rfl)

theorem Found_calls (m : List St) (v : Value) (D : Nat → Prop) (w : World) (hD : Lo D w) (h : ModelC w D v m) (hf : Fine m) (hne : 0 < m.length) :
    Calls Tryz.prog 113 #[v] w fun e w' => ∃ v', e = .returned v' ∧ Below w.heap.size w w' ∧ Sl Kind.en w' (DB w.heap.size w') v' (foundOf m) := by
  obtain ⟨mv, rfl, hmm⟩ := h
  obtain ⟨A, c, rfl, h1, h2, -⟩ := hmm.form
  unfold maxLen at h2
  have hB0 := (Below.refl w.heap.size w).alloc (Nat.le_refl _) (.cells #[.slice A m.length c] 24)
  have HM := Lib.hid (show ModelC w D (.agg #[.slice A m.length c]) m from ⟨_, rfl, hmm⟩)
  have HD := Lib.hid hD
  have HF := Lib.hid hf
  have hml := hf.len
  have HG := Lib.hid (all_good hne)
  obtain ⟨w0, hw0⟩ : ∃ W : World, W = w.alloc (.cells #[.slice A m.length c] 24) := ⟨_, rfl⟩
  have hz0 : w.heap.size < w0.heap.size := by rw [hw0]; simp
  have hc0 : w0.cell? ⟨w.heap.size, 0, none⟩ = some (.slice A m.length c) := by rw [hw0]; exact cell_new1 _ _ _
  rw [← hw0] at hB0
  have HB0 := Lib.hid hB0
  have HC0 := Lib.hid hc0
  have HW0 := Lib.hid hw0
  have HY := Lib.hid (fun W => Marked_calls 146 m.length (fun _ => true) #[] W enter_yes (by omega) (fun W s _ _ _ => yes_calls s W))
  clear hmm hD hf hB0 hc0 hw0
  go_enter Tryz.func113, Tryz.ntmps113
  go_upto_region 1 with fail
  rw [← HW0.out]
  clear HW0
  have HQ0 : Hid (Below w0.heap.size w0 w0.drew) := Lib.hid (Below.refl _ _).drew
  have S0 : Hid (w0.drew.cell? ⟨w.heap.size, 0, none⟩ = some (.slice A m.length c) ∧ w.heap.size < w0.drew.heap.size) := Lib.hid ⟨HC0.out, hz0⟩
  go_region_held3 (fun V => V.cell? ⟨w.heap.size, 0, none⟩ = some (.slice A m.length c) ∧ w.heap.size < V.heap.size)
    (with_reducible (first | exact S0.out | exact S1.out | exact S2.out))
    (first
      | ((with_reducible show Calls _ 131 _ w0.drew _); (refine (HY.out w0.drew).mono ?_); (rintro e y1 ⟨lv, rfl, hb1, hl1⟩); (obtain ⟨LA, lc, rfl, -, -, -⟩ := hl1.ints); (have HB1 := Lib.hid (HQ0.out.trans hb1)); (have HL1 := Lib.hid hl1); (have S1 : Hid (y1.cell? ⟨w.heap.size, 0, none⟩ = some (.slice A m.length c) ∧ w.heap.size < y1.heap.size) := Lib.hid ⟨(HB1.out.cell (p := ⟨w.heap.size, 0, none⟩) hz0).trans HC0.out, Nat.lt_of_lt_of_le hz0 HB1.out.size⟩); (clear hb1 hl1))
      | ((with_reducible show Calls _ 115 _ y1 _); (refine (inside_calls m (allStates m.length) _ _ D w.heap.size y1 (HD.out.up (HB0.out.trans (HB1.out.mono HB0.out.size)).size) (HM.out.same (HD.out.same (HB0.out.trans (HB1.out.mono HB0.out.size)))) HF.out hne (HB0.out.trans (HB1.out.mono HB0.out.size)).size (HL1.out.mono fun k hk => ⟨Nat.le_trans HB0.out.size hk.1, hk.2⟩) HG.out).mono ?_); (rintro e y2 ⟨ev, rfl, he2, hb2⟩); (have HB2 := Lib.hid ((HB0.out.trans (HB1.out.mono HB0.out.size)).trans (hb2.mono (HB0.out.trans (HB1.out.mono HB0.out.size)).size))); (have HE2 := Lib.hid he2); (have S2 : Hid (y2.cell? ⟨w.heap.size, 0, none⟩ = some (.slice A m.length c) ∧ w.heap.size < y2.heap.size) := Lib.hid ⟨(hb2.cell (p := ⟨w.heap.size, 0, none⟩) S1.out.2).trans S1.out.1, Nat.lt_of_lt_of_le S1.out.2 hb2.size⟩); (clear he2 hb2)))
  all_goals
    go_wp2
    go_ret
    exact ⟨_, rfl, HB2.out, HE2.out⟩

theorem sl_nil_en (w : World) (D : Nat → Prop) : Sl Kind.en w D (.slice none 0 0) [] := ⟨none, 0, rfl, Nat.le_refl _, Nat.zero_le _, fun i x hx => by simp at hx⟩
def maxOf (m : List St) : List Endp := if validB m then foundOf m else []
theorem Maximal_calls (m : List St) (v : Value) (D : Nat → Prop) (w : World) (hD : Lo D w) (h : ModelC w D v m) :
    Calls Tryz.prog 54 #[v] w fun e w' => ∃ v', e = .returned (.tuple #[v', .int .i64 (err (validB m))]) ∧ Below w.heap.size w w' ∧ Sl Kind.en w' (nws w w') v' (maxOf m) := by
  obtain ⟨mv, rfl, hmm⟩ := h
  have HM : Hid (ModelC w D (.agg #[mv]) m) := ⟨mv, rfl, hmm⟩
  obtain ⟨A, c, rfl, h1, h2, -⟩ := hmm.form
  clear hmm
  go_enter Tryz.func54, Tryz.ntmps54
  go_wp2_with fail
  have hB0 := (Below.refl w.heap.size w).alloc (Nat.le_refl _) (.cells #[.slice A m.length c] 24)
  refine (Valid_calls m _ D _ (hD.up hB0.size) (HM.out.same (hD.same hB0))).mono ?_
  rintro e w1 ⟨rfl, hb1⟩
  have hB1 := hB0.trans (hb1.mono hB0.size)
  obtain ⟨hc1, hf1⟩ := bcell hb1
  have hz1 : w.heap.size < w1.heap.size := by have := hb1.size; simp at this; omega
  cases hv : validB m with
  | false =>
    have HER := Lib.hid (show (1 : Int) = err (validB m) by rw [hv]; rfl)
    have HV := Lib.hid (show maxOf m = [] by unfold maxOf; rw [hv]; rfl)
    clear hv
    go_wp2_with fail
    go_ret2
    refine ⟨_, ret_vi HER.out, hB1, ?_⟩
    rw [HV.out]; exact sl_nil_en _ _
  | true =>
    have HER := Lib.hid (show (0 : Int) = err (validB m) by rw [hv]; rfl)
    have HA := Lib.hid (Fine.of_valid hv)
    have hp := validB.pos hv
    have HV := Lib.hid (show maxOf m = foundOf m by unfold maxOf; rw [hv]; rfl)
    clear hv
    go_wp2_with fail
    refine (Found_calls m _ D _ (hD.up hB1.size) (HM.out.same (hD.same hB1)) HA.out hp).mono ?_
    rintro e w2 ⟨v', rfl, hb2, hr⟩
    have HR := Lib.hid hr
    clear hr
    go_wp2
    go_ret2
    refine ⟨_, ret_vi HER.out, hB1.trans (hb2.mono hB1.size), ?_⟩
    rw [HV.out]
    exact HR.out.mono fun k hk => ⟨by have := hk.1; have := hB1.size; omega, hk.2⟩

end Go.Proofs.YtoffbdlgmnpblaaGreat

/- Package ends: Inside. -/
namespace Go.Proofs.YtoffbdlgmnpblaaGreat
open Go.RowKit
set_option maxHeartbeats 4000000
set_option maxRecDepth 100000

theorem rising_good (n : Nat) : ∀ (l : List Int) (last : Int), rising n last l = true → -1 ≤ last → l.Pairwise (fun a b => a < b) ∧ ∀ x ∈ l, last < x ∧ 0 ≤ x ∧ x < (n : Int)
  | [], _, _, _ => ⟨.nil, fun x hx => (List.not_mem_nil hx).elim⟩
  | a :: l, last, h, hl => by
    simp only [rising, Bool.and_eq_true, decide_eq_true_eq] at h
    obtain ⟨h1, h2⟩ := h
    have ih := rising_good n l a h2 (by omega)
    refine ⟨List.pairwise_cons.2 ⟨fun x hx => (ih.2 x hx).1, ih.1⟩, fun x hx => ?_⟩
    rcases List.mem_cons.1 hx with rfl | hx
    · omega
    · have := ih.2 x hx; omega
theorem asked_good {m : List St} {l : List Int} (h : askedB m l = true) (hne : l ≠ []) : Enp.Good m.length l := by
  have hs : setB m l = true := by unfold askedB at h; simp at h; exact h.2
  obtain ⟨h1, h2⟩ := rising_good m.length l (-1) hs (by omega)
  exact ⟨hne, h1, fun x hx => (h2 x hx).2⟩
theorem asked_false {m : List St} {l : List Int} (h : validB m = false) : askedB m l = false := by unfold askedB; rw [h]; rfl
def insOf (m : List St) (l : List Int) : List Endp := if askedB m l then (if l = [] then [] else insideOf m l) else []

theorem Inside_calls (m : List St) (l : List Int) (v u : Value) (D : Nat → Prop) (w : World) (hD : Lo D w) (h : ModelC w D v m) (hl : Sl (Kind.int .i64) w D u l) :
    Calls Tryz.prog 55 #[v, u] w fun e w' => ∃ v', e = .returned (.tuple #[v', .int .i64 (err (askedB m l))]) ∧ Below w.heap.size w w' ∧ Sl Kind.en w' (nws w w') v' (insOf m l) := by
  obtain ⟨mv, rfl, hmm⟩ := h
  have HM : Hid (ModelC w D (.agg #[mv]) m) := ⟨mv, rfl, hmm⟩
  obtain ⟨A, c, rfl, h1, h2, -⟩ := hmm.form
  obtain ⟨L, d, rfl, k1, k2, -⟩ := hl.ints
  unfold maxLen at k2
  have HL := Lib.hid hl
  clear hmm hl
  go_enter Tryz.func55, Tryz.ntmps55
  go_wp2_with fail
  have hB0 := (Below.refl w.heap.size w).alloc (Nat.le_refl _) (.cells #[.slice A m.length c] 24)
  refine (Valid_calls m _ D _ (hD.up hB0.size) (HM.out.same (hD.same hB0))).mono ?_
  rintro e w1 ⟨rfl, hb1⟩
  have hB1 := hB0.trans (hb1.mono hB0.size)
  obtain ⟨hc1, hf1⟩ := bcell hb1
  have hz1 : w.heap.size < w1.heap.size := by have := hb1.size; simp at this; omega
  cases hv : validB m with
  | false =>
    have HER := Lib.hid (show (1 : Int) = err (askedB m l) by rw [asked_false hv]; rfl)
    have HV := Lib.hid (show insOf m l = [] by unfold insOf; rw [asked_false hv]; rfl)
    clear hv
    go_wp2_with fail
    go_ret2
    refine ⟨_, ret_vi HER.out, hB1, ?_⟩
    rw [HV.out]; exact sl_nil_en _ _
  | true =>
    have HAV := Lib.hid hv
    clear hv
    go_wp2_with fail
    refine (Set_calls m l _ _ D _ (hD.up hB1.size) (HM.out.same (hD.same hB1)) (HL.out.same (hD.same hB1))).mono ?_
    rintro e w2 ⟨rfl, hb2⟩
    have hB2 := hB1.trans (hb2.mono hB1.size)
    have hc2 := (hb2.cell (p := ⟨w.heap.size, 0, none⟩) hz1).trans ((hc1 w.heap.size 0 (by simp)).trans (cell_new1 w (.slice A m.length c) _))
    have HB2 := Lib.hid hB2
    clear hc1 hf1 hb1 hB1 hb2 hB0
    cases hs : setB m l with
    | false =>
      have HAF := Lib.hid (show askedB m l = false by unfold askedB; rw [hs, Bool.and_false])
      have HER := Lib.hid (show (1 : Int) = err (askedB m l) by rw [HAF.out]; rfl)
      have HV := Lib.hid (show insOf m l = [] by unfold insOf; rw [HAF.out]; rfl)
      clear hs
      go_wp2_with fail
      go_ret2
      refine ⟨_, ret_vi HER.out, HB2.out, ?_⟩
      rw [HV.out]; exact sl_nil_en _ _
    | true =>
      have HAT := Lib.hid (show askedB m l = true by unfold askedB; rw [HAV.out, hs]; rfl)
      have HER := Lib.hid (show (0 : Int) = err (askedB m l) by rw [HAT.out]; rfl)
      clear hs
      by_cases hne : l = []
      · have HV := Lib.hid (show insOf m l = [] by unfold insOf; rw [HAT.out, hne]; rfl)
        subst hne
        go_wp2_with fail
        go_ret2
        refine ⟨_, ret_vi HER.out, HB2.out, ?_⟩
        rw [HV.out]; exact sl_nil_en _ _
      · have HV := Lib.hid (show insOf m l = insideOf m l by unfold insOf; rw [HAT.out, if_neg hne]; rfl)
        have hg := asked_good HAT.out hne
        have hpos := hg.pos
        have hll := hg.len
        have HG := Lib.hid hg
        have HF := Lib.hid (Fine.of_valid HAV.out)
        have hml := HF.out.len
        have hmp := validB.pos HAV.out
        clear hg hne
        have HL2 := Lib.hid (HL.out.same (hD.same HB2.out))
        obtain ⟨ad, rfl, hat⟩ : ∃ ad, L = some ad ∧ ∀ j u, (ints l)[j]? = some u → w2.cell? (ad.add j) = some u := by
          obtain ⟨A', c', e, -, -, h3⟩ := HL2.out.ints
          injection e with e1 e2 e3
          subst e1
          obtain ⟨ad, ea, -, hc⟩ := h3 hpos
          refine ⟨ad, ea, fun j u hj => ?_⟩
          unfold ints at hj
          rw [List.getElem?_map] at hj
          obtain ⟨x, hx, rfl⟩ := Option.map_eq_some_iff.1 hj
          have h9 := hc j (List.getElem?_eq_some_iff.1 hx).1
          rwa [Dig.gd_of hx] at h9
        have HAT2 := Lib.hid hat
        have HMw : Hid (ModelC w2 D (.agg #[.slice A m.length c]) m) := Lib.hid (HM.out.same (hD.same HB2.out))
        have HDD := Lib.hid (hD.up HB2.out.size)
        have hz2 : w.heap.size < w2.heap.size := cell_lt hc2
        have HC2 := Lib.hid hc2
        clear hat hc2
        go_wp2_with (first
          | ((refine wpList_mk1 elem_i64 rfl _ _ rfl (by intro cs h; cases h) w2.heap.size _ _ (l.length : Int) (l.length : Int) rfl rfl (by omega) (by omega) (by omega) (by omega) (Nat.le_refl _) ?_); (intro w3 hown3 hb3 hz3 hcells3); (have HC3 := Lib.hid hcells3); (have HB3 := Lib.hid hb3); (clear hown3 hb3 hcells3 hz3))
          | ((refine wpList_copy_splice rfl _ _ _ _ rfl _ Tryz.underlying31 (by kernel_rfl) _ _ l.length l.length l.length d rfl rfl w2.heap.size 0 (List.replicate l.length (.int .i64 0)) 3 (by simpa using HC3.out) (ints l) (by simp [ints]) (fun _ => ⟨rfl, ad, rfl, fun j u hj => (HB3.out.cell (cell_lt (HAT2.out j u hj))).trans (HAT2.out j u hj)⟩) (by simp [ints]) (fun u hu => by obtain ⟨x, -, rfl⟩ := List.mem_map.1 hu; rfl) w2.heap.size w2 HB3.out (Nat.le_refl _) ?_); (intro w4 HG4 hb4); (have c4 := (hb4.cell (p := ⟨w.heap.size, 0, none⟩) hz2).trans HC2.out); (have HB4 := Lib.hid hb4); (clear hb4)))
        have hsp : splice (List.replicate l.length (.int .i64 0)) 0 (ints l) = ints l := by simp [splice, ints]
        have hgb : w4.heap[w2.heap.size]? = some (.cells (ints l).toArray 3 (0, 0)) := by rw [← hsp]; exact HG4.out
        have hz4 : w2.heap.size < w4.heap.size := (Array.getElem?_eq_some_iff.1 hgb).1
        have hB4 := HB2.out.trans (HB4.out.mono HB2.out.size)
        have hown : Sl (Kind.int .i64) w4 (DB w.heap.size w4) (.slice (some ⟨w2.heap.size, 0, none⟩) l.length l.length) l :=
          ints_of_block l hgb ⟨HB2.out.size, hz4, soft_of_block hgb⟩ rfl (by unfold maxLen; omega) (by simp)
        refine (inside_calls m l _ _ D w.heap.size w4 (HDD.out.up HB4.out.size) (HMw.out.same (HDD.out.same HB4.out)) HF.out hmp hB4.size hown HG.out).mono ?_
        rintro e w5 ⟨v', rfl, hr, hb5⟩
        have HR := Lib.hid hr
        have HB5 := Lib.hid (hB4.trans (hb5.mono hB4.size))
        clear hr hb5 hown hgb hsp hB4
        go_wp2
        go_ret2
        refine ⟨_, ret_vi HER.out, HB5.out, ?_⟩
        rw [HV.out]
        exact HR.out

end Go.Proofs.YtoffbdlgmnpblaaGreat

/- Package ends: Stay. -/
namespace Go.Proofs.YtoffbdlgmnpblaaGreat
open Go.RowKit
set_option maxHeartbeats 4000000
set_option maxRecDepth 100000

/-- the states from which one can stay in a set -/
def stayTo (m : List St) : Nat → List Int → List Int
  | 0, x => x
  | k + 1, x => if (restOf m x).length = x.length then x else stayTo m k (restOf m x)
theorem restOf_len (m : List St) (x : List Int) : (restOf m x).length ≤ x.length := List.length_filter_le _ _
theorem stayTo_more (m : List St) : ∀ (k j : Nat) (x : List Int), x.length ≤ k → x.length ≤ j → stayTo m k x = stayTo m j x
  | 0, 0, _, _, _ => rfl
  | 0, j + 1, x, h, _ => by
    have hx : x = [] := List.eq_nil_of_length_eq_zero (by omega)
    subst hx
    show [] = if (restOf m []).length = 0 then [] else _
    rw [if_pos (show (restOf m []).length = 0 from rfl)]
  | k + 1, 0, x, _, h => by
    have hx : x = [] := List.eq_nil_of_length_eq_zero (by omega)
    subst hx
    show (if (restOf m []).length = 0 then [] else _) = []
    rw [if_pos (show (restOf m []).length = 0 from rfl)]
  | k + 1, j + 1, x, h1, h2 => by
    unfold stayTo
    split
    · rfl
    · rename_i hne
      have := restOf_len m x
      exact stayTo_more m k j _ (by omega) (by omega)
theorem stayTo_same {m : List St} {x : List Int} (h : (restOf m x).length = x.length) : stayTo m x.length x = x := by
  cases hx : x.length with
  | zero => rfl
  | succ k => unfold stayTo; rw [if_pos h]
theorem stayTo_next {m : List St} {x : List Int} (h : (restOf m x).length ≠ x.length) : stayTo m x.length x = stayTo m (restOf m x).length (restOf m x) := by
  have h1 := restOf_len m x
  cases hx : x.length with
  | zero => omega
  | succ k =>
    rw [stayTo, if_neg h]
    exact stayTo_more m _ _ _ (by omega) (Nat.le_refl _)
theorem stayTo_len (m : List St) : ∀ (k : Nat) (x : List Int), (stayTo m k x).length ≤ x.length
  | 0, _ => Nat.le_refl _
  | k + 1, x => by
    unfold stayTo
    split
    · exact Nat.le_refl _
    · exact Nat.le_trans (stayTo_len m k _) (restOf_len m x)
def stayOf (m : List St) (l : List Int) : List Int := if askedB m l then stayTo m l.length l else []

theorem Stay_calls (m : List St) (l : List Int) (v u : Value) (D : Nat → Prop) (w : World) (hD : Lo D w) (h : ModelC w D v m) (hl : Sl (Kind.int .i64) w D u l) :
    Calls Tryz.prog 56 #[v, u] w fun e w' => ∃ v', e = .returned (.tuple #[v', .int .i64 (err (askedB m l))]) ∧ Below w.heap.size w w' ∧ Sl (Kind.int .i64) w' (nws w w') v' (stayOf m l) := by
  obtain ⟨mv, rfl, hmm⟩ := h
  have HM : Hid (ModelC w D (.agg #[mv]) m) := ⟨mv, rfl, hmm⟩
  obtain ⟨A, c, rfl, h1, h2, -⟩ := hmm.form
  obtain ⟨L, d, rfl, k1, k2, -⟩ := hl.ints
  unfold maxLen at k2
  have HL := Lib.hid hl
  clear hmm hl
  go_enter Tryz.func56, Tryz.ntmps56
  go_wp2_with fail
  have hB0 := (Below.refl w.heap.size w).alloc (Nat.le_refl _) (.cells #[.slice A m.length c] 24)
  refine (Valid_calls m _ D _ (hD.up hB0.size) (HM.out.same (hD.same hB0))).mono ?_
  rintro e w1 ⟨rfl, hb1⟩
  have hB1 := hB0.trans (hb1.mono hB0.size)
  obtain ⟨hc1, hf1⟩ := bcell hb1
  have hz1 : w.heap.size < w1.heap.size := by have := hb1.size; simp at this; omega
  cases hv : validB m with
  | false =>
    have HER := Lib.hid (show (1 : Int) = err (askedB m l) by rw [asked_false hv]; rfl)
    have HV := Lib.hid (show stayOf m l = [] by unfold stayOf; rw [asked_false hv]; rfl)
    clear hv
    go_wp2_with fail
    go_ret2
    refine ⟨_, ret_vi HER.out, hB1, ?_⟩
    rw [HV.out]; exact Sl.nil _ _ _
  | true =>
    have HAV := Lib.hid hv
    clear hv
    go_wp2_with fail
    refine (Set_calls m l _ _ D _ (hD.up hB1.size) (HM.out.same (hD.same hB1)) (HL.out.same (hD.same hB1))).mono ?_
    rintro e w2 ⟨rfl, hb2⟩
    have hB2 := hB1.trans (hb2.mono hB1.size)
    have hc2 := (hb2.cell (p := ⟨w.heap.size, 0, none⟩) hz1).trans ((hc1 w.heap.size 0 (by simp)).trans (cell_new1 w (.slice A m.length c) _))
    have HB2 := Lib.hid hB2
    have HC2 := Lib.hid hc2
    clear hc1 hf1 hb1 hB1 hb2 hB0 hB2 hc2
    cases hs : setB m l with
    | false =>
      have HAF := Lib.hid (show askedB m l = false by unfold askedB; rw [hs, Bool.and_false])
      have HER := Lib.hid (show (1 : Int) = err (askedB m l) by rw [HAF.out]; rfl)
      have HV := Lib.hid (show stayOf m l = [] by unfold stayOf; rw [HAF.out]; rfl)
      clear hs
      go_wp2_with fail
      go_ret2
      refine ⟨_, ret_vi HER.out, HB2.out, ?_⟩
      rw [HV.out]; exact Sl.nil _ _ _
    | true =>
      have HAT := Lib.hid (show askedB m l = true by unfold askedB; rw [HAV.out, hs]; rfl)
      have HER := Lib.hid (show (0 : Int) = err (askedB m l) by rw [HAT.out]; rfl)
      have HV := Lib.hid (show stayOf m l = stayTo m l.length l by unfold stayOf; rw [HAT.out]; rfl)
      obtain ⟨hf, hin, hll⟩ := askedB.spec HAT.out
      have HIN := Lib.hid hin
      have HF := Lib.hid hf
      have HMB := Lib.hid (show m.length ≤ 1000 ∧ ∀ s ∈ m, s.chs.length ≤ 1000 from ⟨by have := hf.len; omega, fun s hs => Nat.le_trans (hf.chs s hs) (by decide)⟩)
      clear hs hin hf
      go_wp2_with fail
      refine (Clone_calls l _ D w2 (HL.out.same (hD.same HB2.out)) (by omega)).mono ?_
      rintro e w3 ⟨cv, rfl, hcv, hb3⟩
      obtain ⟨CA, cc, rfl, -, -, -⟩ := own_form hcv
      have HS3 : Hid (Sl (Kind.int .i64) w3 (DB w.heap.size w3) (.slice CA l.length cc) l) := Lib.hid ((own_intsS hcv).mono fun k hk => ⟨Nat.le_trans HB2.out.size hk.1, hk.2⟩)
      have HB3 := Lib.hid (HB2.out.trans (hb3.mono HB2.out.size))
      have hz3 : w.heap.size < w2.heap.size := cell_lt HC2.out
      have HC3 := Lib.hid ((hb3.cell (p := ⟨w.heap.size, 0, none⟩) hz3).trans HC2.out)
      clear hcv hb3
      go_wp2_with fail
      go_loopg [6] l.length (fun k xv W => ∃ X : List Int, Hid (k = X.length) ∧ Hid (Below w.heap.size w W) ∧ Hid (W.cell? ⟨w.heap.size, 0, none⟩ = some (.slice A m.length c)) ∧ Hid (Sl (Kind.int .i64) W (DB w.heap.size W) xv X) ∧ Hid (stayTo m l.length l = stayTo m X.length X) ∧ Hid (∀ s ∈ X, 0 ≤ s ∧ s < (m.length : Int)) ∧ X.length ≤ 40)
      case atStart => exact ⟨l, rfl, HB3.out, HC3.out, HS3.out, rfl, HIN.out, hll⟩
      case round =>
        obtain ⟨X, HK, HBW, HCW, HX, HST, HXI, hxl⟩ := hrel
        obtain ⟨wo, rfl⟩ : ∃ wo : World, wo = wr := ⟨_, rfl⟩
        obtain ⟨XA, xc, rfl, x1, x2, -⟩ := HX.out.ints
        unfold maxLen at x2
        have b0 := HCW.out
        clear HS3 HB3 HC3 HB2 HC2 hz3 HL
        go_wp2_with fail
        refine (staying_calls m X _ _ (fun k => D k ∨ DB w.heap.size wo k) wo ?_ ((HM.out.same (hD.same HBW.out)).mono fun k hk => .inl hk) (HX.out.mono fun k hk => .inr hk) (by omega) HMB.out HXI.out).mono ?_
        · rintro k (hk | hk)
          · exact Nat.lt_of_lt_of_le (hD k hk) HBW.out.size
          · exact hk.2.1
        rintro e w4 ⟨kv, ps, rfl, hr4, hps, hb4⟩
        obtain ⟨KA, kc, rfl, y1, y2, -⟩ := own_form hr4.own
        unfold maxLen at y2
        have hpsl : ps.length = X.length := by have h9 := congrArg List.length hps; rwa [List.length_map, List.length_map] at h9
        have HPSL := Lib.hid hpsl
        have HKV : Hid (Rows2 w4 (· < w4.heap.size) (.slice KA ps.length kc) (staysL m X)) := Lib.hid (by
          have h9 := hr4.sl
          rw [hps] at h9
          exact h9.mono fun k hk => hk.2)
        have HX4 := Lib.hid (HX.out.carry hb4)
        have HB4 := Lib.hid (HBW.out.trans (hb4.mono HBW.out.size))
        have HC4 := Lib.hid ((hb4.cell (p := ⟨w.heap.size, 0, none⟩) (cell_lt HCW.out)).trans HCW.out)
        clear hr4 hps hb4 hpsl b0 HX HBW HCW
        go_wp2_with fail
        go_loopw [8, 27] (fun rv k W => ∃ (i : Nat) (R : List Int), i ≤ X.length ∧ k = .int .i64 (i : Int) ∧ Hid (Below w4.heap.size w4 W) ∧ Hid (W.ownsRow w4.heap.size 3 1 rv R.length (ints R)) ∧ R.length ≤ i ∧ Hid (R = (X.take i).filter fun s => decide (0 < (staysOf m X s).length))) (fun _ k _ => X.length - (intOf k).toNat)
        case atStart => exact ⟨0, [], Nat.zero_le _, rfl, Below.refl _ _, World.ownsRow_nil _ _ _ _, Nat.le_refl _, rfl⟩
        case round =>
          obtain ⟨i, R, hi, rfl, HBI, HO, hRi, HE⟩ := hrel
          obtain ⟨wi, rfl⟩ : ∃ wi : World, wi = wr := ⟨_, rfl⟩
          have hown := HO.out
          obtain ⟨RA, rc, rfl, z1, z2, -⟩ := own_form hown
          unfold maxLen at z2
          clear hown
          by_cases hlt : i < X.length
          · obtain ⟨s, hs⟩ : ∃ s, X[i]? = some s := ⟨_, List.getElem?_eq_getElem hlt⟩
            obtain ⟨ad, rfl, q0⟩ : ∃ ad, XA = some ad ∧ wi.cell? (ad.add i) = some (.int .i64 s) := by
              obtain ⟨A', c', e, -, -, h3⟩ := (HX4.out.carry HBI.out).ints
              injection e with e1 e2 e3
              subst e1
              obtain ⟨ad, ea, -, hc⟩ := h3 (by omega)
              have h9 := hc i hlt
              rw [Dig.gd_of hs] at h9
              exact ⟨ad, ea, h9⟩
            obtain ⟨cks, hcks⟩ : ∃ y, (staysL m X)[i]? = some y := ⟨staysOf m X s, by unfold staysL; rw [List.getElem?_map, hs]; rfl⟩
            have hce : cks = staysOf m X s := by unfold staysL at hcks; rw [List.getElem?_map, hs] at hcks; injection hcks with h9; exact h9.symm
            obtain ⟨ae, cu, rfl, -, q1, hcu⟩ := Rows2.at' (HKV.out.same fun k hk => HBI.out.block k hk) i cks hcks
            obtain ⟨CA', cc', rfl, -, -, -⟩ := hcu.ints
            have hip : i < ps.length := by have := HPSL.out; omega
            have hcl : cks.length ≤ 8 := by rw [hce]; exact staysOf_len HF.out X s
            have HN := Lib.hid (show (X.take (i + 1)).filter (fun s => decide (0 < (staysOf m X s).length)) = R ++ (if 0 < cks.length then [s] else []) by
              rw [List.take_add_one, hs, List.filter_append, ← HE.out, hce]
              by_cases h9 : 0 < (staysOf m X s).length <;> simp [h9])
            clear hs hcks hce hcu
            by_cases hp : 0 < cks.length
            · have HN2 := Lib.hid (show R ++ [s] = (X.take (i + 1)).filter (fun s => decide (0 < (staysOf m X s).length)) by rw [HN.out, if_pos hp])
              go_wp2_with ((at_builtin); (refine wpList_app1 elem_i64 rfl _ _ rfl w4.heap.size _ R.length (ints R) rfl (HO.out.alloc _) ⟨_, 0, none⟩ 1 _ rfl (cell_new1 _ _ _) rfl (by omega) (by omega) (by have h9 := HBI.out.size; simp; omega) ?_); (intro v6 w6 ho6 hg6 ha6); (have HO6 := Lib.hid ho6); (have HG6 := Lib.hid hg6); (obtain ⟨A6, c6, rfl, -, -, -⟩ := own_form ho6); (clear ho6 hg6 ha6))
              have hb6 := (HBI.out.alloc HBI.out.size (.cells #[.int .i64 s] 3)).grown HG6.out (by have h9 := HBI.out.size; simp; omega) (fun k hk => (HO.out.lt k hk).1)
              exact ⟨⟨i + 1, R ++ [s], by omega, by go_num, hb6, Lib.hid (by simpa [ints] using HO6.out), by simp; omega, HN2.out⟩, by simp [intOf]; omega⟩
            · have HN2 := Lib.hid (show R = (X.take (i + 1)).filter (fun s => decide (0 < (staysOf m X s).length)) by rw [HN.out, if_neg hp, List.append_nil])
              go_wp2
              exact ⟨⟨i + 1, R, by omega, by go_num, HBI.out, HO.out, by omega, HN2.out⟩, by simp [intOf]; omega⟩
          · obtain rfl : i = X.length := by omega
            have HE2 := Lib.hid (show R = restOf m X by unfold restOf; rw [HE.out, List.take_length])
            have HBF := Lib.hid (HB4.out.trans (HBI.out.mono HB4.out.size))
            clear hlt HE
            by_cases hc1 : R.length = X.length
            · have HF1 := Lib.hid (show stayOf m l = X by rw [HV.out, HST.out, stayTo_same (by rw [← HE2.out]; exact hc1)])
              have HX5 := Lib.hid (HX4.out.carry HBI.out)
              go_wp2
              go_ret2
              refine ⟨_, ret_vi HER.out, HBF.out, ?_⟩
              rw [HF1.out]
              exact HX5.out
            · go_wp2
              go_roundg R.length
              case measure => rw [HK.out]; omega
              case rel =>
                refine ⟨R, rfl, HBF.out, Lib.hid ((HBI.out.cell (p := ⟨w.heap.size, 0, none⟩) (cell_lt HC4.out)).trans HC4.out), Lib.hid ((own_intsS HO.out).mono fun k hk => ⟨Nat.le_trans HB4.out.size hk.1, hk.2⟩), Lib.hid ?_, Lib.hid ?_, by omega⟩
                · rw [HST.out, stayTo_next (by rw [← HE2.out]; exact hc1), ← HE2.out]
                · intro s hs
                  rw [HE2.out] at hs
                  exact HXI.out s (List.mem_filter.1 hs).1

end Go.Proofs.YtoffbdlgmnpblaaGreat

/- Package ends: rising. -/
namespace Go.Proofs.YtoffbdlgmnpblaaGreat
open Go.RowKit
set_option maxHeartbeats 4000000
set_option maxRecDepth 100000

theorem erising_calls (n : Int) (l : List Int) (u : Value) (D : Nat → Prop) (w : World) (hl : Sl (Kind.int .i64) w D u l) :
    Calls Tryz.prog 102 #[u, .int .i64 n] w fun e w' => e = .returned (.bool (rising n (-1) l && decide (0 < l.length))) ∧ w' = w := by
  obtain ⟨B, d, rfl, l1, l2, hc⟩ := hl.ints
  unfold maxLen at l2
  have HC := Lib.hid hc
  clear hc hl
  go_enter Tryz.func102, Tryz.ntmps102
  go_wp2
  go_loopw [5, 10] (fun la k W => ∃ (j : Nat) (last : Int), j ≤ l.length ∧ la = .int .i64 last ∧ k = .int .i64 (j : Int) ∧ Hid (rising n (-1) l = rising n last (l.drop j)) ∧ W = w) (fun _ k _ => l.length - (intOf k).toNat)
  case atStart => exact ⟨0, -1, Nat.zero_le _, rfl, rfl, rfl, by trivial⟩
  case round =>
    obtain ⟨j, last, hj, rfl, rfl, HA, rfl⟩ := hrel
    by_cases hlt : j < l.length
    · obtain ⟨ad, rfl, hDa, hcell⟩ := HC.out (by omega)
      have q0 := hcell j hlt
      have hs := Dig.gd_lt hlt
      have HS := Lib.hid (rising_drop n last l j _ hs)
      clear hcell hs
      generalize Dig.gd l j = s at *
      by_cases hok : last < s ∧ s < n
      · obtain ⟨o1, o2⟩ := hok
        go_wp2
        exact ⟨⟨j + 1, s, by omega, rfl, by go_num, Lib.hid (show rising n (-1) l = rising n s (l.drop (j + 1)) by rw [HA.out, HS.out, decide_eq_true ⟨o1, o2⟩]; rfl), by trivial⟩, by simp [intOf]; omega⟩
      · have HF := Lib.hid (show rising n (-1) l = false by rw [HA.out, HS.out, decide_eq_false hok]; rfl)
        have hok' : s ≤ last ∨ (last < s ∧ n ≤ s) := by omega
        clear hok
        rcases hok' with o1 | ⟨o1, o2⟩
        all_goals
          go_wp2
          go_ret
          exact ⟨ret_bool (by rw [HF.out]; rfl), rfl⟩
    · obtain rfl : j = l.length := by omega
      have HF := Lib.hid (show rising n (-1) l = true by rw [HA.out, List.drop_length]; rfl)
      clear hlt
      go_wp2
      go_ret
      exact ⟨ret_bool (by rw [HF.out]; simp), rfl⟩

end Go.Proofs.YtoffbdlgmnpblaaGreat

/- Package ends: the closures of Is. -/
namespace Go.Proofs.YtoffbdlgmnpblaaGreat
open Go.RowKit
set_option maxHeartbeats 4000000
set_option maxRecDepth 100000

theorem is2_calls (l p : List Int) (x : Int) (pv u : Value) (g : Nat) (D D' : Nat → Prop) (w : World) (hl : Sl (Kind.int .i64) w D u l) (hp : Sl (Kind.int .i64) w D' pv p) (hx : p[0]? = some x) (hg : w.cell? ⟨g, 0, none⟩ = some u) :
    Calls Tryz.prog 108 #[pv, .pointer (some ⟨g, 0, none⟩)] w fun e w' => e = .returned (.bool (!l.contains x)) ∧ Below w.heap.size w w' := by
  have HL := Lib.hid hl
  obtain ⟨A, c, rfl, -, -, -⟩ := hl.form
  obtain ⟨B, d, rfl, k1, k2, h3⟩ := hp.ints
  have hlt := (List.getElem?_eq_some_iff.1 hx).1
  obtain ⟨ad, rfl, -, hc⟩ := h3 hlt
  have r0 := hc 0 hlt
  rw [Dig.gd_of hx] at r0
  have r1 : w.cell? ad = some (.int .i64 x) := by simpa [Addr.add] using r0
  have HCA : Hid (∀ n, Calls Tryz.prog 78 #[.slice A l.length c, .int .i64 x] (w.drewN n) fun e w'' => e = .returned (.bool (l.contains x)) ∧ ∃ m, w'' = w.drewN m) := Lib.hid fun n => (Contains_calls l x _ D (w.drewN n) (HL.out.same fun _ _ => rfl)).mono fun e w'' h => ⟨h.1, n, h.2.symm⟩
  unfold maxLen at k2
  clear hl hp hc h3 hx
  go_enter Tryz.func108, Tryz.ntmps108
  go_wp2_with fail
  go_quiet ((go_at_call 78; exact HCA.out _))
  go_wp2
  go_ret
  exact ⟨ret_bool (by simp), ⟨rfl, rfl, rfl, Nat.le_refl _, fun _ _ => rfl⟩⟩

/-- what the closure of Is loads -/
abbrev IsHeld (mb sb eb : Nat) (mv sv uv : Value) (a : Addr) (av : Value) (b b1 b2 : Addr) (x y z : Value) (V : World) : Prop :=
  V.cell? ⟨mb, 0, none⟩ = some mv ∧ V.cell? ⟨sb, 0, none⟩ = some sv ∧ V.cell? ⟨eb, 0, none⟩ = some uv ∧ V.cell? a = some av ∧ V.cell? b = some x ∧ V.cell? b1 = some y ∧ V.cell? b2 = some z
theorem isHeld_of {mb sb eb : Nat} {mv sv uv : Value} {a : Addr} {av : Value} {b b1 b2 : Addr} {x y z : Value} {W V : World} (h : IsHeld mb sb eb mv sv uv a av b b1 b2 x y z W) (hb : Below W.heap.size W V) : IsHeld mb sb eb mv sv uv a av b b1 b2 x y z V := by
  obtain ⟨h1, h2, h3, h4, h5, h6, h7⟩ := h
  exact ⟨(hb.cell (cell_lt h1)).trans h1, (hb.cell (cell_lt h2)).trans h2, (hb.cell (cell_lt h3)).trans h3, (hb.cell (cell_lt h4)).trans h4, (hb.cell (cell_lt h5)).trans h5, (hb.cell (cell_lt h6)).trans h6, (hb.cell (cell_lt h7)).trans h7⟩

theorem is1_calls (m : List St) (l : List Int) (j k : Nat) (s : St) (x : Ch) (mb sb eb : Nat) (mv u : Value) (D : Nat → Prop) (w : World) (hD : Lo D w) (hm : Sl Kind.st w D mv m) (hl : Sl (Kind.int .i64) w D u l) (hs : m[j]? = some s) (hx : s.chs[k]? = some x)
    (hcm : w.cell? ⟨mb, 0, none⟩ = some mv) (hcs : w.cell? ⟨sb, 0, none⟩ = some (.int .i64 (j : Int))) (hce : w.cell? ⟨eb, 0, none⟩ = some u) :
    Calls Tryz.prog 104 #[.int .i64 (k : Int), .pointer (some ⟨mb, 0, none⟩), .pointer (some ⟨sb, 0, none⟩), .pointer (some ⟨eb, 0, none⟩)] w fun e w' => e = .returned (.bool (!withinB l x)) ∧ Below w.heap.size w w' := by
  obtain ⟨A, c, rfl, h1, h2, -⟩ := hm.form
  obtain ⟨L, d, rfl, k1, k2, -⟩ := hl.ints
  obtain ⟨ad, B, p, d2, rfl, hDa, q0, q1, q2, hsc⟩ := hm.st_up hD (Below.refl _ w) j s hs
  obtain ⟨rfl, hp1, hp2⟩ := hsc.len
  obtain ⟨ad2, B2, p2, d3, rfl, hDa2, t0, t1, t2, hxc⟩ := hsc.ch_up hD (Below.refl _ w) k x hx
  obtain ⟨rfl, hp3, hp4⟩ := hxc.len
  have hjm := (List.getElem?_eq_some_iff.1 hs).1
  have hks := (List.getElem?_eq_some_iff.1 hx).1
  unfold maxLen at h2 k2 hp2 hp4
  have HXC := Lib.hid hxc
  have HL := Lib.hid hl
  have HD := Lib.hid hD
  clear hm hl hs hx hsc hxc hD
  go_enter Tryz.func104, Tryz.ntmps104
  go_upto_region 1 with fail
  have HB0 : Hid (Below w.heap.size w w.drew) := Lib.hid (Below.refl _ _).drew
  have S0 : Hid (IsHeld mb sb eb (.slice (some ad) m.length c) (.int .i64 (j : Int)) (.slice L l.length d) ⟨(ad.add (j * 3)).block, (ad.add (j * 3)).off + 2, none⟩ (.slice (some ad2) s.chs.length d2) (ad2.add (k * 3)) ⟨(ad2.add (k * 3)).block, (ad2.add (k * 3)).off + 1, none⟩ ⟨(ad2.add (k * 3)).block, (ad2.add (k * 3)).off + 2, none⟩ (.int .i64 x.rw.top) (.int .i64 x.rw.low) (.slice B2 x.brs.length d3) w.drew) := Lib.hid ⟨hcm, hcs, hce, q2, t0, t1, t2⟩
  clear hcm hcs hce q0 q1 q2 t0 t1 t2
  go_region_held3 (fun V => V.cell? ⟨mb, 0, none⟩ = some (.slice (some ad) m.length c) ∧ V.cell? ⟨sb, 0, none⟩ = some (.int .i64 (j : Int)) ∧ V.cell? ⟨eb, 0, none⟩ = some (.slice L l.length d) ∧ V.cell? ⟨(ad.add (j * 3)).block, (ad.add (j * 3)).off + 2, none⟩ = some (.slice (some ad2) s.chs.length d2) ∧ V.cell? (ad2.add (k * 3)) = some (.int .i64 x.rw.top) ∧ V.cell? ⟨(ad2.add (k * 3)).block, (ad2.add (k * 3)).off + 1, none⟩ = some (.int .i64 x.rw.low) ∧ V.cell? ⟨(ad2.add (k * 3)).block, (ad2.add (k * 3)).off + 2, none⟩ = some (.slice B2 x.brs.length d3))
    (with_reducible (first | exact S0.out | exact S1.out))
    (first | ((with_reducible show Calls _ 105 _ w.drew _); (refine (within_calls l x _ _ D w.drew HD.out (HXC.out.same fun _ _ => rfl) (HL.out.same fun _ _ => rfl)).mono ?_); (rintro e y1 ⟨rfl, hb1⟩); (have HB1 := Lib.hid (HB0.out.trans hb1)); (have S1 := Lib.hid (isHeld_of S0.out hb1)); (clear hb1)))
  all_goals
    go_wp2
    go_ret
    exact ⟨ret_bool (by simp), HB1.out⟩

end Go.Proofs.YtoffbdlgmnpblaaGreat
