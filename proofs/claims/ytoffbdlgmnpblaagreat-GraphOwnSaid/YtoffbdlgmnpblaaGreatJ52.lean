/- Part 52 of 55: Awk. -/
import Derived.Test.YtoffbdlgmnpblaaGreatJ51

/- The law's example holds. -/
namespace Go.Proofs.YtoffbdlgmnpblaaGreat
open Go.RowKit
set_option maxHeartbeats 4000000
set_option maxRecDepth 100000

theorem three {α β : Type} {p : Nat → α → β → Prop} {a b c : α} {x y z : β} (h0 : p 0 a x) (h1 : p 1 b y) (h2 : p 2 c z) : ∀ (j : Nat) u v, [a, b, c][j]? = some u → [x, y, z][j]? = some v → p j u v := fun j u v hu hv => by
  match j, hu, hv with
  | 0, hu, hv => simp at hu hv; subst hu hv; exact h0
  | 1, hu, hv => simp at hu hv; subst hu hv; exact h1
  | 2, hu, hv => simp at hu hv; subst hu hv; exact h2
  | j + 3, hu, hv => simp at hu

/-- what the literals lay -/
def lit3 (n : Nat) : List Obj := [.cells #[.int .i64 0] 3, .cells #[.int .i64 1] 3, .cells #[.int .i64 2] 3, .cells #[.slice (some ⟨n, 0, none⟩) 1 1, .slice (some ⟨n + 1, 0, none⟩) 1 1, .slice (some ⟨n + 1 + 1, 0, none⟩) 1 1] 31]
def lit2 (n : Nat) : List Obj := [.cells #[.int .i64 1] 3, .cells #[.int .i64 2] 3, .cells #[.slice (some ⟨n, 0, none⟩) 1 1, .slice (some ⟨n + 1, 0, none⟩) 1 1] 31]
def lit1 : List Obj := [.cells #[.int .i64 1, .int .i64 1, .int .i64 1] 3]
theorem at_lit {w : World} {os : List Obj} {i : Nat} {o : Obj} (h : os[i]? = some o) : (allocs w os).heap[w.heap.size + i]? = some o ∧ w.heap.size + i < (allocs w os).heap.size := by
  have h1 := allocs_at os w i o h
  exact ⟨h1, (Array.getElem?_eq_some_iff.1 h1).1⟩
theorem rows_lit3 (w : World) : Rows2 (allocs w (lit3 w.heap.size)) (· < (allocs w (lit3 w.heap.size)).heap.size) (.slice (some ⟨w.heap.size + 1 + 1 + 1, 0, none⟩) 3 3) [[0], [1], [2]] := by
  obtain ⟨a0, d0⟩ := at_lit (w := w) (os := lit3 w.heap.size) (i := 0) rfl
  obtain ⟨a1, d1⟩ := at_lit (w := w) (os := lit3 w.heap.size) (i := 1) rfl
  obtain ⟨a2, d2⟩ := at_lit (w := w) (os := lit3 w.heap.size) (i := 2) rfl
  obtain ⟨a3, d3⟩ := at_lit (w := w) (os := lit3 w.heap.size) (i := 3) rfl
  refine rows_of_block _ _ a3 d3 (n := 3) rfl rfl (by decide) rfl (three ?_ ?_ ?_)
  · exact ints_of_block [0] a0 d0 rfl (by decide) rfl
  · exact ints_of_block [1] a1 d1 rfl (by decide) rfl
  · exact ints_of_block [2] a2 d2 rfl (by decide) rfl
theorem rows_lit2 (w : World) : Rows2 (allocs w (lit2 w.heap.size)) (· < (allocs w (lit2 w.heap.size)).heap.size) (.slice (some ⟨w.heap.size + 1 + 1, 0, none⟩) 2 2) [[1], [2]] := by
  obtain ⟨a0, d0⟩ := at_lit (w := w) (os := lit2 w.heap.size) (i := 0) rfl
  obtain ⟨a1, d1⟩ := at_lit (w := w) (os := lit2 w.heap.size) (i := 1) rfl
  obtain ⟨a3, d3⟩ := at_lit (w := w) (os := lit2 w.heap.size) (i := 2) rfl
  refine rows_of_block _ _ a3 d3 (n := 2) rfl rfl (by decide) rfl ?_
  intro j u xs hu hx
  match j, hu, hx with
  | 0, hu, hx => simp at hu hx; subst hu hx; exact ints_of_block [1] a0 d0 rfl (by decide) rfl
  | 1, hu, hx => simp at hu hx; subst hu hx; exact ints_of_block [2] a1 d1 rfl (by decide) rfl
  | j + 2, hu, hx => simp at hu
theorem ints_lit1 (w : World) : Sl (Kind.int .i64) (allocs w lit1) (· < (allocs w lit1).heap.size) (.slice (some ⟨w.heap.size, 0, none⟩) 3 3) [1, 1, 1] := by
  obtain ⟨a0, d0⟩ := at_lit (w := w) (os := lit1) (i := 0) rfl
  exact ints_of_block [1, 1, 1] a0 d0 rfl (by decide) rfl
/-- a result moves on to where a literal is laid -/
theorem Sl.onto {α : Type} {K : Kind α} {a w W : World} {v : Value} {xs : List α} (h : Sl K w (nws a w) v xs) (hb : Below w.heap.size w W) : Sl K W (· < W.heap.size) v xs :=
  (h.same fun k hk => hb.block k hk.2.1).mono fun _ hk => Nat.lt_of_lt_of_le hk.2.1 hb.size

theorem awake_calls (w : World) :
    Calls Tryz.prog 14 #[] w fun e w' => e = .returned (.bool true) ∧ Below w.heap.size w w' := by
  have hv : err (validB diceM) = 0 := by rw [dice_valid]; rfl
  have HV := Lib.hid hv
  clear hv
  go_enter Tryz.func14, Tryz.ntmps14
  go_wp2_with fail
  refine (dice_calls w).mono ?_
  rintro e w1 ⟨v1, rfl, hb1, hm1⟩
  have HM := Lib.hid hm1
  clear hm1
  go_wp2_with fail
  refine (Components_calls diceM v1 _ w1 (fun k hk => hk.2.1) HM.out).mono ?_
  rintro e w2 ⟨cv, he, hb2, hc2⟩
  rw [HV.out] at he
  subst he
  rw [dice_comps] at hc2
  have HC := Lib.hid hc2
  have HB2 := Lib.hid (hb1.trans (hb2.mono hb1.size))
  clear hb1 hb2 hc2 HM
  go_wp2_with fail
  refine (dice_calls w2).mono ?_
  rintro e w3 ⟨v3, rfl, hb3, hm3⟩
  have HM := Lib.hid hm3
  clear hm3
  go_wp2_with fail
  refine (Bottom_calls diceM v3 _ w3 (fun k hk => hk.2.1) HM.out).mono ?_
  rintro e w4 ⟨bv, he, hb4, hc4⟩
  rw [HV.out] at he
  subst he
  rw [dice_bot] at hc4
  have HBo := Lib.hid hc4
  have HB24 := Lib.hid (hb3.trans (hb4.mono hb3.size))
  clear hb3 hb4 hc4 HM
  go_wp2_with fail
  refine (dice_calls w4).mono ?_
  rintro e w5 ⟨v5, rfl, hb5, hm5⟩
  have HM := Lib.hid hm5
  clear hm5
  go_wp2_with fail
  refine (Period_calls diceM v5 _ w5 (fun k hk => hk.2.1) HM.out).mono ?_
  rintro e w6 ⟨pv, he, hb6, hc6⟩
  rw [HV.out] at he
  subst he
  rw [dice_periods] at hc6
  have HP := Lib.hid hc6
  have HB46 := Lib.hid (hb5.trans (hb6.mono hb5.size))
  clear hb5 hb6 hc6 HM
  go_wp2_with fail
  have HX := Lib.hid (Sl.onto HC.out (HB24.out.trans ((HB46.out.trans ((allocs_below (lit3 w6.heap.size) w6).mono HB46.out.size)).mono HB24.out.size)))
  refine (Lists_calls [[0], [1], [2]] [[0], [1], [2]] cv _ _ (allocs w6 (lit3 w6.heap.size)) HX.out (rows_lit3 w6) (by decide) (by decide) (by decide) (by decide)).mono ?_
  rintro e w7 ⟨he, hd⟩
  rw [decide_eq_true rfl] at he
  subst he
  have HB67 := Lib.hid ((allocs_below (lit3 w6.heap.size) w6).trans ((hd.below _).mono (allocs_below (lit3 w6.heap.size) w6).size))
  clear hd HX HC
  go_wp2_with fail
  have HB27 := Lib.hid (HB24.out.trans ((HB46.out.trans (HB67.out.mono HB46.out.size)).mono HB24.out.size))
  have HX := Lib.hid (Sl.onto HBo.out (HB46.out.trans ((HB67.out.trans ((allocs_below (lit2 w7.heap.size) w7).mono HB67.out.size)).mono HB46.out.size)))
  refine (Lists_calls [[1], [2]] [[1], [2]] bv _ _ (allocs w7 (lit2 w7.heap.size)) HX.out (rows_lit2 w7) (by decide) (by decide) (by decide) (by decide)).mono ?_
  rintro e w8 ⟨he, hd⟩
  rw [decide_eq_true rfl] at he
  subst he
  have HB78 := Lib.hid ((allocs_below (lit2 w7.heap.size) w7).trans ((hd.below _).mono (allocs_below (lit2 w7.heap.size) w7).size))
  clear hd HX HBo
  go_wp2_with fail
  have HX := Lib.hid (Sl.onto HP.out (HB67.out.trans ((HB78.out.trans ((allocs_below lit1 w8).mono HB78.out.size)).mono HB67.out.size)))
  refine (List_calls [1, 1, 1] [1, 1, 1] pv _ _ (allocs w8 lit1) HX.out (ints_lit1 w8) (by decide) (by decide)).mono ?_
  rintro e w9 ⟨he, hd⟩
  rw [decide_eq_true rfl] at he
  subst he
  have HB89 := Lib.hid ((allocs_below lit1 w8).trans ((hd.below _).mono (allocs_below lit1 w8).size))
  clear hd HX HP
  go_wp2
  go_ret
  have hB7 := HB2.out.trans (HB27.out.mono HB2.out.size)
  have hB8 := hB7.trans (HB78.out.mono hB7.size)
  exact ⟨rfl, hB8.trans (HB89.out.mono hB8.size)⟩

end Go.Proofs.YtoffbdlgmnpblaaGreat
