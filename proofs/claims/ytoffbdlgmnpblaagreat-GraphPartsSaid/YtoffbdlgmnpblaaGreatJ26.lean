/- Part 26: Rf16 Rf17. -/
import Derived.Test.YtoffbdlgmnpblaaGreatJ25
import Derived.Test.YtoffbdlgmnpblaaGreatJ11
import Derived.Test.YtoffbdlgmnpblaaGreatJ22

/- The reference's rational numbers: of whole numbers and of valid ones. -/
namespace Go.Proofs.YtoffbdlgmnpblaaGreat
open Go.RowKit
set_option maxHeartbeats 8000000
set_option maxRecDepth 100000

theorem rb2 (w : World) (a b : Array Value) (t t' : TypeId) : ∃ W, W = (w.alloc (.cells a t)).alloc (.cells b t') ∧ Below w.heap.size w W ∧ W.heap.size = w.heap.size + 2 ∧ W.heap[w.heap.size]? = some (.cells a t (0, 0)) ∧ W.heap[w.heap.size + 1]? = some (.cells b t' (0, 0)) := by
  refine ⟨_, rfl, boxes2 _ _ _, by simp, ?_, ?_⟩
  · exact (heap_alloc_old _ _ (by simp)).trans (heap_alloc_new _ _)
  · have := heap_alloc_new (w.alloc (.cells a t)) (.cells b t')
    rw [World.size_alloc] at this
    exact this
theorem rb1 (w : World) (a : Array Value) (t : TypeId) : ∃ W, W = w.alloc (.cells a t) ∧ Below w.heap.size w W ∧ W.heap.size = w.heap.size + 1 ∧ W.heap[w.heap.size]? = some (.cells a t (0, 0)) :=
  ⟨_, rfl, (Below.refl _ _).alloc (Nat.le_refl _) _, by simp, heap_alloc_new _ _⟩
theorem RRatV.new {w W : World} {v : Value} {x : Rat} (h : RRatV W (gr (fun _ => False) w W) v x) : RRatV W (nw w W) v x := h.mono fun _ hk => hk.elim False.elim id
theorem RIntV.nwRd {W W' : World} {B : Nat} {v : Value} {z : Int} (h : RIntV W' (nw W W') v z) (hB : B ≤ W.heap.size) : RIntV W' (Rd (fun _ => False) B W') v z := h.mono fun _ hk => .inr ⟨Nat.le_trans hB hk.1, hk.2⟩

theorem RWhole_calls (z : Int) (w : World) (h1 : -9223372036854775808 ≤ z) (h2 : z < 9223372036854775808) :
    Calls Tryz.prog 135 #[.int .i64 z] w fun e w' => ∃ v', e = .returned v' ∧ Below w.heap.size w w' ∧ RRatV w' (nw w w') v' (z : Rat) := by
  obtain ⟨W0, hW0, hb0, hz0, hx0⟩ := rb1 w #[.int .i64 0, .bool false, .slice none 0 0, .int .i64 0, .bool false, .slice none 0 0] 138
  have HB0 := Lib.hid hb0
  have HX0 := Lib.hid hx0
  have HZ0 := Lib.hid hz0
  have HW0 := Lib.hid hW0
  clear hb0 hx0 hz0 hW0
  go_enter Tryz.func135, Tryz.ntmps135
  go_upto_region 1 with fail
  rw [← HW0.out]
  clear HW0
  go_wp2_with fail
  refine (ROf_calls z W0 h1 h2).mono ?_
  rintro e w1 ⟨v1, rfl, hb1, h1⟩
  obtain ⟨s, b, A, n, c, rfl⟩ := h1.shape
  have hs1 : w.heap.size + 1 ≤ w1.heap.size := by have := hb1.size; have := HZ0.out; omega
  have HP1 := Lib.hid (h1.nwRd (B := w.heap.size + 1) (by have := HZ0.out; omega))
  have HB1 := Lib.hid (HB0.out.trans (hb1.mono HB0.out.size))
  have HX1 := Lib.hid ((hb1.block w.heap.size (by have := HZ0.out; omega)).trans HX0.out)
  clear hb1 h1 HB0 HX0 HZ0
  go_wp2_with fail
  refine (ROf_calls 1 w1 (by decide) (by decide)).mono ?_
  rintro e w2 ⟨v2, rfl, hb2, h2⟩
  obtain ⟨s', b', A', n', c', rfl⟩ := h2.shape
  have HQ2 := Lib.hid (h2.nwRd hs1)
  have HP2 := Lib.hid (HP1.out.lift (lo_none w) HB1.out.size hb2)
  have HB2 := Lib.hid (HB1.out.trans (hb2.mono HB1.out.size))
  have HX2 := Lib.hid ((hb2.block w.heap.size (by omega)).trans HX1.out)
  clear hb2 h2 HB1 HX1 HP1
  obtain ⟨c0, f0⟩ := blk_at HX2.out 0
  obtain ⟨c1, f1⟩ := blk_at HX2.out 1
  obtain ⟨c2, f2⟩ := blk_at HX2.out 2
  obtain ⟨c3, f3⟩ := blk_at HX2.out 3
  obtain ⟨c4, f4⟩ := blk_at HX2.out 4
  obtain ⟨c5, f5⟩ := blk_at HX2.out 5
  go_wp2
  obtain ⟨wf, hwf, hbx, hbel, hri⟩ := fin6 (x := (z : Rat)) (lo_none w) HB2.out (Nat.le_refl _) (Nat.lt_succ_self _) HX2.out (by rw [Rat.num_intCast]; exact HP2.out) (by rw [Rat.den_intCast]; exact HQ2.out)
  rw [← hwf]
  clear hwf
  obtain ⟨e0, -⟩ := blk_at hbx 0
  obtain ⟨e1, -⟩ := blk_at hbx 1
  obtain ⟨e2, -⟩ := blk_at hbx 2
  obtain ⟨e3, -⟩ := blk_at hbx 3
  obtain ⟨e4, -⟩ := blk_at hbx 4
  obtain ⟨e5, -⟩ := blk_at hbx 5
  exact bodyPost_ret (v := .agg #[.int .i64 s, .bool b, .slice A n c, .int .i64 s', .bool b', .slice A' n' c']) (by simp [results, Tryz.results135, go_sem, e0, e1, e2, e3, e4, e5]) rfl ⟨_, rfl, hbel, hri.new⟩

theorem RTo_calls (t l : Int) (w : World) (hv : validN t l = true) :
    Calls Tryz.prog 137 #[.agg #[.int .i64 t, .int .i64 l]] w fun e w' => ∃ v', e = .returned v' ∧ Below w.heap.size w w' ∧ RRatV w' (nw w w') v' (ratOf ⟨t, l⟩) := by
  obtain ⟨h1, h2, h3, h4⟩ := ValidN.bounds hv
  have hg : (Int.gcd t l : Int) = 1 := by unfold validN at hv; have := of_decide_eq_true hv; omega
  have hnum : (ratOf ⟨t, l⟩).num = t ∧ ((ratOf ⟨t, l⟩).den : Int) = l := by
    obtain ⟨m1, m2, -, -⟩ := make_parts (p := t) (q := l) (by omega)
    rw [hg, Int.tdiv_one] at m1 m2
    exact ⟨m1, m2⟩
  have HN := Lib.hid hnum
  clear hnum hg hv
  obtain ⟨W0, hW0, hb0, hz0, hx0, hx1⟩ := rb2 w #[.int .i64 t, .int .i64 l] #[.int .i64 0, .bool false, .slice none 0 0, .int .i64 0, .bool false, .slice none 0 0] 94 138
  have HB0 := Lib.hid hb0
  have HX0 := Lib.hid hx0
  have HX1 := Lib.hid hx1
  have HZ0 := Lib.hid hz0
  have HW0 := Lib.hid hW0
  clear hb0 hx0 hx1 hz0 hW0
  go_enter Tryz.func137, Tryz.ntmps137
  go_upto_region 1 with fail
  rw [← HW0.out]
  clear HW0
  obtain ⟨c0, f0⟩ := blk_at HX0.out 0
  obtain ⟨c1, f1⟩ := blk_at HX0.out 1
  have hz : w.heap.size + 2 = W0.drew.heap.size := HZ0.out.symm
  have HBD : Hid (Below w.heap.size w W0.drew) := Lib.hid HB0.out.drew
  have HXD0 : Hid (W0.drew.heap[w.heap.size]? = _) := HX0
  have HXD1 : Hid (W0.drew.heap[w.heap.size + 1]? = _) := HX1
  go_region_with (first
    | ((with_reducible show Calls _ _ #[.int .i64 t] _ _); (refine (ROf_calls t W0.drew (by omega) (by omega)).mono ?_); (rintro e w1 ⟨v1, rfl, hb1, k1⟩); (obtain ⟨s, b, A, n, c, rfl⟩ := k1.shape); (have hs1 : w.heap.size + 2 ≤ w1.heap.size := Nat.le_trans (Nat.le_of_eq hz) hb1.size); (have HP1 := Lib.hid (k1.nwRd (B := w.heap.size + 2) (Nat.le_of_eq hz))); (have HB1 := Lib.hid (HBD.out.trans (hb1.mono HBD.out.size))); (have HX01 := Lib.hid ((hb1.block w.heap.size (by omega)).trans HXD0.out)); (have HX11 := Lib.hid ((hb1.block (w.heap.size + 1) (by omega)).trans HXD1.out)); (clear hb1 k1); (obtain ⟨q0, g0⟩ := blk_at HX01.out 0); (obtain ⟨q1, g1⟩ := blk_at HX01.out 1))
    | ((with_reducible show Calls _ _ #[.int .i64 l] w1 _); (refine (ROf_calls l w1 (by omega) (by omega)).mono ?_); (rintro e w2 ⟨v2, rfl, hb2, k2⟩); (obtain ⟨s', b', A', n', c', rfl⟩ := k2.shape); (have HQ2 := Lib.hid (k2.nwRd hs1)); (have HP2 := Lib.hid (HP1.out.lift (lo_none w) HB1.out.size hb2)); (have HB2 := Lib.hid (HB1.out.trans (hb2.mono HB1.out.size))); (have HX12 := Lib.hid ((hb2.block (w.heap.size + 1) (by omega)).trans HX11.out)); (clear hb2 k2); (obtain ⟨r0, g0⟩ := blk_at HX12.out 0); (obtain ⟨r1, g1⟩ := blk_at HX12.out 1); (obtain ⟨r2, g2⟩ := blk_at HX12.out 2); (obtain ⟨r3, g3⟩ := blk_at HX12.out 3); (obtain ⟨r4, g4⟩ := blk_at HX12.out 4); (obtain ⟨r5, g5⟩ := blk_at HX12.out 5)))
  all_goals
    go_wp2
    obtain ⟨wf, hwf, hbx, hbel, hri⟩ := fin6 (x := ratOf ⟨t, l⟩) (lo_none w) HB2.out (Nat.le_succ _) (show w.heap.size + 1 < w.heap.size + 2 by omega) HX12.out (by rw [HN.out.1]; exact HP2.out) (by rw [HN.out.2]; exact HQ2.out)
    rw [← hwf]
    clear hwf
    obtain ⟨e0, -⟩ := blk_at hbx 0
    obtain ⟨e1, -⟩ := blk_at hbx 1
    obtain ⟨e2, -⟩ := blk_at hbx 2
    obtain ⟨e3, -⟩ := blk_at hbx 3
    obtain ⟨e4, -⟩ := blk_at hbx 4
    obtain ⟨e5, -⟩ := blk_at hbx 5
    exact bodyPost_ret (v := .agg #[.int .i64 s, .bool b, .slice A n c, .int .i64 s', .bool b', .slice A' n' c']) (by simp [results, Tryz.results137, go_sem, e0, e1, e2, e3, e4, e5]) rfl ⟨_, rfl, hbel, hri.new⟩

end Go.Proofs.YtoffbdlgmnpblaaGreat

/- The reference's rational numbers: sums. -/
namespace Go.Proofs.YtoffbdlgmnpblaaGreat
open Go.RowKit
set_option maxHeartbeats 8000000
set_option maxRecDepth 100000

theorem RRatV.got {D : Nat → Prop} {B : Nat} {W W' : World} {v : Value} {x : Rat} (h : RRatV W' (gr (Rd D B W) W W') v x) (hB : B ≤ W.heap.size) (hb : Below W.heap.size W W') : RRatV W' (Rd D B W') v x :=
  h.mono fun k hk => by
    have := hb.size
    rcases hk with (h | h) | h
    · exact .inl h
    · exact .inr ⟨h.1, by omega⟩
    · exact .inr ⟨Nat.le_trans hB h.1, h.2⟩
theorem RRatV.start {D : Nat → Prop} {B : Nat} {w W : World} {v : Value} {x : Rat} (h : RRatV w D v x) (hD : Lo D w) (hb : Below w.heap.size w W) : RRatV W (Rd D B W) v x := (h.same (hD.same hb)).mono fun _ => .inl
theorem RRatV.lift {D : Nat → Prop} {B : Nat} {w W W' : World} {v : Value} {x : Rat} (h : RRatV W (Rd D B W) v x) (hD : Lo D w) (hs : w.heap.size ≤ W.heap.size) (hb : Below W.heap.size W W') : RRatV W' (Rd D B W') v x :=
  (h.same fun k hk => hb.block k (hk.elim (fun h => Nat.lt_of_lt_of_le (hD k h) hs) (·.2))).mono (Rd.up hb.size)
theorem fit_big {N : Nat} {z : Int} (h : Fit N z) (hN : N ≤ 900) : Dig.ab z < 1073741824 ^ 1000 := by
  have h1 := Fit.ab.1 h
  have h2 := Dig.pow_mono (b := 2) (by decide) (show 32 * N ≤ 30 * 1000 by omega)
  rw [Int.pow_mul, Int.pow_mul] at h2
  exact Int.lt_of_lt_of_le h1 h2

section
variable {o : Oper} {ρ : Operand → Value} {w : World} {R : Value → World → Prop}
theorem rt_fa0 {x : Operand} {b : Nat} (ho : o.op = .fieldAddr 138 x 0) (hx : ρ x = .pointer (some ⟨b, 0, none⟩)) (h : R (.pointer (some ⟨b, 0, none⟩)) w) : StepR Tryz.prog o ρ w R := by
  unfold StepR execOp
  simp only [ho, hx]
  go_simp
  exact h
theorem rt_fa1 {x : Operand} {b : Nat} (ho : o.op = .fieldAddr 138 x 1) (hx : ρ x = .pointer (some ⟨b, 0, none⟩)) (h : R (.pointer (some ⟨b, 3, none⟩)) w) : StepR Tryz.prog o ρ w R := by
  unfold StepR execOp
  simp only [ho, hx]
  go_simp
  exact h
theorem rt_store6 {x y : Operand} {b : Nat} {u0 u1 u2 u3 u4 u5 : Value} {i j : Int} {q r : Bool} {A E : Option Addr} {n k m l : Nat} (ho : o.op = .store 138 x y) (hx : ρ x = .pointer (some ⟨b, 0, none⟩)) (hy : ρ y = .agg #[.int .i64 i, .bool q, .slice A n k, .int .i64 j, .bool r, .slice E m l]) (hb : w.heap[b]? = some (.cells #[u0, u1, u2, u3, u4, u5] 138 (0, 0)))
    (h : R undef ((((((w.setCell ⟨b, 0, none⟩ (.int .i64 i)).setCell ⟨b, 1, none⟩ (.bool q)).setCell ⟨b, 2, none⟩ (.slice A n k)).setCell ⟨b, 3, none⟩ (.int .i64 j)).setCell ⟨b, 4, none⟩ (.bool r)).setCell ⟨b, 5, none⟩ (.slice E m l))) : StepR Tryz.prog o ρ w R := by
  obtain ⟨c0, f0⟩ := blk_at hb 0
  obtain ⟨c1, f1⟩ := blk_at hb 1
  obtain ⟨c2, f2⟩ := blk_at hb 2
  obtain ⟨c3, f3⟩ := blk_at hb 3
  obtain ⟨c4, f4⟩ := blk_at hb 4
  obtain ⟨c5, f5⟩ := blk_at hb 5
  simp only [List.getElem?_toArray, List.getElem?_cons_zero, List.getElem?_cons_succ] at c0 c1 c2 c3 c4 c5
  have hr : (Instr.storeAt 138 (.pointer (some ⟨b, 0, none⟩)) (.agg #[.int .i64 i, .bool q, .slice A n k, .int .i64 j, .bool r, .slice E m l])).run Tryz.prog w = .ok () ((((((w.setCell ⟨b, 0, none⟩ (.int .i64 i)).setCell ⟨b, 1, none⟩ (.bool q)).setCell ⟨b, 2, none⟩ (.slice A n k)).setCell ⟨b, 3, none⟩ (.int .i64 j)).setCell ⟨b, 4, none⟩ (.bool r)).setCell ⟨b, 5, none⟩ (.slice E m l)) := by
    go_simp
  unfold StepR execOp
  simp only [ho, hx, hy, Sem.run_bind, hr, Sem.run_pure, Result.andThen_ok]
  exact h
end
theorem six_of {cs : Array Value} (h : cs.size = 6) : ∃ a b c d e f, cs = #[a, b, c, d, e, f] := by
  obtain ⟨l⟩ := cs
  match l, h with
  | [a, b, c, d, e, f], _ => exact ⟨a, b, c, d, e, f, rfl⟩
theorem enter_rTimes : ∀ args w, (callFunc 169 args).run Tryz.prog w = .ok (.enter 169 args) w := enter_of Tryz.func169 (by kernel_rfl) (by kernel_rfl)
theorem enter_rPlus : ∀ args w, (callFunc 170 args).run Tryz.prog w = .ok (.enter 170 args) w := enter_of Tryz.func170 (by kernel_rfl) (by kernel_rfl)
theorem enter_rMake : ∀ args w, (callFunc 168 args).run Tryz.prog w = .ok (.enter 168 args) w := enter_of Tryz.func168 (by kernel_rfl) (by kernel_rfl)
/-- what the region of a sum leaves -/
def PhiP (w : World) (D : Nat → Prop) (p1 q1 p2 q2 : Value) (x y : Rat) : Nat → Value → World → Prop
  | 0, v, _ => v = .pointer (some ⟨w.heap.size, 0, none⟩)
  | 1, v, _ => v = p1
  | 2, v, _ => v = .pointer (some ⟨w.heap.size + 1, 3, none⟩)
  | 3, v, _ => v = q2
  | 4, v, W => RIntV W (Rd D (w.heap.size + 3) W) v (x.num * (y.den : Int))
  | 5, v, _ => v = .pointer (some ⟨w.heap.size + 1, 0, none⟩)
  | 6, v, _ => v = p2
  | 7, v, _ => v = .pointer (some ⟨w.heap.size, 3, none⟩)
  | 8, v, _ => v = q1
  | 9, v, W => RIntV W (Rd D (w.heap.size + 3) W) v (y.num * (x.den : Int))
  | 10, v, W => RIntV W (Rd D (w.heap.size + 3) W) v (x.num * (y.den : Int) + y.num * (x.den : Int))
  | 11, v, _ => v = .pointer (some ⟨w.heap.size, 3, none⟩)
  | 12, v, _ => v = q1
  | 13, v, _ => v = .pointer (some ⟨w.heap.size + 1, 3, none⟩)
  | 14, v, _ => v = q2
  | 15, v, W => RIntV W (Rd D (w.heap.size + 3) W) v ((x.den : Int) * (y.den : Int))
  | 16, v, W => RRatV W (Rd D (w.heap.size + 3) W) v (x + y)
  | _, _, _ => True
theorem PhiP.firm {w : World} {D : Nat → Prop} {B1 : Nat} (p1 q1 p2 q2 : Value) (x y : Rat) (hD : Lo D w) (hB : w.heap.size + 3 ≤ B1) : FirmB B1 [(w.heap.size + 2, 17, 16)] (PhiP w D p1 q1 p2 q2 x y) := by
  intro j v W W' h hs hs2 hk
  have hsame : Same (Rd D (w.heap.size + 3) W) W W' := fun k hk2 => hk k (hk2.elim (fun h => by have := hD k h; omega) (·.2)) fun x hx => by
    simp only [List.mem_cons, List.not_mem_nil, or_false] at hx
    subst hx
    rcases hk2 with h | h
    · have := hD k h
      simp only; omega
    · simp only; omega
  match j, h with
  | 0, h => exact h
  | 1, h => exact h
  | 2, h => exact h
  | 3, h => exact h
  | 4, h => exact (RIntV.same h hsame).mono (Rd.up hs2)
  | 5, h => exact h
  | 6, h => exact h
  | 7, h => exact h
  | 8, h => exact h
  | 9, h => exact (RIntV.same h hsame).mono (Rd.up hs2)
  | 10, h => exact (RIntV.same h hsame).mono (Rd.up hs2)
  | 11, h => exact h
  | 12, h => exact h
  | 13, h => exact h
  | 14, h => exact h
  | 15, h => exact (RIntV.same h hsame).mono (Rd.up hs2)
  | 16, h => exact (RRatV.same h hsame).mono (Rd.up hs2)
  | 17, _ => trivial
  | j + 18, _ => trivial

theorem RRatPlus_calls (x y : Rat) (v u : Value) (D : Nat → Prop) (w : World) (hD : Lo D w) (h : RRatV w D v x) (h' : RRatV w D u y) (N : Nat) (hN : N ≤ 400) (fx : FitR N x) (fy : FitR N y) :
    Calls Tryz.prog 136 #[v, u] w fun e w' => ∃ v', e = .returned v' ∧ Below w.heap.size w w' ∧ RRatV w' (gr D w w') v' (x + y) := by
  obtain ⟨s, b, A, n, c, s', b', A', n', c', rfl, hp1, hq1⟩ := h
  obtain ⟨t, d, E, m, k, t', d', E', m', k', rfl, hp2, hq2⟩ := h'
  have HD := Lib.hid hD
  have HF1 := Lib.hid (And.intro (fit_big fx.num (by omega)) (fit_big fx.den (by omega)))
  have HF2 := Lib.hid (And.intro (fit_big fy.num (by omega)) (fit_big fy.den (by omega)))
  have HM1 := Lib.hid (fit_big (fx.num.mul fy.den) (by omega))
  have HM2 := Lib.hid (fit_big (fy.num.mul fx.den) (by omega))
  have HM3 := Lib.hid (fit_big (fx.den.mul fy.den) (by omega))
  have HM4 := Lib.hid (fit_big ((fx.num.mul fy.den).add (fy.num.mul fx.den)) (by omega))
  clear fx fy hN
  obtain ⟨W0, hW0, hb0, hz0, hx0, hx1, hx2⟩ := rb3 w #[.int .i64 s, .bool b, .slice A n c, .int .i64 s', .bool b', .slice A' n' c'] #[.int .i64 t, .bool d, .slice E m k, .int .i64 t', .bool d', .slice E' m' k'] #[.int .i64 0, .bool false, .slice none 0 0, .int .i64 0, .bool false, .slice none 0 0] 138 138 138
  have HP1 := Lib.hid (RIntV.start (B := w.heap.size + 3) hp1 hD hb0)
  have HQ1 := Lib.hid (RIntV.start (B := w.heap.size + 3) hq1 hD hb0)
  have HP2 := Lib.hid (RIntV.start (B := w.heap.size + 3) hp2 hD hb0)
  have HQ2 := Lib.hid (RIntV.start (B := w.heap.size + 3) hq2 hD hb0)
  have HB0 := Lib.hid hb0
  have HX0 := Lib.hid hx0
  have HX1 := Lib.hid hx1
  have HX2 := Lib.hid hx2
  have HZ0 := Lib.hid hz0
  have HW0 := Lib.hid hW0
  clear hD hp1 hq1 hp2 hq2 hb0 hx0 hx1 hx2 hz0 hW0
  go_enter Tryz.func136, Tryz.ntmps136
  go_upto_region 1 with fail
  rw [← HW0.out]
  clear HW0
  have hs0 : w.heap.size + 3 ≤ W0.heap.size := Nat.le_of_eq HZ0.out.symm
  have HF := Lib.hid (PhiP.firm (w := w) (D := D) (B1 := W0.heap.size) (.agg #[.int .i64 s, .bool b, .slice A n c]) (.agg #[.int .i64 s', .bool b', .slice A' n' c']) (.agg #[.int .i64 t, .bool d, .slice E m k]) (.agg #[.int .i64 t', .bool d', .slice E' m' k']) x y HD.out hs0)
  have HST : Hid (∀ x ∈ [(w.heap.size + 2, 17, 16)], x.1 < W0.heap.size) := Lib.hid (by intro x hx; simp only [List.mem_cons, List.not_mem_nil, or_false] at hx; subst hx; simp only; omega)
  refine inv_region3 (J := Jb w W0 W0.heap.size 138 [(w.heap.size + 2, 17, 16)] (PhiP w D (.agg #[.int .i64 s, .bool b, .slice A n c]) (.agg #[.int .i64 s', .bool b', .slice A' n' c']) (.agg #[.int .i64 t, .bool d, .slice E m k]) (.agg #[.int .i64 t', .bool d', .slice E' m' k']) x y)) [some 5, some 6, some 7, some 8, some 9, some 10, some 11, some 12, some 13, some 14, some 15, some 16, some 17, some 18, some 19, some 20, some 21, none] [[], [0], [], [2], [1, 3], [], [5], [], [7], [6, 8], [4, 9], [], [11], [], [13], [12, 14], [10, 15], [16]] (by rfl) (by kernel_rfl) (by kernel_rfl) ?_ ?_ ?_
  · intro d sl hd
    refine Jb.start HB0.out (Nat.le_refl _) (fun x hx => ?_) (fun x hx => ?_) fun j hj => ?_
    · simp only [List.mem_cons, List.not_mem_nil, or_false] at hx
      subst hx
      exact ⟨_, HX2.out⟩
    · simp only [List.mem_cons, List.not_mem_nil, or_false] at hx
      subst hx
      exact hd 17 (by decide)
    · by_cases hj14 : j < 18
      · rw [hd j hj14] at hj; cases hj
      · obtain ⟨k, rfl⟩ : ∃ k, j = k + 18 := ⟨j - 18, by omega⟩
        trivial
  · intro j o ho dn sl V ρ hJ hd hdep hs hold hfun hcon
    have hj : j < 18 := (Array.getElem?_eq_some_iff.1 ho).1
    have HBR := Lib.hid (Below.refl V.heap.size V)
    have hks : ∀ k, k < W0.heap.size → k ≠ w.heap.size + 2 → V.heap[k]? = W0.heap[k]? := fun k h1 h2 => hJ.keep k h1 fun x hx => by
      simp only [List.mem_cons, List.not_mem_nil, or_false] at hx
      subst hx
      exact fun e => h2 e.symm
    have HSM : Hid (Same (Rd D (w.heap.size + 3) W0) W0 V) := Lib.hid fun k hk => by
      rcases hk with hk | hk
      · have := HD.out k hk; exact hks k (by omega) (by omega)
      · exact hks k hk.2 (by omega)
    have HP1V := Lib.hid ((HP1.out.same HSM.out).mono (Rd.up hJ.size))
    have HQ1V := Lib.hid ((HQ1.out.same HSM.out).mono (Rd.up hJ.size))
    have HP2V := Lib.hid ((HP2.out.same HSM.out).mono (Rd.up hJ.size))
    have HQ2V := Lib.hid ((HQ2.out.same HSM.out).mono (Rd.up hJ.size))
    have HX0V := Lib.hid ((hks w.heap.size (by omega) (by omega)).trans HX0.out)
    have HX1V := Lib.hid ((hks (w.heap.size + 1) (by omega) (by omega)).trans HX1.out)
    have HLV := Lib.hid (Rd.lo (B := w.heap.size + 3) HD.out hJ.low.size)
    have hBV : w.heap.size + 3 ≤ V.heap.size := Nat.le_trans hs0 hJ.size
    have hnst : ∀ i, i ≠ 17 → ∀ x ∈ [(w.heap.size + 2, 17, 16)], x.2.1 ≠ i := by
      intro i h1 x hx
      simp only [List.mem_cons, List.not_mem_nil, or_false] at hx
      subst hx
      exact fun e => h1 e.symm
    rcases (show j = 0 ∨ j = 1 ∨ j = 2 ∨ j = 3 ∨ j = 4 ∨ j = 5 ∨ j = 6 ∨ j = 7 ∨ j = 8 ∨ j = 9 ∨ j = 10 ∨ j = 11 ∨ j = 12 ∨ j = 13 ∨ j = 14 ∨ j = 15 ∨ j = 16 ∨ j = 17 by omega) with rfl | rfl | rfl | rfl | rfl | rfl | rfl | rfl | rfl | rfl | rfl | rfl | rfl | rfl | rfl | rfl | rfl | rfl
    · cases ho
      exact rt_fa0 rfl ((hold 2 rfl).trans rfl) (hJ.step HF.out HST.out hd (hnst _ (by decide)) HBR.out rfl)
    · cases ho
      have h0 : sl 0 = .pointer (some ⟨w.heap.size, 0, none⟩) := hJ.ok 0 (hdep 0 (by decide))
      exact rt_load rfl ((hs 0 5 rfl).trans h0) (blk_at HX0V.out 0).1 (blk_at HX0V.out 1).1 (blk_at HX0V.out 2).1 (hJ.step HF.out HST.out hd (hnst _ (by decide)) HBR.out rfl)
    · cases ho
      exact rt_fa1 rfl ((hold 3 rfl).trans rfl) (hJ.step HF.out HST.out hd (hnst _ (by decide)) HBR.out rfl)
    · cases ho
      have h0 : sl 2 = .pointer (some ⟨w.heap.size + 1, 3, none⟩) := hJ.ok 2 (hdep 2 (by decide))
      exact rt_load rfl ((hs 2 7 rfl).trans h0) (blk_at HX1V.out 3).1 (blk_at HX1V.out 4).1 (blk_at HX1V.out 5).1 (hJ.step HF.out HST.out hd (hnst _ (by decide)) HBR.out rfl)
    · cases ho
      have h0 : sl 1 = (.agg #[.int .i64 s, .bool b, .slice A n c]) := hJ.ok 1 (hdep 1 (by decide))
      have h1 : sl 3 = (.agg #[.int .i64 t', .bool d', .slice E' m' k']) := hJ.ok 3 (hdep 3 (by decide))
      refine rt_call2 rfl enter_rTimes ((hs 1 6 rfl).trans h0) ((hs 3 8 rfl).trans h1) (hfun _) ((RTimes_calls _ _ _ _ _ V HLV.out HP1V.out HQ2V.out HF1.out.1 HF2.out.2).mono ?_)
      rintro e V' ⟨v', rfl, hb, hr⟩
      exact ⟨_, rfl, (hJ.step HF.out HST.out hd (hnst _ (by decide)) hb (hr.got hBV hb))⟩
    · cases ho
      exact rt_fa0 rfl ((hold 3 rfl).trans rfl) (hJ.step HF.out HST.out hd (hnst _ (by decide)) HBR.out rfl)
    · cases ho
      have h0 : sl 5 = .pointer (some ⟨w.heap.size + 1, 0, none⟩) := hJ.ok 5 (hdep 5 (by decide))
      exact rt_load rfl ((hs 5 10 rfl).trans h0) (blk_at HX1V.out 0).1 (blk_at HX1V.out 1).1 (blk_at HX1V.out 2).1 (hJ.step HF.out HST.out hd (hnst _ (by decide)) HBR.out rfl)
    · cases ho
      exact rt_fa1 rfl ((hold 2 rfl).trans rfl) (hJ.step HF.out HST.out hd (hnst _ (by decide)) HBR.out rfl)
    · cases ho
      have h0 : sl 7 = .pointer (some ⟨w.heap.size, 3, none⟩) := hJ.ok 7 (hdep 7 (by decide))
      exact rt_load rfl ((hs 7 12 rfl).trans h0) (blk_at HX0V.out 3).1 (blk_at HX0V.out 4).1 (blk_at HX0V.out 5).1 (hJ.step HF.out HST.out hd (hnst _ (by decide)) HBR.out rfl)
    · cases ho
      have h0 : sl 6 = (.agg #[.int .i64 t, .bool d, .slice E m k]) := hJ.ok 6 (hdep 6 (by decide))
      have h1 : sl 8 = (.agg #[.int .i64 s', .bool b', .slice A' n' c']) := hJ.ok 8 (hdep 8 (by decide))
      refine rt_call2 rfl enter_rTimes ((hs 6 11 rfl).trans h0) ((hs 8 13 rfl).trans h1) (hfun _) ((RTimes_calls _ _ _ _ _ V HLV.out HP2V.out HQ1V.out HF2.out.1 HF1.out.2).mono ?_)
      rintro e V' ⟨v', rfl, hb, hr⟩
      exact ⟨_, rfl, (hJ.step HF.out HST.out hd (hnst _ (by decide)) hb (hr.got hBV hb))⟩
    · cases ho
      have h0 : RIntV V (Rd D (w.heap.size + 3) V) (sl 4) (x.num * (y.den : Int)) := hJ.ok 4 (hdep 4 (by decide))
      have h1 : RIntV V (Rd D (w.heap.size + 3) V) (sl 9) (y.num * (x.den : Int)) := hJ.ok 9 (hdep 9 (by decide))
      refine rt_call2 rfl enter_rPlus (hs 4 9 rfl) (hs 9 14 rfl) (hfun _) ((RPlus_calls _ _ _ _ _ V HLV.out h0 h1 HM1.out HM2.out).mono ?_)
      rintro e V' ⟨v', rfl, hb, hr⟩
      exact ⟨_, rfl, (hJ.step HF.out HST.out hd (hnst _ (by decide)) hb (hr.got hBV hb))⟩
    · cases ho
      exact rt_fa1 rfl ((hold 2 rfl).trans rfl) (hJ.step HF.out HST.out hd (hnst _ (by decide)) HBR.out rfl)
    · cases ho
      have h0 : sl 11 = .pointer (some ⟨w.heap.size, 3, none⟩) := hJ.ok 11 (hdep 11 (by decide))
      exact rt_load rfl ((hs 11 16 rfl).trans h0) (blk_at HX0V.out 3).1 (blk_at HX0V.out 4).1 (blk_at HX0V.out 5).1 (hJ.step HF.out HST.out hd (hnst _ (by decide)) HBR.out rfl)
    · cases ho
      exact rt_fa1 rfl ((hold 3 rfl).trans rfl) (hJ.step HF.out HST.out hd (hnst _ (by decide)) HBR.out rfl)
    · cases ho
      have h0 : sl 13 = .pointer (some ⟨w.heap.size + 1, 3, none⟩) := hJ.ok 13 (hdep 13 (by decide))
      exact rt_load rfl ((hs 13 18 rfl).trans h0) (blk_at HX1V.out 3).1 (blk_at HX1V.out 4).1 (blk_at HX1V.out 5).1 (hJ.step HF.out HST.out hd (hnst _ (by decide)) HBR.out rfl)
    · cases ho
      have h0 : sl 12 = (.agg #[.int .i64 s', .bool b', .slice A' n' c']) := hJ.ok 12 (hdep 12 (by decide))
      have h1 : sl 14 = (.agg #[.int .i64 t', .bool d', .slice E' m' k']) := hJ.ok 14 (hdep 14 (by decide))
      refine rt_call2 rfl enter_rTimes ((hs 12 17 rfl).trans h0) ((hs 14 19 rfl).trans h1) (hfun _) ((RTimes_calls _ _ _ _ _ V HLV.out HQ1V.out HQ2V.out HF1.out.2 HF2.out.2).mono ?_)
      rintro e V' ⟨v', rfl, hb, hr⟩
      exact ⟨_, rfl, (hJ.step HF.out HST.out hd (hnst _ (by decide)) hb (hr.got hBV hb))⟩
    · cases ho
      have h0 : RIntV V (Rd D (w.heap.size + 3) V) (sl 10) (x.num * (y.den : Int) + y.num * (x.den : Int)) := hJ.ok 10 (hdep 10 (by decide))
      have h1 : RIntV V (Rd D (w.heap.size + 3) V) (sl 15) ((x.den : Int) * (y.den : Int)) := hJ.ok 15 (hdep 15 (by decide))
      refine rt_call2 rfl enter_rMake (hs 10 15 rfl) (hs 15 20 rfl) (hfun _) ((RMake_calls _ _ _ _ _ V HLV.out h0 h1 HM4.out HM3.out (by have := x.den_pos; have := y.den_pos; exact Int.mul_ne_zero (by omega) (by omega))).mono ?_)
      rintro e V' ⟨v', rfl, hb, hr⟩
      rw [← rat_add] at hr
      exact ⟨_, rfl, (hJ.step HF.out HST.out hd (hnst _ (by decide)) hb (hr.got hBV hb))⟩
    · cases ho
      have h6 : RRatV V (Rd D (w.heap.size + 3) V) (sl 16) (x + y) := hJ.ok 16 (hdep 16 (by decide))
      obtain ⟨i1, j1, A1, n1, c1, i2, j2, A2, n2, c2, e6, -, -⟩ := h6
      obtain ⟨cs, k1, ⟨cs0, k2, k3⟩, -⟩ := hJ.box (w.heap.size + 2, 17, 16) (by simp)
      obtain ⟨u0, u1, u2, u3, u4, u5, rfl⟩ := six_of (by rw [k3]; rw [HX2.out] at k2; injection k2 with k2; injection k2 with k2; rw [← k2]; rfl)
      exact rt_store6 rfl ((hold 4 rfl).trans rfl) ((hs 16 21 rfl).trans e6) k1 (hJ.store HF.out (x := (w.heap.size + 2, 17, 16)) (by simp) hd rfl (hdep 16 (by decide)) (fun y hy _ => by simp only [List.mem_cons, List.not_mem_nil, or_false] at hy; subst hy; rfl) (fun y hy _ => by simp only [List.mem_cons, List.not_mem_nil, or_false] at hy; subst hy; rfl) e6 (fun y hy => by simp only [List.mem_cons, List.not_mem_nil, or_false] at hy; subst hy; simp) (Nat.le_add_right _ 2) (st6_blk k1 _ _ _ _ _ _) (fun cs0 h => by simp only at h; rw [HX2.out] at h; injection h with h; injection h with h; rw [← h]; rfl) (fun k hk => st6_other hk _ _ _ _ _ _) (st6_size _ _ _ _ _ _ _ _) (st6_below (Below.refl _ _) (Nat.le_refl _) _ _ _ _ _ _) trivial)
  · intro dn sl wc hJ hd
    have h6 : RRatV wc (Rd D (w.heap.size + 3) wc) (sl 16) (x + y) := hJ.ok 16 (hd 16 (by decide))
    obtain ⟨cs, k1, -, k2⟩ := hJ.box (w.heap.size + 2, 17, 16) (by simp)
    have k2 := k2 (hd 17 (by decide))
    simp only at k1 k2
    obtain ⟨i1, j1, A1, n1, c1, i2, j2, A2, n2, c2, e6, g1, g2⟩ := h6
    rw [e6] at k2
    injection k2 with k2
    subst k2
    have e0 : wc.cell? ⟨w.heap.size + 2, 0, none⟩ = some (.int .i64 i1) := (blk_at k1 0).1
    have e1 : wc.cell? ⟨w.heap.size + 2, 1, none⟩ = some (.bool j1) := (blk_at k1 1).1
    have e2 : wc.cell? ⟨w.heap.size + 2, 2, none⟩ = some (.slice A1 n1 c1) := (blk_at k1 2).1
    have e3 : wc.cell? ⟨w.heap.size + 2, 3, none⟩ = some (.int .i64 i2) := (blk_at k1 3).1
    have e4 : wc.cell? ⟨w.heap.size + 2, 4, none⟩ = some (.bool j2) := (blk_at k1 4).1
    have e5 : wc.cell? ⟨w.heap.size + 2, 5, none⟩ = some (.slice A2 n2 c2) := (blk_at k1 5).1
    have HL := Lib.hid hJ.low
    have hgr : ∀ k, Rd D (w.heap.size + 3) wc k → gr D w wc k := fun k hk => hk.elim .inl fun h => .inr ⟨by omega, h.2⟩
    have HR := Lib.hid (show RRatV wc (gr D w wc) (.agg #[.int .i64 i1, .bool j1, .slice A1 n1 c1, .int .i64 i2, .bool j2, .slice A2 n2 c2]) (x + y) from ⟨_, _, _, _, _, _, _, _, _, _, rfl, g1.mono hgr, g2.mono hgr⟩)
    simp only [putL, Act.put, List.setIfInBounds_toArray, List.set_cons_succ, List.set_cons_zero, Nat.reduceAdd, Nat.zero_add, e6]
    clear hJ hd HF HST g1 g2 k1 hgr
    generalize sl 0 = z0
    generalize sl 1 = z1
    generalize sl 2 = z2
    generalize sl 3 = z3
    generalize sl 4 = z4
    generalize sl 5 = z5
    generalize sl 6 = z6
    generalize sl 7 = z7
    generalize sl 8 = z8
    generalize sl 9 = z9
    generalize sl 10 = z10
    generalize sl 11 = z11
    generalize sl 12 = z12
    generalize sl 13 = z13
    generalize sl 14 = z14
    generalize sl 15 = z15
    go_wp2
    exact bodyPost_ret (v := .agg #[.int .i64 i1, .bool j1, .slice A1 n1 c1, .int .i64 i2, .bool j2, .slice A2 n2 c2]) (by simp [results, Tryz.results136, go_sem, e0, e1, e2, e3, e4, e5]) rfl ⟨_, rfl, HL.out, HR.out⟩

end Go.Proofs.YtoffbdlgmnpblaaGreat
