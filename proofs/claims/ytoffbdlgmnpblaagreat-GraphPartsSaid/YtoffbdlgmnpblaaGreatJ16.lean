/- Part 16: Rf3 Rf4 Rf5. -/
import Derived.Test.YtoffbdlgmnpblaaGreatJ15

/- The reference's exact integers: differences, products with a digit. -/
namespace Go.Proofs.YtoffbdlgmnpblaaGreat
open Go.RowKit
set_option maxHeartbeats 4000000
set_option maxRecDepth 100000

/-- a step of a difference -/
theorem diff_step {L xs ys : List Int} {i : Nat} {c d c' : Int} (h : Dig.ok 1073741824 L) (hl : L.length = i) (hv : Dig.val 1073741824 L - 1073741824 ^ i * c = Dig.val 1073741824 (xs.take i) - Dig.val 1073741824 (ys.take i)) (hd : 0 ≤ d ∧ d < 1073741824) (he : d - 1073741824 * c' = Dig.gd xs i - Dig.gd ys i - c) :
    Dig.ok 1073741824 (L ++ [d]) ∧ Dig.val 1073741824 (L ++ [d]) - 1073741824 ^ (i + 1) * c' = Dig.val 1073741824 (xs.take (i + 1)) - Dig.val 1073741824 (ys.take (i + 1)) := by
  rw [val_take_gd, val_take_gd]
  exact Dig.minus_step h hl hv hd he
/-- a step of a product with a digit -/
theorem scale_step {L xs : List Int} {i : Nat} {n cc t : Int} (h : Dig.ok 1073741824 L) (hl : L.length = i) (hv : Dig.val 1073741824 L + 1073741824 ^ i * cc = Dig.val 1073741824 (xs.take i) * n) (ht : t = cc + Dig.gd xs i * n) :
    Dig.ok 1073741824 (L ++ [t % 1073741824]) ∧ Dig.val 1073741824 (L ++ [t % 1073741824]) + 1073741824 ^ (i + 1) * (t / 1073741824) = Dig.val 1073741824 (xs.take (i + 1)) * n := by
  obtain ⟨h1, h2⟩ := Dig.plus_step (b := 1073741824) (x := Dig.gd xs i * n) (y := 0) (X := Dig.val 1073741824 (xs.take i) * n) (Y := 0) (by decide) h hl (by rw [hv, Int.add_zero])
  rw [show Dig.gd xs i * n + 0 + cc = t by rw [ht]; omega] at h1 h2
  refine ⟨h1, ?_⟩
  rw [h2, val_take_gd]
  grind

theorem Rdifference_calls (xs ys : List Int) (v u : Value) (D D' : Nat → Prop) (w : World) (hD : Lo D w) (hD' : Lo D' w) (h : Sl (Kind.int .i64) w D v xs) (h' : Sl (Kind.int .i64) w D' u ys)
    (ox : Dig.ok 1073741824 xs) (oy : Dig.ok 1073741824 ys) (hx : xs.length ≤ 1000000) (hy : ys.length ≤ xs.length) (hle : Dig.val 1073741824 ys ≤ Dig.val 1073741824 xs) :
    Calls Tryz.prog 217 #[v, u] w fun e w' => ∃ v', e = .returned v' ∧ Below w.heap.size w w' ∧ ∃ zs, w'.ownsRow w.heap.size 3 1 v' zs.length (ints zs) ∧ Dig.ok 1073741824 zs ∧ Dig.val 1073741824 zs = Dig.val 1073741824 xs - Dig.val 1073741824 ys ∧ zs.length = xs.length := by
  obtain ⟨A, c, rfl, h1, h2, -⟩ := h.ints
  obtain ⟨A', c', rfl, h1', h2', -⟩ := h'.ints
  unfold maxLen at h2 h2'
  have HX := Lib.hid h
  have HY := Lib.hid h'
  have HD := Lib.hid hD
  have HD' := Lib.hid hD'
  have OX := Lib.hid ox
  have OY := Lib.hid oy
  have HLE := Lib.hid hle
  clear h h' hD hD' ox oy hle
  go_enter Tryz.func217, Tryz.ntmps217
  go_wp2
  go_loopw [5, 6, 10] (fun v5 c6 k W => ∃ (i : Nat) (cc : Int) (L : List Int), i ≤ xs.length ∧ k = .int .i64 (i : Int) ∧ c6 = .int .i64 cc ∧ -1 ≤ cc ∧ cc ≤ 0 ∧ Hid (Below w.heap.size w W) ∧ Hid (W.ownsRow w.heap.size 3 1 v5 L.length (ints L)) ∧ L.length ≤ i ∧ i ≤ L.length ∧ Hid (Dig.ok 1073741824 L) ∧ Hid (Dig.val 1073741824 L - 1073741824 ^ i * (-cc) = Dig.val 1073741824 (xs.take i) - Dig.val 1073741824 (ys.take i))) (fun _ _ k _ => xs.length - (intOf k).toNat)
  case atStart => exact ⟨0, 0, [], by omega, rfl, rfl, by omega, by omega, Below.refl _ _, World.ownsRow_nil _ _ _ _, Nat.le_refl _, Nat.le_refl _, Dig.ok_nil _, Lib.hid (by simp [Dig.val])⟩
  case round =>
    obtain ⟨i, cc, L, hi, rfl, rfl, hc0, hc1, HB, HO, hL1, hL2, HOK, HV⟩ := hrel
    have hown := HO.out
    obtain ⟨A5, c5, rfl, -, -, -⟩ := own_form hown
    clear hown
    by_cases hlx : i < xs.length
    · obtain ⟨ad, x, rfl, q0, hx0, hx1, hx2⟩ := dig_up HX.out (HD.out.same HB.out) OX.out i hlx
      have HX0 := Lib.hid hx0
      clear hx0
      by_cases hly : i < ys.length
      · obtain ⟨ad2, y, rfl, q1, hy0, hy1, hy2⟩ := dig_up HY.out (HD'.out.same HB.out) OY.out i hly
        have HY0 := Lib.hid hy0
        clear hy0
        by_cases hneg : cc + x - y < 0
        · obtain ⟨s1, s2⟩ := diff_step (xs := xs) (ys := ys) (d := cc + x - y + 1073741824) (c' := 1) HOK.out (Nat.le_antisymm hL1 hL2) HV.out (by omega) (by rw [← HX0.out, ← HY0.out]; omega)
          have S1 := Lib.hid s1
          have S2 := Lib.hid s2
          clear s1 s2
          go_wp2_with ((at_builtin); (refine wpList_app1 elem_i64 rfl _ _ rfl w.heap.size _ L.length (ints L) rfl (HO.out.alloc _) ⟨_, 0, none⟩ 1 _ rfl (cell_new1 _ _ _) rfl (by omega) (by omega) (by have := HB.out.size; simp; omega) ?_); (intro v6 w6 ho6 hg6 ha6); (have HO6 := Lib.hid ho6); (have HG6 := Lib.hid hg6); (obtain ⟨A6, c6, rfl, -, -, -⟩ := own_form ho6); (clear ho6 hg6 ha6))
          have hb6 := (HB.out.alloc HB.out.size (.cells #[.int .i64 (cc + x - y + 1073741824)] 3)).grown HG6.out (by have := HB.out.size; simp; omega) (fun k hk => (HO.out.lt k hk).1)
          exact ⟨⟨i + 1, -1, L ++ [cc + x - y + 1073741824], by omega, by go_num, rfl, by omega, by omega, hb6, Lib.hid (by simpa [ints] using HO6.out), by simp; omega, by simp; omega, S1, S2⟩, by simp [intOf]; omega⟩
        · obtain ⟨s1, s2⟩ := diff_step (xs := xs) (ys := ys) (d := cc + x - y) (c' := 0) HOK.out (Nat.le_antisymm hL1 hL2) HV.out (by omega) (by rw [← HX0.out, ← HY0.out]; omega)
          have S1 := Lib.hid s1
          have S2 := Lib.hid s2
          clear s1 s2
          go_wp2_with ((at_builtin); (refine wpList_app1 elem_i64 rfl _ _ rfl w.heap.size _ L.length (ints L) rfl (HO.out.alloc _) ⟨_, 0, none⟩ 1 _ rfl (cell_new1 _ _ _) rfl (by omega) (by omega) (by have := HB.out.size; simp; omega) ?_); (intro v6 w6 ho6 hg6 ha6); (have HO6 := Lib.hid ho6); (have HG6 := Lib.hid hg6); (obtain ⟨A6, c6, rfl, -, -, -⟩ := own_form ho6); (clear ho6 hg6 ha6))
          have hb6 := (HB.out.alloc HB.out.size (.cells #[.int .i64 (cc + x - y)] 3)).grown HG6.out (by have := HB.out.size; simp; omega) (fun k hk => (HO.out.lt k hk).1)
          exact ⟨⟨i + 1, 0, L ++ [cc + x - y], by omega, by go_num, rfl, by omega, by omega, hb6, Lib.hid (by simpa [ints] using HO6.out), by simp; omega, by simp; omega, S1, S2⟩, by simp [intOf]; omega⟩
      · have HY0 : Hid ((0 : Int) = Dig.gd ys i) := Lib.hid (Dig.gd_ge (by omega)).symm
        by_cases hneg : cc + x < 0
        · obtain ⟨s1, s2⟩ := diff_step (xs := xs) (ys := ys) (d := cc + x + 1073741824) (c' := 1) HOK.out (Nat.le_antisymm hL1 hL2) HV.out (by omega) (by rw [← HX0.out, ← HY0.out]; omega)
          have S1 := Lib.hid s1
          have S2 := Lib.hid s2
          clear s1 s2
          go_wp2_with ((at_builtin); (refine wpList_app1 elem_i64 rfl _ _ rfl w.heap.size _ L.length (ints L) rfl (HO.out.alloc _) ⟨_, 0, none⟩ 1 _ rfl (cell_new1 _ _ _) rfl (by omega) (by omega) (by have := HB.out.size; simp; omega) ?_); (intro v6 w6 ho6 hg6 ha6); (have HO6 := Lib.hid ho6); (have HG6 := Lib.hid hg6); (obtain ⟨A6, c6, rfl, -, -, -⟩ := own_form ho6); (clear ho6 hg6 ha6))
          have hb6 := (HB.out.alloc HB.out.size (.cells #[.int .i64 (cc + x + 1073741824)] 3)).grown HG6.out (by have := HB.out.size; simp; omega) (fun k hk => (HO.out.lt k hk).1)
          exact ⟨⟨i + 1, -1, L ++ [cc + x + 1073741824], by omega, by go_num, rfl, by omega, by omega, hb6, Lib.hid (by simpa [ints] using HO6.out), by simp; omega, by simp; omega, S1, S2⟩, by simp [intOf]; omega⟩
        · obtain ⟨s1, s2⟩ := diff_step (xs := xs) (ys := ys) (d := cc + x) (c' := 0) HOK.out (Nat.le_antisymm hL1 hL2) HV.out (by omega) (by rw [← HX0.out, ← HY0.out]; omega)
          have S1 := Lib.hid s1
          have S2 := Lib.hid s2
          clear s1 s2
          go_wp2_with ((at_builtin); (refine wpList_app1 elem_i64 rfl _ _ rfl w.heap.size _ L.length (ints L) rfl (HO.out.alloc _) ⟨_, 0, none⟩ 1 _ rfl (cell_new1 _ _ _) rfl (by omega) (by omega) (by have := HB.out.size; simp; omega) ?_); (intro v6 w6 ho6 hg6 ha6); (have HO6 := Lib.hid ho6); (have HG6 := Lib.hid hg6); (obtain ⟨A6, c6, rfl, -, -, -⟩ := own_form ho6); (clear ho6 hg6 ha6))
          have hb6 := (HB.out.alloc HB.out.size (.cells #[.int .i64 (cc + x)] 3)).grown HG6.out (by have := HB.out.size; simp; omega) (fun k hk => (HO.out.lt k hk).1)
          exact ⟨⟨i + 1, 0, L ++ [cc + x], by omega, by go_num, rfl, by omega, by omega, hb6, Lib.hid (by simpa [ints] using HO6.out), by simp; omega, by simp; omega, S1, S2⟩, by simp [intOf]; omega⟩
    · obtain rfl : i = xs.length := by omega
      obtain ⟨hcc, hv⟩ : cc = 0 ∧ Dig.val 1073741824 L = Dig.val 1073741824 xs - Dig.val 1073741824 ys := by
        have h9 := HV.out
        have h8 := HLE.out
        rw [List.take_of_length_le (Nat.le_refl _), List.take_of_length_le hy] at h9
        have h7 := Dig.val_lt (b := 1073741824) (by decide) HOK.out
        rw [show L.length = xs.length by omega] at h7
        rcases (show cc = 0 ∨ cc = -1 by omega) with rfl | rfl
        · exact ⟨rfl, by simpa using h9⟩
        · exfalso
          rw [show (1073741824 : Int) ^ xs.length * (- -1) = 1073741824 ^ xs.length by simp] at h9
          omega
      subst hcc
      have HV2 := Lib.hid hv
      clear hv
      go_wp2
      go_ret
      exact ⟨_, rfl, HB.out, L, HO.out, HOK.out, HV2.out, by omega⟩

theorem Rscaled_calls (xs : List Int) (n : Int) (v : Value) (D : Nat → Prop) (w : World) (hD : Lo D w) (h : Sl (Kind.int .i64) w D v xs)
    (ox : Dig.ok 1073741824 xs) (hx : xs.length ≤ 1000000) (hn0 : 0 ≤ n) (hn : n < 1073741824) :
    Calls Tryz.prog 260 #[v, .int .i64 n] w fun e w' => ∃ v', e = .returned v' ∧ Below w.heap.size w w' ∧ ∃ zs, w'.ownsRow w.heap.size 3 1 v' zs.length (ints zs) ∧ Dig.ok 1073741824 zs ∧ Dig.val 1073741824 zs = Dig.val 1073741824 xs * n ∧ zs.length = xs.length + 1 := by
  obtain ⟨A, c, rfl, h1, h2, -⟩ := h.ints
  unfold maxLen at h2
  have HX := Lib.hid h
  have HD := Lib.hid hD
  have OX := Lib.hid ox
  clear h hD ox
  go_enter Tryz.func260, Tryz.ntmps260
  go_wp2
  go_loopw [5, 6, 11] (fun v5 c6 k W => ∃ (i : Nat) (cc : Int) (L : List Int), i ≤ xs.length ∧ k = .int .i64 (i : Int) ∧ c6 = .int .i64 cc ∧ 0 ≤ cc ∧ cc < 1073741824 ∧ Hid (Below w.heap.size w W) ∧ Hid (W.ownsRow w.heap.size 3 1 v5 L.length (ints L)) ∧ L.length ≤ i ∧ i ≤ L.length ∧ Hid (Dig.ok 1073741824 L) ∧ Hid (Dig.val 1073741824 L + 1073741824 ^ i * cc = Dig.val 1073741824 (xs.take i) * n)) (fun _ _ k _ => xs.length - (intOf k).toNat)
  case atStart => exact ⟨0, 0, [], by omega, rfl, rfl, by omega, by omega, Below.refl _ _, World.ownsRow_nil _ _ _ _, Nat.le_refl _, Nat.le_refl _, Dig.ok_nil _, Lib.hid (by simp [Dig.val])⟩
  case round =>
    obtain ⟨i, cc, L, hi, rfl, rfl, hc0, hc1, HB, HO, hL1, hL2, HOK, HV⟩ := hrel
    have hown := HO.out
    obtain ⟨A5, c5, rfl, -, -, -⟩ := own_form hown
    clear hown
    by_cases hlx : i < xs.length
    · obtain ⟨ad, x, rfl, q0, hx0, hx1, hx2⟩ := dig_up HX.out (HD.out.same HB.out) OX.out i hlx
      obtain ⟨s1, s2⟩ := scale_step (xs := xs) (n := n) (t := cc + x * n) HOK.out (Nat.le_antisymm hL1 hL2) HV.out (by rw [hx0])
      have S1 := Lib.hid s1
      have S2 := Lib.hid s2
      obtain ⟨m0, m1⟩ : 0 ≤ x * n ∧ x * n ≤ 1152921502459363329 := ⟨Int.mul_nonneg hx1 hn0, Int.le_trans (Int.mul_le_mul (show x ≤ 1073741823 by omega) (show n ≤ 1073741823 by omega) hn0 (by decide)) (by decide)⟩
      clear s1 s2 hx0
      go_wp2_with ((at_builtin); (refine wpList_app1 elem_i64 rfl _ _ rfl w.heap.size _ L.length (ints L) rfl (HO.out.alloc _) ⟨_, 0, none⟩ 1 _ rfl (cell_new1 _ _ _) rfl (by omega) (by omega) (by have := HB.out.size; simp; omega) ?_); (intro v6 w6 ho6 hg6 ha6); (have HO6 := Lib.hid ho6); (have HG6 := Lib.hid hg6); (obtain ⟨A6, c6, rfl, -, -, -⟩ := own_form ho6); (clear ho6 hg6 ha6))
      have hb6 := (HB.out.alloc HB.out.size (.cells #[.int .i64 ((cc + x * n) % 1073741824)] 3)).grown HG6.out (by have := HB.out.size; simp; omega) (fun k hk => (HO.out.lt k hk).1)
      exact ⟨⟨i + 1, (cc + x * n) / 1073741824, L ++ [(cc + x * n) % 1073741824], by omega, by go_num, rfl, by omega, by omega, hb6, Lib.hid (by simpa [ints] using HO6.out), by simp; omega, by simp; omega, S1, S2⟩, by simp [intOf]; omega⟩
    · obtain rfl : i = xs.length := by omega
      have HS : Hid (Dig.ok 1073741824 (L ++ [cc]) ∧ Dig.val 1073741824 (L ++ [cc]) = Dig.val 1073741824 xs * n) := Lib.hid ⟨Dig.ok_append.2 ⟨HOK.out, fun d hd => by rw [List.mem_singleton] at hd; subst hd; exact ⟨hc0, hc1⟩⟩, by
        have h9 := HV.out
        rw [List.take_of_length_le (Nat.le_refl _)] at h9
        rw [Dig.val_snoc, show L.length = xs.length by omega, h9]⟩
      clear hlx
      go_wp2_with ((at_builtin); (refine wpList_app1 elem_i64 rfl _ _ rfl w.heap.size _ L.length (ints L) rfl (HO.out.alloc _) ⟨_, 0, none⟩ 1 _ rfl (cell_new1 _ _ _) rfl (by omega) (by omega) (by have := HB.out.size; simp; omega) ?_); (intro v6 w6 ho6 hg6 ha6); (have HO6 := Lib.hid ho6); (have HG6 := Lib.hid hg6); (obtain ⟨A6, c6, rfl, -, -, -⟩ := own_form ho6); (clear ho6 hg6 ha6))
      have hb6 := (HB.out.alloc HB.out.size (.cells #[.int .i64 cc] 3)).grown HG6.out (by have := HB.out.size; simp; omega) (fun k hk => (HO.out.lt k hk).1)
      go_ret
      exact ⟨_, rfl, hb6, L ++ [cc], by simpa [ints] using HO6.out, HS.out.1, HS.out.2, by simp; omega⟩

end Go.Proofs.YtoffbdlgmnpblaaGreat

/- The reference's exact integers: how they lie in memory; their digits, signs, negatives. -/
namespace Go.Proofs.YtoffbdlgmnpblaaGreat
open Go.RowKit
set_option maxHeartbeats 4000000
set_option maxRecDepth 100000

/-- an integer as the reference lays it out -/
def RInt (w : World) (D : Nat → Prop) (s : Int) (b : Bool) (A : Option Addr) (n c : Nat) (z : Int) : Prop :=
  (b = false ∧ A = none ∧ n = 0 ∧ c = 0 ∧ s = z ∧ -2305843009213693952 < z ∧ z < 2305843009213693952) ∨
  ∃ xs : List Int, s = 0 ∧ Sl (Kind.int .i64) w D (.slice A n c) xs ∧ Dig.ok 1073741824 xs ∧ Dig.trimmed xs ∧ 2305843009213693952 ≤ Dig.val 1073741824 xs ∧ z = if b then -Dig.val 1073741824 xs else Dig.val 1073741824 xs
def RIntV (w : World) (D : Nat → Prop) (v : Value) (z : Int) : Prop := ∃ s b A n c, v = .agg #[.int .i64 s, .bool b, .slice A n c] ∧ RInt w D s b A n c z
section
variable {w w' : World} {D D' : Nat → Prop} {s : Int} {b : Bool} {A : Option Addr} {n c : Nat} {z : Int} {v : Value}
theorem RInt.same (h : RInt w D s b A n c z) (hs : Same D w w') : RInt w' D s b A n c z := by
  rcases h with h | ⟨xs, h1, h2, h3⟩
  · exact .inl h
  · exact .inr ⟨xs, h1, h2.same hs, h3⟩
theorem RInt.mono (h : RInt w D s b A n c z) (hs : ∀ k, D k → D' k) : RInt w D' s b A n c z := by
  rcases h with h | ⟨xs, h1, h2, h3⟩
  · exact .inl h
  · exact .inr ⟨xs, h1, h2.mono hs, h3⟩
theorem RIntV.same (h : RIntV w D v z) (hs : Same D w w') : RIntV w' D v z := by
  obtain ⟨s, b, A, n, c, e, h⟩ := h
  exact ⟨s, b, A, n, c, e, h.same hs⟩
theorem RIntV.mono (h : RIntV w D v z) (hs : ∀ k, D k → D' k) : RIntV w D' v z := by
  obtain ⟨s, b, A, n, c, e, h⟩ := h
  exact ⟨s, b, A, n, c, e, h.mono hs⟩
theorem RInt.small (h1 : -2305843009213693952 < z) (h2 : z < 2305843009213693952) : RInt w D z false none 0 0 z := .inl ⟨rfl, rfl, rfl, rfl, rfl, h1, h2⟩
theorem RIntV.small (h1 : -2305843009213693952 < z) (h2 : z < 2305843009213693952) : RIntV w D (.agg #[.int .i64 z, .bool false, .slice none 0 0]) z := ⟨_, _, _, _, _, rfl, RInt.small h1 h2⟩
end
theorem big_ne {xs : List Int} (h : 2305843009213693952 ≤ Dig.val 1073741824 xs) : 0 < xs.length := by
  cases xs with
  | nil => simp [Dig.val] at h
  | cons => simp

theorem RSign_calls (z : Int) (v : Value) (D : Nat → Prop) (w : World) (h : RIntV w D v z) :
    Calls Tryz.prog 176 #[v] w fun e w' => e = .returned (.int .i64 (Dig.sgn z)) ∧ Below w.heap.size w w' := by
  obtain ⟨s, b, A, n, c, rfl, h⟩ := h
  have hB0 := (Below.refl w.heap.size w).alloc (Nat.le_refl _) (.cells #[.int .i64 s, .bool b, .slice A n c] 136)
  rcases h with ⟨rfl, rfl, rfl, rfl, rfl, h1, h2⟩ | ⟨xs, rfl, hs, ho, ht, hv, hz⟩
  · rcases Int.lt_trichotomy s 0 with hs | hs | hs
    · have HS := Lib.hid (Dig.sgn_lt hs)
      go_enter Tryz.func176, Tryz.ntmps176
      go_wp2
      go_ret
      exact ⟨ret_int HS.out.symm, hB0⟩
    · subst hs
      go_enter Tryz.func176, Tryz.ntmps176
      go_wp2
      go_ret
      exact ⟨ret_int rfl, hB0⟩
    · have HS := Lib.hid (Dig.sgn_gt hs)
      go_enter Tryz.func176, Tryz.ntmps176
      go_wp2
      go_ret
      exact ⟨ret_int HS.out.symm, hB0⟩
  · obtain ⟨rfl, h1, h2⟩ := hs.len
    unfold maxLen at h2
    have hp := big_ne hv
    cases b with
    | true =>
      have HS := Lib.hid (Dig.sgn_lt (show z < 0 by rw [hz, if_pos rfl]; omega))
      clear hs ho ht hv hz
      go_enter Tryz.func176, Tryz.ntmps176
      go_wp2
      go_ret
      exact ⟨ret_int HS.out.symm, hB0⟩
    | false =>
      have HS := Lib.hid (Dig.sgn_gt (show 0 < z by rw [hz, if_neg (by decide)]; omega))
      clear hs ho ht hv hz
      go_enter Tryz.func176, Tryz.ntmps176
      go_wp2
      go_ret
      exact ⟨ret_int HS.out.symm, hB0⟩

theorem RMinus_calls (z : Int) (v : Value) (D : Nat → Prop) (w : World) (hD : Lo D w) (h : RIntV w D v z) :
    Calls Tryz.prog 212 #[v] w fun e w' => ∃ v', e = .returned v' ∧ Below w.heap.size w w' ∧ RIntV w' D v' (-z) := by
  obtain ⟨s, b, A, n, c, rfl, h⟩ := h
  rcases h with ⟨rfl, rfl, rfl, rfl, rfl, h1, h2⟩ | ⟨xs, rfl, hs, ho, ht, hv, hz⟩
  · go_enter Tryz.func212, Tryz.ntmps212
    go_wp2
    exact bodyPost_ret (v := .agg #[.int .i64 (-s), .bool false, .slice none 0 0]) (by simp [results, Tryz.results212, go_sem]) rfl ⟨_, rfl, boxes2 _ _ _, RIntV.small (by omega) (by omega)⟩
  · obtain ⟨rfl, h1, h2⟩ := hs.len
    unfold maxLen at h2
    have hp := big_ne hv
    cases b with
    | true =>
      have HR : Hid (RIntV w D (.agg #[.int .i64 0, .bool false, .slice A xs.length c]) (-z)) := Lib.hid ⟨_, _, _, _, _, rfl, .inr ⟨xs, rfl, hs, ho, ht, hv, by rw [hz, if_pos rfl, if_neg (by decide), Int.neg_neg]⟩⟩
      clear hs ho ht hv hz
      go_enter Tryz.func212, Tryz.ntmps212
      go_wp2
      exact bodyPost_ret (v := .agg #[.int .i64 0, .bool false, .slice A xs.length c]) (by simp [results, Tryz.results212, go_sem]) rfl ⟨_, rfl, boxes2 _ _ _, HR.out.same (hD.same (boxes2 _ _ _))⟩
    | false =>
      have HR : Hid (RIntV w D (.agg #[.int .i64 0, .bool true, .slice A xs.length c]) (-z)) := Lib.hid ⟨_, _, _, _, _, rfl, .inr ⟨xs, rfl, hs, ho, ht, hv, by rw [hz, if_pos rfl, if_neg (by decide)]⟩⟩
      clear hs ho ht hv hz
      go_enter Tryz.func212, Tryz.ntmps212
      go_wp2
      exact bodyPost_ret (v := .agg #[.int .i64 0, .bool true, .slice A xs.length c]) (by simp [results, Tryz.results212, go_sem]) rfl ⟨_, rfl, boxes2 _ _ _, HR.out.same (hD.same (boxes2 _ _ _))⟩

/-! ### the digits of an integer -/
/-- three digits are enough for what lies below 2^63 -/
theorem few_digits {L : List Int} {n a : Int} {k : Nat} (h : Dig.val 1073741824 L + 1073741824 ^ k * n = a) (ho : Dig.ok 1073741824 L) (hn : 0 < n) (ha : a ≤ 9223372036854775808) : k ≤ 2 := by
  apply Nat.le_of_not_lt
  intro hk
  have h1 := Dig.pow_mono (b := 1073741824) (by decide) hk
  have h2 := Dig.val_nonneg (b := 1073741824) (by decide) ho
  have h3 : (1073741824 : Int) ^ k * 1 ≤ 1073741824 ^ k * n := Int.mul_le_mul_of_nonneg_left (by omega) (Int.le_of_lt (Dig.pow_pos' (by decide) k))
  have h4 : (1073741824 : Int) ^ 3 = 1237940039285380274899124224 := by decide
  omega
/-- a step: the last digit is laid -/
theorem lay_step {L : List Int} {n a : Int} {k : Nat} (h : Dig.val 1073741824 L + 1073741824 ^ k * n = a) (hl : L.length = k) (ho : Dig.ok 1073741824 L) (hn : 0 < n) :
    Dig.ok 1073741824 (L ++ [n % 1073741824]) ∧ Dig.val 1073741824 (L ++ [n % 1073741824]) + 1073741824 ^ (k + 1) * (n / 1073741824) = a ∧ (n / 1073741824 = 0 → Dig.trimmed (L ++ [n % 1073741824])) := by
  obtain ⟨h1, h2⟩ := Dig.plus_step (b := 1073741824) (x := 0) (y := 0) (X := a) (Y := 0) (c := n) (by decide) ho hl (by rw [h, Int.add_zero])
  simp only [Int.add_zero, Int.zero_add, Int.mul_zero] at h1 h2
  refine ⟨h1, h2, fun h0 hne => ?_⟩
  rw [List.getLast_concat]
  omega

theorem Rlist_calls (z : Int) (v : Value) (D : Nat → Prop) (w : World) (hD : Lo D w) (h : RIntV w D v z) :
    Calls Tryz.prog 213 #[v] w fun e w' => ∃ v', e = .returned v' ∧ Below w.heap.size w w' ∧ ∃ xs, Sl (Kind.int .i64) w' (gr D w w') v' xs ∧ Dig.ok 1073741824 xs ∧ Dig.trimmed xs ∧ Dig.val 1073741824 xs = Dig.ab z := by
  obtain ⟨s, b, A, n, c, rfl, h⟩ := h
  have hB0 := (Below.refl w.heap.size w).alloc (Nat.le_refl _) (.cells #[.int .i64 s, .bool b, .slice A n c] 136)
  rcases h with ⟨rfl, rfl, rfl, rfl, rfl, h1, h2⟩ | ⟨xs, rfl, hs, ho, ht, hv, hz⟩
  · have HB0 := Lib.hid hB0
    obtain ⟨a, ha⟩ : ∃ a, a = Dig.ab s := ⟨_, rfl⟩
    have hab : a = max s (-s) := by rw [ha]; unfold Dig.ab; split <;> omega
    have HA := Lib.hid ha
    have ha0 : 0 ≤ a ∧ a < 2305843009213693952 := by omega
    have HAB := Lib.hid hab.symm
    clear ha hB0 hab
    go_enter Tryz.func213, Tryz.ntmps213
    go_wp2
    go_loopw [3, 4] (fun v3 k W => ∃ (n : Int) (L : List Int), k = .int .i64 n ∧ 0 ≤ n ∧ n ≤ a ∧ L.length ≤ 3 ∧ Hid (Below w.heap.size w W) ∧ Hid (W.ownsRow (w.heap.size + 1) 3 1 v3 L.length (ints L)) ∧ w.heap.size + 1 ≤ W.heap.size ∧ Hid (Dig.ok 1073741824 L) ∧ Hid (Dig.val 1073741824 L + 1073741824 ^ L.length * n = a) ∧ Hid (n = 0 → Dig.trimmed L)) (fun _ k _ => (intOf k).toNat)
    case atStart => exact ⟨a, [], by rw [HAB.out], by omega, by omega, by simp, HB0.out, World.ownsRow_nil _ _ _ _, by simp, Dig.ok_nil _, Lib.hid (by simp [Dig.val]), Lib.hid (fun _ h => absurd rfl h)⟩
    case round =>
      obtain ⟨n, L, rfl, hn0, hna, hL3, HB, HO, hz, HOK, HV, HT⟩ := hrel
      have hown := HO.out
      obtain ⟨A5, c5, rfl, -, -, -⟩ := own_form hown
      clear hown
      by_cases hp : 0 < n
      · have hL2 := few_digits HV.out HOK.out hp (by omega)
        obtain ⟨s1, s2, s3⟩ := lay_step HV.out rfl HOK.out hp
        have S1 := Lib.hid s1
        have S2 := Lib.hid s2
        have S3 := Lib.hid s3
        clear s1 s2 s3
        go_wp2_with ((at_builtin); (refine wpList_app1 elem_i64 rfl _ _ rfl (w.heap.size + 1) _ L.length (ints L) rfl (HO.out.alloc _) ⟨_, 0, none⟩ 1 _ rfl (cell_new1 _ _ _) rfl (by omega) (by omega) (by simp; omega) ?_); (intro v6 w6 ho6 hg6 ha6); (have HO6 := Lib.hid ho6); (have HG6 := Lib.hid hg6); (obtain ⟨A6, c6, rfl, -, -, -⟩ := own_form ho6); (clear ho6 hg6 ha6))
        have hb6 := (HB.out.alloc HB.out.size (.cells #[.int .i64 (n % 1073741824)] 3)).grown HG6.out (by have := HB.out.size; simp; omega) (fun k hk => by have := (HO.out.lt k hk).1; omega)
        have hs6 := HG6.out.size
        exact ⟨⟨n / 1073741824, L ++ [n % 1073741824], rfl, by omega, by omega, by simp; omega, hb6, Lib.hid (by simpa [ints] using HO6.out), by simp at hs6; omega, S1, Lib.hid (by rw [List.length_append]; exact S2.out), S3⟩, by simp [intOf]; omega⟩
      · obtain rfl : n = 0 := by omega
        have HV2 : Hid (Dig.val 1073741824 L = Dig.ab s) := Lib.hid (by have := HV.out; rw [← HA.out]; omega)
        clear hp
        go_wp2
        go_ret
        exact ⟨_, rfl, HB.out, L, (own_intsS HO.out).mono fun k hk => .inr ⟨by have := hk.1; omega, hk.2.1⟩, HOK.out, HT.out (by trivial), HV2.out⟩
  · obtain ⟨rfl, h1, h2⟩ := hs.len
    unfold maxLen at h2
    have hp := big_ne hv
    have HV := Lib.hid (show Dig.val 1073741824 xs = Dig.ab z by
      cases b with
      | true => rw [hz, if_pos rfl, Dig.ab_of_neg (by omega), Int.neg_neg]
      | false => rw [hz, if_neg (by decide), Dig.ab_of_pos (by omega)])
    have HS := Lib.hid hs
    have HO := Lib.hid ho
    have HT := Lib.hid ht
    have HB0 := Lib.hid hB0
    clear hs ho ht hv hz hB0
    go_enter Tryz.func213, Tryz.ntmps213
    go_wp2
    go_ret
    exact ⟨_, rfl, HB0.out, xs, (HS.out.same (hD.same HB0.out)).mono fun _ hk => .inl hk, HO.out, HT.out, HV.out⟩

end Go.Proofs.YtoffbdlgmnpblaaGreat

/- The reference's exact integers: made of digits, made of a number; absolute values. -/
namespace Go.Proofs.YtoffbdlgmnpblaaGreat
open Go.RowKit
set_option maxHeartbeats 4000000
set_option maxRecDepth 100000

theorem made_big {ys : List Int} (ho : Dig.ok 1073741824 ys) (ht : Dig.trimmed ys) (h : 3 < ys.length ∨ (ys.length = 3 ∧ 2 ≤ Dig.gd ys 2)) : 2305843009213693952 ≤ Dig.val 1073741824 ys := by
  rcases h with h | ⟨h, h2⟩
  · have h1 := Dig.val_ge (b := 1073741824) (by decide) ho ht (by intro e; subst e; simp at h)
    have h2 := Dig.pow_mono (b := 1073741824) (by decide) (show 3 ≤ ys.length - 1 by omega)
    have h4 : (1073741824 : Int) ^ 3 = 1237940039285380274899124224 := by decide
    omega
  · match ys, h with
    | [a, b, c], _ =>
      have h3 : 2 ≤ c := h2
      have e1 := ho a (by simp)
      have e2 := ho b (by simp)
      simp only [Dig.val]
      omega
theorem made_small {ys : List Int} (ho : Dig.ok 1073741824 ys) (h : ys.length ≤ 2 ∨ (ys.length = 3 ∧ Dig.gd ys 2 < 2)) : Dig.val 1073741824 ys < 2305843009213693952 := by
  rcases h with h | ⟨h, h2⟩
  · have h1 := Dig.val_lt (b := 1073741824) (by decide) ho
    have h2 := Dig.pow_mono (b := 1073741824) (by decide) h
    have h4 : (1073741824 : Int) ^ 2 = 1152921504606846976 := by decide
    omega
  · match ys, h with
    | [a, b, c], _ =>
      have h3 : c < 2 := h2
      have e1 := ho a (by simp)
      have e2 := ho b (by simp)
      simp only [Dig.val]
      omega
/-- the digits from a place on are no more than all -/
theorem val_drop_le {ys : List Int} (ho : Dig.ok 1073741824 ys) (k : Nat) (hk : k ≤ ys.length) : 0 ≤ Dig.val 1073741824 (ys.drop k) ∧ Dig.val 1073741824 (ys.drop k) ≤ Dig.val 1073741824 ys := by
  have h1 := Dig.val_take_drop 1073741824 ys k hk
  have h2 := Dig.val_nonneg (b := 1073741824) (by decide) (Dig.ok_take ho k)
  have h3 := Dig.val_nonneg (b := 1073741824) (by decide) (Dig.ok_drop ho k)
  have h4 := Dig.pow_pos' (b := 1073741824) (by decide) k
  have h5 := Int.mul_le_mul_of_nonneg_right (show (1 : Int) ≤ 1073741824 ^ k by omega) h3
  refine ⟨h3, ?_⟩
  omega

theorem Rmade_calls (neg : Bool) (xs : List Int) (v : Value) (D : Nat → Prop) (w : World) (hD : Lo D w) (h : Sl (Kind.int .i64) w D v xs) (ho : Dig.ok 1073741824 xs) :
    Calls Tryz.prog 214 #[.bool neg, v] w fun e w' => ∃ v', e = .returned v' ∧ Below w.heap.size w w' ∧ RIntV w' D v' (if neg then -Dig.val 1073741824 xs else Dig.val 1073741824 xs) := by
  obtain ⟨z, hz⟩ : ∃ z : Int, z = if neg then -Dig.val 1073741824 xs else Dig.val 1073741824 xs := ⟨_, rfl⟩
  rw [← hz]
  have HZ := Lib.hid hz
  clear hz
  have H := Lib.hid h
  have HOK := Lib.hid ho
  obtain ⟨A, c, rfl, h1, h2, -⟩ := h.ints
  have hB0 := (Below.refl w.heap.size w).alloc (Nat.le_refl _) (.cells #[.int .i64 0, .bool false, .slice none 0 0] 136)
  have HB0 := Lib.hid hB0
  have HD := Lib.hid hD
  clear h ho hB0 hD
  unfold maxLen at h2
  go_enter Tryz.func214, Tryz.ntmps214
  go_wp2
  go_loopw [1] (fun d W => ∃ m : Nat, m ≤ xs.length ∧ d = .slice A m c ∧ Hid (Dig.trim (xs.take m) = Dig.trim xs) ∧ W = w.alloc (.cells #[.int .i64 0, .bool false, .slice none 0 0] 136)) (fun d _ => match d with | .slice _ m _ => m | _ => 0)
  case atStart => exact ⟨xs.length, Nat.le_refl _, rfl, Lib.hid (by rw [List.take_length]), rfl⟩
  case round =>
    obtain ⟨m, hm, rfl, HT, rfl⟩ := hrel
    have H1 := Lib.hid (H.out.same (HD.out.same HB0.out))
    have hz : Hid (xs.take m = xs.take (m - 1) ++ [Dig.gd xs (m - 1)] ∨ m = 0) := Lib.hid (by
      rcases Nat.eq_zero_or_pos m with e | e
      · exact .inr e
      · have := Dig.take_succ_getD xs (m - 1) (by omega)
        rw [show m - 1 + 1 = m by omega] at this
        exact .inl this)
    by_cases hp : 0 < m
    · obtain ⟨ad, x, rfl, q0, hx0, hx1, hx2⟩ := dig_up H.out (HD.out.same HB0.out) HOK.out (m - 1) (by omega)
      have HX0 := Lib.hid hx0
      clear hx0
      by_cases hx : x = 0
      · subst hx
        have HT1 : Hid (Dig.trim (xs.take (m - 1)) = Dig.trim xs) := Lib.hid (by
          rcases hz.out with e | e
          · have := HT.out
            rw [e, ← HX0.out, Dig.trim_snoc_zero] at this
            exact this
          · omega)
        go_wp2
        exact ⟨⟨m - 1, by omega, rfl, HT1, by first | rfl | trivial⟩, by simp; omega⟩
      · have HTR : Hid (Dig.trim xs = xs.take m ∧ Dig.trimmed (xs.take m)) := Lib.hid (by
          have ht : Dig.trimmed (xs.take m) := by
            rcases hz.out with e | e
            · rw [e]
              intro hn
              rw [List.getLast_concat, ← HX0.out]
              exact hx
            · omega
          exact ⟨by rw [← HT.out, Dig.trim_of_trimmed ht], ht⟩)
        have hne : (x == 0) = false := by simpa using hx
        have HY := Lib.hid (H1.out.take hm)
        have HYO := Lib.hid (Dig.ok_take HOK.out m)
        have hyl : (xs.take m).length = m := by rw [List.length_take]; omega
        have HG := Lib.hid (show x = Dig.gd (xs.take m) (m - 1) by rw [HX0.out]; simp only [Dig.gd_int]; rw [Dig.getD_take_lt _ _ _ (by omega)])
        have HVAL := Lib.hid (show Dig.val 1073741824 xs = Dig.val 1073741824 (xs.take m) by rw [← HTR.out.1, Dig.val_trim])
        obtain ⟨ys, hys⟩ : ∃ ys, ys = xs.take m := ⟨_, rfl⟩
        rw [← hys] at HY HYO HVAL HTR HG hyl
        clear hys hz hx HT
        subst hyl
        rcases (show 3 < ys.length ∨ ys.length = 3 ∨ ys.length < 3 by omega) with h3 | h3 | h3
        · have HBIG := Lib.hid (made_big HYO.out HTR.out.2 (.inl h3))
          clear HX0 HG
          go_wp2
          exact bodyPost_ret (v := .agg #[.int .i64 0, .bool neg, .slice (some ad) ys.length c]) (by simp [results, Tryz.results214, go_sem]) rfl ⟨_, rfl, (Below.refl _ _).alloc (Nat.le_refl _) _, _, _, _, _, _, rfl, .inr ⟨ys, rfl, HY.out.same fun k hk => by rw [heap_alloc_old _ _ (HD.out k hk), heap_alloc_old _ _ (HD.out k hk)], HYO.out, HTR.out.2, HBIG.out, by rw [HZ.out, HVAL.out]⟩⟩
        · have HL3 := Lib.hid h3
          have q2 : (w.alloc (.cells #[.int .i64 0, .bool false, .slice none 0 0] 136)).cell? ⟨ad.block, ad.off + 2, none⟩ = some (.int .i64 x) := by
            have := q0
            rw [h3] at this
            exact this
          have HG3 := Lib.hid (show x = Dig.gd ys 2 by rw [HG.out, h3])
          by_cases h2 : 2 ≤ x
          · have HBIG := Lib.hid (made_big HYO.out HTR.out.2 (.inr ⟨h3, by rw [← HG3.out]; exact h2⟩))
            clear HX0 HG HG3
            go_wp2
            exact bodyPost_ret (v := .agg #[.int .i64 0, .bool neg, .slice (some ad) ys.length c]) (by simp [results, Tryz.results214, go_sem, HL3.out]) rfl ⟨_, rfl, (Below.refl _ _).alloc (Nat.le_refl _) _, _, _, _, _, _, rfl, .inr ⟨ys, rfl, HY.out.same fun k hk => by rw [heap_alloc_old _ _ (HD.out k hk), heap_alloc_old _ _ (HD.out k hk)], HYO.out, HTR.out.2, HBIG.out, by rw [HZ.out, HVAL.out]⟩⟩
          · have HSM := Lib.hid (made_small HYO.out (.inr ⟨h3, by rw [← HG3.out]; omega⟩))
            clear HX0 HG HG3
            go_wp2
            go_loopw [5, 6] (fun v5 v6 W => ∃ (k : Nat) (n : Int), k ≤ ys.length ∧ v6 = .int .i64 ((k : Int) - 1) ∧ v5 = .int .i64 n ∧ 0 ≤ n ∧ n < 2305843009213693952 ∧ Hid (n = Dig.val 1073741824 (ys.drop k)) ∧ W = w.alloc (.cells #[.int .i64 0, .bool false, .slice none 0 0] 136)) (fun _ v6 _ => (intOf v6 + 1).toNat)
            case atStart => exact ⟨ys.length, 0, Nat.le_refl _, by first | rfl | go_num | simp, rfl, by omega, by omega, Lib.hid (by rw [List.drop_of_length_le (Nat.le_refl _)]; rfl), by first | rfl | trivial⟩
            case round =>
              obtain ⟨k, n, hk, rfl, rfl, hn0, hn1, HN, rfl⟩ := hrel
              by_cases hk0 : 0 < k
              · obtain ⟨k, rfl⟩ : ∃ j, k = j + 1 := ⟨k - 1, by omega⟩
                obtain ⟨ad', y, e', q1, hy0, hy1, hy2⟩ := dig_up HY.out (fun _ _ => rfl) HYO.out k (by omega)
                injection e' with e'
                subst e'
                have hv : n * 1073741824 + y = Dig.val 1073741824 (ys.drop k) := by
                  rw [Dig.val_drop _ _ _ (by omega), ← Dig.gd_int, ← hy0, ← HN.out]; try omega
                obtain ⟨v0, v1⟩ := val_drop_le HYO.out k (by omega)
                rw [← hv] at v0 v1
                have HV := Lib.hid hv
                have hv2 : n * 1073741824 + y < 2305843009213693952 := by have := HSM.out; omega
                rw [show ((k + 1 : Nat) : Int) - 1 = (k : Int) from by omega]
                clear hv hy0 v1
                go_wp2
                exact ⟨⟨k, n * 1073741824 + y, by omega, by go_num, rfl, by omega, by omega, HV, by first | rfl | trivial⟩, by simp [intOf] <;> omega⟩
              · obtain rfl : k = 0 := by omega
                have HV := Lib.hid (show Dig.val 1073741824 xs = n by rw [HVAL.out, HN.out]; rfl)
                clear hk0
                cases neg with
                | true =>
                  have HZ2 := Lib.hid (show z = -n by rw [HZ.out, if_pos rfl, HV.out])
                  go_wp2
                  exact bodyPost_ret (v := .agg #[.int .i64 (-n), .bool false, .slice none 0 0]) (by simp [results, Tryz.results214, go_sem]) rfl ⟨_, rfl, (Below.refl _ _).alloc (Nat.le_refl _) _, by rw [HZ2.out]; exact RIntV.small (by omega) (by omega)⟩
                | false =>
                  have HZ2 := Lib.hid (show z = n by rw [HZ.out, if_neg (by decide), HV.out])
                  go_wp2
                  exact bodyPost_ret (v := .agg #[.int .i64 n, .bool false, .slice none 0 0]) (by simp [results, Tryz.results214, go_sem]) rfl ⟨_, rfl, (Below.refl _ _).alloc (Nat.le_refl _) _, by rw [HZ2.out]; exact RIntV.small (by omega) (by omega)⟩
        · have HSM := Lib.hid (made_small HYO.out (.inl (by omega)))
          clear HX0 HG
          go_wp2
          go_loopw [5, 6] (fun v5 v6 W => ∃ (k : Nat) (n : Int), k ≤ ys.length ∧ v6 = .int .i64 ((k : Int) - 1) ∧ v5 = .int .i64 n ∧ 0 ≤ n ∧ n < 2305843009213693952 ∧ Hid (n = Dig.val 1073741824 (ys.drop k)) ∧ W = w.alloc (.cells #[.int .i64 0, .bool false, .slice none 0 0] 136)) (fun _ v6 _ => (intOf v6 + 1).toNat)
          case atStart => exact ⟨ys.length, 0, Nat.le_refl _, by first | rfl | go_num | simp, rfl, by omega, by omega, Lib.hid (by rw [List.drop_of_length_le (Nat.le_refl _)]; rfl), by first | rfl | trivial⟩
          case round =>
            obtain ⟨k, n, hk, rfl, rfl, hn0, hn1, HN, rfl⟩ := hrel
            by_cases hk0 : 0 < k
            · obtain ⟨k, rfl⟩ : ∃ j, k = j + 1 := ⟨k - 1, by omega⟩
              obtain ⟨ad', y, e', q1, hy0, hy1, hy2⟩ := dig_up HY.out (fun _ _ => rfl) HYO.out k (by omega)
              injection e' with e'
              subst e'
              have hv : n * 1073741824 + y = Dig.val 1073741824 (ys.drop k) := by
                rw [Dig.val_drop _ _ _ (by omega), ← Dig.gd_int, ← hy0, ← HN.out]; try omega
              obtain ⟨v0, v1⟩ := val_drop_le HYO.out k (by omega)
              rw [← hv] at v0 v1
              have HV := Lib.hid hv
              have hv2 : n * 1073741824 + y < 2305843009213693952 := by have := HSM.out; omega
              rw [show ((k + 1 : Nat) : Int) - 1 = (k : Int) from by omega]
              clear hv hy0 v1
              go_wp2
              exact ⟨⟨k, n * 1073741824 + y, by omega, by go_num, rfl, by omega, by omega, HV, by first | rfl | trivial⟩, by simp [intOf] <;> omega⟩
            · obtain rfl : k = 0 := by omega
              have HV := Lib.hid (show Dig.val 1073741824 xs = n by rw [HVAL.out, HN.out]; rfl)
              clear hk0
              cases neg with
              | true =>
                have HZ2 := Lib.hid (show z = -n by rw [HZ.out, if_pos rfl, HV.out])
                go_wp2
                exact bodyPost_ret (v := .agg #[.int .i64 (-n), .bool false, .slice none 0 0]) (by simp [results, Tryz.results214, go_sem]) rfl ⟨_, rfl, (Below.refl _ _).alloc (Nat.le_refl _) _, by rw [HZ2.out]; exact RIntV.small (by omega) (by omega)⟩
              | false =>
                have HZ2 := Lib.hid (show z = n by rw [HZ.out, if_neg (by decide), HV.out])
                go_wp2
                exact bodyPost_ret (v := .agg #[.int .i64 n, .bool false, .slice none 0 0]) (by simp [results, Tryz.results214, go_sem]) rfl ⟨_, rfl, (Below.refl _ _).alloc (Nat.le_refl _) _, by rw [HZ2.out]; exact RIntV.small (by omega) (by omega)⟩
    · obtain rfl : m = 0 := by omega
      obtain ⟨ys, hys⟩ : ∃ ys : List Int, ys = [] := ⟨_, rfl⟩
      have HVAL := Lib.hid (show Dig.val 1073741824 xs = Dig.val 1073741824 ys by
        have := HT.out
        rw [List.take_zero] at this
        rw [hys, ← Dig.val_trim _ xs, ← this]; rfl)
      have HYO := Lib.hid (show Dig.ok 1073741824 ys by rw [hys]; exact Dig.ok_nil _)
      have HSM := Lib.hid (made_small HYO.out (.inl (by rw [hys]; simp)))
      have HY0 := Lib.hid (show ys.length = 0 by rw [hys]; rfl)
      clear hp hys hz HT
      go_wp2
      go_loopw [5, 6] (fun v5 v6 W => v6 = .int .i64 (-1) ∧ v5 = .int .i64 0 ∧ W = w.alloc (.cells #[.int .i64 0, .bool false, .slice none 0 0] 136)) (fun _ v6 _ => (intOf v6 + 1).toNat)
      case atStart => exact ⟨by first | rfl | go_num | simp, rfl, by first | rfl | trivial⟩
      case round =>
        obtain ⟨rfl, rfl, rfl⟩ := hrel
        have HV := Lib.hid (show Dig.val 1073741824 xs = 0 by rw [HVAL.out, List.length_eq_zero_iff.1 HY0.out]; rfl)
        cases neg with
        | true =>
          have HZ2 := Lib.hid (show z = 0 by rw [HZ.out, if_pos rfl, HV.out]; rfl)
          go_wp2
          exact bodyPost_ret (v := .agg #[.int .i64 0, .bool false, .slice none 0 0]) (by simp [results, Tryz.results214, go_sem]) rfl ⟨_, rfl, (Below.refl _ _).alloc (Nat.le_refl _) _, by rw [HZ2.out]; exact RIntV.small (by omega) (by omega)⟩
        | false =>
          have HZ2 := Lib.hid (show z = 0 by rw [HZ.out, if_neg (by decide), HV.out])
          go_wp2
          exact bodyPost_ret (v := .agg #[.int .i64 0, .bool false, .slice none 0 0]) (by simp [results, Tryz.results214, go_sem]) rfl ⟨_, rfl, (Below.refl _ _).alloc (Nat.le_refl _) _, by rw [HZ2.out]; exact RIntV.small (by omega) (by omega)⟩

end Go.Proofs.YtoffbdlgmnpblaaGreat
