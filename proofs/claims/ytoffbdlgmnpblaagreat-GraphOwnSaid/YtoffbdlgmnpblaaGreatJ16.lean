/- Part 16 of 55: Ex15. -/
import Derived.Test.YtoffbdlgmnpblaaGreatJ15

/- Package exact: the parts of a rational number, its sign, its negation; how great its parts are. -/
namespace Go.Proofs.YtoffbdlgmnpblaaGreat
open Go.RowKit
set_option maxHeartbeats 4000000
set_option maxRecDepth 100000

theorem alloc4 (w : World) (a b : Obj) : Below w.heap.size w ((w.alloc a).alloc b) := boxes2 w a b

theorem whole_raw (s : Int) (A : Option Addr) (n c : Nat) (s' : Int) (A' : Option Addr) (n' c' : Nat) (w : World) :
    Calls Tryz.prog 178 #[.agg #[.int .i64 s, .slice A n c, .int .i64 s', .slice A' n' c']] w fun e w' => e = .returned (.bool (A'.isNone && decide (s' ≤ 1))) ∧ Below w.heap.size w w' := by
  have hnil := fun (w : World) (a : Option Addr) (n c : Nat) => Lib.run_eql_slice_nil (P := Tryz.prog) w 154 199 a n c 0 0 Tryz.underlying154
  cases A' with
  | none =>
    rcases Int.lt_or_le 1 s' with h | h
    · have hd : decide (s' ≤ 1) = false := decide_eq_false (by omega)
      go_enter Tryz.func178, Tryz.ntmps178
      go_wp2
      go_ret
      exact ⟨ret_bool (by rw [hd]; rfl), (Below.refl _ _).alloc (Nat.le_refl _) _⟩
    · have hd : decide (s' ≤ 1) = true := decide_eq_true h
      go_enter Tryz.func178, Tryz.ntmps178
      go_wp2
      go_ret
      exact ⟨ret_bool (by rw [hd]; rfl), (Below.refl _ _).alloc (Nat.le_refl _) _⟩
  | some ad =>
    go_enter Tryz.func178, Tryz.ntmps178
    go_wp2
    go_ret
    exact ⟨rfl, (Below.refl _ _).alloc (Nat.le_refl _) _⟩

theorem RatSign_calls (v : Value) (x : Rat) (D : Nat → Prop) (w : World) (hD : Lo D w) (h : RatC w D v x) :
    Calls Tryz.prog 154 #[v] w fun e w' => e = .returned (.int .i64 (Dig.sgn x.num)) ∧ Below w.heap.size w w' := by
  obtain ⟨s, A, n, c, s', A', n', c', l, rfl, h1, h2, h3⟩ := h
  have H1 := Lib.hid h1
  clear h1 h2 h3
  go_enter Tryz.func154, Tryz.ntmps154
  go_wp2_with fail
  have hb := (Below.refl w.heap.size w).alloc (Nat.le_refl _) (.cells #[.int .i64 s, .slice A n c, .int .i64 s', .slice A' n' c'] 158)
  refine (Sign_calls _ _ _ _ _ D _ (H1.out.below hD hb)).mono ?_
  rintro e w1 ⟨rfl, hb1⟩
  go_wp2
  go_ret
  exact ⟨rfl, hb.trans (hb1.mono hb.size)⟩

theorem Low_calls (s : Int) (A : Option Addr) (n c : Nat) (s' : Int) (A' : Option Addr) (n' c' : Nat) (l : Int) (d : Nat) (D : Nat → Prop) (w : World) (hD : Lo D w) (h : IntC w D s' A' n' c' l) (hl : l = (d : Int) ∨ (l = 0 ∧ d = 1)) (hd : d ≠ 0) :
    Calls Tryz.prog 182 #[.agg #[.int .i64 s, .slice A n c, .int .i64 s', .slice A' n' c']] w fun e w' => ∃ t B m k, e = .returned (.agg #[.int .i64 t, .slice B m k]) ∧ Below w.heap.size w w' ∧ IntC w' D t B m k (d : Int) := by
  have H := Lib.hid h
  have HL := Lib.hid hl
  clear h hl
  go_enter Tryz.func182, Tryz.ntmps182
  go_wp2_with fail
  have hb := boxes2 w (.cells #[.int .i64 s, .slice A n c, .int .i64 s', .slice A' n' c'] 158) (.cells #[.int .i64 0, .slice none 0 0] 156)
  refine (Sign_calls _ _ _ _ _ D _ (H.out.below hD hb)).mono ?_
  rintro e w1 ⟨rfl, hb1⟩
  obtain ⟨hc1, hf1⟩ := bcell hb1
  have hz1 : w.heap.size + 1 < w1.heap.size := by have := hb1.size; simp at this; omega
  have hB1 := hb.trans (hb1.mono (by simp; omega))
  by_cases h0 : l = 0
  · have hd1 : d = 1 := by have := HL.out; omega
    subst hd1
    subst h0
    rw [show Dig.sgn 0 = 0 from rfl]
    go_wp2_with fail
    refine (one_calls _).mono ?_
    rintro e w2 ⟨rfl, hb2⟩
    have hT2 := hb1.trans (hb2.mono hb1.size)
    clear hc1 hf1
    obtain ⟨hc2, hf2⟩ := bcell hT2
    have hz2 : w.heap.size + 1 < w2.heap.size := by have := hb2.size; omega
    go_wp2
    refine bodyPost_ret (v := .agg #[.int .i64 1, .slice none 0 0]) (by simp [results, Tryz.results182, go_sem, hc2]) rfl ⟨_, _, _, _, rfl, below_set2 (hB1.trans (hb2.mono hB1.size)) (by omega) _ _, IntC.small (by decide) (by decide)⟩
  · have hs : (Dig.sgn l == 0) = false := by
      rw [beq_eq_false_iff_ne]; unfold Dig.sgn; split
      · omega
      · split <;> omega
    have hl : l = (d : Int) := by have := HL.out; omega
    subst hl
    clear h0
    go_wp2
    refine bodyPost_ret (v := .agg #[.int .i64 s', .slice A' n' c']) (by simp [results, Tryz.results182, go_sem, hc1]) rfl ⟨_, _, _, _, rfl, below_set2 hB1 (by omega) _ _, ?_⟩
    exact (H.out.below hD hB1).store2 _ (not_lo hD (by omega)) _ _ _ _

/-- how great a rational number's parts are -/
structure FitR (N : Nat) (x : Rat) : Prop where
  num : Fit N x.num
  den : Fit N (x.den : Int)
theorem Fit.mono {M N : Nat} {x : Int} (h : Fit M x) (hN : M ≤ N) : Fit N x := by
  have := Dig.pow_mono (b := B32) (by decide) hN
  exact ⟨by have := h.1; omega, by have := h.2; omega⟩
theorem FitR.mono {M N : Nat} {x : Rat} (h : FitR M x) (hN : M ≤ N) : FitR N x := ⟨h.num.mono hN, h.den.mono hN⟩
theorem Fit.ab {N : Nat} {x : Int} : Fit N x ↔ Dig.ab x < B32 ^ N := by
  constructor
  · rintro ⟨h1, h2⟩; unfold Dig.ab; split <;> omega
  · intro h; unfold Dig.ab at h; split at h
    · exact ⟨by omega, by omega⟩
    · have := Dig.pow_pos' (b := B32) (by decide) N; exact ⟨by omega, by omega⟩
theorem ab_mul (x y : Int) : Dig.ab (x * y) = Dig.ab x * Dig.ab y := by
  have h : ∀ z : Int, Dig.ab z = (z.natAbs : Int) := by intro z; unfold Dig.ab; split <;> omega
  rw [h, h, h, Int.natAbs_mul, Int.natCast_mul]
theorem Fit.mul {M N : Nat} {x y : Int} (h : Fit M x) (k : Fit N y) : Fit (M + N) (x * y) := by
  rw [Fit.ab] at *
  rw [ab_mul, Int.pow_add]
  have h0 := Dig.ab_nonneg x
  have k0 := Dig.ab_nonneg y
  have a1 : Dig.ab x * Dig.ab y ≤ Dig.ab x * B32 ^ N := Int.mul_le_mul_of_nonneg_left (by omega) h0
  have a2 : Dig.ab x * B32 ^ N < B32 ^ M * B32 ^ N := Int.mul_lt_mul_of_pos_right h (Dig.pow_pos' (by decide) N)
  omega
theorem Fit.add {N : Nat} {x y : Int} (h : Fit N x) (k : Fit N y) : Fit (N + 1) (x + y) := by
  have e : B32 ^ (N + 1) = B32 ^ N * 4294967296 := Int.pow_succ _ _
  have := Dig.pow_pos' (b := B32) (by decide) N
  obtain ⟨h1, h2⟩ := h
  obtain ⟨k1, k2⟩ := k
  exact ⟨by omega, by omega⟩
theorem Fit.quot {N : Nat} {x g : Int} (h : Fit N x) (hg : 0 < g) : Fit N (x / g) := by
  obtain ⟨h1, h2⟩ := h
  have hp := Dig.pow_pos' (b := B32) (by decide) N
  constructor
  · rcases Int.lt_or_le x 0 with hx | hx
    · have : x ≤ x / g := by
        rw [Int.le_ediv_iff_mul_le hg]
        have h := Int.mul_nonneg (show 0 ≤ -x by omega) (show 0 ≤ g - 1 by omega)
        have e : -x * (g - 1) = x - x * g := by grind
        omega
      omega
    · have := Int.ediv_nonneg hx (Int.le_of_lt hg); omega
  · rcases Int.lt_or_le x 0 with hx | hx
    · have := Int.ediv_neg_of_neg_of_pos hx hg; omega
    · have := Int.ediv_le_self g hx; omega
theorem FitR.divInt {N : Nat} {x y : Int} (h : Fit N x) (k : Fit N y) (hy : 0 < y) : FitR N (Rat.divInt x y) := by
  obtain ⟨v1, -, -, -, -, v6, v7⟩ := ratio_val x y (by omega)
  rw [Int.sign_eq_one_of_pos hy, Int.one_mul] at v6 v7
  exact ⟨by rw [v6]; exact h.quot (by omega), by rw [v7]; exact k.quot (by omega)⟩
theorem rat_add (x y : Rat) : x + y = Rat.divInt (x.num * (y.den : Int) + y.num * (x.den : Int)) ((x.den : Int) * (y.den : Int)) := by
  conv => lhs; rw [← Rat.num_divInt_den x, ← Rat.num_divInt_den y]
  exact Rat.divInt_add_divInt _ _ (by have := x.den_nz; omega) (by have := y.den_nz; omega)
theorem FitR.add {M N : Nat} {x y : Rat} (h : FitR M x) (k : FitR N y) : FitR (M + N + 1) (x + y) := by
  rw [rat_add]
  refine FitR.divInt ?_ ?_ ?_
  · exact (h.num.mul k.den).add (by rw [Nat.add_comm]; exact k.num.mul h.den)
  · exact (h.den.mul k.den).mono (by omega)
  · have := x.den_pos; have := y.den_pos; exact Int.mul_pos (by omega) (by omega)

end Go.Proofs.YtoffbdlgmnpblaaGreat
