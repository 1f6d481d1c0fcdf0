/- Part 5 of 55: Ex1 Ex2. -/
import Derived.Test.YtoffbdlgmnpblaaGreatJ02
import Derived.Outline
import Derived.Laws.BitsAllLaws
import Derived.Laws.BitsLemmas
import Derived.OwnWalk

/- Package exact: lists of digits (trim, compare) and the machine words of math/bits, as the program computes them. -/
namespace Go.Proofs.YtoffbdlgmnpblaaGreat
open Go.RowKit
set_option maxHeartbeats 400000

/-- the base -/
abbrev B32 : Int := 4294967296

theorem trim_calls (xs : List Int) (v : Value) (D : Nat → Prop) (w : World) (h : Sl (Kind.int .u32) w D v xs) :
    Calls Tryz.prog 252 #[v] w fun e w' => ∃ v', e = .returned v' ∧ w = w' ∧ Sl (Kind.int .u32) w D v' (Dig.trim xs) := by
  have H := Lib.hid h
  obtain ⟨A, c, rfl, h1, h2, h3⟩ := h.ints
  clear h
  unfold maxLen at h2
  go_enter Tryz.func252, Tryz.ntmps252
  go_wp2
  go_loop [0] (fun d => ∃ m : Nat, m ≤ xs.length ∧ d = .slice A m c ∧ Hid (Dig.trim (xs.take m) = Dig.trim xs)) (fun d => match d with | .slice _ m _ => m | _ => 0)
  case atStart => exact ⟨xs.length, Nat.le_refl _, rfl, by rw [List.take_length]; exact rfl⟩
  case round =>
    obtain ⟨m, hm, rfl, HT⟩ := hrel
    by_cases hp : 0 < m
    · obtain ⟨ad, rfl, _, hc⟩ := h3 (by omega)
      have hc1 := hc (m - 1) (by omega)
      clear hc h3
      go_wp2
      · rename_i hz
        refine ⟨⟨m - 1, by omega, rfl, ?_⟩, by simp; omega⟩
        have e : xs.take m = xs.take (m - 1) ++ [0] := by
          have := Dig.take_succ_getD xs (m - 1) (by omega)
          rw [show m - 1 + 1 = m by omega] at this
          rw [this, ← Dig.gd_int, eq_of_beq hz]
        have := HT.out
        rw [e, Dig.trim_snoc_zero] at this
        exact this
      · rename_i hz _
        go_ret
        refine ⟨_, rfl, rfl, ?_⟩
        have ht : Dig.trimmed (xs.take m) := by
          have := Dig.take_succ_getD xs (m - 1) (by omega)
          rw [show m - 1 + 1 = m by omega] at this
          rw [this]
          intro hn
          rw [List.getLast_concat]
          exact ne_of_beq_false hz
        rw [← HT.out, Dig.trim_of_trimmed ht]
        exact H.out.take hm
    · obtain rfl : m = 0 := by omega
      clear hp
      go_wp2
      go_ret
      refine ⟨_, rfl, rfl, ?_⟩
      have := HT.out
      rw [← this]
      exact H.out.take hm

theorem compare_calls (xs ys : List Int) (v u : Value) (D D' : Nat → Prop) (w : World) (h : Sl (Kind.int .u32) w D v xs) (h' : Sl (Kind.int .u32) w D' u ys)
    (ox : Dig.ok B32 xs) (oy : Dig.ok B32 ys) (tx : Dig.trimmed xs) (ty : Dig.trimmed ys) :
    Calls Tryz.prog 232 #[v, u] w fun e w' => e = .returned (.int .i64 (Dig.sgn (Dig.val B32 xs - Dig.val B32 ys))) ∧ Drawn w w' := by
  obtain ⟨A, c, rfl, h1, h2, h3⟩ := h.ints
  obtain ⟨A', c', rfl, h1', h2', h3'⟩ := h'.ints
  clear h h'
  unfold maxLen at h2 h2'
  by_cases hl : xs.length = ys.length
  · have hq : ((xs.length : Int) != (ys.length : Int)) = false := by rw [bne_eq_false_iff_eq]; omega
    have HL := Lib.hid hl
    clear hl
    go_enter Tryz.func232, Tryz.ntmps232
    go_wp2
    go_loopw [5] (fun i wr => ∃ k : Nat, k ≤ xs.length ∧ i = .int .i64 ((k : Int) - 1) ∧ Hid (∀ j, k ≤ j → xs.getD j 0 = ys.getD j 0) ∧ Drawn w wr) (fun i _ => (intOf i + 1).toNat)
    case atStart => exact ⟨xs.length, Nat.le_refl _, rfl, (fun j hj => by rw [Dig.getD_of_ge _ _ hj, Dig.getD_of_ge _ _ (by have := HL.out; omega)] : ∀ j, xs.length ≤ j → xs.getD j 0 = ys.getD j 0), Drawn.refl _⟩
    case round =>
      obtain ⟨k, hk, rfl, HA, ⟨n, rfl⟩⟩ := hrel
      by_cases hp : 0 < k
      · obtain ⟨k, rfl⟩ : ∃ m, k = m + 1 := ⟨k - 1, by omega⟩
        obtain ⟨ad, rfl, _, hc⟩ := h3 (by omega)
        obtain ⟨ad', rfl, _, hc'⟩ := h3' (by have := HL.out; omega)
        have hc1 := hc k (by omega)
        have hc1' := hc' k (by have := HL.out; omega)
        have hky : k < ys.length := by have := HL.out; omega
        have bx := Dig.ok_get ox (by decide) k
        have by' := Dig.ok_get oy (by decide) k
        clear hc hc' h3 h3'
        rw [show ((k + 1 : Nat) : Int) - 1 = (k : Int) from by omega]
        go_wp2
        go_quiet (fail)
        go_wp2
        · have hne := bne_iff_ne.1 (by assumption : (Dig.gd xs k != Dig.gd ys k) = true)
          go_quiet (fail)
          go_wp2
          · rename_i hlt
            go_ret
            refine ⟨ret_int (Dig.sgn_lt ?_).symm, by repeat (first | exact Drawn.refl _ | apply Drawn.step)⟩
            have := Dig.val_lt_of_top (b := B32) (by decide) k ox oy HL.out (by omega) (fun j hj => HA.out j hj) (hlt)
            omega
          · rename_i hlt
            go_ret
            refine ⟨ret_int (Dig.sgn_gt ?_).symm, by repeat (first | exact Drawn.refl _ | apply Drawn.step)⟩
            have := Dig.val_lt_of_top (b := B32) (by decide) k oy ox HL.out.symm (by omega) (fun j hj => (HA.out j hj).symm) (by
              have h1 : Dig.gd xs k ≠ Dig.gd ys k := hne
              show Dig.gd ys k < Dig.gd xs k
              omega)
            omega
        · rename_i heq
          refine ⟨⟨k, by omega, rfl, ?_, by repeat (first | exact Drawn.refl _ | apply Drawn.step)⟩, by simp [intOf]⟩
          have h1 : xs.getD k 0 = ys.getD k 0 := bne_eq_false_iff_eq.1 heq
          exact (fun j hj => by
            rcases Nat.eq_or_lt_of_le hj with rfl | hj
            · exact h1
            · exact HA.out j hj : ∀ j, k ≤ j → xs.getD j 0 = ys.getD j 0)
      · obtain rfl : k = 0 := by omega
        clear h3 h3'
        go_wp2
        go_ret
        refine ⟨?_, by repeat (first | exact Drawn.refl _ | apply Drawn.step)⟩
        have := Dig.val_eq_of_all (b := B32) HL.out (fun j => HA.out j (Nat.zero_le _))
        exact ret_int (by rw [this, Int.sub_self]; rfl)
  · have hq : ((xs.length : Int) != (ys.length : Int)) = true := by rw [bne_iff_ne]; omega
    have HL := Lib.hid hl
    clear hl
    go_enter Tryz.func232, Tryz.ntmps232
    go_wp2
    · rename_i hlt
      go_ret
      have := Dig.val_lt_of_length (by decide) ox oy ty hlt
      exact ⟨ret_int (Dig.sgn_lt (by omega)).symm, Drawn.refl _⟩
    · rename_i hlt
      have hl := HL.out
      go_ret
      have := Dig.val_lt_of_length (by decide) oy ox tx (by omega)
      exact ⟨ret_int (Dig.sgn_gt (by omega)).symm, Drawn.refl _⟩

end Go.Proofs.YtoffbdlgmnpblaaGreat

/- Package math/bits, as the program uses it: sums, differences and quotients of machine words. -/
namespace Go.Proofs.YtoffbdlgmnpblaaGreat
open Go.RowKit
set_option maxHeartbeats 400000

theorem Add32_calls (x y c : Int) (w : World) (hx : 0 ≤ x ∧ x < 4294967296) (hy : 0 ≤ y ∧ y < 4294967296) (hc : 0 ≤ c ∧ c ≤ 1) :
    Calls Tryz.prog 253 #[.int .u32 x, .int .u32 y, .int .u32 c] w fun e w' =>
      e = .returned (.tuple #[.int .u32 ((x + y + c) % 4294967296), .int .u32 ((x + y + c) / 4294967296)]) ∧ w = w' := by
  obtain ⟨hx1, hx2⟩ := hx
  obtain ⟨hy1, hy2⟩ := hy
  obtain ⟨hc1, hc2⟩ := hc
  go_enter Tryz.func253, Tryz.ntmps253
  go_wp2
  go_ret2
  exact ⟨rfl, rfl⟩

theorem top_bit (n : Nat) (h : n < 4294967296) : n / 2147483648 = (n.testBit 31).toNat := by
  rw [Nat.testBit_eq_decide_div_mod_eq, show 2 ^ 31 = 2147483648 from rfl]
  by_cases hn : n / 2147483648 % 2 = 1
  · simp [hn]; omega
  · simp [hn]; omega
/-- what Sub32 says of a borrow -/
def borrow (x y c : Int) : Int := if x < y + c then 1 else 0
theorem borrow_bits (x y c : Int) (hx : 0 ≤ x ∧ x < 4294967296) (hy : 0 ≤ y ∧ y < 4294967296) (hc : 0 ≤ c ∧ c ≤ 1) :
    bits .or .u32 (bits .and .u32 (bits .xor .u32 IntKind.u32.max x) y) (bits .and .u32 (bits .xor .u32 IntKind.u32.max (bits .xor .u32 x y)) ((x - y - c) % 4294967296)) / 2147483648 = borrow x y c := by
  obtain ⟨d, hd⟩ : ∃ d : Nat, (x - y - c) % 4294967296 = (d : Int) := ⟨((x - y - c) % 4294967296).toNat, by omega⟩
  have hm : IntKind.u32.max = ((4294967295 : Nat) : Int) := by decide
  obtain ⟨x, rfl⟩ : ∃ n : Nat, x = (n : Int) := ⟨x.toNat, by omega⟩
  obtain ⟨y, rfl⟩ : ∃ n : Nat, y = (n : Int) := ⟨y.toNat, by omega⟩
  have hx' : x < 2 ^ 32 := by omega
  have hy' : y < 2 ^ 32 := by omega
  have hd' : d < 2 ^ 32 := by omega
  have hm' : 4294967295 < 2 ^ 32 := by decide
  have h1 := Nat.xor_lt_two_pow hm' hx'
  have h2 := Nat.xor_lt_two_pow hx' hy'
  have h3 := Nat.xor_lt_two_pow hm' h2
  have h4 : (4294967295 ^^^ x) &&& y < 2 ^ 32 := Nat.and_lt_two_pow _ hy'
  have h5 : (4294967295 ^^^ (x ^^^ y)) &&& d < 2 ^ 32 := Nat.and_lt_two_pow _ hd'
  have h6 := Nat.or_lt_two_pow h4 h5
  rw [hd, hm, u32_xor_nat _ _ (by omega) (by omega), u32_xor_nat _ _ (by omega) (by omega), u32_xor_nat _ _ (by omega) (by omega), u32_and_nat _ _ (by omega) (by omega), u32_and_nat _ _ (by omega) (by omega), u32_or_nat _ _ (by omega) (by omega)]
  have h7 := top_bit _ (show (4294967295 ^^^ x) &&& y ||| (4294967295 ^^^ (x ^^^ y)) &&& d < 4294967296 by omega)
  have h8 : (((4294967295 ^^^ x) &&& y ||| (4294967295 ^^^ (x ^^^ y)) &&& d).testBit 31) = ((!x.testBit 31 && y.testBit 31) || (!(x.testBit 31 ^^ y.testBit 31) && d.testBit 31)) := by
    simp [Nat.testBit_or, Nat.testBit_and, Nat.testBit_xor, show Nat.testBit 4294967295 31 = true by decide]
  have hX := top_bit x (by omega)
  have hY := top_bit y (by omega)
  have hD := top_bit d (by omega)
  have e : ((((4294967295 ^^^ x) &&& y ||| (4294967295 ^^^ (x ^^^ y)) &&& d : Nat) : Int)) / 2147483648 = (((4294967295 ^^^ x) &&& y ||| (4294967295 ^^^ (x ^^^ y)) &&& d) / 2147483648 : Nat) := by omega
  rw [e, h7, h8]
  unfold borrow
  cases hbx : x.testBit 31 <;> cases hby : y.testBit 31 <;> cases hbd : d.testBit 31 <;> simp only [hbx, hby, hbd, Bool.toNat_true, Bool.toNat_false] at hX hY hD <;> simp <;> (try split) <;> omega

theorem Sub32_calls (x y c : Int) (w : World) (hx : 0 ≤ x ∧ x < 4294967296) (hy : 0 ≤ y ∧ y < 4294967296) (hc : 0 ≤ c ∧ c ≤ 1) :
    Calls Tryz.prog 254 #[.int .u32 x, .int .u32 y, .int .u32 c] w fun e w' =>
      e = .returned (.tuple #[.int .u32 ((x - y - c) % 4294967296), .int .u32 (borrow x y c)]) ∧ w = w' := by
  obtain ⟨hx1, hx2⟩ := hx
  obtain ⟨hy1, hy2⟩ := hy
  obtain ⟨hc1, hc2⟩ := hc
  go_enter Tryz.func254, Tryz.ntmps254
  go_wp2
  go_ret2
  have := borrow_bits x y c ⟨hx1, hx2⟩ ⟨hy1, hy2⟩ ⟨hc1, hc2⟩
  rw [← this]
  exact ⟨rfl, rfl⟩

theorem Div32_calls (x y d : Int) (w : World) (hx : 0 ≤ x ∧ x < d) (hy : 0 ≤ y ∧ y < 4294967296) (hd : d < 4294967296) :
    Calls Tryz.prog 263 #[.int .u32 x, .int .u32 y, .int .u32 d] w fun e w' =>
      e = .returned (.tuple #[.int .u32 ((x * 4294967296 + y) / d), .int .u32 ((x * 4294967296 + y) % d)]) ∧ Drawn w w' := by
  obtain ⟨hx1, hx2⟩ := hx
  obtain ⟨hy1, hy2⟩ := hy
  have h1 : (d != 0) = true := by rw [bne_iff_ne]; omega
  have h2 : ¬ d ≤ x := by omega
  go_enter Tryz.func263, Tryz.ntmps263
  have hq : (x * 4294967296 + y) / d < 4294967296 := by
    apply Int.ediv_lt_of_lt_mul (by omega)
    have : (x + 1) * 4294967296 ≤ d * 4294967296 := by omega
    omega
  have hq0 : 0 ≤ (x * 4294967296 + y) / d := Int.ediv_nonneg (by omega) (by omega)
  have hr : (x * 4294967296 + y) % d < 4294967296 := by have := Int.emod_lt_of_pos (x * 4294967296 + y) (show 0 < d by omega); omega
  have hr0 : 0 ≤ (x * 4294967296 + y) % d := Int.emod_nonneg _ (by omega)
  have hor : bits .or .u64 (x * 4294967296) y = x * 4294967296 + y := by
    rw [u64_or _ _ (by omega) (by omega) (by omega) (by omega), nat_join 32 _ _ (by omega) (by omega)]; omega
  have HQ := Lib.hid (And.intro hq (And.intro hq0 (And.intro hr hr0)))
  clear hq hq0 hr hr0
  have HO := Lib.hid hor
  clear hor
  go_wp2
  rw [HO.out]
  have hb1 : 0 ≤ x * 4294967296 + y := by omega
  have hb2 : x * 4294967296 + y < 18446744073709551616 := by omega
  generalize hz : x * 4294967296 + y = z at *
  have HZ := Lib.hid hz
  clear hz
  go_quiet (fail)
  go_wp2
  go_ret2
  obtain ⟨hq, hq0, hr, hr0⟩ := HQ.out
  refine ⟨ret2_int ?_ ?_, by repeat (first | exact Drawn.refl _ | apply Drawn.step)⟩
  · rw [HZ.out]; exact Int.emod_eq_of_lt hq0 hq
  · rw [HZ.out]; exact Int.emod_eq_of_lt hr0 hr

end Go.Proofs.YtoffbdlgmnpblaaGreat
