/- Part 3: Ex1 Ex2 Ex3 Ex4. -/
import Derived.Test.YtoffbdlgmnpblaaGreatJ01
import Derived.Outline
import Derived.Laws.BitsAllLaws
import Derived.Laws.BitsLemmas
import Derived.OwnWalk
import Derived.WalkSpells

/- Package exact: lists of digits (trim, compare) and the machine words of math/bits, as the program computes them. -/
namespace Go.Proofs.YtoffbdlgmnpblaaGreat
open Go.RowKit
set_option maxHeartbeats 400000

/-- the base -/
abbrev B32 : Int := 4294967296

theorem trim_calls (xs : List Int) (v : Value) (D : Nat → Prop) (w : World) (h : Sl (Kind.int .u32) w D v xs) :
    Calls Tryz.prog 252 #[v] w fun e w' => ∃ v', e = .returned v' ∧ w = w' ∧ Sl (Kind.int .u32) w D v' (Dig.trim xs) := by
  have H := Lib.hid h
  obtain ⟨A, c, rfl, h1, h2, h3⟩ := h.ints
  clear h
  unfold maxLen at h2
  go_enter Tryz.func252, Tryz.ntmps252
  go_wp2
  go_loop [0] (fun d => ∃ m : Nat, m ≤ xs.length ∧ d = .slice A m c ∧ Hid (Dig.trim (xs.take m) = Dig.trim xs)) (fun d => match d with | .slice _ m _ => m | _ => 0)
  case atStart => exact ⟨xs.length, Nat.le_refl _, rfl, by rw [List.take_length]; exact rfl⟩
  case round =>
    obtain ⟨m, hm, rfl, HT⟩ := hrel
    by_cases hp : 0 < m
    · obtain ⟨ad, rfl, _, hc⟩ := h3 (by omega)
      have hc1 := hc (m - 1) (by omega)
      clear hc h3
      go_wp2
      · rename_i hz
        refine ⟨⟨m - 1, by omega, rfl, ?_⟩, by simp; omega⟩
        have e : xs.take m = xs.take (m - 1) ++ [0] := by
          have := Dig.take_succ_getD xs (m - 1) (by omega)
          rw [show m - 1 + 1 = m by omega] at this
          rw [this, ← Dig.gd_int, eq_of_beq hz]
        have := HT.out
        rw [e, Dig.trim_snoc_zero] at this
        exact this
      · rename_i hz _
        go_ret
        refine ⟨_, rfl, rfl, ?_⟩
        have ht : Dig.trimmed (xs.take m) := by
          have := Dig.take_succ_getD xs (m - 1) (by omega)
          rw [show m - 1 + 1 = m by omega] at this
          rw [this]
          intro hn
          rw [List.getLast_concat]
          exact ne_of_beq_false hz
        rw [← HT.out, Dig.trim_of_trimmed ht]
        exact H.out.take hm
    · obtain rfl : m = 0 := by omega
      clear hp
      go_wp2
      go_ret
      refine ⟨_, rfl, rfl, ?_⟩
      have := HT.out
      rw [← this]
      exact H.out.take hm

theorem compare_calls (xs ys : List Int) (v u : Value) (D D' : Nat → Prop) (w : World) (h : Sl (Kind.int .u32) w D v xs) (h' : Sl (Kind.int .u32) w D' u ys)
    (ox : Dig.ok B32 xs) (oy : Dig.ok B32 ys) (tx : Dig.trimmed xs) (ty : Dig.trimmed ys) :
    Calls Tryz.prog 232 #[v, u] w fun e w' => e = .returned (.int .i64 (Dig.sgn (Dig.val B32 xs - Dig.val B32 ys))) ∧ Drawn w w' := by
  obtain ⟨A, c, rfl, h1, h2, h3⟩ := h.ints
  obtain ⟨A', c', rfl, h1', h2', h3'⟩ := h'.ints
  clear h h'
  unfold maxLen at h2 h2'
  by_cases hl : xs.length = ys.length
  · have hq : ((xs.length : Int) != (ys.length : Int)) = false := by rw [bne_eq_false_iff_eq]; omega
    have HL := Lib.hid hl
    clear hl
    go_enter Tryz.func232, Tryz.ntmps232
    go_wp2
    go_loopw [5] (fun i wr => ∃ k : Nat, k ≤ xs.length ∧ i = .int .i64 ((k : Int) - 1) ∧ Hid (∀ j, k ≤ j → xs.getD j 0 = ys.getD j 0) ∧ Drawn w wr) (fun i _ => (intOf i + 1).toNat)
    case atStart => exact ⟨xs.length, Nat.le_refl _, rfl, (fun j hj => by rw [Dig.getD_of_ge _ _ hj, Dig.getD_of_ge _ _ (by have := HL.out; omega)] : ∀ j, xs.length ≤ j → xs.getD j 0 = ys.getD j 0), Drawn.refl _⟩
    case round =>
      obtain ⟨k, hk, rfl, HA, ⟨n, rfl⟩⟩ := hrel
      by_cases hp : 0 < k
      · obtain ⟨k, rfl⟩ : ∃ m, k = m + 1 := ⟨k - 1, by omega⟩
        obtain ⟨ad, rfl, _, hc⟩ := h3 (by omega)
        obtain ⟨ad', rfl, _, hc'⟩ := h3' (by have := HL.out; omega)
        have hc1 := hc k (by omega)
        have hc1' := hc' k (by have := HL.out; omega)
        have hky : k < ys.length := by have := HL.out; omega
        have bx := Dig.ok_get ox (by decide) k
        have by' := Dig.ok_get oy (by decide) k
        clear hc hc' h3 h3'
        rw [show ((k + 1 : Nat) : Int) - 1 = (k : Int) from by omega]
        go_wp2
        go_quiet (fail)
        go_wp2
        · have hne := bne_iff_ne.1 (by assumption : (Dig.gd xs k != Dig.gd ys k) = true)
          go_quiet (fail)
          go_wp2
          · rename_i hlt
            go_ret
            refine ⟨ret_int (Dig.sgn_lt ?_).symm, by repeat (first | exact Drawn.refl _ | apply Drawn.step)⟩
            have := Dig.val_lt_of_top (b := B32) (by decide) k ox oy HL.out (by omega) (fun j hj => HA.out j hj) (hlt)
            omega
          · rename_i hlt
            go_ret
            refine ⟨ret_int (Dig.sgn_gt ?_).symm, by repeat (first | exact Drawn.refl _ | apply Drawn.step)⟩
            have := Dig.val_lt_of_top (b := B32) (by decide) k oy ox HL.out.symm (by omega) (fun j hj => (HA.out j hj).symm) (by
              have h1 : Dig.gd xs k ≠ Dig.gd ys k := hne
              show Dig.gd ys k < Dig.gd xs k
              omega)
            omega
        · rename_i heq
          refine ⟨⟨k, by omega, rfl, ?_, by repeat (first | exact Drawn.refl _ | apply Drawn.step)⟩, by simp [intOf]⟩
          have h1 : xs.getD k 0 = ys.getD k 0 := bne_eq_false_iff_eq.1 heq
          exact (fun j hj => by
            rcases Nat.eq_or_lt_of_le hj with rfl | hj
            · exact h1
            · exact HA.out j hj : ∀ j, k ≤ j → xs.getD j 0 = ys.getD j 0)
      · obtain rfl : k = 0 := by omega
        clear h3 h3'
        go_wp2
        go_ret
        refine ⟨?_, by repeat (first | exact Drawn.refl _ | apply Drawn.step)⟩
        have := Dig.val_eq_of_all (b := B32) HL.out (fun j => HA.out j (Nat.zero_le _))
        exact ret_int (by rw [this, Int.sub_self]; rfl)
  · have hq : ((xs.length : Int) != (ys.length : Int)) = true := by rw [bne_iff_ne]; omega
    have HL := Lib.hid hl
    clear hl
    go_enter Tryz.func232, Tryz.ntmps232
    go_wp2
    · rename_i hlt
      go_ret
      have := Dig.val_lt_of_length (by decide) ox oy ty hlt
      exact ⟨ret_int (Dig.sgn_lt (by omega)).symm, Drawn.refl _⟩
    · rename_i hlt
      have hl := HL.out
      go_ret
      have := Dig.val_lt_of_length (by decide) oy ox tx (by omega)
      exact ⟨ret_int (Dig.sgn_gt (by omega)).symm, Drawn.refl _⟩

end Go.Proofs.YtoffbdlgmnpblaaGreat

/- Package math/bits, as the program uses it: sums, differences and quotients of machine words. -/
namespace Go.Proofs.YtoffbdlgmnpblaaGreat
open Go.RowKit
set_option maxHeartbeats 400000

theorem Add32_calls (x y c : Int) (w : World) (hx : 0 ≤ x ∧ x < 4294967296) (hy : 0 ≤ y ∧ y < 4294967296) (hc : 0 ≤ c ∧ c ≤ 1) :
    Calls Tryz.prog 253 #[.int .u32 x, .int .u32 y, .int .u32 c] w fun e w' =>
      e = .returned (.tuple #[.int .u32 ((x + y + c) % 4294967296), .int .u32 ((x + y + c) / 4294967296)]) ∧ w = w' := by
  obtain ⟨hx1, hx2⟩ := hx
  obtain ⟨hy1, hy2⟩ := hy
  obtain ⟨hc1, hc2⟩ := hc
  go_enter Tryz.func253, Tryz.ntmps253
  go_wp2
  go_ret2
  exact ⟨rfl, rfl⟩

theorem top_bit (n : Nat) (h : n < 4294967296) : n / 2147483648 = (n.testBit 31).toNat := by
  rw [Nat.testBit_eq_decide_div_mod_eq, show 2 ^ 31 = 2147483648 from rfl]
  by_cases hn : n / 2147483648 % 2 = 1
  · simp [hn]; omega
  · simp [hn]; omega
/-- what Sub32 says of a borrow -/
def borrow (x y c : Int) : Int := if x < y + c then 1 else 0
theorem borrow_bits (x y c : Int) (hx : 0 ≤ x ∧ x < 4294967296) (hy : 0 ≤ y ∧ y < 4294967296) (hc : 0 ≤ c ∧ c ≤ 1) :
    bits .or .u32 (bits .and .u32 (bits .xor .u32 IntKind.u32.max x) y) (bits .and .u32 (bits .xor .u32 IntKind.u32.max (bits .xor .u32 x y)) ((x - y - c) % 4294967296)) / 2147483648 = borrow x y c := by
  obtain ⟨d, hd⟩ : ∃ d : Nat, (x - y - c) % 4294967296 = (d : Int) := ⟨((x - y - c) % 4294967296).toNat, by omega⟩
  have hm : IntKind.u32.max = ((4294967295 : Nat) : Int) := by decide
  obtain ⟨x, rfl⟩ : ∃ n : Nat, x = (n : Int) := ⟨x.toNat, by omega⟩
  obtain ⟨y, rfl⟩ : ∃ n : Nat, y = (n : Int) := ⟨y.toNat, by omega⟩
  have hx' : x < 2 ^ 32 := by omega
  have hy' : y < 2 ^ 32 := by omega
  have hd' : d < 2 ^ 32 := by omega
  have hm' : 4294967295 < 2 ^ 32 := by decide
  have h1 := Nat.xor_lt_two_pow hm' hx'
  have h2 := Nat.xor_lt_two_pow hx' hy'
  have h3 := Nat.xor_lt_two_pow hm' h2
  have h4 : (4294967295 ^^^ x) &&& y < 2 ^ 32 := Nat.and_lt_two_pow _ hy'
  have h5 : (4294967295 ^^^ (x ^^^ y)) &&& d < 2 ^ 32 := Nat.and_lt_two_pow _ hd'
  have h6 := Nat.or_lt_two_pow h4 h5
  rw [hd, hm, u32_xor_nat _ _ (by omega) (by omega), u32_xor_nat _ _ (by omega) (by omega), u32_xor_nat _ _ (by omega) (by omega), u32_and_nat _ _ (by omega) (by omega), u32_and_nat _ _ (by omega) (by omega), u32_or_nat _ _ (by omega) (by omega)]
  have h7 := top_bit _ (show (4294967295 ^^^ x) &&& y ||| (4294967295 ^^^ (x ^^^ y)) &&& d < 4294967296 by omega)
  have h8 : (((4294967295 ^^^ x) &&& y ||| (4294967295 ^^^ (x ^^^ y)) &&& d).testBit 31) = ((!x.testBit 31 && y.testBit 31) || (!(x.testBit 31 ^^ y.testBit 31) && d.testBit 31)) := by
    simp [Nat.testBit_or, Nat.testBit_and, Nat.testBit_xor, show Nat.testBit 4294967295 31 = true by decide]
  have hX := top_bit x (by omega)
  have hY := top_bit y (by omega)
  have hD := top_bit d (by omega)
  have e : ((((4294967295 ^^^ x) &&& y ||| (4294967295 ^^^ (x ^^^ y)) &&& d : Nat) : Int)) / 2147483648 = (((4294967295 ^^^ x) &&& y ||| (4294967295 ^^^ (x ^^^ y)) &&& d) / 2147483648 : Nat) := by omega
  rw [e, h7, h8]
  unfold borrow
  cases hbx : x.testBit 31 <;> cases hby : y.testBit 31 <;> cases hbd : d.testBit 31 <;> simp only [hbx, hby, hbd, Bool.toNat_true, Bool.toNat_false] at hX hY hD <;> simp <;> (try split) <;> omega

theorem Sub32_calls (x y c : Int) (w : World) (hx : 0 ≤ x ∧ x < 4294967296) (hy : 0 ≤ y ∧ y < 4294967296) (hc : 0 ≤ c ∧ c ≤ 1) :
    Calls Tryz.prog 254 #[.int .u32 x, .int .u32 y, .int .u32 c] w fun e w' =>
      e = .returned (.tuple #[.int .u32 ((x - y - c) % 4294967296), .int .u32 (borrow x y c)]) ∧ w = w' := by
  obtain ⟨hx1, hx2⟩ := hx
  obtain ⟨hy1, hy2⟩ := hy
  obtain ⟨hc1, hc2⟩ := hc
  go_enter Tryz.func254, Tryz.ntmps254
  go_wp2
  go_ret2
  have := borrow_bits x y c ⟨hx1, hx2⟩ ⟨hy1, hy2⟩ ⟨hc1, hc2⟩
  rw [← this]
  exact ⟨rfl, rfl⟩

theorem Div32_calls (x y d : Int) (w : World) (hx : 0 ≤ x ∧ x < d) (hy : 0 ≤ y ∧ y < 4294967296) (hd : d < 4294967296) :
    Calls Tryz.prog 263 #[.int .u32 x, .int .u32 y, .int .u32 d] w fun e w' =>
      e = .returned (.tuple #[.int .u32 ((x * 4294967296 + y) / d), .int .u32 ((x * 4294967296 + y) % d)]) ∧ Drawn w w' := by
  obtain ⟨hx1, hx2⟩ := hx
  obtain ⟨hy1, hy2⟩ := hy
  have h1 : (d != 0) = true := by rw [bne_iff_ne]; omega
  have h2 : ¬ d ≤ x := by omega
  go_enter Tryz.func263, Tryz.ntmps263
  have hq : (x * 4294967296 + y) / d < 4294967296 := by
    apply Int.ediv_lt_of_lt_mul (by omega)
    have : (x + 1) * 4294967296 ≤ d * 4294967296 := by omega
    omega
  have hq0 : 0 ≤ (x * 4294967296 + y) / d := Int.ediv_nonneg (by omega) (by omega)
  have hr : (x * 4294967296 + y) % d < 4294967296 := by have := Int.emod_lt_of_pos (x * 4294967296 + y) (show 0 < d by omega); omega
  have hr0 : 0 ≤ (x * 4294967296 + y) % d := Int.emod_nonneg _ (by omega)
  have hor : bits .or .u64 (x * 4294967296) y = x * 4294967296 + y := by
    rw [u64_or _ _ (by omega) (by omega) (by omega) (by omega), nat_join 32 _ _ (by omega) (by omega)]; omega
  have HQ := Lib.hid (And.intro hq (And.intro hq0 (And.intro hr hr0)))
  clear hq hq0 hr hr0
  have HO := Lib.hid hor
  clear hor
  go_wp2
  rw [HO.out]
  have hb1 : 0 ≤ x * 4294967296 + y := by omega
  have hb2 : x * 4294967296 + y < 18446744073709551616 := by omega
  generalize hz : x * 4294967296 + y = z at *
  have HZ := Lib.hid hz
  clear hz
  go_quiet (fail)
  go_wp2
  go_ret2
  obtain ⟨hq, hq0, hr, hr0⟩ := HQ.out
  refine ⟨ret2_int ?_ ?_, by repeat (first | exact Drawn.refl _ | apply Drawn.step)⟩
  · rw [HZ.out]; exact Int.emod_eq_of_lt hq0 hq
  · rw [HZ.out]; exact Int.emod_eq_of_lt hr0 hr

end Go.Proofs.YtoffbdlgmnpblaaGreat

/- Package exact: sums and differences of lists of digits. (Written by wip/gen_ex3.py.) -/
namespace Go.Proofs.YtoffbdlgmnpblaaGreat
open Go.RowKit
set_option maxHeartbeats 1000000
set_option maxRecDepth 100000

theorem elem_u32 : Elem1 Tryz.prog 154 199 (.int .u32 0) 4 := Elem1.mk' Tryz.underlying154 (by kernel_rfl) rfl

theorem borrow_eq (x y c : Int) (hx : 0 ≤ x ∧ x < 4294967296) (hy : 0 ≤ y ∧ y < 4294967296) (hc : 0 ≤ c ∧ c ≤ 1) :
    0 ≤ borrow x y c ∧ borrow x y c ≤ 1 ∧ (0 ≤ (x - y - c) % 4294967296 ∧ (x - y - c) % 4294967296 < B32) ∧ (x - y - c) % 4294967296 - B32 * borrow x y c = x - y - c := by
  unfold borrow B32
  split <;> omega

theorem plus_ge (xs ys : List Int) (v u : Value) (D D' : Nat → Prop) (w : World) (h : Sl (Kind.int .u32) w D v xs) (h' : Sl (Kind.int .u32) w D' u ys)
    (hD : ∀ k, D k → k < w.heap.size) (hD' : ∀ k, D' k → k < w.heap.size)
    (ox : Dig.ok B32 xs) (oy : Dig.ok B32 ys) (hc : ys.length ≤ xs.length) (hs : xs.length ≤ 1073741824) :
    Calls Tryz.prog 231 #[v, u] w fun e w' => ∃ v' zs, e = .returned v' ∧ Below w.heap.size w w' ∧ Sl (Kind.int .u32) w' (fun k => w.heap.size ≤ k ∧ k < w'.heap.size) v' zs ∧
      Dig.ok B32 zs ∧ Dig.val B32 zs = Dig.val B32 xs + Dig.val B32 ys := by
  obtain ⟨A, c, rfl, h1, h2, h3⟩ := h.ints
  obtain ⟨A', c', rfl, h1', h2', h3'⟩ := h'.ints
  clear h h'
  unfold maxLen at h2 h2'
  have hle : ys.length ≤ xs.length := by omega
  have hlt : ¬ xs.length < ys.length := by omega
  go_enter Tryz.func231, Tryz.ntmps231
  go_wp2_with (refine wpList_mk1 elem_u32 rfl _ _ rfl (by intro cs h; cases h) w.heap.size _ _ 0 ((xs.length : Int) + 1) rfl rfl (by omega) (by omega) (by omega) (by omega) (Nat.le_refl _) ?_; intro w1 hown hb1 hz1 _)
  go_loopw [5, 6, 23] (fun o cy i wr => ∃ (k : Nat) (zs : List Int) (cc : Int), k ≤ xs.length ∧ i = .int .i64 k ∧ cy = .int .u32 cc ∧ 0 ≤ cc ∧ cc ≤ 1 ∧ wr.ownsRow w.heap.size 199 1 o k (zs.map (.int .u32)) ∧ Below w.heap.size w wr ∧
      Hid (Dig.ok B32 zs ∧ Dig.val B32 zs + B32 ^ k * cc = Dig.val B32 (xs.take k) + Dig.val B32 (ys.take k))) (fun _ _ i _ => xs.length - (intOf i).toNat)
  case atStart => exact ⟨0, [], 0, Nat.zero_le _, rfl, rfl, by decide, by decide, hown, hb1, ⟨Dig.ok_nil _, rfl⟩⟩
  case round =>
    obtain ⟨k, zs, cc, hk, rfl, rfl, hc0, hc1, ho, hb, HS⟩ := hrel
    have hbs := hb.size
    have HL := Lib.hid (show zs.length = k by have := ho.1; simpa using this)
    clear hown hb1 hz1
    by_cases hkx : k < xs.length
    · obtain ⟨ad, rfl, hd, hx⟩ := h3 (by omega)
      have hcx := (hb.cell (p := ad.add k) (by rw [block_of_add]; exact hD _ hd)).trans (hx k hkx)
      obtain ⟨bx1, bx2⟩ : 0 ≤ Dig.gd xs k ∧ Dig.gd xs k < 4294967296 := Dig.ok_get ox (by decide) k
      clear hx h3 h1
      by_cases hky : k < ys.length
      · obtain ⟨ad', rfl, hd', hy⟩ := h3' (by omega)
        have hcy := (hb.cell (p := ad'.add k) (by rw [block_of_add]; exact hD' _ hd')).trans (hy k hky)
        obtain ⟨by1, by2⟩ : 0 ≤ Dig.gd ys k ∧ Dig.gd ys k < 4294967296 := Dig.ok_get oy (by decide) k
        clear hy h3'
        go_wp2_with (first | (go_at_call 253; refine (Add32_calls _ _ _ _ ⟨by omega, by omega⟩ ⟨by omega, by omega⟩ ⟨by omega, by omega⟩).mono ?_; rintro e w' ⟨rfl, rfl⟩) | (at_builtin; refine wpList_app1 elem_u32 rfl _ _ rfl w.heap.size _ k _ rfl (ho.alloc _) ⟨_, 0, none⟩ 1 _ rfl (cell_new1 _ _ _) rfl (by omega) (by omega) (by simp; omega) ?_; intro v2 w2 ho2 hg2 ha2))
        refine ⟨⟨k + 1, zs ++ [(Dig.gd xs k + Dig.gd ys k + cc) % 4294967296], _, by omega, by go_num, rfl, by omega, by omega, by simpa using ho2, below_app hb hbs ho hg2, ?_⟩, by simp [intOf]; omega⟩
        have := Dig.plus_step (b := B32) (by decide) (x := Dig.gd xs k) (y := Dig.gd ys k) HS.out.1 HL.out HS.out.2
        rw [← Dig.gd_take_succ xs k hkx, ← Dig.gd_take_succ ys k hky] at this
        exact this
      · clear h3'
        go_wp2_with (first | (go_at_call 253; refine (Add32_calls _ _ _ _ ⟨by omega, by omega⟩ ⟨by omega, by omega⟩ ⟨by omega, by omega⟩).mono ?_; rintro e w' ⟨rfl, rfl⟩) | (at_builtin; refine wpList_app1 elem_u32 rfl _ _ rfl w.heap.size _ k _ rfl (ho.alloc _) ⟨_, 0, none⟩ 1 _ rfl (cell_new1 _ _ _) rfl (by omega) (by omega) (by simp; omega) ?_; intro v2 w2 ho2 hg2 ha2))
        refine ⟨⟨k + 1, zs ++ [(Dig.gd xs k + cc) % 4294967296], _, by omega, by go_num, rfl, by omega, by omega, by simpa using ho2, below_app hb hbs ho hg2, ?_⟩, by simp [intOf]; omega⟩
        have := Dig.plus_step (b := B32) (by decide) (x := Dig.gd xs k) (y := 0) HS.out.1 HL.out HS.out.2
        rw [← Dig.gd_take_succ xs k hkx, Int.mul_zero, Int.add_zero, Int.add_zero, Dig.val_take_of_le _ ys k (by omega), ← Dig.val_take_of_le _ ys (k + 1) (by omega)] at this
        exact this
    · obtain rfl : k = xs.length := by omega
      clear h3 h3'
      go_wp2_with (at_builtin; refine wpList_app1 elem_u32 rfl _ _ rfl w.heap.size _ xs.length _ rfl (ho.alloc _) ⟨_, 0, none⟩ 1 _ rfl (cell_new1 _ _ _) rfl (by omega) (by omega) (by simp; omega) ?_; intro v2 w2 ho2 hg2 ha2)
      go_ret
      have ho3 : w2.ownsRow w.heap.size 199 1 v2 (xs.length + 1) ((zs ++ [cc]).map (.int .u32)) := by simpa using ho2
      refine ⟨_, zs ++ [cc], rfl, below_app hb hbs ho hg2, (own_ints ho3).2, Dig.ok_append.2 ⟨HS.out.1, fun d hd => ?_⟩, ?_⟩
      · simp only [List.mem_singleton] at hd; subst hd; unfold B32; omega
      · rw [Dig.val_snoc, HL.out, HS.out.2, List.take_length, Dig.val_take_of_le _ _ _ hle]

theorem plus_lt (xs ys : List Int) (v u : Value) (D D' : Nat → Prop) (w : World) (h : Sl (Kind.int .u32) w D v xs) (h' : Sl (Kind.int .u32) w D' u ys)
    (hD : ∀ k, D k → k < w.heap.size) (hD' : ∀ k, D' k → k < w.heap.size)
    (ox : Dig.ok B32 xs) (oy : Dig.ok B32 ys) (hc : xs.length < ys.length) (hs : ys.length ≤ 1073741824) :
    Calls Tryz.prog 231 #[v, u] w fun e w' => ∃ v' zs, e = .returned v' ∧ Below w.heap.size w w' ∧ Sl (Kind.int .u32) w' (fun k => w.heap.size ≤ k ∧ k < w'.heap.size) v' zs ∧
      Dig.ok B32 zs ∧ Dig.val B32 zs = Dig.val B32 xs + Dig.val B32 ys := by
  obtain ⟨A, c, rfl, h1, h2, h3⟩ := h'.ints
  obtain ⟨A', c', rfl, h1', h2', h3'⟩ := h.ints
  clear h h'
  unfold maxLen at h2 h2'
  have hle : xs.length ≤ ys.length := by omega
  have hlt : xs.length < ys.length := hc
  clear hc
  go_enter Tryz.func231, Tryz.ntmps231
  go_wp2_with (refine wpList_mk1 elem_u32 rfl _ _ rfl (by intro cs h; cases h) w.heap.size _ _ 0 ((ys.length : Int) + 1) rfl rfl (by omega) (by omega) (by omega) (by omega) (Nat.le_refl _) ?_; intro w1 hown hb1 hz1 _)
  go_loopw [5, 6, 23] (fun o cy i wr => ∃ (k : Nat) (zs : List Int) (cc : Int), k ≤ ys.length ∧ i = .int .i64 k ∧ cy = .int .u32 cc ∧ 0 ≤ cc ∧ cc ≤ 1 ∧ wr.ownsRow w.heap.size 199 1 o k (zs.map (.int .u32)) ∧ Below w.heap.size w wr ∧
      Hid (Dig.ok B32 zs ∧ Dig.val B32 zs + B32 ^ k * cc = Dig.val B32 (ys.take k) + Dig.val B32 (xs.take k))) (fun _ _ i _ => ys.length - (intOf i).toNat)
  case atStart => exact ⟨0, [], 0, Nat.zero_le _, rfl, rfl, by decide, by decide, hown, hb1, ⟨Dig.ok_nil _, rfl⟩⟩
  case round =>
    obtain ⟨k, zs, cc, hk, rfl, rfl, hc0, hc1, ho, hb, HS⟩ := hrel
    have hbs := hb.size
    have HL := Lib.hid (show zs.length = k by have := ho.1; simpa using this)
    clear hown hb1 hz1
    by_cases hkx : k < ys.length
    · obtain ⟨ad, rfl, hd, hx⟩ := h3 (by omega)
      have hcx := (hb.cell (p := ad.add k) (by rw [block_of_add]; exact hD' _ hd)).trans (hx k hkx)
      obtain ⟨bx1, bx2⟩ : 0 ≤ Dig.gd ys k ∧ Dig.gd ys k < 4294967296 := Dig.ok_get oy (by decide) k
      clear hx h3 h1
      by_cases hky : k < xs.length
      · obtain ⟨ad', rfl, hd', hy⟩ := h3' (by omega)
        have hcy := (hb.cell (p := ad'.add k) (by rw [block_of_add]; exact hD _ hd')).trans (hy k hky)
        obtain ⟨by1, by2⟩ : 0 ≤ Dig.gd xs k ∧ Dig.gd xs k < 4294967296 := Dig.ok_get ox (by decide) k
        clear hy h3'
        go_wp2_with (first | (go_at_call 253; refine (Add32_calls _ _ _ _ ⟨by omega, by omega⟩ ⟨by omega, by omega⟩ ⟨by omega, by omega⟩).mono ?_; rintro e w' ⟨rfl, rfl⟩) | (at_builtin; refine wpList_app1 elem_u32 rfl _ _ rfl w.heap.size _ k _ rfl (ho.alloc _) ⟨_, 0, none⟩ 1 _ rfl (cell_new1 _ _ _) rfl (by omega) (by omega) (by simp; omega) ?_; intro v2 w2 ho2 hg2 ha2))
        refine ⟨⟨k + 1, zs ++ [(Dig.gd ys k + Dig.gd xs k + cc) % 4294967296], _, by omega, by go_num, rfl, by omega, by omega, by simpa using ho2, below_app hb hbs ho hg2, ?_⟩, by simp [intOf]; omega⟩
        have := Dig.plus_step (b := B32) (by decide) (x := Dig.gd ys k) (y := Dig.gd xs k) HS.out.1 HL.out HS.out.2
        rw [← Dig.gd_take_succ ys k hkx, ← Dig.gd_take_succ xs k hky] at this
        exact this
      · clear h3'
        go_wp2_with (first | (go_at_call 253; refine (Add32_calls _ _ _ _ ⟨by omega, by omega⟩ ⟨by omega, by omega⟩ ⟨by omega, by omega⟩).mono ?_; rintro e w' ⟨rfl, rfl⟩) | (at_builtin; refine wpList_app1 elem_u32 rfl _ _ rfl w.heap.size _ k _ rfl (ho.alloc _) ⟨_, 0, none⟩ 1 _ rfl (cell_new1 _ _ _) rfl (by omega) (by omega) (by simp; omega) ?_; intro v2 w2 ho2 hg2 ha2))
        refine ⟨⟨k + 1, zs ++ [(Dig.gd ys k + cc) % 4294967296], _, by omega, by go_num, rfl, by omega, by omega, by simpa using ho2, below_app hb hbs ho hg2, ?_⟩, by simp [intOf]; omega⟩
        have := Dig.plus_step (b := B32) (by decide) (x := Dig.gd ys k) (y := 0) HS.out.1 HL.out HS.out.2
        rw [← Dig.gd_take_succ ys k hkx, Int.mul_zero, Int.add_zero, Int.add_zero, Dig.val_take_of_le _ xs k (by omega), ← Dig.val_take_of_le _ xs (k + 1) (by omega)] at this
        exact this
    · obtain rfl : k = ys.length := by omega
      clear h3 h3'
      go_wp2_with (at_builtin; refine wpList_app1 elem_u32 rfl _ _ rfl w.heap.size _ ys.length _ rfl (ho.alloc _) ⟨_, 0, none⟩ 1 _ rfl (cell_new1 _ _ _) rfl (by omega) (by omega) (by simp; omega) ?_; intro v2 w2 ho2 hg2 ha2)
      go_ret
      have ho3 : w2.ownsRow w.heap.size 199 1 v2 (ys.length + 1) ((zs ++ [cc]).map (.int .u32)) := by simpa using ho2
      refine ⟨_, zs ++ [cc], rfl, below_app hb hbs ho hg2, (own_ints ho3).2, Dig.ok_append.2 ⟨HS.out.1, fun d hd => ?_⟩, ?_⟩
      · simp only [List.mem_singleton] at hd; subst hd; unfold B32; omega
      · rw [Dig.val_snoc, HL.out, HS.out.2, List.take_length, Dig.val_take_of_le _ _ _ hle, Int.add_comm]

theorem minus_calls (xs ys : List Int) (v u : Value) (D D' : Nat → Prop) (w : World) (h : Sl (Kind.int .u32) w D v xs) (h' : Sl (Kind.int .u32) w D' u ys)
    (hD : ∀ k, D k → k < w.heap.size) (hD' : ∀ k, D' k → k < w.heap.size)
    (ox : Dig.ok B32 xs) (oy : Dig.ok B32 ys) (hle : ys.length ≤ xs.length) (hv : Dig.val B32 ys ≤ Dig.val B32 xs) (hs : xs.length ≤ 1073741824) :
    Calls Tryz.prog 233 #[v, u] w fun e w' => ∃ v' zs, e = .returned v' ∧ Below w.heap.size w w' ∧ Sl (Kind.int .u32) w' (fun k => w.heap.size ≤ k ∧ k < w'.heap.size) v' zs ∧
      Dig.ok B32 zs ∧ Dig.val B32 zs = Dig.val B32 xs - Dig.val B32 ys := by
  obtain ⟨A, c, rfl, h1, h2, h3⟩ := h.ints
  obtain ⟨A', c', rfl, h1', h2', h3'⟩ := h'.ints
  clear h h'
  unfold maxLen at h2 h2'
  go_enter Tryz.func233, Tryz.ntmps233
  go_wp2_with (refine wpList_mk1 elem_u32 rfl _ _ rfl (by intro cs h; cases h) w.heap.size _ _ 0 (xs.length : Int) rfl rfl (by omega) (by omega) (by omega) (by omega) (Nat.le_refl _) ?_; intro w1 hown hb1 hz1 _)
  go_loopw [5, 6, 15] (fun o cy i wr => ∃ (k : Nat) (zs : List Int) (cc : Int), k ≤ xs.length ∧ i = .int .i64 k ∧ cy = .int .u32 cc ∧ 0 ≤ cc ∧ cc ≤ 1 ∧ wr.ownsRow w.heap.size 199 1 o k (zs.map (.int .u32)) ∧ Below w.heap.size w wr ∧
      Hid (Dig.ok B32 zs ∧ Dig.val B32 zs - B32 ^ k * cc = Dig.val B32 (xs.take k) - Dig.val B32 (ys.take k))) (fun _ _ i _ => xs.length - (intOf i).toNat)
  case atStart => exact ⟨0, [], 0, Nat.zero_le _, rfl, rfl, by decide, by decide, hown, hb1, ⟨Dig.ok_nil _, rfl⟩⟩
  case round =>
    obtain ⟨k, zs, cc, hk, rfl, rfl, hc0, hc1, ho, hb, HS⟩ := hrel
    have hbs := hb.size
    have HL := Lib.hid (show zs.length = k by have := ho.1; simpa using this)
    clear hown hb1 hz1
    by_cases hkx : k < xs.length
    · obtain ⟨ad, rfl, hd, hx⟩ := h3 (by omega)
      have hcx := (hb.cell (p := ad.add k) (by rw [block_of_add]; exact hD _ hd)).trans (hx k hkx)
      obtain ⟨bx1, bx2⟩ : 0 ≤ Dig.gd xs k ∧ Dig.gd xs k < 4294967296 := Dig.ok_get ox (by decide) k
      clear hx h3 h1
      by_cases hky : k < ys.length
      · obtain ⟨ad', rfl, hd', hy⟩ := h3' (by omega)
        have hcy := (hb.cell (p := ad'.add k) (by rw [block_of_add]; exact hD' _ hd')).trans (hy k hky)
        obtain ⟨by1, by2⟩ : 0 ≤ Dig.gd ys k ∧ Dig.gd ys k < 4294967296 := Dig.ok_get oy (by decide) k
        clear hy h3'
        go_wp2_with (first | (go_at_call 254; refine (Sub32_calls _ _ _ _ ⟨by omega, by omega⟩ ⟨by omega, by omega⟩ ⟨by omega, by omega⟩).mono ?_; rintro e w' ⟨rfl, rfl⟩) | (at_builtin; refine wpList_app1 elem_u32 rfl _ _ rfl w.heap.size _ k _ rfl (ho.alloc _) ⟨_, 0, none⟩ 1 _ rfl (cell_new1 _ _ _) rfl (by omega) (by omega) (by simp; omega) ?_; intro v2 w2 ho2 hg2 ha2))
        have hbo := borrow_eq (Dig.gd xs k) (Dig.gd ys k) cc ⟨bx1, bx2⟩ ⟨by1, by2⟩ ⟨hc0, hc1⟩
        refine ⟨⟨k + 1, zs ++ [(Dig.gd xs k - Dig.gd ys k - cc) % 4294967296], _, by omega, by go_num, rfl, hbo.1, hbo.2.1, by simpa using ho2, below_app hb hbs ho hg2, ?_⟩, by simp [intOf]; omega⟩
        have := Dig.minus_step (b := B32) (x := Dig.gd xs k) (y := Dig.gd ys k) HS.out.1 HL.out HS.out.2 hbo.2.2.1 hbo.2.2.2
        rw [← Dig.gd_take_succ xs k hkx, ← Dig.gd_take_succ ys k hky] at this
        exact this
      · clear h3'
        go_wp2_with (first | (go_at_call 254; refine (Sub32_calls _ _ _ _ ⟨by omega, by omega⟩ ⟨by omega, by omega⟩ ⟨by omega, by omega⟩).mono ?_; rintro e w' ⟨rfl, rfl⟩) | (at_builtin; refine wpList_app1 elem_u32 rfl _ _ rfl w.heap.size _ k _ rfl (ho.alloc _) ⟨_, 0, none⟩ 1 _ rfl (cell_new1 _ _ _) rfl (by omega) (by omega) (by simp; omega) ?_; intro v2 w2 ho2 hg2 ha2))
        have hbo := borrow_eq (Dig.gd xs k) 0 cc ⟨bx1, bx2⟩ ⟨by decide, by decide⟩ ⟨hc0, hc1⟩
        refine ⟨⟨k + 1, zs ++ [(Dig.gd xs k - cc) % 4294967296], _, by omega, by go_num, rfl, hbo.1, hbo.2.1, by simpa using ho2, below_app hb hbs ho hg2, ?_⟩, by simp [intOf]; omega⟩
        have := Dig.minus_step (b := B32) (x := Dig.gd xs k) (y := 0) HS.out.1 HL.out HS.out.2 hbo.2.2.1 hbo.2.2.2
        rw [← Dig.gd_take_succ xs k hkx, Int.mul_zero, Int.add_zero, Int.sub_zero, Dig.val_take_of_le _ ys k (by omega), ← Dig.val_take_of_le _ ys (k + 1) (by omega)] at this
        exact this
    · obtain rfl : k = xs.length := by omega
      clear h3 h3'
      go_wp2
      go_ret
      have e := HS.out.2
      rw [List.take_length, Dig.val_take_of_le _ _ _ hle] at e
      have hlt := Dig.val_lt (b := B32) (by decide) HS.out.1
      rw [HL.out] at hlt
      have hz : cc = 0 := by
        rcases (show cc = 0 ∨ cc = 1 by omega) with h | h
        · exact h
        · subst h; omega
      subst hz
      exact ⟨_, zs, rfl, hb, (own_ints ho).2, HS.out.1, by omega⟩

theorem plus_calls (xs ys : List Int) (v u : Value) (D D' : Nat → Prop) (w : World) (h : Sl (Kind.int .u32) w D v xs) (h' : Sl (Kind.int .u32) w D' u ys)
    (hD : ∀ k, D k → k < w.heap.size) (hD' : ∀ k, D' k → k < w.heap.size)
    (ox : Dig.ok B32 xs) (oy : Dig.ok B32 ys) (hs : xs.length ≤ 1073741824) (hs' : ys.length ≤ 1073741824) :
    Calls Tryz.prog 231 #[v, u] w fun e w' => ∃ v' zs, e = .returned v' ∧ Below w.heap.size w w' ∧ Sl (Kind.int .u32) w' (fun k => w.heap.size ≤ k ∧ k < w'.heap.size) v' zs ∧
      Dig.ok B32 zs ∧ Dig.val B32 zs = Dig.val B32 xs + Dig.val B32 ys := by
  rcases Nat.lt_or_ge xs.length ys.length with hl | hl
  · exact plus_lt xs ys v u D D' w h h' hD hD' ox oy hl hs'
  · exact plus_ge xs ys v u D D' w h h' hD hD' ox oy hl hs

end Go.Proofs.YtoffbdlgmnpblaaGreat

/- Package exact: integers: what a value stands for; Of, digits, made, Sign, Neg, Abs. -/
namespace Go.Proofs.YtoffbdlgmnpblaaGreat
open Go.RowKit
set_option maxHeartbeats 1000000
set_option maxRecDepth 100000

/-- the fields of an exact.Int stand for z -/
def IntC (w : World) (D : Nat → Prop) (s : Int) (A : Option Addr) (n c : Nat) (z : Int) : Prop :=
  (A = none ∧ n = 0 ∧ c = 0 ∧ s = z ∧ -4611686018427387904 < z ∧ z < 4611686018427387904) ∨
  (∃ xs, Sl (Kind.int .u32) w D (.slice A n c) xs ∧ Dig.ok B32 xs ∧ Dig.trimmed xs ∧ 4611686018427387904 ≤ Dig.val B32 xs ∧ (s = 1 ∨ s = -1) ∧ z = s * Dig.val B32 xs)

theorem IntC.same {w w' : World} {D : Nat → Prop} {s : Int} {A : Option Addr} {n c : Nat} {z : Int} (h : IntC w D s A n c z) (hs : Same D w w') : IntC w' D s A n c z := by
  rcases h with h | ⟨xs, h1, h2⟩
  · exact .inl h
  · exact .inr ⟨xs, h1.same hs, h2⟩
theorem IntC.mono {w : World} {D D' : Nat → Prop} {s : Int} {A : Option Addr} {n c : Nat} {z : Int} (h : IntC w D s A n c z) (hs : ∀ k, D k → D' k) : IntC w D' s A n c z := by
  rcases h with h | ⟨xs, h1, h2⟩
  · exact .inl h
  · exact .inr ⟨xs, h1.mono hs, h2⟩
/-- D is a set of blocks of w -/
abbrev Lo (D : Nat → Prop) (w : World) : Prop := ∀ k, D k → k < w.heap.size
/-- the blocks that are new in w' -/
abbrev nw (w w' : World) : Nat → Prop := fun k => w.heap.size ≤ k ∧ k < w'.heap.size
/-- D, and the blocks that are new in w' -/
abbrev gr (D : Nat → Prop) (w w' : World) : Nat → Prop := fun k => D k ∨ (w.heap.size ≤ k ∧ k < w'.heap.size)
theorem Lo.same {D : Nat → Prop} {w w' : World} (hD : Lo D w) (hb : Below w.heap.size w w') : Same D w w' := fun k hk => hb.block k (hD k hk)
theorem Lo.gr {D : Nat → Prop} {w w' : World} (hD : Lo D w) (hb : Below w.heap.size w w') : Lo (gr D w w') w' := fun k hk => by
  have := hb.size
  rcases hk with hk | hk
  · exact Nat.lt_of_lt_of_le (hD k hk) this
  · exact hk.2
theorem Lo.up {D : Nat → Prop} {w w' : World} (hD : Lo D w) (hb : w.heap.size ≤ w'.heap.size) : Lo D w' := fun k hk => Nat.lt_of_lt_of_le (hD k hk) hb
theorem IntC.below {D : Nat → Prop} {w w' : World} {s : Int} {A : Option Addr} {n c : Nat} {z : Int} (h : IntC w D s A n c z) (hD : Lo D w) (hb : Below w.heap.size w w') : IntC w' D s A n c z :=
  h.same (hD.same hb)
theorem IntC.s_lt {w : World} {D : Nat → Prop} {s : Int} {A : Option Addr} {n c : Nat} {z : Int} (h : IntC w D s A n c z) : -4611686018427387904 < s ∧ s < 4611686018427387904 := by
  rcases h with ⟨_, _, _, rfl, h1, h2⟩ | ⟨xs, _, _, _, _, hs, _⟩
  · exact ⟨h1, h2⟩
  · omega
/-- the sign of the first field is that of the number -/
theorem IntC.sgn_eq {w : World} {D : Nat → Prop} {s : Int} {A : Option Addr} {n c : Nat} {z : Int} (h : IntC w D s A n c z) : (0 < s ↔ 0 < z) ∧ (s < 0 ↔ z < 0) := by
  rcases h with ⟨_, _, _, rfl, h1, h2⟩ | ⟨xs, _, _, _, hv, hs, hz⟩
  · exact ⟨Iff.rfl, Iff.rfl⟩
  · rcases hs with rfl | rfl <;> omega
theorem IntC.small {w : World} {D : Nat → Prop} {z : Int} (h1 : -4611686018427387904 < z) (h2 : z < 4611686018427387904) : IntC w D z none 0 0 z := .inl ⟨rfl, rfl, rfl, rfl, h1, h2⟩
/-- two digits in a new block -/
theorem two_digits (w : World) (t : TypeId) (a b : Int) (g : Nat) (hg : w.heap.size = g) (D : Nat → Prop) (hD : D g) : Sl (Kind.int .u32) (w.alloc (.cells #[.int .u32 a, .int .u32 b] t)) D (.slice (some ⟨g, 0, none⟩) 2 2) [a, b] := by
  subst hg
  exact Sl.of_ints (xs := [a, b]) (Nat.le_refl _) (by simp [maxLen]) fun _ => ⟨_, rfl, hD, fun i hi => by
    have h := heap_alloc_new w (.cells #[.int .u32 a, .int .u32 b] t)
    have e : (⟨w.heap.size, 0, none⟩ : Addr).add i = ⟨w.heap.size, i, none⟩ := by unfold Addr.add; split <;> simp_all
    rw [e, cell_of_row _ _ _ _ _ _ h]
    match i, hi with
    | 0, _ => rfl
    | 1, _ => rfl⟩
theorem two_val (m : Int) : Dig.val B32 [m % 4294967296, m / 4294967296] = m := by simp only [Dig.val, B32]; omega
theorem two_ok {m : Int} (h0 : 0 ≤ m) (h1 : m < 18446744073709551616) : Dig.ok B32 [m % 4294967296, m / 4294967296] := by
  intro d hd
  simp only [List.mem_cons, List.not_mem_nil, or_false] at hd
  unfold B32
  rcases hd with rfl | rfl <;> omega
theorem two_trimmed {m : Int} (h : 4294967296 ≤ m) : Dig.trimmed [m % 4294967296, m / 4294967296] := by
  intro _
  simp only [List.getLast_cons_cons, List.getLast_singleton]
  omega

theorem Of_calls (x : Int) (w : World) (h0 : -9223372036854775808 ≤ x) (h1 : x ≤ 9223372036854775807) :
    Calls Tryz.prog 183 #[.int .i64 x] w fun e w' => ∃ s A n c, e = .returned (.agg #[.int .i64 s, .slice A n c]) ∧ Below w.heap.size w w' ∧ IntC w' (nw w w') s A n c x := by
  by_cases hx : -4611686018427387904 < x ∧ x < 4611686018427387904
  · obtain ⟨h2, h3⟩ := hx
    go_enter Tryz.func183, Tryz.ntmps183
    go_wp2
    exact bodyPost_ret (v := .agg #[.int .i64 x, .slice none 0 0]) (by simp [results, Tryz.results183, go_sem]) rfl ⟨_, _, _, _, rfl, ((Below.refl _ _).alloc (Nat.le_refl _) _), IntC.small h2 h3⟩
  · rcases Int.lt_or_le x 0 with hn | hp
    · have h2 : ¬ -4611686018427387904 < x := by omega
      go_enter Tryz.func183, Tryz.ntmps183
      go_wp2
      have e1 : IntKind.u64.wrap (-IntKind.u64.wrap x) = -x := by simp [IntKind.wrap, IntKind.bits, IntKind.signed]; omega
      have e2 : -x / 4294967296 % 4294967296 = -x / 4294967296 := by omega
      simp only [e1, e2]
      refine bodyPost_ret (v := .agg #[.int .i64 (-1), .slice (some ⟨w.heap.size + 1, 0, none⟩) 2 2]) (by simp [results, Tryz.results183, go_sem]) rfl ⟨_, _, _, _, rfl, ((Below.refl _ _).alloc (Nat.le_refl _) _).alloc (by simp) _, .inr ⟨_, ?_, two_ok (m := -x) (by omega) (by omega), two_trimmed (by omega), ?_, .inr rfl, ?_⟩⟩
      · exact two_digits _ _ _ _ _ (by simp) _ ⟨by omega, by simp⟩
      · rw [two_val]; omega
      · rw [two_val]; omega
    · have h2 : -4611686018427387904 < x := by omega
      have h3 : ¬ x < 4611686018427387904 := by omega
      go_enter Tryz.func183, Tryz.ntmps183
      go_wp2
      refine bodyPost_ret (v := .agg #[.int .i64 1, .slice (some ⟨w.heap.size + 1, 0, none⟩) 2 2]) (by simp [results, Tryz.results183, go_sem]) rfl ⟨_, _, _, _, rfl, ((Below.refl _ _).alloc (Nat.le_refl _) _).alloc (by simp) _, .inr ⟨_, ?_, two_ok hp (by omega), two_trimmed (by omega), ?_, .inl rfl, ?_⟩⟩
      · exact two_digits _ _ _ _ _ (by simp) _ ⟨by omega, by simp⟩
      · rw [two_val]; omega
      · rw [two_val]; omega

theorem trimmed_ne {xs : List Int} (h : 4611686018427387904 ≤ Dig.val B32 xs) : 0 < xs.length := by
  cases xs with
  | nil => simp [Dig.val] at h
  | cons => simp

theorem digits_calls (s : Int) (A : Option Addr) (n c : Nat) (z : Int) (D : Nat → Prop) (w : World) (hD : Lo D w) (h : IntC w D s A n c z) :
    Calls Tryz.prog 229 #[.agg #[.int .i64 s, .slice A n c]] w fun e w' => ∃ A' n' c' xs, e = .returned (.tuple #[.int .i64 (Dig.sgn z), .slice A' n' c']) ∧ Below w.heap.size w w' ∧
      Sl (Kind.int .u32) w' (gr D w w') (.slice A' n' c') xs ∧ Dig.ok B32 xs ∧ Dig.trimmed xs ∧ Dig.val B32 xs = Dig.ab z := by
  have hnil := fun (w : World) (a : Option Addr) (n c : Nat) => run_neq_slice_nil_any (P := Tryz.prog) w 154 199 a n c 0 0 Tryz.underlying154
  rcases h with ⟨rfl, rfl, rfl, rfl, h1, h2⟩ | ⟨xs, hs, ho, ht, hv, hsg, hz⟩
  · rcases Int.lt_trichotomy s 0 with hs | hs | hs
    · go_enter Tryz.func229, Tryz.ntmps229
      go_wp2
      go_quiet (fail)
      go_wp2_with fail
      refine (trim_calls [-s % 4294967296, -s / 4294967296] _ (fun k => k = w.heap.size + 1) _ (two_digits _ _ _ _ _ (by simp) _ rfl)).mono ?_
      rintro e w' ⟨v', rfl, rfl, hsl⟩
      obtain ⟨A', c', rfl, -, -, -⟩ := hsl.form
      go_wp2
      go_ret2
      exact ⟨_, _, _, _, by rw [Dig.sgn_lt hs]; rfl, (below_drewN ((Below.refl _ _).alloc (Nat.le_refl _) _) _).alloc (by simp) _, hsl.mono fun k hk => by subst hk; exact .inr ⟨by omega, by simp⟩, Dig.ok_trim (two_ok (m := -s) (by omega) (by omega)), Dig.trim_trimmed _, by
        rw [Dig.val_trim, two_val, Dig.ab_of_neg hs]⟩
    · subst hs
      go_enter Tryz.func229, Tryz.ntmps229
      go_wp2_with fail
      refine (trim_calls [0, 0] _ (fun k => k = w.heap.size + 1) _ (two_digits _ _ _ _ _ (by simp) _ rfl)).mono ?_
      rintro e w' ⟨v', rfl, rfl, hsl⟩
      obtain ⟨A', c', rfl, -, -, -⟩ := hsl.form
      go_wp2
      go_ret2
      exact ⟨_, _, _, _, rfl, ((Below.refl _ _).alloc (Nat.le_refl _) _).alloc (by simp) _, hsl.mono fun k hk => by subst hk; exact .inr ⟨by omega, by simp⟩, Dig.ok_trim (by unfold Dig.ok B32; simp), Dig.trim_trimmed _, by
        rw [Dig.val_trim]; decide⟩
    · go_enter Tryz.func229, Tryz.ntmps229
      go_wp2
      go_quiet (fail)
      go_wp2_with fail
      refine (trim_calls [s % 4294967296, s / 4294967296] _ (fun k => k = w.heap.size + 1) _ (two_digits _ _ _ _ _ (by simp) _ rfl)).mono ?_
      rintro e w' ⟨v', rfl, rfl, hsl⟩
      obtain ⟨A', c', rfl, -, -, -⟩ := hsl.form
      go_wp2
      go_ret2
      exact ⟨_, _, _, _, by rw [Dig.sgn_gt hs]; rfl, (below_drewN ((Below.refl _ _).alloc (Nat.le_refl _) _) _).alloc (by simp) _, hsl.mono fun k hk => by subst hk; exact .inr ⟨by omega, by simp⟩, Dig.ok_trim (two_ok (m := s) (by omega) (by omega)), Dig.trim_trimmed _, by
        rw [Dig.val_trim, two_val, Dig.ab_of_pos (by omega)]⟩
  · obtain ⟨A', c', e, h1, h2, h3⟩ := hs.form
    injection e with e1 e2 e3
    subst e1 e2 e3
    obtain ⟨ad, rfl, hd⟩ := h3 (trimmed_ne hv)
    go_enter Tryz.func229, Tryz.ntmps229
    go_wp2
    go_quiet (fail)
    go_wp2
    go_ret2
    have hz' : s = Dig.sgn z := by
      rcases hsg with rfl | rfl
      · rw [Dig.sgn_gt (by omega)]
      · rw [Dig.sgn_lt (by omega)]
    refine ⟨_, _, _, xs, by rw [← hz']; rfl, below_drewN ((Below.refl _ _).alloc (Nat.le_refl _) _) _, ?_, ho, ht, by rw [hz]; unfold Dig.ab; rcases hsg with rfl | rfl <;> (split <;> omega)⟩
    exact ((hs.same (hD.same ((Below.refl _ _).alloc (Nat.le_refl _) _))).mono fun k hk => .inl hk).same (same_drewN _ _ _)

end Go.Proofs.YtoffbdlgmnpblaaGreat
