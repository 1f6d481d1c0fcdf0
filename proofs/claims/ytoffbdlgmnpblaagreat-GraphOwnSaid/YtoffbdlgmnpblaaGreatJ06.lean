/- Part 6 of 55: Ex3. -/
import Derived.Test.YtoffbdlgmnpblaaGreatJ05

/- Package exact: sums and differences of lists of digits. (Written by wip/gen_ex3.py.) -/
namespace Go.Proofs.YtoffbdlgmnpblaaGreat
open Go.RowKit
set_option maxHeartbeats 1000000
set_option maxRecDepth 100000

theorem elem_u32 : Elem1 Tryz.prog 154 199 (.int .u32 0) 4 := Elem1.mk' Tryz.underlying154 (by kernel_rfl) rfl

theorem borrow_eq (x y c : Int) (hx : 0 ≤ x ∧ x < 4294967296) (hy : 0 ≤ y ∧ y < 4294967296) (hc : 0 ≤ c ∧ c ≤ 1) :
    0 ≤ borrow x y c ∧ borrow x y c ≤ 1 ∧ (0 ≤ (x - y - c) % 4294967296 ∧ (x - y - c) % 4294967296 < B32) ∧ (x - y - c) % 4294967296 - B32 * borrow x y c = x - y - c := by
  unfold borrow B32
  split <;> omega

theorem plus_ge (xs ys : List Int) (v u : Value) (D D' : Nat → Prop) (w : World) (h : Sl (Kind.int .u32) w D v xs) (h' : Sl (Kind.int .u32) w D' u ys)
    (hD : ∀ k, D k → k < w.heap.size) (hD' : ∀ k, D' k → k < w.heap.size)
    (ox : Dig.ok B32 xs) (oy : Dig.ok B32 ys) (hc : ys.length ≤ xs.length) (hs : xs.length ≤ 1073741824) :
    Calls Tryz.prog 231 #[v, u] w fun e w' => ∃ v' zs, e = .returned v' ∧ Below w.heap.size w w' ∧ Sl (Kind.int .u32) w' (fun k => w.heap.size ≤ k ∧ k < w'.heap.size) v' zs ∧
      Dig.ok B32 zs ∧ Dig.val B32 zs = Dig.val B32 xs + Dig.val B32 ys := by
  obtain ⟨A, c, rfl, h1, h2, h3⟩ := h.ints
  obtain ⟨A', c', rfl, h1', h2', h3'⟩ := h'.ints
  clear h h'
  unfold maxLen at h2 h2'
  have hle : ys.length ≤ xs.length := by omega
  have hlt : ¬ xs.length < ys.length := by omega
  go_enter Tryz.func231, Tryz.ntmps231
  go_wp2_with (refine wpList_mk1 elem_u32 rfl _ _ rfl (by intro cs h; cases h) w.heap.size _ _ 0 ((xs.length : Int) + 1) rfl rfl (by omega) (by omega) (by omega) (by omega) (Nat.le_refl _) ?_; intro w1 hown hb1 hz1 _)
  go_loopw [5, 6, 23] (fun o cy i wr => ∃ (k : Nat) (zs : List Int) (cc : Int), k ≤ xs.length ∧ i = .int .i64 k ∧ cy = .int .u32 cc ∧ 0 ≤ cc ∧ cc ≤ 1 ∧ wr.ownsRow w.heap.size 199 1 o k (zs.map (.int .u32)) ∧ Below w.heap.size w wr ∧
      Hid (Dig.ok B32 zs ∧ Dig.val B32 zs + B32 ^ k * cc = Dig.val B32 (xs.take k) + Dig.val B32 (ys.take k))) (fun _ _ i _ => xs.length - (intOf i).toNat)
  case atStart => exact ⟨0, [], 0, Nat.zero_le _, rfl, rfl, by decide, by decide, hown, hb1, ⟨Dig.ok_nil _, rfl⟩⟩
  case round =>
    obtain ⟨k, zs, cc, hk, rfl, rfl, hc0, hc1, ho, hb, HS⟩ := hrel
    have hbs := hb.size
    have HL := Lib.hid (show zs.length = k by have := ho.1; simpa using this)
    clear hown hb1 hz1
    by_cases hkx : k < xs.length
    · obtain ⟨ad, rfl, hd, hx⟩ := h3 (by omega)
      have hcx := (hb.cell (p := ad.add k) (by rw [block_of_add]; exact hD _ hd)).trans (hx k hkx)
      obtain ⟨bx1, bx2⟩ : 0 ≤ Dig.gd xs k ∧ Dig.gd xs k < 4294967296 := Dig.ok_get ox (by decide) k
      clear hx h3 h1
      by_cases hky : k < ys.length
      · obtain ⟨ad', rfl, hd', hy⟩ := h3' (by omega)
        have hcy := (hb.cell (p := ad'.add k) (by rw [block_of_add]; exact hD' _ hd')).trans (hy k hky)
        obtain ⟨by1, by2⟩ : 0 ≤ Dig.gd ys k ∧ Dig.gd ys k < 4294967296 := Dig.ok_get oy (by decide) k
        clear hy h3'
        go_wp2_with (first | (go_at_call 253; refine (Add32_calls _ _ _ _ ⟨by omega, by omega⟩ ⟨by omega, by omega⟩ ⟨by omega, by omega⟩).mono ?_; rintro e w' ⟨rfl, rfl⟩) | (at_builtin; refine wpList_app1 elem_u32 rfl _ _ rfl w.heap.size _ k _ rfl (ho.alloc _) ⟨_, 0, none⟩ 1 _ rfl (cell_new1 _ _ _) rfl (by omega) (by omega) (by simp; omega) ?_; intro v2 w2 ho2 hg2 ha2))
        refine ⟨⟨k + 1, zs ++ [(Dig.gd xs k + Dig.gd ys k + cc) % 4294967296], _, by omega, by go_num, rfl, by omega, by omega, by simpa using ho2, below_app hb hbs ho hg2, ?_⟩, by simp [intOf]; omega⟩
        have := Dig.plus_step (b := B32) (by decide) (x := Dig.gd xs k) (y := Dig.gd ys k) HS.out.1 HL.out HS.out.2
        rw [← Dig.gd_take_succ xs k hkx, ← Dig.gd_take_succ ys k hky] at this
        exact this
      · clear h3'
        go_wp2_with (first | (go_at_call 253; refine (Add32_calls _ _ _ _ ⟨by omega, by omega⟩ ⟨by omega, by omega⟩ ⟨by omega, by omega⟩).mono ?_; rintro e w' ⟨rfl, rfl⟩) | (at_builtin; refine wpList_app1 elem_u32 rfl _ _ rfl w.heap.size _ k _ rfl (ho.alloc _) ⟨_, 0, none⟩ 1 _ rfl (cell_new1 _ _ _) rfl (by omega) (by omega) (by simp; omega) ?_; intro v2 w2 ho2 hg2 ha2))
        refine ⟨⟨k + 1, zs ++ [(Dig.gd xs k + cc) % 4294967296], _, by omega, by go_num, rfl, by omega, by omega, by simpa using ho2, below_app hb hbs ho hg2, ?_⟩, by simp [intOf]; omega⟩
        have := Dig.plus_step (b := B32) (by decide) (x := Dig.gd xs k) (y := 0) HS.out.1 HL.out HS.out.2
        rw [← Dig.gd_take_succ xs k hkx, Int.mul_zero, Int.add_zero, Int.add_zero, Dig.val_take_of_le _ ys k (by omega), ← Dig.val_take_of_le _ ys (k + 1) (by omega)] at this
        exact this
    · obtain rfl : k = xs.length := by omega
      clear h3 h3'
      go_wp2_with (at_builtin; refine wpList_app1 elem_u32 rfl _ _ rfl w.heap.size _ xs.length _ rfl (ho.alloc _) ⟨_, 0, none⟩ 1 _ rfl (cell_new1 _ _ _) rfl (by omega) (by omega) (by simp; omega) ?_; intro v2 w2 ho2 hg2 ha2)
      go_ret
      have ho3 : w2.ownsRow w.heap.size 199 1 v2 (xs.length + 1) ((zs ++ [cc]).map (.int .u32)) := by simpa using ho2
      refine ⟨_, zs ++ [cc], rfl, below_app hb hbs ho hg2, (own_ints ho3).2, Dig.ok_append.2 ⟨HS.out.1, fun d hd => ?_⟩, ?_⟩
      · simp only [List.mem_singleton] at hd; subst hd; unfold B32; omega
      · rw [Dig.val_snoc, HL.out, HS.out.2, List.take_length, Dig.val_take_of_le _ _ _ hle]

theorem plus_lt (xs ys : List Int) (v u : Value) (D D' : Nat → Prop) (w : World) (h : Sl (Kind.int .u32) w D v xs) (h' : Sl (Kind.int .u32) w D' u ys)
    (hD : ∀ k, D k → k < w.heap.size) (hD' : ∀ k, D' k → k < w.heap.size)
    (ox : Dig.ok B32 xs) (oy : Dig.ok B32 ys) (hc : xs.length < ys.length) (hs : ys.length ≤ 1073741824) :
    Calls Tryz.prog 231 #[v, u] w fun e w' => ∃ v' zs, e = .returned v' ∧ Below w.heap.size w w' ∧ Sl (Kind.int .u32) w' (fun k => w.heap.size ≤ k ∧ k < w'.heap.size) v' zs ∧
      Dig.ok B32 zs ∧ Dig.val B32 zs = Dig.val B32 xs + Dig.val B32 ys := by
  obtain ⟨A, c, rfl, h1, h2, h3⟩ := h'.ints
  obtain ⟨A', c', rfl, h1', h2', h3'⟩ := h.ints
  clear h h'
  unfold maxLen at h2 h2'
  have hle : xs.length ≤ ys.length := by omega
  have hlt : xs.length < ys.length := hc
  clear hc
  go_enter Tryz.func231, Tryz.ntmps231
  go_wp2_with (refine wpList_mk1 elem_u32 rfl _ _ rfl (by intro cs h; cases h) w.heap.size _ _ 0 ((ys.length : Int) + 1) rfl rfl (by omega) (by omega) (by omega) (by omega) (Nat.le_refl _) ?_; intro w1 hown hb1 hz1 _)
  go_loopw [5, 6, 23] (fun o cy i wr => ∃ (k : Nat) (zs : List Int) (cc : Int), k ≤ ys.length ∧ i = .int .i64 k ∧ cy = .int .u32 cc ∧ 0 ≤ cc ∧ cc ≤ 1 ∧ wr.ownsRow w.heap.size 199 1 o k (zs.map (.int .u32)) ∧ Below w.heap.size w wr ∧
      Hid (Dig.ok B32 zs ∧ Dig.val B32 zs + B32 ^ k * cc = Dig.val B32 (ys.take k) + Dig.val B32 (xs.take k))) (fun _ _ i _ => ys.length - (intOf i).toNat)
  case atStart => exact ⟨0, [], 0, Nat.zero_le _, rfl, rfl, by decide, by decide, hown, hb1, ⟨Dig.ok_nil _, rfl⟩⟩
  case round =>
    obtain ⟨k, zs, cc, hk, rfl, rfl, hc0, hc1, ho, hb, HS⟩ := hrel
    have hbs := hb.size
    have HL := Lib.hid (show zs.length = k by have := ho.1; simpa using this)
    clear hown hb1 hz1
    by_cases hkx : k < ys.length
    · obtain ⟨ad, rfl, hd, hx⟩ := h3 (by omega)
      have hcx := (hb.cell (p := ad.add k) (by rw [block_of_add]; exact hD' _ hd)).trans (hx k hkx)
      obtain ⟨bx1, bx2⟩ : 0 ≤ Dig.gd ys k ∧ Dig.gd ys k < 4294967296 := Dig.ok_get oy (by decide) k
      clear hx h3 h1
      by_cases hky : k < xs.length
      · obtain ⟨ad', rfl, hd', hy⟩ := h3' (by omega)
        have hcy := (hb.cell (p := ad'.add k) (by rw [block_of_add]; exact hD _ hd')).trans (hy k hky)
        obtain ⟨by1, by2⟩ : 0 ≤ Dig.gd xs k ∧ Dig.gd xs k < 4294967296 := Dig.ok_get ox (by decide) k
        clear hy h3'
        go_wp2_with (first | (go_at_call 253; refine (Add32_calls _ _ _ _ ⟨by omega, by omega⟩ ⟨by omega, by omega⟩ ⟨by omega, by omega⟩).mono ?_; rintro e w' ⟨rfl, rfl⟩) | (at_builtin; refine wpList_app1 elem_u32 rfl _ _ rfl w.heap.size _ k _ rfl (ho.alloc _) ⟨_, 0, none⟩ 1 _ rfl (cell_new1 _ _ _) rfl (by omega) (by omega) (by simp; omega) ?_; intro v2 w2 ho2 hg2 ha2))
        refine ⟨⟨k + 1, zs ++ [(Dig.gd ys k + Dig.gd xs k + cc) % 4294967296], _, by omega, by go_num, rfl, by omega, by omega, by simpa using ho2, below_app hb hbs ho hg2, ?_⟩, by simp [intOf]; omega⟩
        have := Dig.plus_step (b := B32) (by decide) (x := Dig.gd ys k) (y := Dig.gd xs k) HS.out.1 HL.out HS.out.2
        rw [← Dig.gd_take_succ ys k hkx, ← Dig.gd_take_succ xs k hky] at this
        exact this
      · clear h3'
        go_wp2_with (first | (go_at_call 253; refine (Add32_calls _ _ _ _ ⟨by omega, by omega⟩ ⟨by omega, by omega⟩ ⟨by omega, by omega⟩).mono ?_; rintro e w' ⟨rfl, rfl⟩) | (at_builtin; refine wpList_app1 elem_u32 rfl _ _ rfl w.heap.size _ k _ rfl (ho.alloc _) ⟨_, 0, none⟩ 1 _ rfl (cell_new1 _ _ _) rfl (by omega) (by omega) (by simp; omega) ?_; intro v2 w2 ho2 hg2 ha2))
        refine ⟨⟨k + 1, zs ++ [(Dig.gd ys k + cc) % 4294967296], _, by omega, by go_num, rfl, by omega, by omega, by simpa using ho2, below_app hb hbs ho hg2, ?_⟩, by simp [intOf]; omega⟩
        have := Dig.plus_step (b := B32) (by decide) (x := Dig.gd ys k) (y := 0) HS.out.1 HL.out HS.out.2
        rw [← Dig.gd_take_succ ys k hkx, Int.mul_zero, Int.add_zero, Int.add_zero, Dig.val_take_of_le _ xs k (by omega), ← Dig.val_take_of_le _ xs (k + 1) (by omega)] at this
        exact this
    · obtain rfl : k = ys.length := by omega
      clear h3 h3'
      go_wp2_with (at_builtin; refine wpList_app1 elem_u32 rfl _ _ rfl w.heap.size _ ys.length _ rfl (ho.alloc _) ⟨_, 0, none⟩ 1 _ rfl (cell_new1 _ _ _) rfl (by omega) (by omega) (by simp; omega) ?_; intro v2 w2 ho2 hg2 ha2)
      go_ret
      have ho3 : w2.ownsRow w.heap.size 199 1 v2 (ys.length + 1) ((zs ++ [cc]).map (.int .u32)) := by simpa using ho2
      refine ⟨_, zs ++ [cc], rfl, below_app hb hbs ho hg2, (own_ints ho3).2, Dig.ok_append.2 ⟨HS.out.1, fun d hd => ?_⟩, ?_⟩
      · simp only [List.mem_singleton] at hd; subst hd; unfold B32; omega
      · rw [Dig.val_snoc, HL.out, HS.out.2, List.take_length, Dig.val_take_of_le _ _ _ hle, Int.add_comm]

theorem minus_calls (xs ys : List Int) (v u : Value) (D D' : Nat → Prop) (w : World) (h : Sl (Kind.int .u32) w D v xs) (h' : Sl (Kind.int .u32) w D' u ys)
    (hD : ∀ k, D k → k < w.heap.size) (hD' : ∀ k, D' k → k < w.heap.size)
    (ox : Dig.ok B32 xs) (oy : Dig.ok B32 ys) (hle : ys.length ≤ xs.length) (hv : Dig.val B32 ys ≤ Dig.val B32 xs) (hs : xs.length ≤ 1073741824) :
    Calls Tryz.prog 233 #[v, u] w fun e w' => ∃ v' zs, e = .returned v' ∧ Below w.heap.size w w' ∧ Sl (Kind.int .u32) w' (fun k => w.heap.size ≤ k ∧ k < w'.heap.size) v' zs ∧
      Dig.ok B32 zs ∧ Dig.val B32 zs = Dig.val B32 xs - Dig.val B32 ys := by
  obtain ⟨A, c, rfl, h1, h2, h3⟩ := h.ints
  obtain ⟨A', c', rfl, h1', h2', h3'⟩ := h'.ints
  clear h h'
  unfold maxLen at h2 h2'
  go_enter Tryz.func233, Tryz.ntmps233
  go_wp2_with (refine wpList_mk1 elem_u32 rfl _ _ rfl (by intro cs h; cases h) w.heap.size _ _ 0 (xs.length : Int) rfl rfl (by omega) (by omega) (by omega) (by omega) (Nat.le_refl _) ?_; intro w1 hown hb1 hz1 _)
  go_loopw [5, 6, 15] (fun o cy i wr => ∃ (k : Nat) (zs : List Int) (cc : Int), k ≤ xs.length ∧ i = .int .i64 k ∧ cy = .int .u32 cc ∧ 0 ≤ cc ∧ cc ≤ 1 ∧ wr.ownsRow w.heap.size 199 1 o k (zs.map (.int .u32)) ∧ Below w.heap.size w wr ∧
      Hid (Dig.ok B32 zs ∧ Dig.val B32 zs - B32 ^ k * cc = Dig.val B32 (xs.take k) - Dig.val B32 (ys.take k))) (fun _ _ i _ => xs.length - (intOf i).toNat)
  case atStart => exact ⟨0, [], 0, Nat.zero_le _, rfl, rfl, by decide, by decide, hown, hb1, ⟨Dig.ok_nil _, rfl⟩⟩
  case round =>
    obtain ⟨k, zs, cc, hk, rfl, rfl, hc0, hc1, ho, hb, HS⟩ := hrel
    have hbs := hb.size
    have HL := Lib.hid (show zs.length = k by have := ho.1; simpa using this)
    clear hown hb1 hz1
    by_cases hkx : k < xs.length
    · obtain ⟨ad, rfl, hd, hx⟩ := h3 (by omega)
      have hcx := (hb.cell (p := ad.add k) (by rw [block_of_add]; exact hD _ hd)).trans (hx k hkx)
      obtain ⟨bx1, bx2⟩ : 0 ≤ Dig.gd xs k ∧ Dig.gd xs k < 4294967296 := Dig.ok_get ox (by decide) k
      clear hx h3 h1
      by_cases hky : k < ys.length
      · obtain ⟨ad', rfl, hd', hy⟩ := h3' (by omega)
        have hcy := (hb.cell (p := ad'.add k) (by rw [block_of_add]; exact hD' _ hd')).trans (hy k hky)
        obtain ⟨by1, by2⟩ : 0 ≤ Dig.gd ys k ∧ Dig.gd ys k < 4294967296 := Dig.ok_get oy (by decide) k
        clear hy h3'
        go_wp2_with (first | (go_at_call 254; refine (Sub32_calls _ _ _ _ ⟨by omega, by omega⟩ ⟨by omega, by omega⟩ ⟨by omega, by omega⟩).mono ?_; rintro e w' ⟨rfl, rfl⟩) | (at_builtin; refine wpList_app1 elem_u32 rfl _ _ rfl w.heap.size _ k _ rfl (ho.alloc _) ⟨_, 0, none⟩ 1 _ rfl (cell_new1 _ _ _) rfl (by omega) (by omega) (by simp; omega) ?_; intro v2 w2 ho2 hg2 ha2))
        have hbo := borrow_eq (Dig.gd xs k) (Dig.gd ys k) cc ⟨bx1, bx2⟩ ⟨by1, by2⟩ ⟨hc0, hc1⟩
        refine ⟨⟨k + 1, zs ++ [(Dig.gd xs k - Dig.gd ys k - cc) % 4294967296], _, by omega, by go_num, rfl, hbo.1, hbo.2.1, by simpa using ho2, below_app hb hbs ho hg2, ?_⟩, by simp [intOf]; omega⟩
        have := Dig.minus_step (b := B32) (x := Dig.gd xs k) (y := Dig.gd ys k) HS.out.1 HL.out HS.out.2 hbo.2.2.1 hbo.2.2.2
        rw [← Dig.gd_take_succ xs k hkx, ← Dig.gd_take_succ ys k hky] at this
        exact this
      · clear h3'
        go_wp2_with (first | (go_at_call 254; refine (Sub32_calls _ _ _ _ ⟨by omega, by omega⟩ ⟨by omega, by omega⟩ ⟨by omega, by omega⟩).mono ?_; rintro e w' ⟨rfl, rfl⟩) | (at_builtin; refine wpList_app1 elem_u32 rfl _ _ rfl w.heap.size _ k _ rfl (ho.alloc _) ⟨_, 0, none⟩ 1 _ rfl (cell_new1 _ _ _) rfl (by omega) (by omega) (by simp; omega) ?_; intro v2 w2 ho2 hg2 ha2))
        have hbo := borrow_eq (Dig.gd xs k) 0 cc ⟨bx1, bx2⟩ ⟨by decide, by decide⟩ ⟨hc0, hc1⟩
        refine ⟨⟨k + 1, zs ++ [(Dig.gd xs k - cc) % 4294967296], _, by omega, by go_num, rfl, hbo.1, hbo.2.1, by simpa using ho2, below_app hb hbs ho hg2, ?_⟩, by simp [intOf]; omega⟩
        have := Dig.minus_step (b := B32) (x := Dig.gd xs k) (y := 0) HS.out.1 HL.out HS.out.2 hbo.2.2.1 hbo.2.2.2
        rw [← Dig.gd_take_succ xs k hkx, Int.mul_zero, Int.add_zero, Int.sub_zero, Dig.val_take_of_le _ ys k (by omega), ← Dig.val_take_of_le _ ys (k + 1) (by omega)] at this
        exact this
    · obtain rfl : k = xs.length := by omega
      clear h3 h3'
      go_wp2
      go_ret
      have e := HS.out.2
      rw [List.take_length, Dig.val_take_of_le _ _ _ hle] at e
      have hlt := Dig.val_lt (b := B32) (by decide) HS.out.1
      rw [HL.out] at hlt
      have hz : cc = 0 := by
        rcases (show cc = 0 ∨ cc = 1 by omega) with h | h
        · exact h
        · subst h; omega
      subst hz
      exact ⟨_, zs, rfl, hb, (own_ints ho).2, HS.out.1, by omega⟩

theorem plus_calls (xs ys : List Int) (v u : Value) (D D' : Nat → Prop) (w : World) (h : Sl (Kind.int .u32) w D v xs) (h' : Sl (Kind.int .u32) w D' u ys)
    (hD : ∀ k, D k → k < w.heap.size) (hD' : ∀ k, D' k → k < w.heap.size)
    (ox : Dig.ok B32 xs) (oy : Dig.ok B32 ys) (hs : xs.length ≤ 1073741824) (hs' : ys.length ≤ 1073741824) :
    Calls Tryz.prog 231 #[v, u] w fun e w' => ∃ v' zs, e = .returned v' ∧ Below w.heap.size w w' ∧ Sl (Kind.int .u32) w' (fun k => w.heap.size ≤ k ∧ k < w'.heap.size) v' zs ∧
      Dig.ok B32 zs ∧ Dig.val B32 zs = Dig.val B32 xs + Dig.val B32 ys := by
  rcases Nat.lt_or_ge xs.length ys.length with hl | hl
  · exact plus_lt xs ys v u D D' w h h' hD hD' ox oy hl hs'
  · exact plus_ge xs ys v u D D' w h h' hD hD' ox oy hl hs

end Go.Proofs.YtoffbdlgmnpblaaGreat
