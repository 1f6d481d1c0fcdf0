/- Part 10 of 55: Ex9 Div3. -/
import Derived.Test.YtoffbdlgmnpblaaGreatJ09
import Derived.Lib.BitFns

/- Package exact: the division of digits by one digit; digits shifted. -/
namespace Go.Proofs.YtoffbdlgmnpblaaGreat
open Go.RowKit
set_option maxHeartbeats 2000000
set_option maxRecDepth 100000

structure ShortAt (xs zs : List Int) (y r : Int) (k : Nat) : Prop where
  ok : Dig.ok B32 zs
  val : Dig.val B32 (xs.drop k) = y * Dig.val B32 (zs.drop k) + r

theorem short_calls (xs : List Int) (v : Value) (D : Nat → Prop) (y : Int) (w : World) (hD : Lo D w) (h : Sl (Kind.int .u32) w D v xs) (ox : Dig.ok B32 xs) (hy0 : 0 < y) (hy1 : y < 4294967296) (hl : xs.length ≤ 1073741824) :
    Calls Tryz.prog 255 #[v, .int .u32 y] w fun e w' => ∃ v' r zs, e = .returned (.tuple #[v', .int .u32 r]) ∧ Below w.heap.size w w' ∧ Sl (Kind.int .u32) w' (nw w w') v' zs ∧ Dig.ok B32 zs ∧
      Dig.val B32 xs = y * Dig.val B32 zs + r ∧ 0 ≤ r ∧ r < y := by
  obtain ⟨A, c, rfl, h1, h2, h3⟩ := h.ints
  clear h
  unfold maxLen at h2
  go_enter Tryz.func255, Tryz.ntmps255
  go_wp2_with (refine wpList_mk1 elem_u32 rfl _ _ rfl (by intro cs h; cases h) w.heap.size _ _ (xs.length : Int) (xs.length : Int) rfl rfl (by omega) (by omega) (by omega) (by omega) (Nat.le_refl _) ?_; intro w1 hown hb1 hz1 _)
  go_loopw [7, 8] (fun rv iv wr => ∃ (k : Nat) (r : Int) (zs : List Int), k ≤ xs.length ∧ iv = .int .i64 ((k : Int) - 1) ∧ rv = .int .u32 r ∧ 0 ≤ r ∧ r < y ∧
      wr.ownsRow w.heap.size 199 1 (.slice (some ⟨w.heap.size, 0, none⟩) xs.length xs.length) xs.length (zs.map (.int .u32)) ∧ Below w.heap.size w wr ∧ ShortAt xs zs y r k) (fun _ iv _ => (intOf iv + 1).toNat)
  case atStart =>
    refine ⟨xs.length, 0, List.replicate xs.length 0, Nat.le_refl _, rfl, rfl, by omega, by omega, ?_, hb1, ⟨Dig.ok_replicate (by decide) _, by simp [Dig.val]⟩⟩
    rw [List.map_replicate]
    rw [Int.toNat_natCast] at hown
    exact hown
  case round =>
    obtain ⟨k, r, zs, hk, rfl, rfl, hr0, hr1, ho, hb, HR⟩ := hrel
    have hlz : zs.length = xs.length := by have := ho.1; simpa using this
    clear hown hb1 hz1
    by_cases hp : 0 < k
    · obtain ⟨k, rfl⟩ : ∃ m, k = m + 1 := ⟨k - 1, by omega⟩
      obtain ⟨ad, rfl, hd, hx⟩ := h3 (by omega)
      have hcx := (hb.cell (p := ad.add k) (by rw [block_of_add]; exact hD _ hd)).trans (hx k (by omega))
      obtain ⟨bx1, bx2⟩ : 0 ≤ Dig.gd xs k ∧ Dig.gd xs k < 4294967296 := Dig.ok_get ox (by decide) k
      have hkx : k < xs.length := by omega
      obtain ⟨hz1', hz2'⟩ := own_cell ho k (.int .u32 (Dig.gd zs k)) (by rw [List.getElem?_map, Dig.gd_lt (by omega)]; rfl)
      rw [show ((k + 1 : Nat) : Int) - 1 = (k : Int) from by omega]
      have HS := Lib.hid (Dig.short_step (b := B32) (by decide) HR.ok ox hkx (by omega) ⟨hr0, hr1⟩ rfl HR.val)
      clear hx h3
      have HZ := Lib.hid hlz
      clear hlz
      go_wp2_with (go_at_call 263; refine (Div32_calls _ _ _ _ ⟨by omega, by omega⟩ ⟨by omega, by omega⟩ (by omega)).mono ?_; rintro e w2 ⟨rfl, n2, rfl⟩)
      obtain ⟨s1, s2, s3, s4⟩ := HS.out
      refine ⟨⟨k, (r * 4294967296 + Dig.gd xs k) % y, zs.set k ((r * 4294967296 + Dig.gd xs k) / y), by omega, rfl, rfl, s3, s4, ?_, (below_drewN hb n2).setCell (Nat.le_refl _) _, ⟨s1, s2⟩⟩, by simp [intOf]⟩
      rw [List.map_set]
      exact own_set (w := wr.drewN n2) ho k hkx _
    · obtain rfl : k = 0 := by omega
      clear h3
      go_wp2
      go_ret2
      have hv := HR.val
      simp only [List.drop_zero] at hv
      exact ⟨_, _, zs, rfl, hb, (own_ints ho).2, HR.ok, hv, hr0, hr1⟩

structure ShiftAt (xs zs : List Int) (n i : Nat) : Prop where
  ok : Dig.ok B32 zs
  val : Dig.val B32 zs = 2 ^ n * Dig.val B32 (xs.take i)
  zero : ∀ j, i < j → Dig.gd zs j = 0
  low : Dig.gd zs i < 2 ^ n

theorem shifted_calls (xs : List Int) (v : Value) (D : Nat → Prop) (n : Nat) (w : World) (hD : Lo D w) (h : Sl (Kind.int .u32) w D v xs) (ox : Dig.ok B32 xs) (hn : n < 32) (hl : xs.length ≤ 1073741824) :
    Calls Tryz.prog 265 #[v, .int .i64 n] w fun e w' => ∃ g zs, e = .returned (.slice (some ⟨g, 0, none⟩) (xs.length + 1) (xs.length + 1)) ∧ Below w.heap.size w w' ∧ g = w.heap.size ∧
      w'.ownsRow w.heap.size 199 1 (.slice (some ⟨g, 0, none⟩) (xs.length + 1) (xs.length + 1)) (xs.length + 1) (zs.map (.int .u32)) ∧ Dig.ok B32 zs ∧ Dig.val B32 zs = 2 ^ n * Dig.val B32 xs := by
  obtain ⟨A, c, rfl, h1, h2, h3⟩ := h.ints
  clear h
  unfold maxLen at h2
  go_enter Tryz.func265, Tryz.ntmps265
  go_wp2_with (refine wpList_mk1 elem_u32 rfl _ _ rfl (by intro cs h; cases h) w.heap.size _ _ ((xs.length : Int) + 1) ((xs.length : Int) + 1) rfl rfl (by omega) (by omega) (by omega) (by omega) (Nat.le_refl _) ?_; intro w1 hown hb1 hz1 _)
  go_loopw [15] (fun iv wr => ∃ (i : Nat) (zs : List Int), i ≤ xs.length ∧ iv = .int .i64 i ∧
      wr.ownsRow w.heap.size 199 1 (.slice (some ⟨w.heap.size, 0, none⟩) (xs.length + 1) (xs.length + 1)) (xs.length + 1) (zs.map (.int .u32)) ∧ Below w.heap.size w wr ∧ ShiftAt xs zs n i) (fun iv _ => xs.length - (intOf iv).toNat)
  case atStart =>
    refine ⟨0, List.replicate (xs.length + 1) 0, Nat.zero_le _, rfl, ?_, hb1, ⟨Dig.ok_replicate (by decide) _, by rw [Dig.val_replicate]; simp [Dig.val], fun j _ => Dig.gd_replicate _ _, by rw [Dig.gd_replicate]; exact Int.pow_pos (by decide)⟩⟩
    rw [List.map_replicate]
    have e : ((xs.length : Int) + 1).toNat = xs.length + 1 := by omega
    rw [e] at hown
    exact hown
  case round =>
    obtain ⟨i, zs, hi, rfl, ho, hb, HR⟩ := hrel
    have hlz : zs.length = xs.length + 1 := by have := ho.1; simpa using this
    clear hown hb1 hz1
    by_cases hix : i < xs.length
    · obtain ⟨ad, rfl, hd, hx⟩ := h3 (by omega)
      have hcx := (hb.cell (p := ad.add i) (by rw [block_of_add]; exact hD _ hd)).trans (hx i hix)
      obtain ⟨bx1, bx2⟩ : 0 ≤ Dig.gd xs i ∧ Dig.gd xs i < 4294967296 := Dig.ok_get ox (by decide) i
      obtain ⟨hz1', hz2'⟩ := own_cell ho i (.int .u32 (Dig.gd zs i)) (by rw [List.getElem?_map, Dig.gd_lt (by omega)]; rfl)
      clear hx h3
      have HZ := Lib.hid hlz
      clear hlz
      obtain ⟨hz3', hz4'⟩ := own_cell ho (i + 1) (.int .u32 (Dig.gd zs (i + 1))) (by rw [List.getElem?_map, Dig.gd_lt (by have := HZ.out; omega)]; rfl)
      obtain ⟨s1, s2, s3, s4, s5, s6⟩ := Dig.shift_step hn HR.ok ox hix (by have := HZ.out; omega) HR.val HR.zero HR.low
      have ht0 : 0 ≤ Dig.gd xs i * 2 ^ n := Int.mul_nonneg bx1 (Int.le_of_lt (Int.pow_pos (by decide)))
      have ht1 : Dig.gd xs i * 2 ^ n ≤ 9223372036854775807 := by
        have h31 : (2 : Int) ^ 31 = 2147483648 := by decide
        have hpp : (2 : Int) ^ n ≤ 2 ^ 31 := Dig.pow_mono (by decide) (by omega)
        have h1 : Dig.gd xs i * 2 ^ n ≤ Dig.gd xs i * 2147483648 := Int.mul_le_mul_of_nonneg_left (by omega) bx1
        omega
      have hdiv : Dig.gd xs i * 2 ^ n / 4294967296 < 4294967296 := s2
      have HS := Lib.hid (And.intro s1 (And.intro s3 (And.intro s4 (And.intro s5 s6))))
      clear s1 s3 s4 s5 s6 s2
      go_wp2
      obtain ⟨s1, s3, s4, s5, s6⟩ := HS.out
      rw [s1]
      refine ⟨⟨i + 1, (zs.set i (Dig.gd zs i + Dig.gd xs i * 2 ^ n % 4294967296)).set (i + 1) (Dig.gd xs i * 2 ^ n / 4294967296), by omega, by go_num, ?_, (hb.setCell (Nat.le_refl _) _).setCell (Nat.le_refl _) _, ⟨s3, s4, s5, s6⟩⟩, by simp [intOf]; omega⟩
      rw [List.map_set, List.map_set]
      exact own_set (own_set ho i (by omega) _) (i + 1) (by omega) _
    · obtain rfl : i = xs.length := by omega
      clear h3
      go_wp2
      go_ret
      have hv := HR.val
      rw [List.take_length] at hv
      exact ⟨_, zs, rfl, hb, rfl, ho, HR.ok, hv⟩

end Go.Proofs.YtoffbdlgmnpblaaGreat

/- Plain laws on digits: long division, round by round. -/
namespace Go.Proofs.YtoffbdlgmnpblaaGreat.Dig

/-- leading zeros -/
theorem bitLen_bounds {x : Nat} (h0 : x ≠ 0) (h : x < 2 ^ 32) : 1 ≤ Go.Lib.bitLen x ∧ Go.Lib.bitLen x ≤ 32 ∧ 2 ^ (Go.Lib.bitLen x - 1) ≤ x ∧ x < 2 ^ Go.Lib.bitLen x := by
  have h64 : x < 2 ^ 64 := Nat.lt_of_lt_of_le h (Nat.pow_le_pow_right (by decide) (by decide))
  have h1 : 1 ≤ Go.Lib.bitLen x := by rw [Go.Lib.bitLen_half x h0 h64]; omega
  have h2 := Go.Lib.bitLen_le x 32 (by decide) h
  refine ⟨h1, h2, ?_, ?_⟩
  · rcases Nat.lt_or_ge x (2 ^ (Go.Lib.bitLen x - 1)) with hl | hl
    · have := Go.Lib.bitLen_le x (Go.Lib.bitLen x - 1) (by omega) hl
      omega
    · exact hl
  · rcases Nat.lt_or_ge x (2 ^ Go.Lib.bitLen x) with hl | hl
    · exact hl
    · have e := Go.Lib.bitLen_shift _ x hl h64
      have hq : x / 2 ^ Go.Lib.bitLen x ≠ 0 := by
        have := Nat.div_pos hl (Nat.pow_pos (by decide))
        omega
      have hq2 : x / 2 ^ Go.Lib.bitLen x < 2 ^ 64 := Nat.lt_of_le_of_lt (Nat.div_le_self _ _) h64
      rw [Go.Lib.bitLen_half _ hq hq2] at e
      omega
theorem clz_bounds {y : Int} (h0 : 0 < y) (h : y < 4294967296) : Go.Lib.bitLen y.toNat ≤ 32 ∧ 32 - Go.Lib.bitLen y.toNat < 32 ∧ 2147483648 ≤ y * 2 ^ (32 - Go.Lib.bitLen y.toNat) ∧ (y + 1) * 2 ^ (32 - Go.Lib.bitLen y.toNat) ≤ 4294967296 := by
  obtain ⟨x, rfl⟩ : ∃ x : Nat, y = (x : Int) := ⟨y.toNat, by omega⟩
  rw [Int.toNat_natCast]
  obtain ⟨h1, h2, h3, h4⟩ := bitLen_bounds (x := x) (by omega) (by omega)
  generalize Go.Lib.bitLen x = l at *
  refine ⟨h2, by omega, ?_, ?_⟩
  · have e : (2 : Int) ^ (l - 1) * 2 ^ (32 - l) = 2147483648 := by
      rw [← Int.pow_add, show l - 1 + (32 - l) = 31 by omega]; decide
    have h3' : (2 : Int) ^ (l - 1) ≤ (x : Int) := by
      have : ((2 ^ (l - 1) : Nat) : Int) ≤ (x : Int) := by omega
      simpa using this
    have := Int.mul_le_mul_of_nonneg_right h3' (Int.le_of_lt (pow_pos' (b := 2) (by decide) (32 - l)))
    omega
  · have e : (2 : Int) ^ l * 2 ^ (32 - l) = 4294967296 := by
      rw [← Int.pow_add, show l + (32 - l) = 32 by omega]; decide
    have h4' : (x : Int) + 1 ≤ (2 : Int) ^ l := by
      have : ((x + 1 : Nat) : Int) ≤ ((2 ^ l : Nat) : Int) := by omega
      simpa using this
    have := Int.mul_le_mul_of_nonneg_right h4' (Int.le_of_lt (pow_pos' (b := 2) (by decide) (32 - l)))
    omega

/-- the last digit and the rest -/
theorem val_last {b : Int} {l : List Int} {m : Nat} (hl : l.length = m + 1) : val b l = val b (l.take m) + b ^ m * gd l m := by
  have := gd_take_succ (b := b) l m (by omega)
  rwa [List.take_of_length_le (by omega)] at this
theorem val_take_lt {b : Int} (hb : 0 < b) {l : List Int} (ho : ok b l) (m : Nat) : 0 ≤ val b (l.take m) ∧ val b (l.take m) < b ^ m := by
  refine ⟨val_nonneg hb (ok_take ho m), ?_⟩
  have h1 := val_lt hb (ok_take ho m)
  have h2 := pow_mono (b := b) (by omega) (show (l.take m).length ≤ m from List.length_take_le _ _)
  omega

/-- the divisor, made great: as many digits as before, the last one at least half of the base -/
theorem norm_div {ys vs : List Int} {n : Nat} (hl : 1 ≤ ys.length) (oy : ok 4294967296 ys) (ov : ok 4294967296 vs) (tv : trimmed vs) (hv : val 4294967296 vs = 2 ^ n * val 4294967296 ys)
    (h1 : 2147483648 ≤ gd ys (ys.length - 1) * 2 ^ n) (h2 : (gd ys (ys.length - 1) + 1) * 2 ^ n ≤ 4294967296) : vs.length = ys.length ∧ 2147483648 ≤ gd vs (ys.length - 1) := by
  obtain ⟨m, hm⟩ : ∃ m, ys.length = m + 1 := ⟨ys.length - 1, by omega⟩
  rw [hm] at h1 h2 ⊢
  rw [Nat.add_sub_cancel] at h1 h2 ⊢
  have hp : (0 : Int) < 2 ^ n := Int.pow_pos (by decide)
  have hB := pow_pos' (b := 4294967296) (by decide) m
  have e := val_last (b := 4294967296) hm
  obtain ⟨g1, g2⟩ := val_take_lt (b := 4294967296) (by decide) oy m
  have lo : 2147483648 * 4294967296 ^ m ≤ val 4294967296 vs := by
    rw [hv, e]
    have a1 : 2147483648 * 4294967296 ^ m ≤ gd ys m * 2 ^ n * 4294967296 ^ m := Int.mul_le_mul_of_nonneg_right h1 (Int.le_of_lt hB)
    have a2 : 0 ≤ 2 ^ n * val 4294967296 (ys.take m) := Int.mul_nonneg (Int.le_of_lt hp) g1
    grind
  have hi : val 4294967296 vs < 4294967296 * 4294967296 ^ m := by
    rw [hv, e]
    have a1 : (gd ys m + 1) * 2 ^ n * 4294967296 ^ m ≤ 4294967296 * 4294967296 ^ m := Int.mul_le_mul_of_nonneg_right h2 (Int.le_of_lt hB)
    have a2 : 2 ^ n * val 4294967296 (ys.take m) < 2 ^ n * 4294967296 ^ m := Int.mul_lt_mul_of_pos_left g2 hp
    grind
  have hne : vs ≠ [] := by
    rintro rfl
    simp only [val] at lo
    omega
  have hlen : vs.length = m + 1 := by
    have u := val_lt (b := 4294967296) (by decide) ov
    have l := val_ge (b := 4294967296) (by decide) ov tv hne
    have hpos : 1 ≤ vs.length := by cases vs with | nil => exact absurd rfl hne | cons => simp
    rcases Nat.lt_trichotomy vs.length (m + 1) with h | h | h
    · have := pow_mono (b := 4294967296) (by decide) (show vs.length ≤ m by omega)
      omega
    · exact h
    · have := pow_mono (b := 4294967296) (by decide) (show m + 1 ≤ vs.length - 1 by omega)
      rw [Int.pow_succ] at this
      omega
  refine ⟨hlen, ?_⟩
  have ev := val_last (b := 4294967296) hlen
  obtain ⟨g3, g4⟩ := val_take_lt (b := 4294967296) (by decide) ov m
  rcases Int.lt_or_le (gd vs m) 2147483648 with h | h
  · exfalso
    have : 4294967296 ^ m * gd vs m ≤ 4294967296 ^ m * 2147483647 := Int.mul_le_mul_of_nonneg_left (by omega) (Int.le_of_lt hB)
    omega
  · exact h

/-- digits that are 0 from a place on -/
theorem val_lt_of_zero {b : Int} (hb : 0 < b) {l : List Int} (ho : ok b l) (n : Nat) (h : ∀ j, n ≤ j → gd l j = 0) : val b l = val b (l.take n) ∧ val b l < b ^ n := by
  have e : val b l = val b (l.take n) := by
    rcases Nat.lt_or_ge n l.length with hl | hl
    · rw [val_take_drop b l n (by omega), val_zero_of_all b (l.drop n) (fun j => by rw [getD_drop']; exact h (n + j) (by omega))]
      simp
    · rw [List.take_of_length_le hl]
  exact ⟨e, by rw [e]; exact (val_take_lt hb ho n).2⟩
theorem zero_of_val_lt {b : Int} (hb : 1 < b) {l : List Int} (ho : ok b l) (n : Nat) (h : val b l < b ^ n) (j : Nat) (hj : n ≤ j) : gd l j = 0 := by
  rcases Nat.lt_or_ge j l.length with hl | hl
  · have hg := ok_get ho (by omega) j
    rw [← gd_int] at hg
    rcases Int.lt_or_le 0 (gd l j) with hp | hp
    · exfalso
      have e1 := val_take_drop b l j (by omega)
      have e2 := val_drop b l j hl
      have h1 := val_nonneg (b := b) (by omega) (ok_take ho j)
      have h2 := val_nonneg (b := b) (by omega) (ok_drop ho (j + 1))
      have h3 : 1 ≤ val b (l.drop j) := by
        rw [e2, ← gd_int]
        have := Int.mul_nonneg (show 0 ≤ b by omega) h2
        omega
      have h4 := pow_pos' (b := b) (by omega) j
      have h5 : b ^ j * 1 ≤ b ^ j * val b (l.drop j) := Int.mul_le_mul_of_nonneg_left h3 (Int.le_of_lt h4)
      have h6 := pow_mono (b := b) (by omega) hj
      omega
    · omega
  · exact gd_ge hl
theorem gd_drop (l : List Int) (i j : Nat) : gd (l.drop i) j = gd l (i + j) := getD_drop' l i j

/-- the three last digits of a window -/
theorem top3 {b : Int} (hb : 0 < b) {l : List Int} (ho : ok b l) {m : Nat} (hm : 2 ≤ m) (h : ∀ j, m < j → gd l j = 0) :
    val b l = ((gd l m * b + gd l (m - 1)) * b + gd l (m - 2)) * b ^ (m - 2) + val b (l.take (m - 2)) := by
  obtain ⟨k, rfl⟩ : ∃ k, m = k + 2 := ⟨m - 2, by omega⟩
  rw [show k + 2 - 1 = k + 1 by omega, show k + 2 - 2 = k by omega]
  have e := (val_lt_of_zero hb ho (k + 3) (fun j hj => h j (by omega))).1
  have st : ∀ i, val b (l.take (i + 1)) = val b (l.take i) + b ^ i * gd l i := by
    intro i
    rcases Nat.lt_or_ge i l.length with hl | hl
    · exact gd_take_succ l i hl
    · rw [List.take_of_length_le (by omega), List.take_of_length_le hl, gd_ge hl]
      show _ = _ + b ^ i * (0 : Int)
      simp
  rw [e, st (k + 2), st (k + 1), st k, Int.pow_succ, Int.pow_succ]
  grind
theorem top2 {b : Int} {l : List Int} {m : Nat} (hl : l.length = m) (hm : 2 ≤ m) : val b l = (gd l (m - 1) * b + gd l (m - 2)) * b ^ (m - 2) + val b (l.take (m - 2)) := by
  obtain ⟨k, rfl⟩ : ∃ k, m = k + 2 := ⟨m - 2, by omega⟩
  rw [show k + 2 - 1 = k + 1 by omega, show k + 2 - 2 = k by omega]
  have e := gd_take_succ (b := b) l (k + 1) (by omega)
  have e2 := gd_take_succ (b := b) l k (by omega)
  rw [List.take_of_length_le (by omega)] at e
  rw [e, e2, Int.pow_succ]
  grind

/-- one place of 'less q times the divisor' -/
theorem ms_step {b : Int} (_hb : 0 < b) {zs vs : List Int} {k i : Nat} {q cy bo p s d bo' X : Int} (ho : ok b zs) (hk : k + i < zs.length) (hv : i < vs.length)
    (hp : p = q * gd vs i + cy) (hs : s = gd zs (k + i) - p % b - bo) (hd : 0 ≤ d ∧ d < b) (hds : d - b * bo' = s)
    (h : val b zs - b ^ (k + i) * (cy + bo) = X - b ^ k * (q * val b (vs.take i))) :
    ok b (zs.set (k + i) d) ∧ val b (zs.set (k + i) d) - b ^ (k + (i + 1)) * (p / b + bo') = X - b ^ k * (q * val b (vs.take (i + 1))) := by
  refine ⟨ok_set ho _ hd, ?_⟩
  rw [val_set b _ zs (k + i) hk, gd_take_succ vs i hv, ← gd_int]
  have e := Int.mul_ediv_add_emod p b
  have e3 : b ^ (k + (i + 1)) = b ^ (k + i) * b := by rw [← Nat.add_assoc, Int.pow_succ]
  have e4 : b ^ (k + i) = b ^ k * b ^ i := Int.pow_add _ _ _
  have e2 : b ^ (k + i) * (d - b * bo') = b ^ (k + i) * s := by rw [hds]
  have e5 : b ^ (k + i) * (b * (p / b) + p % b) = b ^ (k + i) * p := by rw [e]
  rw [e3]
  rw [hs] at e2
  rw [hp] at e5 e2 ⊢
  grind
/-- the place behind the divisor's last one -/
theorem ms_last {b : Int} {zs vs : List Int} {k m : Nat} {q cy bo d bo' X : Int} (ho : ok b zs) (hk : k + m < zs.length) (hm : vs.length = m)
    (hd : 0 ≤ d ∧ d < b) (hds : d - b * bo' = gd zs (k + m) - cy - bo)
    (h : val b zs - b ^ (k + m) * (cy + bo) = X - b ^ k * (q * val b (vs.take m))) :
    ok b (zs.set (k + m) d) ∧ val b (zs.set (k + m) d) - b ^ (k + (m + 1)) * bo' = X - b ^ k * (q * val b vs) := by
  refine ⟨ok_set ho _ hd, ?_⟩
  rw [List.take_of_length_le (by omega)] at h
  rw [val_set b _ zs (k + m) hk, ← gd_int]
  have e3 : b ^ (k + (m + 1)) = b ^ (k + m) * b := by rw [← Nat.add_assoc, Int.pow_succ]
  have e2 : b ^ (k + m) * (d - b * bo') = b ^ (k + m) * (gd zs (k + m) - cy - bo) := by rw [hds]
  rw [e3]
  grind
/-- one place of the divisor added back -/
theorem ab_step {b : Int} (hb : 0 < b) {zs vs : List Int} {k i : Nat} {c t X : Int} (ho : ok b zs) (hk : k + i < zs.length) (hv : i < vs.length) (ht : t = gd zs (k + i) + gd vs i + c)
    (h : val b zs + b ^ (k + i) * c = X + b ^ k * val b (vs.take i)) :
    ok b (zs.set (k + i) (t % b)) ∧ val b (zs.set (k + i) (t % b)) + b ^ (k + (i + 1)) * (t / b) = X + b ^ k * val b (vs.take (i + 1)) := by
  refine ⟨ok_set ho _ ⟨Int.emod_nonneg _ (by omega), Int.emod_lt_of_pos _ hb⟩, ?_⟩
  rw [val_set b _ zs (k + i) hk, gd_take_succ vs i hv, ← gd_int]
  have e := Int.mul_ediv_add_emod t b
  have e3 : b ^ (k + (i + 1)) = b ^ (k + i) * b := by rw [← Nat.add_assoc, Int.pow_succ]
  have e4 : b ^ (k + i) = b ^ k * b ^ i := Int.pow_add _ _ _
  have e5 : b ^ (k + i) * (b * (t / b) + t % b) = b ^ (k + i) * t := by rw [e]
  rw [e3]
  rw [ht] at e5 ⊢
  grind
theorem ab_last {b : Int} (hb : 0 < b) {zs vs : List Int} {k m : Nat} {c t X : Int} (ho : ok b zs) (hk : k + m < zs.length) (hm : vs.length = m) (ht : t = gd zs (k + m) + c)
    (h : val b zs + b ^ (k + m) * c = X + b ^ k * val b (vs.take m)) :
    ok b (zs.set (k + m) (t % b)) ∧ val b (zs.set (k + m) (t % b)) + b ^ (k + (m + 1)) * (t / b) = X + b ^ k * val b vs := by
  refine ⟨ok_set ho _ ⟨Int.emod_nonneg _ (by omega), Int.emod_lt_of_pos _ hb⟩, ?_⟩
  rw [List.take_of_length_le (by omega)] at h
  rw [val_set b _ zs (k + m) hk, ← gd_int]
  have e := Int.mul_ediv_add_emod t b
  have e3 : b ^ (k + (m + 1)) = b ^ (k + m) * b := by rw [← Nat.add_assoc, Int.pow_succ]
  have e5 : b ^ (k + m) * (b * (t / b) + t % b) = b ^ (k + m) * t := by rw [e]
  rw [e3]
  rw [ht] at e5 ⊢
  grind

/-- two numbers with lower parts below b^k: the upper parts -/
theorem upper_eq {P a c x y : Int} (ha : 0 ≤ a ∧ a < P) (hc : 0 ≤ c ∧ c < P) (h : a + P * x = c + P * y) : x = y := by
  rcases Int.lt_trichotomy x y with g | g | g
  · have : P * (x + 1) ≤ P * y := Int.mul_le_mul_of_nonneg_left (by omega) (by omega)
    have e : P * (x + 1) = P * x + P := by grind
    omega
  · exact g
  · have : P * (y + 1) ≤ P * x := Int.mul_le_mul_of_nonneg_left (by omega) (by omega)
    have e : P * (y + 1) = P * y + P := by grind
    omega
/-- what 'less' makes of the window -/
theorem window_eq {b : Int} (hb : 0 < b) {zs zs' : List Int} {k : Nat} {Y : Int} (ho : ok b zs) (ho' : ok b zs') (hk : k ≤ zs.length) (hk' : k ≤ zs'.length) (h : val b zs' = val b zs + b ^ k * Y) :
    val b (zs'.drop k) = val b (zs.drop k) + Y := by
  have e1 := val_take_drop b zs k hk
  have e2 := val_take_drop b zs' k hk'
  refine upper_eq (val_take_lt hb ho' k) (val_take_lt hb ho k) ?_
  rw [← e2, h, e1]
  grind

end Go.Proofs.YtoffbdlgmnpblaaGreat.Dig
