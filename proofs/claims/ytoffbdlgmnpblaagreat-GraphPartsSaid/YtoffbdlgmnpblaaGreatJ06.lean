/- Part 6: Div3 Div4 Div5 Div6. -/
import Derived.Test.YtoffbdlgmnpblaaGreatJ05
import Derived.Lib.BitFns

/- Plain laws on digits: long division, round by round. -/
namespace Go.Proofs.YtoffbdlgmnpblaaGreat.Dig

/-- leading zeros -/
theorem bitLen_bounds {x : Nat} (h0 : x ≠ 0) (h : x < 2 ^ 32) : 1 ≤ Go.Lib.bitLen x ∧ Go.Lib.bitLen x ≤ 32 ∧ 2 ^ (Go.Lib.bitLen x - 1) ≤ x ∧ x < 2 ^ Go.Lib.bitLen x := by
  have h64 : x < 2 ^ 64 := Nat.lt_of_lt_of_le h (Nat.pow_le_pow_right (by decide) (by decide))
  have h1 : 1 ≤ Go.Lib.bitLen x := by rw [Go.Lib.bitLen_half x h0 h64]; omega
  have h2 := Go.Lib.bitLen_le x 32 (by decide) h
  refine ⟨h1, h2, ?_, ?_⟩
  · rcases Nat.lt_or_ge x (2 ^ (Go.Lib.bitLen x - 1)) with hl | hl
    · have := Go.Lib.bitLen_le x (Go.Lib.bitLen x - 1) (by omega) hl
      omega
    · exact hl
  · rcases Nat.lt_or_ge x (2 ^ Go.Lib.bitLen x) with hl | hl
    · exact hl
    · have e := Go.Lib.bitLen_shift _ x hl h64
      have hq : x / 2 ^ Go.Lib.bitLen x ≠ 0 := by
        have := Nat.div_pos hl (Nat.pow_pos (by decide))
        omega
      have hq2 : x / 2 ^ Go.Lib.bitLen x < 2 ^ 64 := Nat.lt_of_le_of_lt (Nat.div_le_self _ _) h64
      rw [Go.Lib.bitLen_half _ hq hq2] at e
      omega
theorem clz_bounds {y : Int} (h0 : 0 < y) (h : y < 4294967296) : Go.Lib.bitLen y.toNat ≤ 32 ∧ 32 - Go.Lib.bitLen y.toNat < 32 ∧ 2147483648 ≤ y * 2 ^ (32 - Go.Lib.bitLen y.toNat) ∧ (y + 1) * 2 ^ (32 - Go.Lib.bitLen y.toNat) ≤ 4294967296 := by
  obtain ⟨x, rfl⟩ : ∃ x : Nat, y = (x : Int) := ⟨y.toNat, by omega⟩
  rw [Int.toNat_natCast]
  obtain ⟨h1, h2, h3, h4⟩ := bitLen_bounds (x := x) (by omega) (by omega)
  generalize Go.Lib.bitLen x = l at *
  refine ⟨h2, by omega, ?_, ?_⟩
  · have e : (2 : Int) ^ (l - 1) * 2 ^ (32 - l) = 2147483648 := by
      rw [← Int.pow_add, show l - 1 + (32 - l) = 31 by omega]; decide
    have h3' : (2 : Int) ^ (l - 1) ≤ (x : Int) := by
      have : ((2 ^ (l - 1) : Nat) : Int) ≤ (x : Int) := by omega
      simpa using this
    have := Int.mul_le_mul_of_nonneg_right h3' (Int.le_of_lt (pow_pos' (b := 2) (by decide) (32 - l)))
    omega
  · have e : (2 : Int) ^ l * 2 ^ (32 - l) = 4294967296 := by
      rw [← Int.pow_add, show l + (32 - l) = 32 by omega]; decide
    have h4' : (x : Int) + 1 ≤ (2 : Int) ^ l := by
      have : ((x + 1 : Nat) : Int) ≤ ((2 ^ l : Nat) : Int) := by omega
      simpa using this
    have := Int.mul_le_mul_of_nonneg_right h4' (Int.le_of_lt (pow_pos' (b := 2) (by decide) (32 - l)))
    omega

/-- the last digit and the rest -/
theorem val_last {b : Int} {l : List Int} {m : Nat} (hl : l.length = m + 1) : val b l = val b (l.take m) + b ^ m * gd l m := by
  have := gd_take_succ (b := b) l m (by omega)
  rwa [List.take_of_length_le (by omega)] at this
theorem val_take_lt {b : Int} (hb : 0 < b) {l : List Int} (ho : ok b l) (m : Nat) : 0 ≤ val b (l.take m) ∧ val b (l.take m) < b ^ m := by
  refine ⟨val_nonneg hb (ok_take ho m), ?_⟩
  have h1 := val_lt hb (ok_take ho m)
  have h2 := pow_mono (b := b) (by omega) (show (l.take m).length ≤ m from List.length_take_le _ _)
  omega

/-- the divisor, made great: as many digits as before, the last one at least half of the base -/
theorem norm_div {ys vs : List Int} {n : Nat} (hl : 1 ≤ ys.length) (oy : ok 4294967296 ys) (ov : ok 4294967296 vs) (tv : trimmed vs) (hv : val 4294967296 vs = 2 ^ n * val 4294967296 ys)
    (h1 : 2147483648 ≤ gd ys (ys.length - 1) * 2 ^ n) (h2 : (gd ys (ys.length - 1) + 1) * 2 ^ n ≤ 4294967296) : vs.length = ys.length ∧ 2147483648 ≤ gd vs (ys.length - 1) := by
  obtain ⟨m, hm⟩ : ∃ m, ys.length = m + 1 := ⟨ys.length - 1, by omega⟩
  rw [hm] at h1 h2 ⊢
  rw [Nat.add_sub_cancel] at h1 h2 ⊢
  have hp : (0 : Int) < 2 ^ n := Int.pow_pos (by decide)
  have hB := pow_pos' (b := 4294967296) (by decide) m
  have e := val_last (b := 4294967296) hm
  obtain ⟨g1, g2⟩ := val_take_lt (b := 4294967296) (by decide) oy m
  have lo : 2147483648 * 4294967296 ^ m ≤ val 4294967296 vs := by
    rw [hv, e]
    have a1 : 2147483648 * 4294967296 ^ m ≤ gd ys m * 2 ^ n * 4294967296 ^ m := Int.mul_le_mul_of_nonneg_right h1 (Int.le_of_lt hB)
    have a2 : 0 ≤ 2 ^ n * val 4294967296 (ys.take m) := Int.mul_nonneg (Int.le_of_lt hp) g1
    grind
  have hi : val 4294967296 vs < 4294967296 * 4294967296 ^ m := by
    rw [hv, e]
    have a1 : (gd ys m + 1) * 2 ^ n * 4294967296 ^ m ≤ 4294967296 * 4294967296 ^ m := Int.mul_le_mul_of_nonneg_right h2 (Int.le_of_lt hB)
    have a2 : 2 ^ n * val 4294967296 (ys.take m) < 2 ^ n * 4294967296 ^ m := Int.mul_lt_mul_of_pos_left g2 hp
    grind
  have hne : vs ≠ [] := by
    rintro rfl
    simp only [val] at lo
    omega
  have hlen : vs.length = m + 1 := by
    have u := val_lt (b := 4294967296) (by decide) ov
    have l := val_ge (b := 4294967296) (by decide) ov tv hne
    have hpos : 1 ≤ vs.length := by cases vs with | nil => exact absurd rfl hne | cons => simp
    rcases Nat.lt_trichotomy vs.length (m + 1) with h | h | h
    · have := pow_mono (b := 4294967296) (by decide) (show vs.length ≤ m by omega)
      omega
    · exact h
    · have := pow_mono (b := 4294967296) (by decide) (show m + 1 ≤ vs.length - 1 by omega)
      rw [Int.pow_succ] at this
      omega
  refine ⟨hlen, ?_⟩
  have ev := val_last (b := 4294967296) hlen
  obtain ⟨g3, g4⟩ := val_take_lt (b := 4294967296) (by decide) ov m
  rcases Int.lt_or_le (gd vs m) 2147483648 with h | h
  · exfalso
    have : 4294967296 ^ m * gd vs m ≤ 4294967296 ^ m * 2147483647 := Int.mul_le_mul_of_nonneg_left (by omega) (Int.le_of_lt hB)
    omega
  · exact h

/-- digits that are 0 from a place on -/
theorem val_lt_of_zero {b : Int} (hb : 0 < b) {l : List Int} (ho : ok b l) (n : Nat) (h : ∀ j, n ≤ j → gd l j = 0) : val b l = val b (l.take n) ∧ val b l < b ^ n := by
  have e : val b l = val b (l.take n) := by
    rcases Nat.lt_or_ge n l.length with hl | hl
    · rw [val_take_drop b l n (by omega), val_zero_of_all b (l.drop n) (fun j => by rw [getD_drop']; exact h (n + j) (by omega))]
      simp
    · rw [List.take_of_length_le hl]
  exact ⟨e, by rw [e]; exact (val_take_lt hb ho n).2⟩
theorem zero_of_val_lt {b : Int} (hb : 1 < b) {l : List Int} (ho : ok b l) (n : Nat) (h : val b l < b ^ n) (j : Nat) (hj : n ≤ j) : gd l j = 0 := by
  rcases Nat.lt_or_ge j l.length with hl | hl
  · have hg := ok_get ho (by omega) j
    rw [← gd_int] at hg
    rcases Int.lt_or_le 0 (gd l j) with hp | hp
    · exfalso
      have e1 := val_take_drop b l j (by omega)
      have e2 := val_drop b l j hl
      have h1 := val_nonneg (b := b) (by omega) (ok_take ho j)
      have h2 := val_nonneg (b := b) (by omega) (ok_drop ho (j + 1))
      have h3 : 1 ≤ val b (l.drop j) := by
        rw [e2, ← gd_int]
        have := Int.mul_nonneg (show 0 ≤ b by omega) h2
        omega
      have h4 := pow_pos' (b := b) (by omega) j
      have h5 : b ^ j * 1 ≤ b ^ j * val b (l.drop j) := Int.mul_le_mul_of_nonneg_left h3 (Int.le_of_lt h4)
      have h6 := pow_mono (b := b) (by omega) hj
      omega
    · omega
  · exact gd_ge hl
theorem gd_drop (l : List Int) (i j : Nat) : gd (l.drop i) j = gd l (i + j) := getD_drop' l i j

/-- the three last digits of a window -/
theorem top3 {b : Int} (hb : 0 < b) {l : List Int} (ho : ok b l) {m : Nat} (hm : 2 ≤ m) (h : ∀ j, m < j → gd l j = 0) :
    val b l = ((gd l m * b + gd l (m - 1)) * b + gd l (m - 2)) * b ^ (m - 2) + val b (l.take (m - 2)) := by
  obtain ⟨k, rfl⟩ : ∃ k, m = k + 2 := ⟨m - 2, by omega⟩
  rw [show k + 2 - 1 = k + 1 by omega, show k + 2 - 2 = k by omega]
  have e := (val_lt_of_zero hb ho (k + 3) (fun j hj => h j (by omega))).1
  have st : ∀ i, val b (l.take (i + 1)) = val b (l.take i) + b ^ i * gd l i := by
    intro i
    rcases Nat.lt_or_ge i l.length with hl | hl
    · exact gd_take_succ l i hl
    · rw [List.take_of_length_le (by omega), List.take_of_length_le hl, gd_ge hl]
      show _ = _ + b ^ i * (0 : Int)
      simp
  rw [e, st (k + 2), st (k + 1), st k, Int.pow_succ, Int.pow_succ]
  grind
theorem top2 {b : Int} {l : List Int} {m : Nat} (hl : l.length = m) (hm : 2 ≤ m) : val b l = (gd l (m - 1) * b + gd l (m - 2)) * b ^ (m - 2) + val b (l.take (m - 2)) := by
  obtain ⟨k, rfl⟩ : ∃ k, m = k + 2 := ⟨m - 2, by omega⟩
  rw [show k + 2 - 1 = k + 1 by omega, show k + 2 - 2 = k by omega]
  have e := gd_take_succ (b := b) l (k + 1) (by omega)
  have e2 := gd_take_succ (b := b) l k (by omega)
  rw [List.take_of_length_le (by omega)] at e
  rw [e, e2, Int.pow_succ]
  grind

/-- one place of 'less q times the divisor' -/
theorem ms_step {b : Int} (_hb : 0 < b) {zs vs : List Int} {k i : Nat} {q cy bo p s d bo' X : Int} (ho : ok b zs) (hk : k + i < zs.length) (hv : i < vs.length)
    (hp : p = q * gd vs i + cy) (hs : s = gd zs (k + i) - p % b - bo) (hd : 0 ≤ d ∧ d < b) (hds : d - b * bo' = s)
    (h : val b zs - b ^ (k + i) * (cy + bo) = X - b ^ k * (q * val b (vs.take i))) :
    ok b (zs.set (k + i) d) ∧ val b (zs.set (k + i) d) - b ^ (k + (i + 1)) * (p / b + bo') = X - b ^ k * (q * val b (vs.take (i + 1))) := by
  refine ⟨ok_set ho _ hd, ?_⟩
  rw [val_set b _ zs (k + i) hk, gd_take_succ vs i hv, ← gd_int]
  have e := Int.mul_ediv_add_emod p b
  have e3 : b ^ (k + (i + 1)) = b ^ (k + i) * b := by rw [← Nat.add_assoc, Int.pow_succ]
  have e4 : b ^ (k + i) = b ^ k * b ^ i := Int.pow_add _ _ _
  have e2 : b ^ (k + i) * (d - b * bo') = b ^ (k + i) * s := by rw [hds]
  have e5 : b ^ (k + i) * (b * (p / b) + p % b) = b ^ (k + i) * p := by rw [e]
  rw [e3]
  rw [hs] at e2
  rw [hp] at e5 e2 ⊢
  grind
/-- the place behind the divisor's last one -/
theorem ms_last {b : Int} {zs vs : List Int} {k m : Nat} {q cy bo d bo' X : Int} (ho : ok b zs) (hk : k + m < zs.length) (hm : vs.length = m)
    (hd : 0 ≤ d ∧ d < b) (hds : d - b * bo' = gd zs (k + m) - cy - bo)
    (h : val b zs - b ^ (k + m) * (cy + bo) = X - b ^ k * (q * val b (vs.take m))) :
    ok b (zs.set (k + m) d) ∧ val b (zs.set (k + m) d) - b ^ (k + (m + 1)) * bo' = X - b ^ k * (q * val b vs) := by
  refine ⟨ok_set ho _ hd, ?_⟩
  rw [List.take_of_length_le (by omega)] at h
  rw [val_set b _ zs (k + m) hk, ← gd_int]
  have e3 : b ^ (k + (m + 1)) = b ^ (k + m) * b := by rw [← Nat.add_assoc, Int.pow_succ]
  have e2 : b ^ (k + m) * (d - b * bo') = b ^ (k + m) * (gd zs (k + m) - cy - bo) := by rw [hds]
  rw [e3]
  grind
/-- one place of the divisor added back -/
theorem ab_step {b : Int} (hb : 0 < b) {zs vs : List Int} {k i : Nat} {c t X : Int} (ho : ok b zs) (hk : k + i < zs.length) (hv : i < vs.length) (ht : t = gd zs (k + i) + gd vs i + c)
    (h : val b zs + b ^ (k + i) * c = X + b ^ k * val b (vs.take i)) :
    ok b (zs.set (k + i) (t % b)) ∧ val b (zs.set (k + i) (t % b)) + b ^ (k + (i + 1)) * (t / b) = X + b ^ k * val b (vs.take (i + 1)) := by
  refine ⟨ok_set ho _ ⟨Int.emod_nonneg _ (by omega), Int.emod_lt_of_pos _ hb⟩, ?_⟩
  rw [val_set b _ zs (k + i) hk, gd_take_succ vs i hv, ← gd_int]
  have e := Int.mul_ediv_add_emod t b
  have e3 : b ^ (k + (i + 1)) = b ^ (k + i) * b := by rw [← Nat.add_assoc, Int.pow_succ]
  have e4 : b ^ (k + i) = b ^ k * b ^ i := Int.pow_add _ _ _
  have e5 : b ^ (k + i) * (b * (t / b) + t % b) = b ^ (k + i) * t := by rw [e]
  rw [e3]
  rw [ht] at e5 ⊢
  grind
theorem ab_last {b : Int} (hb : 0 < b) {zs vs : List Int} {k m : Nat} {c t X : Int} (ho : ok b zs) (hk : k + m < zs.length) (hm : vs.length = m) (ht : t = gd zs (k + m) + c)
    (h : val b zs + b ^ (k + m) * c = X + b ^ k * val b (vs.take m)) :
    ok b (zs.set (k + m) (t % b)) ∧ val b (zs.set (k + m) (t % b)) + b ^ (k + (m + 1)) * (t / b) = X + b ^ k * val b vs := by
  refine ⟨ok_set ho _ ⟨Int.emod_nonneg _ (by omega), Int.emod_lt_of_pos _ hb⟩, ?_⟩
  rw [List.take_of_length_le (by omega)] at h
  rw [val_set b _ zs (k + m) hk, ← gd_int]
  have e := Int.mul_ediv_add_emod t b
  have e3 : b ^ (k + (m + 1)) = b ^ (k + m) * b := by rw [← Nat.add_assoc, Int.pow_succ]
  have e5 : b ^ (k + m) * (b * (t / b) + t % b) = b ^ (k + m) * t := by rw [e]
  rw [e3]
  rw [ht] at e5 ⊢
  grind

/-- two numbers with lower parts below b^k: the upper parts -/
theorem upper_eq {P a c x y : Int} (ha : 0 ≤ a ∧ a < P) (hc : 0 ≤ c ∧ c < P) (h : a + P * x = c + P * y) : x = y := by
  rcases Int.lt_trichotomy x y with g | g | g
  · have : P * (x + 1) ≤ P * y := Int.mul_le_mul_of_nonneg_left (by omega) (by omega)
    have e : P * (x + 1) = P * x + P := by grind
    omega
  · exact g
  · have : P * (y + 1) ≤ P * x := Int.mul_le_mul_of_nonneg_left (by omega) (by omega)
    have e : P * (y + 1) = P * y + P := by grind
    omega
/-- what 'less' makes of the window -/
theorem window_eq {b : Int} (hb : 0 < b) {zs zs' : List Int} {k : Nat} {Y : Int} (ho : ok b zs) (ho' : ok b zs') (hk : k ≤ zs.length) (hk' : k ≤ zs'.length) (h : val b zs' = val b zs + b ^ k * Y) :
    val b (zs'.drop k) = val b (zs.drop k) + Y := by
  have e1 := val_take_drop b zs k hk
  have e2 := val_take_drop b zs' k hk'
  refine upper_eq (val_take_lt hb ho' k) (val_take_lt hb ho k) ?_
  rw [← e2, h, e1]
  grind

end Go.Proofs.YtoffbdlgmnpblaaGreat.Dig

/- Plain laws on digits: the begin, a round and the end of a long division. -/
namespace Go.Proofs.YtoffbdlgmnpblaaGreat.Dig

/-- the divisor is at least its last digit's part -/
theorem val_ge_last {b : Int} (hb : 0 < b) {vs : List Int} {m : Nat} (ov : ok b vs) (hl : vs.length = m + 1) : gd vs m * b ^ m ≤ val b vs := by
  rw [val_last hl]
  have := (val_take_lt hb ov m).1
  have e : gd vs m * b ^ m = b ^ m * gd vs m := Int.mul_comm _ _
  omega

theorem long_start {zs xs vs : List Int} {n N : Nat} (hn : n < 32) (oz : ok 4294967296 zs) (ox : ok 4294967296 xs) (ov : ok 4294967296 vs) (hz : zs.length = xs.length + 1) (hv : 1 ≤ vs.length)
    (hN : (xs.length : Int) + 1 - (vs.length : Int) = (N : Int)) (h : val 4294967296 zs = 2 ^ n * val 4294967296 xs) (htop : 2147483648 ≤ gd vs (vs.length - 1)) :
    val 4294967296 (zs.drop N) < val 4294967296 vs := by
  obtain ⟨m, hm⟩ : ∃ m, vs.length = m + 1 := ⟨vs.length - 1, by omega⟩
  have hx : xs.length = N + m := by omega
  rw [hm, Nat.add_sub_cancel] at htop
  have h1 := val_ge_last (b := 4294967296) (by decide) ov hm
  have h2 := val_lt (b := 4294967296) (by decide) ox
  have h3 := val_take_drop 4294967296 zs N (by omega)
  have h4 := (val_take_lt (b := 4294967296) (by decide) oz N).1
  have hp : (2 : Int) ^ n ≤ 2 ^ 31 := pow_mono (by decide) (by omega)
  have h31 : (2 : Int) ^ 31 = 2147483648 := by decide
  have hp0 : (0 : Int) < 2 ^ n := Int.pow_pos (by decide)
  have hBm := pow_pos' (b := 4294967296) (by decide) m
  have hBN := pow_pos' (b := 4294967296) (by decide) N
  rw [hx, Int.pow_add] at h2
  have a1 : 2 ^ n * val 4294967296 xs < 2 ^ n * (4294967296 ^ N * 4294967296 ^ m) := Int.mul_lt_mul_of_pos_left h2 hp0
  have a2 : 4294967296 ^ N * val 4294967296 (zs.drop N) < 4294967296 ^ N * (2 ^ n * 4294967296 ^ m) := by
    have e : 2 ^ n * ((4294967296 : Int) ^ N * 4294967296 ^ m) = 4294967296 ^ N * (2 ^ n * 4294967296 ^ m) := by grind
    omega
  have a3 : val 4294967296 (zs.drop N) < 2 ^ n * 4294967296 ^ m := Int.lt_of_mul_lt_mul_left a2 (Int.le_of_lt hBN)
  have a4 : 2 ^ n * (4294967296 : Int) ^ m ≤ 2147483648 * 4294967296 ^ m := Int.mul_le_mul_of_nonneg_right (by omega) (Int.le_of_lt hBm)
  have a5 : 2147483648 * (4294967296 : Int) ^ m ≤ gd vs m * 4294967296 ^ m := Int.mul_le_mul_of_nonneg_right htop (Int.le_of_lt hBm)
  omega

/-- the window of a round: its digits beyond the divisor's are 0, and it is less than the base times the divisor -/
theorem window_zero {b : Int} (hb : 1 < b) {zs vs : List Int} {k : Nat} (oz : ok b zs) (ov : ok b vs) (hk : k < zs.length) (hs : val b (zs.drop (k + 1)) < val b vs) :
    (∀ j, vs.length < j → gd (zs.drop k) j = 0) ∧ val b (zs.drop k) < b * val b vs ∧ 0 ≤ val b (zs.drop k) ∧ 0 < val b vs := by
  have h1 := val_lt (b := b) (by omega) ov
  have h2 : val b (zs.drop (k + 1)) < b ^ vs.length := by omega
  have hd := val_drop b zs k hk
  rw [← gd_int] at hd
  have hg : 0 ≤ gd zs k ∧ gd zs k < b := ok_get oz (by omega) k
  have h0 := val_nonneg (b := b) (by omega) (ok_drop oz (k + 1))
  have hb0 := Int.mul_nonneg (show 0 ≤ b by omega) h0
  refine ⟨fun j hj => ?_, ?_, by omega, by omega⟩
  · have := zero_of_val_lt hb (ok_drop oz (k + 1)) vs.length h2 (j - 1) (by omega)
    rw [gd_drop] at this ⊢
    rw [show k + j = k + 1 + (j - 1) by omega]
    exact this
  · have : b * (val b (zs.drop (k + 1)) + 1) ≤ b * val b vs := Int.mul_le_mul_of_nonneg_left (by omega) (by omega)
    have e : b * (val b (zs.drop (k + 1)) + 1) = b * val b (zs.drop (k + 1)) + b := by grind
    omega

/-- the estimate: never too little (q + 1 times the divisor is more than the window) -/
structure Est (W V q r t v1 : Int) : Prop where
  hr : r = t - q * v1
  q0 : 0 ≤ q
  r0 : 0 ≤ r
  up : W < (q + 1) * V

theorem est_begin {b W V t v1 P U2 v2 V2 u2 : Int} (hP : 0 < P) (hv1 : 0 < v1) (ht : 0 ≤ t) (hW : W = (t * b + u2) * P + U2) (hU2 : U2 < P) (hV : V = (v1 * b + v2) * P + V2) (hV2 : 0 ≤ V2) (hv2 : 0 ≤ v2) (hu2 : u2 < b) (hb : 0 < b) :
    Est W V (t / v1) (t % v1) t v1 := by
  refine ⟨?_, Int.ediv_nonneg ht (by omega), Int.emod_nonneg _ (by omega), ?_⟩
  · have := Int.mul_ediv_add_emod t v1
    have e : t / v1 * v1 = v1 * (t / v1) := Int.mul_comm _ _
    omega
  · have h1 := Int.mul_ediv_add_emod t v1
    have h2 := Int.emod_lt_of_pos t hv1
    have hq := Int.ediv_nonneg ht (show 0 ≤ v1 by omega)
    generalize t / v1 = q at *
    have h3 : t + 1 ≤ (q + 1) * v1 := by
      have e : (q + 1) * v1 = v1 * q + v1 := by grind
      omega
    have h4 : (t + 1) * b ≤ (q + 1) * v1 * b := Int.mul_le_mul_of_nonneg_right h3 (by omega)
    have h5 : t * b + u2 + 1 ≤ (q + 1) * v1 * b := by
      have e : (t + 1) * b = t * b + b := by grind
      omega
    have h6 : (t * b + u2 + 1) * P ≤ (q + 1) * v1 * b * P := Int.mul_le_mul_of_nonneg_right h5 (by omega)
    have h7 : 0 ≤ (q + 1) * v2 * P := Int.mul_nonneg (Int.mul_nonneg (by omega) hv2) (by omega)
    have h8 : 0 ≤ (q + 1) * V2 := Int.mul_nonneg (by omega) hV2
    rw [hV]
    have e1 : (q + 1) * ((v1 * b + v2) * P + V2) = (q + 1) * v1 * b * P + (q + 1) * v2 * P + (q + 1) * V2 := by grind
    have e2 : (t * b + u2 + 1) * P = (t * b + u2) * P + P := by grind
    omega

/-- one less -/
theorem est_dec {b W V q r t v1 P U2 v2 V2 u2 : Int} (hE : Est W V q r t v1) (hP : 0 < P) (hv1 : 0 < v1) (_hb : 0 < b) (hW : W = (t * b + u2) * P + U2) (hU2 : U2 < P) (hV : V = (v1 * b + v2) * P + V2) (hV2 : 0 ≤ V2) (hWV : W < b * V) (hW0 : 0 ≤ W) (hV0 : 0 < V)
    (h : b ≤ q ∨ r * b + u2 < q * v2) : Est W V (q - 1) (r + v1) t v1 := by
  have hup : W < q * V := by
    rcases h with h | h
    · have := Int.mul_le_mul_of_nonneg_right h (Int.le_of_lt hV0)
      omega
    · exact est_down hP hE.q0 hE.hr hV hV2 hW hU2 h
  have hq1 : 1 ≤ q := by
    rcases Int.lt_or_le 0 q with g | g
    · omega
    · have : q * V ≤ 0 := Int.mul_nonpos_of_nonpos_of_nonneg g (Int.le_of_lt hV0)
      omega
  refine ⟨?_, by omega, by have := hE.r0; omega, by rw [Int.sub_add_cancel]; exact hup⟩
  have := hE.hr
  have e : (q - 1) * v1 = q * v1 - v1 := by grind
  omega

end Go.Proofs.YtoffbdlgmnpblaaGreat.Dig

/- Plain laws on digits: a round of a long division, put together. -/
namespace Go.Proofs.YtoffbdlgmnpblaaGreat.Dig

/-- the window of a round, its three last digits, the divisor, its two last digits -/
structure Win (b W V t v1 v2 u2 : Int) : Prop where
  ex : ∃ P U2 V2, 0 < P ∧ W = (t * b + u2) * P + U2 ∧ 0 ≤ U2 ∧ U2 < P ∧ V = (v1 * b + v2) * P + V2 ∧ 0 ≤ V2 ∧ V2 < P
  small : W < b * V
  W0 : 0 ≤ W
  V0 : 0 < V

theorem Win.begin {b W V t v1 v2 u2 : Int} (h : Win b W V t v1 v2 u2) (hb : 0 < b) (hv1 : 0 < v1) (ht : 0 ≤ t) (hv2 : 0 ≤ v2) (hu2 : u2 < b) : Est W V (t / v1) (t % v1) t v1 := by
  obtain ⟨P, U2, V2, h1, h2, h3, h4, h5, h6, h7⟩ := h.ex
  exact est_begin h1 hv1 ht h2 h4 h5 h6 hv2 hu2 hb
theorem Win.dec {b W V t v1 v2 u2 q r : Int} (h : Win b W V t v1 v2 u2) (hE : Est W V q r t v1) (hb : 0 < b) (hv1 : 0 < v1) (g : b ≤ q ∨ r * b + u2 < q * v2) : Est W V (q - 1) (r + v1) t v1 := by
  obtain ⟨P, U2, V2, h1, h2, h3, h4, h5, h6, h7⟩ := h.ex
  exact est_dec hE h1 hv1 hb h2 h4 h5 h6 h.small h.W0 h.V0 g
/-- a great rest: nothing is left to mend -/
theorem Win.far {b W V t v1 v2 u2 q r : Int} (h : Win b W V t v1 v2 u2) (hE : Est W V q r t v1) (hb : 0 < b) (hv1 : 0 < v1) (hv2 : 0 ≤ v2 ∧ v2 < b) (hu2 : 0 ≤ u2) (hr : b ≤ r) : q < b ∧ q * v2 ≤ r * b + u2 := by
  obtain ⟨P, U2, V2, h1, h2, h3, h4, h5, h6, h7⟩ := h.ex
  have a1 : (t * b) * P < (b * (v1 * b + v2 + 1)) * P := by
    have e1 : (t * b + u2) * P = (t * b) * P + u2 * P := by grind
    have e2 : b * V = (b * (v1 * b + v2)) * P + b * V2 := by rw [h5]; grind
    have e3 : (b * (v1 * b + v2 + 1)) * P = (b * (v1 * b + v2)) * P + b * P := by grind
    have e4 : b * V2 ≤ b * P := Int.mul_le_mul_of_nonneg_left (by omega) (by omega)
    have e5 : 0 ≤ u2 * P := Int.mul_nonneg hu2 (by omega)
    have := h.small
    omega
  have a2 : t * b < b * (v1 * b + v2 + 1) := Int.lt_of_mul_lt_mul_right a1 (by omega)
  have a3 : b * t < b * (v1 * b + b) := by
    have e1 : b * (v1 * b + v2 + 1) ≤ b * (v1 * b + b) := Int.mul_le_mul_of_nonneg_left (by omega) (by omega)
    have e2 : t * b = b * t := Int.mul_comm _ _
    omega
  have a4 : t < v1 * b + b := Int.lt_of_mul_lt_mul_left a3 (by omega)
  have hr' := hE.hr
  have a5 : v1 * q < v1 * b := by
    have e : q * v1 = v1 * q := Int.mul_comm _ _
    omega
  have a6 : q < b := Int.lt_of_mul_lt_mul_left a5 (by omega)
  refine ⟨a6, ?_⟩
  have c1 : q * v2 ≤ b * v2 := Int.mul_le_mul_of_nonneg_right (by omega) hv2.1
  have c2 : b * v2 ≤ b * b := Int.mul_le_mul_of_nonneg_left (by omega) (by omega)
  have c3 : b * b ≤ r * b := Int.mul_le_mul_of_nonneg_right hr (by omega)
  omega
theorem Win.near {b W V t v1 v2 u2 q r : Int} (h : Win b W V t v1 v2 u2) (hE : Est W V q r t v1) (hb : 0 < b) (hv1 : 0 < v1) (hv2 : 0 ≤ v2) (hq : q < b) (g : q * v2 ≤ r * b + u2) : q * V < W + V := by
  obtain ⟨P, U2, V2, h1, h2, h3, h4, h5, h6, h7⟩ := h.ex
  exact est_near hb h1 hE.q0 hq hE.hr (by omega) hv2 h5 h7 h6 h2 h3 g

theorem win_of {b : Int} (hb : 1 < b) {zs vs : List Int} {k m : Nat} (oz : ok b zs) (ov : ok b vs) (hm : vs.length = m) (hm2 : 2 ≤ m) (hk : k < zs.length) (hs : val b (zs.drop (k + 1)) < val b vs) :
    Win b (val b (zs.drop k)) (val b vs) (gd zs (k + m) * b + gd zs (k + m - 1)) (gd vs (m - 1)) (gd vs (m - 2)) (gd zs (k + m - 2)) ∧ ∀ j, m < j → gd zs (k + j) = 0 := by
  obtain ⟨z1, z2, z3, z4⟩ := window_zero hb oz ov hk hs
  rw [hm] at z1
  have t3 := top3 (b := b) (by omega) (ok_drop oz k) hm2 z1
  have t2 := top2 (b := b) hm hm2
  rw [gd_drop, gd_drop, gd_drop, show k + (m - 1) = k + m - 1 by omega, show k + (m - 2) = k + m - 2 by omega] at t3
  obtain ⟨l1, l2⟩ := val_take_lt (b := b) (by omega) (ok_drop oz k) (m - 2)
  obtain ⟨l3, l4⟩ := val_take_lt (b := b) (by omega) ov (m - 2)
  refine ⟨⟨⟨b ^ (m - 2), _, _, pow_pos' (by omega) _, t3, l1, l2, t2, l3, l4⟩, z2, z3, z4⟩, fun j hj => ?_⟩
  rw [← gd_drop]
  exact z1 j hj

/-- 'less q times the divisor', so far -/
structure Less (b : Int) (zs0 zs vs : List Int) (k i : Nat) (q cy bo : Int) : Prop where
  dg : Dig.ok b zs
  eq : Dig.val b zs - b ^ (k + i) * (cy + bo) = Dig.val b zs0 - b ^ k * (q * Dig.val b (vs.take i))
  same : ∀ j, k + i ≤ j → gd zs j = gd zs0 j
theorem Less.step {b : Int} (hb : 0 < b) {zs0 zs vs : List Int} {k i : Nat} {q cy bo d bo' : Int} (h : Less b zs0 zs vs k i q cy bo) (hk : k + i < zs.length) (hv : i < vs.length)
    (hd : 0 ≤ d ∧ d < b) (hds : d - b * bo' = gd zs (k + i) - (q * gd vs i + cy) % b - bo) : Less b zs0 (zs.set (k + i) d) vs k (i + 1) q ((q * gd vs i + cy) / b) bo' := by
  obtain ⟨s1, s2⟩ := ms_step hb h.dg hk hv rfl rfl hd hds h.eq
  refine ⟨s1, s2, fun j hj => ?_⟩
  rw [gd_set_other _ _ _ _ (by omega)]
  exact h.same j (by omega)
/-- all of it -/
structure Lest (b : Int) (zs0 zs vs : List Int) (k : Nat) (q bo : Int) : Prop where
  dg : Dig.ok b zs
  eq : Dig.val b zs - b ^ (k + (vs.length + 1)) * bo = Dig.val b zs0 - b ^ k * (q * Dig.val b vs)
  same : ∀ j, k + (vs.length + 1) ≤ j → gd zs j = gd zs0 j
theorem Less.last {b : Int} {zs0 zs vs : List Int} {k : Nat} {q cy bo d bo' : Int} (h : Less b zs0 zs vs k vs.length q cy bo) (hk : k + vs.length < zs.length)
    (hd : 0 ≤ d ∧ d < b) (hds : d - b * bo' = gd zs (k + vs.length) - cy - bo) : Lest b zs0 (zs.set (k + vs.length) d) vs k q bo' := by
  obtain ⟨s1, s2⟩ := ms_last h.dg hk rfl hd hds h.eq
  refine ⟨s1, s2, fun j hj => ?_⟩
  rw [gd_set_other _ _ _ _ (by omega)]
  exact h.same j (by omega)
/-- the divisor added back, so far -/
structure Back (b : Int) (zs0 zs vs : List Int) (k i : Nat) (c : Int) : Prop where
  dg : Dig.ok b zs
  eq : Dig.val b zs + b ^ (k + i) * c = Dig.val b zs0 + b ^ k * Dig.val b (vs.take i)
  same : ∀ j, k + i ≤ j → gd zs j = gd zs0 j
theorem Back.step {b : Int} (hb : 0 < b) {zs0 zs vs : List Int} {k i : Nat} {c : Int} (h : Back b zs0 zs vs k i c) (hk : k + i < zs.length) (hv : i < vs.length) :
    Back b zs0 (zs.set (k + i) ((gd zs (k + i) + gd vs i + c) % b)) vs k (i + 1) ((gd zs (k + i) + gd vs i + c) / b) := by
  obtain ⟨s1, s2⟩ := ab_step hb h.dg hk hv rfl h.eq
  refine ⟨s1, s2, fun j hj => ?_⟩
  rw [gd_set_other _ _ _ _ (by omega)]
  exact h.same j (by omega)

/-- the state of a long division: what is left of the dividend, the quotient's digits from place k on -/
structure LongAt (b : Int) (zs qs : List Int) (V U : Int) (k : Nat) : Prop where
  oz : Dig.ok b zs
  oq : Dig.ok b qs
  eq : U = Dig.val b zs + b ^ k * (V * Dig.val b (qs.drop k))
  small : Dig.val b (zs.drop k) < V

theorem LongAt.next {b : Int} {zs0 zs qs : List Int} {V U q : Int} {k : Nat} (h : LongAt b zs0 qs V U (k + 1)) (hk : k < qs.length) (oz : ok b zs) (hq : 0 ≤ q ∧ q < b)
    (hv : val b zs = val b zs0 - b ^ k * (q * V)) (hs : val b (zs.drop k) < V) : LongAt b zs (qs.set k q) V U k := by
  refine ⟨oz, ok_set h.oq _ hq, ?_, hs⟩
  rw [h.eq, hv, val_drop b (qs.set k q) k (by simpa using hk), getD_set_same _ _ _ hk]
  have e1 : (qs.set k q).drop (k + 1) = qs.drop (k + 1) := by rw [List.drop_set_of_lt (by omega)]
  rw [e1, Int.pow_succ]
  grind

/-- nothing was borrowed: the digit stands -/
theorem Lest.stands {b : Int} (hb : 1 < b) {zs0 zs vs qs : List Int} {k : Nat} {q U : Int} (hL : LongAt b zs0 qs (val b vs) U (k + 1)) (h : Lest b zs0 zs vs k q 0) (hk : k < qs.length) (hkz : k ≤ zs.length) (hkz0 : k ≤ zs0.length) (hq : 0 ≤ q ∧ q < b)
    (up : val b (zs0.drop k) < (q + 1) * val b vs) : LongAt b zs (qs.set k q) (val b vs) U k := by
  have hv := h.eq
  rw [Int.mul_zero, Int.sub_zero] at hv
  refine hL.next hk h.dg hq hv ?_
  have e := window_eq (b := b) (zs := zs0) (zs' := zs) (k := k) (Y := -(q * val b vs)) (by omega) hL.oz h.dg hkz0 hkz (by rw [hv]; grind)
  rw [e]
  have e2 : (q + 1) * val b vs = q * val b vs + val b vs := by grind
  omega

theorem win_lt {b : Int} (hb : 1 < b) {zs0 zs : List Int} {k m : Nat} (o : ok b zs) (h0 : ∀ j, m < j → gd zs0 (k + j) = 0) (same : ∀ j, k + (m + 1) ≤ j → gd zs j = gd zs0 j) : val b (zs.drop k) < b ^ (m + 1) := by
  refine (val_lt_of_zero (by omega) (ok_drop o k) (m + 1) fun j hj => ?_).2
  rw [gd_drop, same (k + j) (by omega)]
  exact h0 j (by omega)

theorem Lest.one {b : Int} (hb : 1 < b) {zs0 zs1 vs qs : List Int} {k : Nat} {q U : Int} (hL : LongAt b zs0 qs (val b vs) U (k + 1)) (h : Lest b zs0 zs1 vs k q 1) (hlen1 : zs1.length = zs0.length)
    (hkm : k + vs.length < zs0.length) (h0 : ∀ j, vs.length < j → gd zs0 (k + j) = 0) (W0 : 0 ≤ val b (zs0.drop k)) (V0 : 0 < val b vs) : 1 ≤ q := by
  have w1 := window_eq (b := b) (zs := zs0) (zs' := zs1) (k := k) (Y := b ^ (vs.length + 1) * 1 - q * val b vs) (by omega) hL.oz h.dg (by omega) (by omega) (by
    have e := h.eq
    rw [Int.pow_add] at e
    grind)
  have lt1 := win_lt hb h.dg h0 h.same
  rcases Int.lt_or_le 0 q with g | g
  · omega
  · have : q * val b vs ≤ 0 := Int.mul_nonpos_of_nonpos_of_nonneg g (Int.le_of_lt V0)
    omega

/-- one was borrowed: the digit is one too great, and the divisor goes back -/
theorem Lest.back {b : Int} (hb : 1 < b) {zs0 zs1 zs vs qs : List Int} {k : Nat} {q U c : Int} (hL : LongAt b zs0 qs (val b vs) U (k + 1)) (h : Lest b zs0 zs1 vs k q 1) (hB : Back b zs1 zs vs k vs.length c) (hk : k < qs.length) (hlen : zs.length = zs0.length) (hlen1 : zs1.length = zs0.length)
    (hkm : k + vs.length < zs0.length) (hq : q < b) (h0 : ∀ j, vs.length < j → gd zs0 (k + j) = 0) (near : q * val b vs < val b (zs0.drop k) + val b vs) (W0 : 0 ≤ val b (zs0.drop k)) (V0 : 0 < val b vs) (hc : 0 ≤ c ∧ c ≤ 1) :
    1 ≤ q ∧ LongAt b (zs.set (k + vs.length) ((gd zs (k + vs.length) + c) % b)) (qs.set k (q - 1)) (val b vs) U k := by
  have w1 := window_eq (b := b) (zs := zs0) (zs' := zs1) (k := k) (Y := b ^ (vs.length + 1) * 1 - q * val b vs) (by omega) hL.oz h.dg (by omega) (by omega) (by
    have e := h.eq
    rw [Int.pow_add] at e
    grind)
  have lt1 := win_lt hb h.dg h0 h.same
  have hneg : val b (zs0.drop k) < q * val b vs := by omega
  have hq1 : 1 ≤ q := by
    rcases Int.lt_or_le 0 q with g | g
    · omega
    · have : q * val b vs ≤ 0 := Int.mul_nonpos_of_nonpos_of_nonneg g (Int.le_of_lt V0)
      omega
  refine ⟨hq1, ?_⟩
  obtain ⟨s1, s2⟩ := ab_last (b := b) (zs := zs) (by omega) (vs := vs) (k := k) (m := vs.length) hB.dg (by omega) rfl rfl hB.eq
  have hg := ok_get hB.dg (by omega) (k + vs.length)
  rw [← gd_int] at hg
  have ht0 : 0 ≤ gd zs (k + vs.length) + c := by omega
  have ht2 : (gd zs (k + vs.length) + c) / b = 0 ∨ (gd zs (k + vs.length) + c) / b = 1 := by
    have e := Int.mul_ediv_add_emod (gd zs (k + vs.length) + c) b
    have e0 := Int.emod_nonneg (gd zs (k + vs.length) + c) (show b ≠ 0 by omega)
    have d0 : 0 ≤ (gd zs (k + vs.length) + c) / b := Int.ediv_nonneg ht0 (by omega)
    rcases Int.lt_or_le ((gd zs (k + vs.length) + c) / b) 2 with g | g
    · omega
    · have : b * 2 ≤ b * ((gd zs (k + vs.length) + c) / b) := Int.mul_le_mul_of_nonneg_left g (by omega)
      omega
  have same2 : ∀ j, k + (vs.length + 1) ≤ j → gd (zs.set (k + vs.length) ((gd zs (k + vs.length) + c) % b)) j = gd zs0 j := by
    intro j hj
    rw [gd_set_other _ _ _ _ (by omega), hB.same j (by omega), h.same j hj]
  have lt2 := win_lt hb s1 h0 same2
  have w2 := window_eq (b := b) (zs := zs1) (zs' := zs.set (k + vs.length) ((gd zs (k + vs.length) + c) % b)) (k := k) (Y := val b vs - b ^ (vs.length + 1) * ((gd zs (k + vs.length) + c) / b)) (by omega) h.dg s1 (by omega) (by rw [List.length_set]; omega) (by
    rw [Int.pow_add] at s2
    grind)
  generalize zs.set (k + vs.length) ((gd zs (k + vs.length) + c) % b) = zs2 at *
  generalize (gd zs (k + vs.length) + c) / b = t at *
  obtain rfl : t = 1 := by
    rcases ht2 with rfl | rfl
    · exfalso
      rw [Int.mul_zero] at w2
      omega
    · rfl
  have hv := h.eq
  refine hL.next hk s1 ⟨by omega, by omega⟩ ?_ ?_
  · have e : b ^ k * ((q - 1) * val b vs) = b ^ k * (q * val b vs) - b ^ k * val b vs := by grind
    omega
  · omega

theorem long_end {zs qs xs ys vs : List Int} {n : Nat} (hL : LongAt 4294967296 zs qs (val 4294967296 vs) (2 ^ n * val 4294967296 xs) 0) (hv : val 4294967296 vs = 2 ^ n * val 4294967296 ys) :
    val 4294967296 xs = val 4294967296 ys * val 4294967296 qs + val 4294967296 zs / 2 ^ n ∧ val 4294967296 zs / 2 ^ n < val 4294967296 ys ∧ val 4294967296 zs = 2 ^ n * (val 4294967296 zs / 2 ^ n) := by
  have h1 := hL.eq
  have h2 := hL.small
  simp only [List.drop_zero, Int.pow_zero, Int.one_mul] at h1 h2
  have hp : (0 : Int) < 2 ^ n := Int.pow_pos (by decide)
  generalize val 4294967296 zs = Z at *
  generalize val 4294967296 xs = X at *
  generalize val 4294967296 ys = Y at *
  generalize val 4294967296 qs = Q at *
  rw [hv] at h1 h2
  generalize (2 : Int) ^ n = p at *
  have e : Z = p * (X - Y * Q) := by grind
  have e2 : Z / p = X - Y * Q := by rw [e, Int.mul_ediv_cancel_left _ (by omega)]
  rw [e2]
  refine ⟨by omega, ?_, e⟩
  exact Int.lt_of_mul_lt_mul_left (by omega : p * (X - Y * Q) < p * Y) (Int.le_of_lt hp)

end Go.Proofs.YtoffbdlgmnpblaaGreat.Dig

/- Plain laws on digits: the rest of a long division, shifted back. -/
namespace Go.Proofs.YtoffbdlgmnpblaaGreat.Dig

theorem drop_eq_div {b : Int} (hb : 0 < b) {zs : List Int} (oz : ok b zs) (i : Nat) (hi : i ≤ zs.length) : val b zs / b ^ i = val b (zs.drop i) := by
  have h := val_take_drop b zs i hi
  obtain ⟨h1, h2⟩ := val_take_lt hb oz i
  exact (quot_of (q := val b (zs.drop i)) (R := val b (zs.take i)) (pow_pos' hb i) (by rw [h, Int.mul_comm]; omega) h1 h2).1

theorem rest_digit {zs : List Int} (oz : ok 4294967296 zs) {i n : Nat} (hn : n < 32) (hi : i + 1 < zs.length) :
    ((gd zs (i + 1) * 4294967296 + gd zs i) / 2 ^ n) % 4294967296 = (val 4294967296 zs / 2 ^ n / 4294967296 ^ i) % 4294967296 := by
  have e1 : val 4294967296 zs / 2 ^ n / 4294967296 ^ i = val 4294967296 zs / 4294967296 ^ i / 2 ^ n := by
    rw [Int.ediv_ediv_of_nonneg (Int.le_of_lt (Int.pow_pos (by decide))), Int.ediv_ediv_of_nonneg (Int.le_of_lt (Int.pow_pos (by decide))), Int.mul_comm]
  rw [e1, drop_eq_div (by decide) oz i (by omega), val_drop _ zs i (by omega), val_drop _ zs (i + 1) hi, ← gd_int, ← gd_int]
  generalize val 4294967296 (zs.drop (i + 1 + 1)) = X
  have hp : (0 : Int) < 2 ^ n := Int.pow_pos (by decide)
  have e2 : (2 : Int) ^ n * 2 ^ (32 - n) = 4294967296 := by
    rw [← Int.pow_add, show n + (32 - n) = 32 by omega]; decide
  have e3 : gd zs i + 4294967296 * (gd zs (i + 1) + 4294967296 * X) = (gd zs (i + 1) * 4294967296 + gd zs i) + 2 ^ n * (2 ^ (32 - n) * X * 4294967296) := by
    have : (2 : Int) ^ n * (2 ^ (32 - n) * X * 4294967296) = (2 ^ n * 2 ^ (32 - n)) * X * 4294967296 := by grind
    rw [this, e2]; grind
  rw [e3, Int.add_mul_ediv_left _ _ (by omega), Int.add_mul_emod_self_right]

theorem mod_succ {b Y : Int} (hb : 0 < b) (i : Nat) : Y % b ^ i + b ^ i * (Y / b ^ i % b) = Y % b ^ (i + 1) := by
  have hp := pow_pos' hb i
  have h1 := Int.mul_ediv_add_emod Y (b ^ i)
  have h2 := Int.mul_ediv_add_emod (Y / b ^ i) b
  have a1 := Int.emod_nonneg Y (show b ^ i ≠ 0 by omega)
  have a2 := Int.emod_lt_of_pos Y hp
  have a3 := Int.emod_nonneg (Y / b ^ i) (show b ≠ 0 by omega)
  have a4 := Int.emod_lt_of_pos (Y / b ^ i) hb
  have e : Y = Y / b ^ i / b * b ^ (i + 1) + (Y % b ^ i + b ^ i * (Y / b ^ i % b)) := by
    rw [Int.pow_succ]
    generalize Y / b ^ i / b = q2 at *
    generalize Y / b ^ i % b = r2 at *
    generalize Y / b ^ i = q1 at *
    grind
  have g1 : b ^ i * (Y / b ^ i % b) ≤ b ^ i * (b - 1) := Int.mul_le_mul_of_nonneg_left (by omega) (by omega)
  have g2 : 0 ≤ b ^ i * (Y / b ^ i % b) := Int.mul_nonneg (by omega) a3
  have g3 : b ^ (i + 1) = b ^ i * (b - 1) + b ^ i := by rw [Int.pow_succ]; grind
  exact (quot_of (pow_pos' hb (i + 1)) e (by omega) (by omega)).2.symm

structure RestAt (zs rs : List Int) (n i : Nat) : Prop where
  dg : Dig.ok 4294967296 rs
  eq : Dig.val 4294967296 (rs.take i) = Dig.val 4294967296 zs / 2 ^ n % 4294967296 ^ i

theorem RestAt.step {zs rs : List Int} {n i : Nat} (h : RestAt zs rs n i) (oz : ok 4294967296 zs) (hn : n < 32) (hi : i + 1 < zs.length) (hr : i < rs.length) :
    RestAt zs (rs.set i (((gd zs (i + 1) * 4294967296 + gd zs i) / 2 ^ n) % 4294967296)) n (i + 1) := by
  refine ⟨ok_set h.dg _ ⟨Int.emod_nonneg _ (by decide), Int.emod_lt_of_pos _ (by decide)⟩, ?_⟩
  rw [gd_take_succ _ i (by rw [List.length_set]; exact hr), gd_set_same _ _ _ hr, List.take_set_of_le (Nat.le_refl _), h.eq, rest_digit oz hn hi]
  exact mod_succ (by decide) i

theorem RestAt.done {zs rs ys : List Int} {n i : Nat} (h : RestAt zs rs n i) (hr : rs.length ≤ i) (oy : ok 4294967296 ys) (hy : ys.length = i) (h0 : 0 ≤ val 4294967296 zs) (hlt : val 4294967296 zs / 2 ^ n < val 4294967296 ys) :
    val 4294967296 rs = val 4294967296 zs / 2 ^ n := by
  have e := h.eq
  rw [List.take_of_length_le hr] at e
  rw [e]
  have := val_lt (b := 4294967296) (by decide) oy
  rw [hy] at this
  exact Int.emod_eq_of_lt (Int.ediv_nonneg h0 (Int.le_of_lt (Int.pow_pos (by decide)))) (by omega)

end Go.Proofs.YtoffbdlgmnpblaaGreat.Dig
