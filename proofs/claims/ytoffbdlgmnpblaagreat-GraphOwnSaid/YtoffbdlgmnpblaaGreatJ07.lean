/- Part 7 of 55: Ex4 Ex5. -/
import Derived.Test.YtoffbdlgmnpblaaGreatJ06
import Derived.WalkSpells

/- Package exact: integers: what a value stands for; Of, digits, made, Sign, Neg, Abs. -/
namespace Go.Proofs.YtoffbdlgmnpblaaGreat
open Go.RowKit
set_option maxHeartbeats 1000000
set_option maxRecDepth 100000

/-- the fields of an exact.Int stand for z -/
def IntC (w : World) (D : Nat → Prop) (s : Int) (A : Option Addr) (n c : Nat) (z : Int) : Prop :=
  (A = none ∧ n = 0 ∧ c = 0 ∧ s = z ∧ -4611686018427387904 < z ∧ z < 4611686018427387904) ∨
  (∃ xs, Sl (Kind.int .u32) w D (.slice A n c) xs ∧ Dig.ok B32 xs ∧ Dig.trimmed xs ∧ 4611686018427387904 ≤ Dig.val B32 xs ∧ (s = 1 ∨ s = -1) ∧ z = s * Dig.val B32 xs)

theorem IntC.same {w w' : World} {D : Nat → Prop} {s : Int} {A : Option Addr} {n c : Nat} {z : Int} (h : IntC w D s A n c z) (hs : Same D w w') : IntC w' D s A n c z := by
  rcases h with h | ⟨xs, h1, h2⟩
  · exact .inl h
  · exact .inr ⟨xs, h1.same hs, h2⟩
theorem IntC.mono {w : World} {D D' : Nat → Prop} {s : Int} {A : Option Addr} {n c : Nat} {z : Int} (h : IntC w D s A n c z) (hs : ∀ k, D k → D' k) : IntC w D' s A n c z := by
  rcases h with h | ⟨xs, h1, h2⟩
  · exact .inl h
  · exact .inr ⟨xs, h1.mono hs, h2⟩
/-- D is a set of blocks of w -/
abbrev Lo (D : Nat → Prop) (w : World) : Prop := ∀ k, D k → k < w.heap.size
/-- the blocks that are new in w' -/
abbrev nw (w w' : World) : Nat → Prop := fun k => w.heap.size ≤ k ∧ k < w'.heap.size
/-- D, and the blocks that are new in w' -/
abbrev gr (D : Nat → Prop) (w w' : World) : Nat → Prop := fun k => D k ∨ (w.heap.size ≤ k ∧ k < w'.heap.size)
theorem Lo.same {D : Nat → Prop} {w w' : World} (hD : Lo D w) (hb : Below w.heap.size w w') : Same D w w' := fun k hk => hb.block k (hD k hk)
theorem Lo.gr {D : Nat → Prop} {w w' : World} (hD : Lo D w) (hb : Below w.heap.size w w') : Lo (gr D w w') w' := fun k hk => by
  have := hb.size
  rcases hk with hk | hk
  · exact Nat.lt_of_lt_of_le (hD k hk) this
  · exact hk.2
theorem Lo.up {D : Nat → Prop} {w w' : World} (hD : Lo D w) (hb : w.heap.size ≤ w'.heap.size) : Lo D w' := fun k hk => Nat.lt_of_lt_of_le (hD k hk) hb
theorem IntC.below {D : Nat → Prop} {w w' : World} {s : Int} {A : Option Addr} {n c : Nat} {z : Int} (h : IntC w D s A n c z) (hD : Lo D w) (hb : Below w.heap.size w w') : IntC w' D s A n c z :=
  h.same (hD.same hb)
theorem IntC.s_lt {w : World} {D : Nat → Prop} {s : Int} {A : Option Addr} {n c : Nat} {z : Int} (h : IntC w D s A n c z) : -4611686018427387904 < s ∧ s < 4611686018427387904 := by
  rcases h with ⟨_, _, _, rfl, h1, h2⟩ | ⟨xs, _, _, _, _, hs, _⟩
  · exact ⟨h1, h2⟩
  · omega
/-- the sign of the first field is that of the number -/
theorem IntC.sgn_eq {w : World} {D : Nat → Prop} {s : Int} {A : Option Addr} {n c : Nat} {z : Int} (h : IntC w D s A n c z) : (0 < s ↔ 0 < z) ∧ (s < 0 ↔ z < 0) := by
  rcases h with ⟨_, _, _, rfl, h1, h2⟩ | ⟨xs, _, _, _, hv, hs, hz⟩
  · exact ⟨Iff.rfl, Iff.rfl⟩
  · rcases hs with rfl | rfl <;> omega
theorem IntC.small {w : World} {D : Nat → Prop} {z : Int} (h1 : -4611686018427387904 < z) (h2 : z < 4611686018427387904) : IntC w D z none 0 0 z := .inl ⟨rfl, rfl, rfl, rfl, h1, h2⟩
theorem trimmed_of_val {l : List Int} (hn : ∀ h : l ≠ [], l.getLast h ≠ 0) : Dig.trimmed l := hn

/-- two digits in a new block -/
theorem two_digits (w : World) (t : TypeId) (a b : Int) (g : Nat) (hg : w.heap.size = g) (D : Nat → Prop) (hD : D g) : Sl (Kind.int .u32) (w.alloc (.cells #[.int .u32 a, .int .u32 b] t)) D (.slice (some ⟨g, 0, none⟩) 2 2) [a, b] := by
  subst hg
  exact Sl.of_ints (xs := [a, b]) (Nat.le_refl _) (by simp [maxLen]) fun _ => ⟨_, rfl, hD, fun i hi => by
    have h := heap_alloc_new w (.cells #[.int .u32 a, .int .u32 b] t)
    have e : (⟨w.heap.size, 0, none⟩ : Addr).add i = ⟨w.heap.size, i, none⟩ := by unfold Addr.add; split <;> simp_all
    rw [e, cell_of_row _ _ _ _ _ _ h]
    match i, hi with
    | 0, _ => rfl
    | 1, _ => rfl⟩
theorem two_val (m : Int) : Dig.val B32 [m % 4294967296, m / 4294967296] = m := by simp only [Dig.val, B32]; omega
theorem two_ok {m : Int} (h0 : 0 ≤ m) (h1 : m < 18446744073709551616) : Dig.ok B32 [m % 4294967296, m / 4294967296] := by
  intro d hd
  simp only [List.mem_cons, List.not_mem_nil, or_false] at hd
  unfold B32
  rcases hd with rfl | rfl <;> omega
theorem two_trimmed {m : Int} (h : 4294967296 ≤ m) : Dig.trimmed [m % 4294967296, m / 4294967296] := by
  intro _
  simp only [List.getLast_cons_cons, List.getLast_singleton]
  omega

theorem Of_calls (x : Int) (w : World) (h0 : -9223372036854775808 ≤ x) (h1 : x ≤ 9223372036854775807) :
    Calls Tryz.prog 183 #[.int .i64 x] w fun e w' => ∃ s A n c, e = .returned (.agg #[.int .i64 s, .slice A n c]) ∧ Below w.heap.size w w' ∧ IntC w' (nw w w') s A n c x := by
  by_cases hx : -4611686018427387904 < x ∧ x < 4611686018427387904
  · obtain ⟨h2, h3⟩ := hx
    go_enter Tryz.func183, Tryz.ntmps183
    go_wp2
    exact bodyPost_ret (v := .agg #[.int .i64 x, .slice none 0 0]) (by simp [results, Tryz.results183, go_sem]) rfl ⟨_, _, _, _, rfl, ((Below.refl _ _).alloc (Nat.le_refl _) _), IntC.small h2 h3⟩
  · rcases Int.lt_or_le x 0 with hn | hp
    · have h2 : ¬ -4611686018427387904 < x := by omega
      go_enter Tryz.func183, Tryz.ntmps183
      go_wp2
      have e1 : IntKind.u64.wrap (-IntKind.u64.wrap x) = -x := by simp [IntKind.wrap, IntKind.bits, IntKind.signed]; omega
      have e2 : -x / 4294967296 % 4294967296 = -x / 4294967296 := by omega
      simp only [e1, e2]
      refine bodyPost_ret (v := .agg #[.int .i64 (-1), .slice (some ⟨w.heap.size + 1, 0, none⟩) 2 2]) (by simp [results, Tryz.results183, go_sem]) rfl ⟨_, _, _, _, rfl, ((Below.refl _ _).alloc (Nat.le_refl _) _).alloc (by simp) _, .inr ⟨_, ?_, two_ok (m := -x) (by omega) (by omega), two_trimmed (by omega), ?_, .inr rfl, ?_⟩⟩
      · exact two_digits _ _ _ _ _ (by simp) _ ⟨by omega, by simp⟩
      · rw [two_val]; omega
      · rw [two_val]; omega
    · have h2 : -4611686018427387904 < x := by omega
      have h3 : ¬ x < 4611686018427387904 := by omega
      go_enter Tryz.func183, Tryz.ntmps183
      go_wp2
      refine bodyPost_ret (v := .agg #[.int .i64 1, .slice (some ⟨w.heap.size + 1, 0, none⟩) 2 2]) (by simp [results, Tryz.results183, go_sem]) rfl ⟨_, _, _, _, rfl, ((Below.refl _ _).alloc (Nat.le_refl _) _).alloc (by simp) _, .inr ⟨_, ?_, two_ok hp (by omega), two_trimmed (by omega), ?_, .inl rfl, ?_⟩⟩
      · exact two_digits _ _ _ _ _ (by simp) _ ⟨by omega, by simp⟩
      · rw [two_val]; omega
      · rw [two_val]; omega

theorem trimmed_ne {xs : List Int} (h : 4611686018427387904 ≤ Dig.val B32 xs) : 0 < xs.length := by
  cases xs with
  | nil => simp [Dig.val] at h
  | cons => simp

theorem digits_calls (s : Int) (A : Option Addr) (n c : Nat) (z : Int) (D : Nat → Prop) (w : World) (hD : Lo D w) (h : IntC w D s A n c z) :
    Calls Tryz.prog 229 #[.agg #[.int .i64 s, .slice A n c]] w fun e w' => ∃ A' n' c' xs, e = .returned (.tuple #[.int .i64 (Dig.sgn z), .slice A' n' c']) ∧ Below w.heap.size w w' ∧
      Sl (Kind.int .u32) w' (gr D w w') (.slice A' n' c') xs ∧ Dig.ok B32 xs ∧ Dig.trimmed xs ∧ Dig.val B32 xs = Dig.ab z := by
  have hnil := fun (w : World) (a : Option Addr) (n c : Nat) => run_neq_slice_nil_any (P := Tryz.prog) w 154 199 a n c 0 0 Tryz.underlying154
  rcases h with ⟨rfl, rfl, rfl, rfl, h1, h2⟩ | ⟨xs, hs, ho, ht, hv, hsg, hz⟩
  · rcases Int.lt_trichotomy s 0 with hs | hs | hs
    · go_enter Tryz.func229, Tryz.ntmps229
      go_wp2
      go_quiet (fail)
      go_wp2_with fail
      refine (trim_calls [-s % 4294967296, -s / 4294967296] _ (fun k => k = w.heap.size + 1) _ (two_digits _ _ _ _ _ (by simp) _ rfl)).mono ?_
      rintro e w' ⟨v', rfl, rfl, hsl⟩
      obtain ⟨A', c', rfl, -, -, -⟩ := hsl.form
      go_wp2
      go_ret2
      exact ⟨_, _, _, _, by rw [Dig.sgn_lt hs]; rfl, (below_drewN ((Below.refl _ _).alloc (Nat.le_refl _) _) _).alloc (by simp) _, hsl.mono fun k hk => by subst hk; exact .inr ⟨by omega, by simp⟩, Dig.ok_trim (two_ok (m := -s) (by omega) (by omega)), Dig.trim_trimmed _, by
        rw [Dig.val_trim, two_val, Dig.ab_of_neg hs]⟩
    · subst hs
      go_enter Tryz.func229, Tryz.ntmps229
      go_wp2_with fail
      refine (trim_calls [0, 0] _ (fun k => k = w.heap.size + 1) _ (two_digits _ _ _ _ _ (by simp) _ rfl)).mono ?_
      rintro e w' ⟨v', rfl, rfl, hsl⟩
      obtain ⟨A', c', rfl, -, -, -⟩ := hsl.form
      go_wp2
      go_ret2
      exact ⟨_, _, _, _, rfl, ((Below.refl _ _).alloc (Nat.le_refl _) _).alloc (by simp) _, hsl.mono fun k hk => by subst hk; exact .inr ⟨by omega, by simp⟩, Dig.ok_trim (by unfold Dig.ok B32; simp), Dig.trim_trimmed _, by
        rw [Dig.val_trim]; decide⟩
    · go_enter Tryz.func229, Tryz.ntmps229
      go_wp2
      go_quiet (fail)
      go_wp2_with fail
      refine (trim_calls [s % 4294967296, s / 4294967296] _ (fun k => k = w.heap.size + 1) _ (two_digits _ _ _ _ _ (by simp) _ rfl)).mono ?_
      rintro e w' ⟨v', rfl, rfl, hsl⟩
      obtain ⟨A', c', rfl, -, -, -⟩ := hsl.form
      go_wp2
      go_ret2
      exact ⟨_, _, _, _, by rw [Dig.sgn_gt hs]; rfl, (below_drewN ((Below.refl _ _).alloc (Nat.le_refl _) _) _).alloc (by simp) _, hsl.mono fun k hk => by subst hk; exact .inr ⟨by omega, by simp⟩, Dig.ok_trim (two_ok (m := s) (by omega) (by omega)), Dig.trim_trimmed _, by
        rw [Dig.val_trim, two_val, Dig.ab_of_pos (by omega)]⟩
  · obtain ⟨A', c', e, h1, h2, h3⟩ := hs.form
    injection e with e1 e2 e3
    subst e1 e2 e3
    obtain ⟨ad, rfl, hd⟩ := h3 (trimmed_ne hv)
    go_enter Tryz.func229, Tryz.ntmps229
    go_wp2
    go_quiet (fail)
    go_wp2
    go_ret2
    have hz' : s = Dig.sgn z := by
      rcases hsg with rfl | rfl
      · rw [Dig.sgn_gt (by omega)]
      · rw [Dig.sgn_lt (by omega)]
    refine ⟨_, _, _, xs, by rw [← hz']; rfl, below_drewN ((Below.refl _ _).alloc (Nat.le_refl _) _) _, ?_, ho, ht, by rw [hz]; unfold Dig.ab; rcases hsg with rfl | rfl <;> (split <;> omega)⟩
    exact ((hs.same (hD.same ((Below.refl _ _).alloc (Nat.le_refl _) _))).mono fun k hk => .inl hk).same (same_drewN _ _ _)

end Go.Proofs.YtoffbdlgmnpblaaGreat

/- Package exact: made, Sign, Neg, Abs. -/
namespace Go.Proofs.YtoffbdlgmnpblaaGreat
open Go.RowKit
set_option maxHeartbeats 1000000
set_option maxRecDepth 100000

theorem shl_or (a x : Int) (ha : 0 ≤ a ∧ a < 4294967296) (hx : 0 ≤ x ∧ x < 4294967296) : bits .or .u64 a (x * 4294967296) = a + x * 4294967296 := by
  rw [u64_or _ _ (by omega) (by omega) (by omega) (by omega), Nat.or_comm, nat_join 32 _ _ (by omega) (by omega)]; omega

theorem same_alloc2 {D : Nat → Prop} {w : World} (hD : ∀ k, D k → k < w.heap.size) (x y : Obj) : Same D (w.alloc x) (w.alloc y) := fun k hk =>
  (Below.heap_alloc w y k (hD k hk)).trans (Below.heap_alloc w x k (hD k hk)).symm

theorem made_calls (s : Int) (xs : List Int) (v : Value) (D : Nat → Prop) (w : World) (h : Sl (Kind.int .u32) w D v xs) (hD : Lo D w) (ox : Dig.ok B32 xs)
    (h0 : -1 ≤ s) (h1 : s ≤ 1) (hz : s = 0 → Dig.val B32 xs < 4611686018427387904) :
    Calls Tryz.prog 230 #[.int .i64 s, v] w fun e w' => ∃ t A n c, e = .returned (.agg #[.int .i64 t, .slice A n c]) ∧ Below w.heap.size w w' ∧ IntC w' D t A n c (s * Dig.val B32 xs) := by
  obtain ⟨A0, c0, rfl, -, -, -⟩ := h.form
  have HZ := Lib.hid hz
  clear hz
  go_enter Tryz.func230, Tryz.ntmps230
  go_wp2_with fail
  refine (trim_calls xs _ D _ (h.same (Same.mono (Same.of_below ((Below.refl _ _).alloc (Nat.le_refl _) _)) hD))).mono ?_
  rintro e w' ⟨v', rfl, rfl, hsl⟩
  have ht := Dig.trim_trimmed xs
  have ot := Dig.ok_trim ox
  have hv := Dig.val_trim B32 xs
  have HV := Lib.hid hv
  clear hv
  generalize Dig.trim xs = ts at *
  have HS := Lib.hid hsl
  obtain ⟨A, c, rfl, h2, h3, h4⟩ := hsl.ints
  clear hsl
  unfold maxLen at h3
  by_cases hl : ts.length ≤ 2
  · have hl2 : (ts.length : Int) ≤ 2 := by omega
    have hbl : 0 < ts.length → ∃ ad, A = some ad ∧ ∀ i, i < ts.length → (w.alloc (.cells #[.int .i64 0, .slice none 0 0] 156)).cell? (ad.add i) = some (.int .u32 (Dig.gd ts i)) := fun hp => by
      obtain ⟨ad, e, _, hc⟩ := h4 hp
      exact ⟨ad, e, hc⟩
    clear h4
    go_wp2
    go_loop [5, 15] (fun m i => ∃ (k : Nat) (mm : Int), k ≤ ts.length ∧ i = .int .i64 k ∧ m = .int .u64 mm ∧ 0 ≤ mm ∧ mm < 18446744073709551616 ∧ Is mm (Dig.val B32 (ts.take k))) (fun _ i => ts.length - (intOf i).toNat)
    case atStart => exact ⟨0, 0, Nat.zero_le _, rfl, rfl, by decide, by decide, ⟨rfl⟩⟩
    case round =>
      obtain ⟨k, mm, hk, rfl, rfl, hm0, hm1, HM⟩ := hrel
      by_cases hkl : k < ts.length
      · obtain ⟨ad, rfl, hc⟩ := hbl (by omega)
        have hck := hc k hkl
        obtain ⟨b1, b2⟩ : 0 ≤ Dig.gd ts k ∧ Dig.gd ts k < 4294967296 := Dig.ok_get ot (by decide) k
        have HT := Lib.hid (Dig.gd_take_succ (b := B32) ts k hkl)
        clear hc hbl
        obtain rfl | rfl : k = 0 ∨ k = 1 := by omega
        · have e0 : mm = 0 := by rw [HM.out]; simp [Dig.val]
          subst e0
          have hor : bits .or .u64 0 (Dig.gd ts 0) = Dig.gd ts 0 := by
            rw [u64_or _ _ (by omega) (by omega) (by omega) (by omega)]; simp; omega
          have hck0 : (w.alloc (.cells #[.int .i64 0, .slice none 0 0] 156)).cell? ad = some (.int .u32 (Dig.gd ts 0)) := by simpa [Addr.add] using hck
          clear hck
          go_wp2
          refine ⟨⟨1, Dig.gd ts 0, by omega, rfl, ?_, by omega, by omega, ?_⟩, by simp [intOf]; omega⟩
          · first | rfl | (rw [hor]; done)
          · exact ⟨by rw [HT.out]; simp [Dig.val]⟩
        · have hck1 : (w.alloc (.cells #[.int .i64 0, .slice none 0 0] 156)).cell? ⟨ad.block, ad.off + 1, none⟩ = some (.int .u32 (Dig.gd ts 1)) := by simpa [Addr.add] using hck
          have hm32 : mm < 4294967296 := by
            have := Dig.val_lt (b := B32) (by decide) (Dig.ok_take ot 1)
            rw [← HM.out, List.length_take, Nat.min_eq_left hk] at this
            exact this
          have hor := shl_or mm (Dig.gd ts 1) ⟨hm0, hm32⟩ ⟨b1, b2⟩
          clear hck
          go_wp2
          refine ⟨⟨2, mm + Dig.gd ts 1 * 4294967296, by omega, rfl, ?_, by omega, by omega, ?_⟩, by simp [intOf]; omega⟩
          · first | rfl | (rw [hor]; done)
          · exact ⟨by rw [HT.out, ← HM.out]; unfold B32; omega⟩
      · obtain rfl : k = ts.length := by omega
        have em : mm = Dig.val B32 xs := by rw [HM.out, List.take_length]; exact HV.out
        clear hbl
        by_cases hms : mm < 4611686018427387904
        · obtain rfl | rfl | rfl : s = -1 ∨ s = 0 ∨ s = 1 := by omega
          all_goals
            have EM := Lib.hid em
            clear em
            go_wp2
            refine bodyPost_ret (v := .agg #[.int .i64 _, .slice none 0 0]) (by simp [results, Tryz.results230, go_sem]; rfl) rfl ⟨_, _, _, _, rfl, ((Below.refl _ _).alloc (Nat.le_refl _) _), ?_⟩
            have e := EM.out
            exact .inl ⟨rfl, rfl, rfl, by omega, by omega, by omega⟩
        · have hp : 0 < ts.length := by
            cases ts with
            | nil => exfalso; have := HM.out; simp [Dig.val] at this; omega
            | cons => simp
          obtain ⟨A1, c1, e1, -, -, h5⟩ := HS.out.form
          injection e1 with e1 e2 e3
          subst e1 e3
          obtain ⟨ad, rfl, hd⟩ := h5 hp
          have EM := Lib.hid em
          clear em
          go_wp2
          have hbig : 4611686018427387904 ≤ Dig.val B32 ts := by rw [HV.out, ← EM.out]; omega
          have hs : s = 1 ∨ s = -1 := by
            have := HZ.out
            have hv := HV.out
            omega
          refine bodyPost_ret (v := .agg #[.int .i64 s, .slice (some ad) ts.length c]) (by simp [results, Tryz.results230, go_sem]) rfl ⟨_, _, _, _, rfl, ((Below.refl _ _).alloc (Nat.le_refl _) _), .inr ⟨ts, ?_, ot, ht, hbig, hs, by rw [HV.out]⟩⟩
          exact HS.out.same (same_alloc2 hD _ _)
  · obtain ⟨A1, c1, e1, -, -, h5⟩ := HS.out.form
    injection e1 with e1 e2 e3
    subst e1 e3
    obtain ⟨ad, rfl, hd⟩ := h5 (by omega)
    go_wp2
    have hbig : 4611686018427387904 ≤ Dig.val B32 ts := by
      have h1 := Dig.val_ge (b := B32) (by decide) ot ht (by intro e; subst e; simp at hl)
      have h2 := Dig.pow_mono (b := B32) (by decide) (show 2 ≤ ts.length - 1 by omega)
      have h3 : B32 ^ 2 = 18446744073709551616 := by decide
      omega
    have hs : s = 1 ∨ s = -1 := by
      have := HZ.out
      have hv := HV.out
      omega
    refine bodyPost_ret (v := .agg #[.int .i64 s, .slice (some ad) ts.length c]) (by simp [results, Tryz.results230, go_sem]) rfl ⟨_, _, _, _, rfl, ((Below.refl _ _).alloc (Nat.le_refl _) _), .inr ⟨ts, ?_, ot, ht, hbig, hs, by rw [HV.out]⟩⟩
    exact HS.out.same (same_alloc2 hD _ _)

theorem Sign_calls (s : Int) (A : Option Addr) (n c : Nat) (z : Int) (D : Nat → Prop) (w : World) (h : IntC w D s A n c z) :
    Calls Tryz.prog 184 #[.agg #[.int .i64 s, .slice A n c]] w fun e w' => e = .returned (.int .i64 (Dig.sgn z)) ∧ Below w.heap.size w w' := by
  obtain ⟨h1, h2⟩ := h.sgn_eq
  have H := Lib.hid (And.intro h1 h2)
  clear h1 h2 h
  go_enter Tryz.func184, Tryz.ntmps184
  go_wp2
  · go_ret
    obtain ⟨h1, h2⟩ := H.out
    exact ⟨ret_int (Dig.sgn_gt (by omega)).symm, (Below.refl _ _).alloc (Nat.le_refl _) _⟩
  · go_ret
    obtain ⟨h1, h2⟩ := H.out
    exact ⟨ret_int (Dig.sgn_lt (by omega)).symm, (Below.refl _ _).alloc (Nat.le_refl _) _⟩
  · go_ret
    obtain ⟨h1, h2⟩ := H.out
    exact ⟨ret_int (by rw [show z = 0 by omega]; rfl), (Below.refl _ _).alloc (Nat.le_refl _) _⟩

theorem IntC.neg {w : World} {D : Nat → Prop} {s : Int} {A : Option Addr} {n c : Nat} {z : Int} (h : IntC w D s A n c z) : IntC w D (-s) A n c (-z) := by
  rcases h with ⟨rfl, rfl, rfl, rfl, h1, h2⟩ | ⟨xs, h1, h2, h3, h4, h5, h6⟩
  · exact .inl ⟨rfl, rfl, rfl, rfl, by omega, by omega⟩
  · exact .inr ⟨xs, h1, h2, h3, h4, by omega, by rw [h6, Int.neg_mul]⟩

theorem Neg_calls (s : Int) (A : Option Addr) (n c : Nat) (z : Int) (D : Nat → Prop) (w : World) (hD : Lo D w) (h : IntC w D s A n c z) :
    Calls Tryz.prog 235 #[.agg #[.int .i64 s, .slice A n c]] w fun e w' => e = .returned (.agg #[.int .i64 (-s), .slice A n c]) ∧ Below w.heap.size w w' ∧ IntC w' D (-s) A n c (-z) := by
  obtain ⟨h1, h2⟩ := h.s_lt
  go_enter Tryz.func235, Tryz.ntmps235
  go_wp2
  have hb : ∀ o1 o2, Below w.heap.size w ((w.alloc o1).alloc o2) := fun o1 o2 => ((Below.refl _ _).alloc (Nat.le_refl _) o1).alloc (by simp) o2
  exact bodyPost_ret (v := .agg #[.int .i64 (-s), .slice A n c]) (by simp [results, Tryz.results235, go_sem]) rfl ⟨rfl, hb _ _, h.neg.below hD (hb _ _)⟩

theorem Abs_calls (s : Int) (A : Option Addr) (n c : Nat) (z : Int) (D : Nat → Prop) (w : World) (hD : Lo D w) (h : IntC w D s A n c z) :
    Calls Tryz.prog 238 #[.agg #[.int .i64 s, .slice A n c]] w fun e w' => ∃ t, e = .returned (.agg #[.int .i64 t, .slice A n c]) ∧ Below w.heap.size w w' ∧ IntC w' D t A n c (Dig.ab z) := by
  obtain ⟨h1, h2⟩ := h.sgn_eq
  have hb : ∀ o1 o2, Below w.heap.size w ((w.alloc o1).alloc o2) := fun o1 o2 => ((Below.refl _ _).alloc (Nat.le_refl _) o1).alloc (by simp) o2
  have HB := Lib.hid hb
  by_cases hs : s < 0
  · rw [Dig.ab_of_neg (by omega)]
    clear h1 h2 hb
    go_enter Tryz.func238, Tryz.ntmps238
    go_wp2_with fail
    refine (Neg_calls s A n c z D _ (hD.up (HB.out _ _).size) (h.below hD (HB.out _ _))).mono ?_
    rintro e w1 ⟨rfl, hb1, hi⟩
    obtain ⟨hc1, hf1⟩ := bcell hb1
    have hz1 : w.heap.size + 1 < w1.heap.size := by have := hb1.size; simp at this; omega
    go_wp2
    refine bodyPost_ret (v := .agg #[.int .i64 (-s), .slice A n c]) (by simp [results, Tryz.results238, go_sem, hc1]) rfl ⟨_, rfl, ?_, ?_⟩
    · exact (((HB.out _ _).trans (hb1.mono (by simp; omega))).setCell (by simp) _).setCell (by simp) _
    · refine (hi.same ?_)
      exact fun k hk => (Below.heap_setCell _ _ _ _ (by have := hD k hk; simp; omega)).trans (Below.heap_setCell _ _ _ _ (by have := hD k hk; simp; omega))
  · rw [Dig.ab_of_pos (by omega)]
    clear h1 h2 hb
    go_enter Tryz.func238, Tryz.ntmps238
    go_wp2
    exact bodyPost_ret (v := .agg #[.int .i64 s, .slice A n c]) (by simp [results, Tryz.results238, go_sem]) rfl ⟨_, rfl, HB.out _ _, h.below hD (HB.out _ _)⟩

end Go.Proofs.YtoffbdlgmnpblaaGreat
