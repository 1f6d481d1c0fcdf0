/- Part 4: Ex5 Ex6 Ex7. -/
import Derived.Test.YtoffbdlgmnpblaaGreatJ03
import Derived.Test.YtoffbdlgmnpblaaGreatJ02
import Derived.Deep.RegionHeld3
import Derived.Deep.RegionWith

/- Package exact: made, Sign, Neg, Abs. -/
namespace Go.Proofs.YtoffbdlgmnpblaaGreat
open Go.RowKit
set_option maxHeartbeats 1000000
set_option maxRecDepth 100000

theorem shl_or (a x : Int) (ha : 0 ≤ a ∧ a < 4294967296) (hx : 0 ≤ x ∧ x < 4294967296) : bits .or .u64 a (x * 4294967296) = a + x * 4294967296 := by
  rw [u64_or _ _ (by omega) (by omega) (by omega) (by omega), Nat.or_comm, nat_join 32 _ _ (by omega) (by omega)]; omega

theorem same_alloc2 {D : Nat → Prop} {w : World} (hD : ∀ k, D k → k < w.heap.size) (x y : Obj) : Same D (w.alloc x) (w.alloc y) := fun k hk =>
  (Below.heap_alloc w y k (hD k hk)).trans (Below.heap_alloc w x k (hD k hk)).symm

theorem made_calls (s : Int) (xs : List Int) (v : Value) (D : Nat → Prop) (w : World) (h : Sl (Kind.int .u32) w D v xs) (hD : Lo D w) (ox : Dig.ok B32 xs)
    (h0 : -1 ≤ s) (h1 : s ≤ 1) (hz : s = 0 → Dig.val B32 xs < 4611686018427387904) :
    Calls Tryz.prog 230 #[.int .i64 s, v] w fun e w' => ∃ t A n c, e = .returned (.agg #[.int .i64 t, .slice A n c]) ∧ Below w.heap.size w w' ∧ IntC w' D t A n c (s * Dig.val B32 xs) := by
  obtain ⟨A0, c0, rfl, -, -, -⟩ := h.form
  have HZ := Lib.hid hz
  clear hz
  go_enter Tryz.func230, Tryz.ntmps230
  go_wp2_with fail
  refine (trim_calls xs _ D _ (h.same (Same.mono (Same.of_below ((Below.refl _ _).alloc (Nat.le_refl _) _)) hD))).mono ?_
  rintro e w' ⟨v', rfl, rfl, hsl⟩
  have ht := Dig.trim_trimmed xs
  have ot := Dig.ok_trim ox
  have hv := Dig.val_trim B32 xs
  have HV := Lib.hid hv
  clear hv
  generalize Dig.trim xs = ts at *
  have HS := Lib.hid hsl
  obtain ⟨A, c, rfl, h2, h3, h4⟩ := hsl.ints
  clear hsl
  unfold maxLen at h3
  by_cases hl : ts.length ≤ 2
  · have hl2 : (ts.length : Int) ≤ 2 := by omega
    have hbl : 0 < ts.length → ∃ ad, A = some ad ∧ ∀ i, i < ts.length → (w.alloc (.cells #[.int .i64 0, .slice none 0 0] 156)).cell? (ad.add i) = some (.int .u32 (Dig.gd ts i)) := fun hp => by
      obtain ⟨ad, e, _, hc⟩ := h4 hp
      exact ⟨ad, e, hc⟩
    clear h4
    go_wp2
    go_loop [5, 15] (fun m i => ∃ (k : Nat) (mm : Int), k ≤ ts.length ∧ i = .int .i64 k ∧ m = .int .u64 mm ∧ 0 ≤ mm ∧ mm < 18446744073709551616 ∧ Is mm (Dig.val B32 (ts.take k))) (fun _ i => ts.length - (intOf i).toNat)
    case atStart => exact ⟨0, 0, Nat.zero_le _, rfl, rfl, by decide, by decide, ⟨rfl⟩⟩
    case round =>
      obtain ⟨k, mm, hk, rfl, rfl, hm0, hm1, HM⟩ := hrel
      by_cases hkl : k < ts.length
      · obtain ⟨ad, rfl, hc⟩ := hbl (by omega)
        have hck := hc k hkl
        obtain ⟨b1, b2⟩ : 0 ≤ Dig.gd ts k ∧ Dig.gd ts k < 4294967296 := Dig.ok_get ot (by decide) k
        have HT := Lib.hid (Dig.gd_take_succ (b := B32) ts k hkl)
        clear hc hbl
        obtain rfl | rfl : k = 0 ∨ k = 1 := by omega
        · have e0 : mm = 0 := by rw [HM.out]; simp [Dig.val]
          subst e0
          have hor : bits .or .u64 0 (Dig.gd ts 0) = Dig.gd ts 0 := by
            rw [u64_or _ _ (by omega) (by omega) (by omega) (by omega)]; simp; omega
          have hck0 : (w.alloc (.cells #[.int .i64 0, .slice none 0 0] 156)).cell? ad = some (.int .u32 (Dig.gd ts 0)) := by simpa [Addr.add] using hck
          clear hck
          go_wp2
          refine ⟨⟨1, Dig.gd ts 0, by omega, rfl, ?_, by omega, by omega, ?_⟩, by simp [intOf]; omega⟩
          · first | rfl | (rw [hor]; done)
          · exact ⟨by rw [HT.out]; simp [Dig.val]⟩
        · have hck1 : (w.alloc (.cells #[.int .i64 0, .slice none 0 0] 156)).cell? ⟨ad.block, ad.off + 1, none⟩ = some (.int .u32 (Dig.gd ts 1)) := by simpa [Addr.add] using hck
          have hm32 : mm < 4294967296 := by
            have := Dig.val_lt (b := B32) (by decide) (Dig.ok_take ot 1)
            rw [← HM.out, List.length_take, Nat.min_eq_left hk] at this
            exact this
          have hor := shl_or mm (Dig.gd ts 1) ⟨hm0, hm32⟩ ⟨b1, b2⟩
          clear hck
          go_wp2
          refine ⟨⟨2, mm + Dig.gd ts 1 * 4294967296, by omega, rfl, ?_, by omega, by omega, ?_⟩, by simp [intOf]; omega⟩
          · first | rfl | (rw [hor]; done)
          · exact ⟨by rw [HT.out, ← HM.out]; unfold B32; omega⟩
      · obtain rfl : k = ts.length := by omega
        have em : mm = Dig.val B32 xs := by rw [HM.out, List.take_length]; exact HV.out
        clear hbl
        by_cases hms : mm < 4611686018427387904
        · obtain rfl | rfl | rfl : s = -1 ∨ s = 0 ∨ s = 1 := by omega
          all_goals
            have EM := Lib.hid em
            clear em
            go_wp2
            refine bodyPost_ret (v := .agg #[.int .i64 _, .slice none 0 0]) (by simp [results, Tryz.results230, go_sem]; rfl) rfl ⟨_, _, _, _, rfl, ((Below.refl _ _).alloc (Nat.le_refl _) _), ?_⟩
            have e := EM.out
            exact .inl ⟨rfl, rfl, rfl, by omega, by omega, by omega⟩
        · have hp : 0 < ts.length := by
            cases ts with
            | nil => exfalso; have := HM.out; simp [Dig.val] at this; omega
            | cons => simp
          obtain ⟨A1, c1, e1, -, -, h5⟩ := HS.out.form
          injection e1 with e1 e2 e3
          subst e1 e3
          obtain ⟨ad, rfl, hd⟩ := h5 hp
          have EM := Lib.hid em
          clear em
          go_wp2
          have hbig : 4611686018427387904 ≤ Dig.val B32 ts := by rw [HV.out, ← EM.out]; omega
          have hs : s = 1 ∨ s = -1 := by
            have := HZ.out
            have hv := HV.out
            omega
          refine bodyPost_ret (v := .agg #[.int .i64 s, .slice (some ad) ts.length c]) (by simp [results, Tryz.results230, go_sem]) rfl ⟨_, _, _, _, rfl, ((Below.refl _ _).alloc (Nat.le_refl _) _), .inr ⟨ts, ?_, ot, ht, hbig, hs, by rw [HV.out]⟩⟩
          exact HS.out.same (same_alloc2 hD _ _)
  · obtain ⟨A1, c1, e1, -, -, h5⟩ := HS.out.form
    injection e1 with e1 e2 e3
    subst e1 e3
    obtain ⟨ad, rfl, hd⟩ := h5 (by omega)
    go_wp2
    have hbig : 4611686018427387904 ≤ Dig.val B32 ts := by
      have h1 := Dig.val_ge (b := B32) (by decide) ot ht (by intro e; subst e; simp at hl)
      have h2 := Dig.pow_mono (b := B32) (by decide) (show 2 ≤ ts.length - 1 by omega)
      have h3 : B32 ^ 2 = 18446744073709551616 := by decide
      omega
    have hs : s = 1 ∨ s = -1 := by
      have := HZ.out
      have hv := HV.out
      omega
    refine bodyPost_ret (v := .agg #[.int .i64 s, .slice (some ad) ts.length c]) (by simp [results, Tryz.results230, go_sem]) rfl ⟨_, _, _, _, rfl, ((Below.refl _ _).alloc (Nat.le_refl _) _), .inr ⟨ts, ?_, ot, ht, hbig, hs, by rw [HV.out]⟩⟩
    exact HS.out.same (same_alloc2 hD _ _)

theorem Sign_calls (s : Int) (A : Option Addr) (n c : Nat) (z : Int) (D : Nat → Prop) (w : World) (h : IntC w D s A n c z) :
    Calls Tryz.prog 184 #[.agg #[.int .i64 s, .slice A n c]] w fun e w' => e = .returned (.int .i64 (Dig.sgn z)) ∧ Below w.heap.size w w' := by
  obtain ⟨h1, h2⟩ := h.sgn_eq
  have H := Lib.hid (And.intro h1 h2)
  clear h1 h2 h
  go_enter Tryz.func184, Tryz.ntmps184
  go_wp2
  · go_ret
    obtain ⟨h1, h2⟩ := H.out
    exact ⟨ret_int (Dig.sgn_gt (by omega)).symm, (Below.refl _ _).alloc (Nat.le_refl _) _⟩
  · go_ret
    obtain ⟨h1, h2⟩ := H.out
    exact ⟨ret_int (Dig.sgn_lt (by omega)).symm, (Below.refl _ _).alloc (Nat.le_refl _) _⟩
  · go_ret
    obtain ⟨h1, h2⟩ := H.out
    exact ⟨ret_int (by rw [show z = 0 by omega]; rfl), (Below.refl _ _).alloc (Nat.le_refl _) _⟩

theorem IntC.neg {w : World} {D : Nat → Prop} {s : Int} {A : Option Addr} {n c : Nat} {z : Int} (h : IntC w D s A n c z) : IntC w D (-s) A n c (-z) := by
  rcases h with ⟨rfl, rfl, rfl, rfl, h1, h2⟩ | ⟨xs, h1, h2, h3, h4, h5, h6⟩
  · exact .inl ⟨rfl, rfl, rfl, rfl, by omega, by omega⟩
  · exact .inr ⟨xs, h1, h2, h3, h4, by omega, by rw [h6, Int.neg_mul]⟩

end Go.Proofs.YtoffbdlgmnpblaaGreat

/- Package exact: the sum of integers. -/
namespace Go.Proofs.YtoffbdlgmnpblaaGreat
open Go.RowKit
set_option maxHeartbeats 2000000
set_option maxRecDepth 100000

/-- fewer than n digits stand for z -/
def Fit (n : Nat) (z : Int) : Prop := -(B32 ^ n) < z ∧ z < B32 ^ n
theorem Fit.len {n : Nat} {z : Int} {xs : List Int} (h : Fit n z) (ho : Dig.ok B32 xs) (ht : Dig.trimmed xs) (hz : Dig.val B32 xs = Dig.ab z) : xs.length ≤ n := by
  rcases Nat.lt_or_ge n xs.length with hl | hl
  · exfalso
    have h1 := Dig.val_ge (b := B32) (by decide) ho ht (by intro e; subst e; simp at hl)
    have h2 := Dig.pow_mono (b := B32) (by decide) (show n ≤ xs.length - 1 by omega)
    obtain ⟨h3, h4⟩ := h
    rw [hz] at h1
    unfold Dig.ab at h1
    split at h1 <;> omega
  · exact hl

theorem IntC.store2 {w : World} {D : Nat → Prop} {s : Int} {A : Option Addr} {n c : Nat} {z : Int} (h : IntC w D s A n c z) (g : Nat) (hg : ¬ D g) (i j : Nat) (u v : Value) : IntC ((w.setCell ⟨g, i, none⟩ u).setCell ⟨g, j, none⟩ v) D s A n c z :=
  h.same fun k hk => (Below.heap_setCell _ _ _ _ (by rintro rfl; exact hg hk)).trans (Below.heap_setCell _ _ _ _ (by rintro rfl; exact hg hk))

theorem boxes3 (w : World) (a b c : Obj) : Below w.heap.size w (((w.alloc a).alloc b).alloc c) :=
  (((Below.refl _ _).alloc (Nat.le_refl _) a).alloc (by simp) b).alloc (by simp <;> omega) c
theorem boxes4 (w : World) (a b c d : Obj) : Below w.heap.size w ((((w.alloc a).alloc b).alloc c).alloc d) :=
  (boxes3 w a b c).alloc (by simp <;> omega) d

theorem not_nw {w w' : World} {g : Nat} (h : g < w.heap.size) : ¬ nw w w' g := fun k => Nat.lt_irrefl _ (Nat.lt_of_lt_of_le h k.1)
theorem not_gr {D : Nat → Prop} {w w' : World} {g : Nat} (h : g < w.heap.size) (hd : ¬ D g) : ¬ gr D w w' g := fun k => k.elim hd (not_nw h)
theorem not_lo {D : Nat → Prop} {w : World} (hD : Lo D w) {g : Nat} (h : w.heap.size ≤ g) : ¬ D g := fun k => Nat.lt_irrefl _ (Nat.lt_of_lt_of_le (hD g k) h)

theorem len_le_of_val {xs ys : List Int} (ox : Dig.ok B32 xs) (oy : Dig.ok B32 ys) (ty : Dig.trimmed ys) (h : Dig.val B32 ys ≤ Dig.val B32 xs) : ys.length ≤ xs.length := by
  rcases Nat.lt_or_ge xs.length ys.length with hl | hl
  · have := Dig.val_lt_of_length (b := B32) (by decide) ox oy ty hl; omega
  · exact hl

theorem Add_calls (s : Int) (A : Option Addr) (n c : Nat) (x : Int) (s' : Int) (A' : Option Addr) (n' c' : Nat) (y : Int) (D : Nat → Prop) (w : World) (hD : Lo D w)
    (hx : IntC w D s A n c x) (hy : IntC w D s' A' n' c' y) (N : Nat) (hN : N ≤ 1073741823) (fx : Fit N x) (fy : Fit N y) :
    Calls Tryz.prog 179 #[.agg #[.int .i64 s, .slice A n c], .agg #[.int .i64 s', .slice A' n' c']] w fun e w' => ∃ t B m d, e = .returned (.agg #[.int .i64 t, .slice B m d]) ∧ Below w.heap.size w w' ∧ IntC w' (gr D w w') t B m d (x + y) := by
  have hnil := fun (w : World) (a : Option Addr) (n c : Nat) => Lib.run_eql_slice_nil (P := Tryz.prog) w 154 199 a n c 0 0 Tryz.underlying154
  have HX := Lib.hid hx
  have HY := Lib.hid hy
  by_cases hb : A = none ∧ A' = none
  · obtain ⟨rfl, rfl⟩ := hb
    rcases hx with ⟨-, rfl, rfl, rfl, h1, h2⟩ | ⟨xs, h1, h2, h3, h4, h5⟩
    · rcases hy with ⟨-, rfl, rfl, rfl, h3, h4⟩ | ⟨xs, h1, h2, h3, h4, h5⟩
      · go_enter Tryz.func179, Tryz.ntmps179
        go_wp2_with fail
        refine (Of_calls (s + s') _ (by omega) (by omega)).mono ?_
        rintro e w1 ⟨t, B, m, d, rfl, hb1, hi⟩
        obtain ⟨hc1, hf1⟩ := bcell hb1
        have hz1 : w.heap.size + 2 < w1.heap.size := by have := hb1.size; simp at this; omega
        go_wp2
        refine bodyPost_ret (v := .agg #[.int .i64 t, .slice B m d]) (by simp [results, Tryz.results179, go_sem, hc1]) rfl ⟨_, _, _, _, rfl, ?_, ?_⟩
        · exact (((boxes3 _ _ _ _).trans (hb1.mono (by simp <;> omega))).setCell (by simp <;> omega) _).setCell (by simp <;> omega) _
        · exact (hi.store2 _ (not_nw (by simp <;> omega)) _ _ _ _).mono fun k hk => .inr ⟨by have := hk.1; simp at this; omega, by have := hk.2; simpa [World.setCell] using this⟩
      · obtain ⟨A1, c1, e1, -, -, h6⟩ := h1.form
        obtain ⟨ad, e2, _⟩ := h6 (trimmed_ne h4)
        injection e1 with e1
        rw [← e1] at e2; cases e2
    · obtain ⟨A1, c1, e1, -, -, h6⟩ := h1.form
      obtain ⟨ad, e2, _⟩ := h6 (trimmed_ne h4)
      injection e1 with e1
      rw [← e1] at e2; cases e2
  · clear hx hy
    have hcase : (∃ ad, A = some ad) ∨ (A = none ∧ ∃ ad, A' = some ad) := by
      cases A with
      | some ad => exact .inl ⟨ad, rfl⟩
      | none => cases A' with
        | some ad => exact .inr ⟨rfl, ad, rfl⟩
        | none => exact absurd ⟨rfl, rfl⟩ hb
    clear hb
    rcases hcase with ⟨ad, rfl⟩ | ⟨rfl, ad, rfl⟩
    all_goals
      go_enter Tryz.func179, Tryz.ntmps179
      go_wp2_with fail
      refine (digits_calls s _ n c x D _ (hD.up (boxes3 _ _ _ _).size) (HX.out.below hD (boxes3 _ _ _ _))).mono ?_
      rintro e w1 ⟨A1, n1, c1, xs, rfl, hb1, hs1, o1, t1, v1⟩
      have hB1 := (boxes3 _ _ _ _).trans (hb1.mono (by simp <;> omega))
      obtain ⟨hc1, hf1⟩ := bcell hb1
      have hz1 : w.heap.size + 2 < w1.heap.size := by have := hb1.size; simp at this; omega
      go_wp2_with fail
      refine (digits_calls s' _ n' c' y D _ (hD.up hB1.size) (HY.out.below hD hB1)).mono ?_
      rintro e w2 ⟨A2, n2, c2, ys, rfl, hb2, hs2, o2, t2, v2⟩
      have hT2 := hb1.trans (hb2.mono hb1.size)
      have hB2 := (boxes3 _ _ _ _).trans (hT2.mono (by simp <;> omega))
      clear hc1 hf1
      obtain ⟨hc2, hf2⟩ := bcell hT2
      have hz2 : w.heap.size + 2 < w2.heap.size := by have := hb2.size; omega
      have hL1 := (hD.up (boxes3 _ _ _ _).size).gr hb1
      have hL2 := (hD.up hB1.size).gr hb2
      have hs1' := hs1.same (hL1.same hb2)
      have l1 := fx.len o1 t1 v1
      have l2 := fy.len o2 t2 v2
      obtain ⟨r1, r2⟩ := Dig.sgn_range x
      obtain ⟨r3, r4⟩ := Dig.sgn_range y
      by_cases x0 : x = 0
      · have e0 : (Dig.sgn x == 0) = true := by rw [x0]; rfl
        have X0 := Lib.hid x0
        clear x0
        go_wp2
        refine bodyPost_ret (v := .agg #[.int .i64 s', .slice _ n' c']) (by simp [results, Tryz.results179, go_sem, hc2]; rfl) rfl ⟨_, _, _, _, rfl, ?_, ?_⟩
        · exact ((hB2).setCell (by simp <;> omega) _).setCell (by simp <;> omega) _
        · rw [X0.out, Int.zero_add]
          exact ((HY.out.below hD hB2).store2 _ (not_lo hD (by first | omega | (simp <;> omega))) _ _ _ _).mono fun k hk => .inl hk
      · have e0 : (Dig.sgn x == 0) = false := by
          rw [beq_eq_false_iff_ne]; unfold Dig.sgn; split
          · omega
          · split <;> omega
        by_cases y0 : y = 0
        · have e1 : (Dig.sgn y == 0) = true := by rw [y0]; rfl
          have Y0 := Lib.hid y0
          clear y0
          go_wp2
          refine bodyPost_ret (v := .agg #[.int .i64 s, .slice _ n c]) (by simp [results, Tryz.results179, go_sem, hc2]; rfl) rfl ⟨_, _, _, _, rfl, ?_, ?_⟩
          · exact ((hB2).setCell (by simp <;> omega) _).setCell (by simp <;> omega) _
          · rw [Y0.out, Int.add_zero]
            exact ((HX.out.below hD hB2).store2 _ (not_lo hD (by first | omega | (simp <;> omega))) _ _ _ _).mono fun k hk => .inl hk
        · have e1 : (Dig.sgn y == 0) = false := by
            rw [beq_eq_false_iff_ne]; unfold Dig.sgn; split
            · omega
            · split <;> omega
          by_cases hst : Dig.sgn x = Dig.sgn y
          · have e2 : (Dig.sgn x == Dig.sgn y) = true := by rw [hst]; exact beq_self_eq_true _
            have HST := Lib.hid hst
            clear hst
            go_wp2_with fail
            refine (plus_calls xs ys _ _ _ _ _ hs1' hs2 (hL1.up hb2.size) hL2 o1 o2 (by omega) (by omega)).mono ?_
            rintro e w3 ⟨v3, zs, rfl, hb3, hs3, o3, v3e⟩
            have hT3 := hT2.trans (hb3.mono hT2.size)
            have hB3 := (boxes3 _ _ _ _).trans (hT3.mono (by simp <;> omega))
            go_wp2_with fail
            refine (made_calls (Dig.sgn x) zs _ _ _ hs3 (fun k hk => hk.2) o3 r1 r2 ?_).mono ?_
            · intro hz; exfalso; exact absurd hz (beq_eq_false_iff_ne.1 e0)
            rintro e w4 ⟨t, B, m, d, rfl, hb4, hi⟩
            have hT4 := hT3.trans (hb4.mono hT3.size)
            have hB4 := (boxes3 _ _ _ _).trans (hT4.mono (by simp <;> omega))
            clear hc2 hf2
            obtain ⟨hc4, hf4⟩ := bcell hT4
            have hz4 : w.heap.size + 2 < w4.heap.size := by have := hb3.size; have := hb4.size; omega
            go_wp2
            refine bodyPost_ret (v := .agg #[.int .i64 t, .slice B m d]) (by simp [results, Tryz.results179, go_sem, hc4]) rfl ⟨_, _, _, _, rfl, ?_, ?_⟩
            · exact ((hB4).setCell (by simp <;> omega) _).setCell (by simp <;> omega) _
            · have e : Dig.sgn x * Dig.val B32 zs = x + y := by
                have h1 := Dig.sgn_ab x
                have h2 := Dig.sgn_ab y
                rw [← HST.out] at h2
                rw [v3e, v1, v2, Int.mul_add]; omega
              rw [← e]
              exact (hi.store2 _ (not_nw (by first | omega | (simp <;> omega))) _ _ _ _).mono fun k hk => .inr ⟨by have := hk.1; omega, by have := hk.2; have := hb4.size; simp [World.setCell]; omega⟩
          · have e2 : (Dig.sgn x == Dig.sgn y) = false := by rw [beq_eq_false_iff_ne]; exact hst
            have HST := Lib.hid hst
            clear hst
            go_wp2_with fail
            refine (compare_calls xs ys _ _ _ _ _ hs1' hs2 o1 o2 t1 t2).mono ?_
            rintro e w3 ⟨rfl, n3, rfl⟩
            have hd3 : Below w2.heap.size w2 (w2.drewN n3) := below_drewN (Below.refl _ _) _
            have hT3 := hT2.trans (hd3.mono hT2.size)
            have hs1q := hs1'.same (same_drewN _ w2 n3)
            have hs2q := hs2.same (same_drewN _ w2 n3)
            have hLq1 := (hL1.up hb2.size).up hd3.size
            have hLq2 := hL2.up hd3.size
            by_cases hcmp : Dig.val B32 ys ≤ Dig.val B32 xs
            · have hge : 0 ≤ Dig.sgn (Dig.val B32 xs - Dig.val B32 ys) := by
                unfold Dig.sgn; split
                · omega
                · split <;> omega
              generalize Dig.sgn (Dig.val B32 xs - Dig.val B32 ys) = q at *
              go_wp2_with fail
              refine (minus_calls xs ys _ _ _ _ _ hs1q hs2q hLq1 hLq2 o1 o2 (len_le_of_val o1 o2 t2 hcmp) (by omega) (by omega)).mono ?_
              rintro e w4 ⟨v4, zs, rfl, hb4, hs4, o4, v4e⟩
              have hT4 := hT3.trans (hb4.mono hT3.size)
              go_wp2_with fail
              refine (made_calls (Dig.sgn x) zs _ _ _ hs4 (fun k hk => hk.2) o4 r1 r2 ?_).mono ?_
              · intro hz; exfalso; exact absurd hz (beq_eq_false_iff_ne.1 e0)
              rintro e w5 ⟨t, B, m, d, rfl, hb5, hi⟩
              have hT5 := hT4.trans (hb5.mono hT4.size)
              have hB5 := (boxes3 _ _ _ _).trans (hT5.mono (by simp <;> omega))
              clear hc2 hf2
              obtain ⟨hc5, hf5⟩ := bcell hT5
              have hz5 : w.heap.size + 2 < w5.heap.size := by have := hb4.size; have := hb5.size; have : w2.heap.size = (w2.drewN n3).heap.size := rfl; omega
              go_wp2
              refine bodyPost_ret (v := .agg #[.int .i64 t, .slice B m d]) (by simp [results, Tryz.results179, go_sem, hc5]) rfl ⟨_, _, _, _, rfl, ?_, ?_⟩
              · exact ((hB5).setCell (by simp <;> omega) _).setCell (by simp <;> omega) _
              · have e : (Dig.sgn x) * Dig.val B32 zs = x + y := by
                  have h1 := Dig.sgn_ab x
                  have h2 := Dig.sgn_ab y
                  have h3 : Dig.sgn y = -Dig.sgn x := by
                    have := HST.out
                    have := beq_eq_false_iff_ne.1 e0
                    have := beq_eq_false_iff_ne.1 e1
                    omega
                  rw [v4e, v1, v2, Int.mul_sub]
                  rw [h3, Int.neg_mul] at h2
                  omega
                rw [← e]
                exact (hi.store2 _ (not_nw (by have : w2.heap.size = (w2.drewN n3).heap.size := rfl; first | omega | (simp <;> omega))) _ _ _ _).mono fun k hk => .inr ⟨by have := hk.1; have : w2.heap.size = (w2.drewN n3).heap.size := rfl; omega, by have := hk.2; have := hb5.size; simp [World.setCell]; omega⟩
            · have hge : Dig.sgn (Dig.val B32 xs - Dig.val B32 ys) < 0 := by
                rw [Dig.sgn_lt (by omega)]; decide
              generalize Dig.sgn (Dig.val B32 xs - Dig.val B32 ys) = q at *
              go_wp2_with fail
              refine (minus_calls ys xs _ _ _ _ _ hs2q hs1q hLq2 hLq1 o2 o1 (len_le_of_val o2 o1 t1 (by omega)) (by omega) (by omega)).mono ?_
              rintro e w4 ⟨v4, zs, rfl, hb4, hs4, o4, v4e⟩
              have hT4 := hT3.trans (hb4.mono hT3.size)
              go_wp2_with fail
              refine (made_calls (Dig.sgn y) zs _ _ _ hs4 (fun k hk => hk.2) o4 r3 r4 ?_).mono ?_
              · intro hz; exfalso; exact absurd hz (beq_eq_false_iff_ne.1 e1)
              rintro e w5 ⟨t, B, m, d, rfl, hb5, hi⟩
              have hT5 := hT4.trans (hb5.mono hT4.size)
              have hB5 := (boxes3 _ _ _ _).trans (hT5.mono (by simp <;> omega))
              clear hc2 hf2
              obtain ⟨hc5, hf5⟩ := bcell hT5
              have hz5 : w.heap.size + 2 < w5.heap.size := by have := hb4.size; have := hb5.size; have : w2.heap.size = (w2.drewN n3).heap.size := rfl; omega
              go_wp2
              refine bodyPost_ret (v := .agg #[.int .i64 t, .slice B m d]) (by simp [results, Tryz.results179, go_sem, hc5]) rfl ⟨_, _, _, _, rfl, ?_, ?_⟩
              · exact ((hB5).setCell (by simp <;> omega) _).setCell (by simp <;> omega) _
              · have e : (Dig.sgn y) * Dig.val B32 zs = x + y := by
                  have h1 := Dig.sgn_ab x
                  have h2 := Dig.sgn_ab y
                  have h3 : Dig.sgn y = -Dig.sgn x := by
                    have := HST.out
                    have := beq_eq_false_iff_ne.1 e0
                    have := beq_eq_false_iff_ne.1 e1
                    omega
                  rw [v4e, v1, v2, Int.mul_sub]
                  rw [show Dig.sgn x = -Dig.sgn y by omega, Int.neg_mul] at h1
                  omega
                rw [← e]
                exact (hi.store2 _ (not_nw (by have : w2.heap.size = (w2.drewN n3).heap.size := rfl; first | omega | (simp <;> omega))) _ _ _ _).mono fun k hk => .inr ⟨by have := hk.1; have : w2.heap.size = (w2.drewN n3).heap.size := rfl; omega, by have := hk.2; have := hb5.size; simp [World.setCell]; omega⟩

end Go.Proofs.YtoffbdlgmnpblaaGreat

/- Package exact: the product of integers. -/
namespace Go.Proofs.YtoffbdlgmnpblaaGreat
open Go.RowKit
set_option maxHeartbeats 2000000
set_option maxRecDepth 100000

theorem box_cells (w : World) (g : Nat) (hg : w.heap.size = g) (cs : Array Value) (t : TypeId) (i : Nat) : (w.alloc (.cells cs t)).cell? ⟨g, i, none⟩ = cs[i]? ∧ (w.alloc (.cells cs t)).frozen? ⟨g, i, none⟩ = false := by
  subst hg
  have h := heap_alloc_new w (.cells cs t)
  refine ⟨cell_of_row _ _ _ _ _ _ h, ?_⟩
  unfold World.frozen?
  simp only [h]
  simp
theorem box_old {w : World} {g i : Nat} {v : Value} (o : Obj) (h : w.cell? ⟨g, i, none⟩ = some v) : (w.alloc o).cell? ⟨g, i, none⟩ = some v :=
  (World.cell?_alloc_lt w o _ (World.block_lt_of_cell? w _ h)).trans h
/-- three boxes of two cells -/
theorem boxes3_cells (w : World) (a b a' b' a'' b'' : Value) (t : TypeId) :
    let W := ((w.alloc (.cells #[a, b] t)).alloc (.cells #[a', b'] t)).alloc (.cells #[a'', b''] t)
    W.cell? ⟨w.heap.size, 0, none⟩ = some a ∧ W.cell? ⟨w.heap.size, 1, none⟩ = some b ∧ W.cell? ⟨w.heap.size + 1, 0, none⟩ = some a' ∧ W.cell? ⟨w.heap.size + 1, 1, none⟩ = some b' ∧
      W.cell? ⟨w.heap.size + 1 + 1, 0, none⟩ = some a'' ∧ W.cell? ⟨w.heap.size + 1 + 1, 1, none⟩ = some b'' ∧ (∀ i, W.frozen? ⟨w.heap.size + 1 + 1, i, none⟩ = false) ∧
      w.heap.size + 2 < W.heap.size ∧ Below w.heap.size w W :=
  ⟨box_old _ (box_old _ (box_cells w _ rfl _ _ 0).1), box_old _ (box_old _ (box_cells w _ rfl _ _ 1).1), box_old _ (box_cells _ _ (by simp) _ _ 0).1, box_old _ (box_cells _ _ (by simp) _ _ 1).1,
    (box_cells _ _ (by simp) _ _ 0).1, (box_cells _ _ (by simp) _ _ 1).1, fun i => (box_cells _ _ (by simp) _ _ i).2, by simp, boxes3 _ _ _ _⟩

/-- what a cell holds, whatever it is: a name that the walk does not look behind -/
def cellOr (g i : Nat) (W : World) : Value := (W.cell? ⟨g, i, none⟩).getD undef
theorem cellOr_eq {g i : Nat} {W : World} {v : Value} (h : W.cell? ⟨g, i, none⟩ = some v) : W.cell? ⟨g, i, none⟩ = some (cellOr g i W) := by rw [cellOr, h]; rfl

/-- what a region keeps that ends in a store into block g: all below B is as in W0; the cells of g are there -/
abbrev Held (W0 : World) (B g nc : Nat) (W : World) : Prop :=
  Below B W0 W ∧ (∀ b o, b < B → W.cell? ⟨b, o, none⟩ = W0.cell? ⟨b, o, none⟩) ∧ (∀ i, i < nc → W.cell? ⟨g, i, none⟩ = some (cellOr g i W)) ∧ (∀ i, W.frozen? ⟨g, i, none⟩ = false) ∧ g < W.heap.size
theorem held_start {W0 : World} {B g nc : Nat} (h1 : ∀ i, i < nc → ∃ v, W0.cell? ⟨g, i, none⟩ = some v) (h2 : ∀ i, W0.frozen? ⟨g, i, none⟩ = false) (h3 : g < W0.heap.size) : Held W0 B g nc W0.drew :=
  ⟨(Below.refl _ _).drew, fun _ _ _ => rfl, fun i hi => by obtain ⟨v, hv⟩ := h1 i hi; exact cellOr_eq (W := W0.drew) hv, h2, h3⟩
theorem held_call {W0 W W' : World} {B g nc : Nat} (hB : B ≤ W0.heap.size) (h : Held W0 B g nc W) (hb : Below W.heap.size W W') : Held W0 B g nc W' := by
  obtain ⟨h1, h2, h3, h4, h5⟩ := h
  have hs := h1.size
  exact ⟨h1.trans (hb.mono (by omega)), fun b o hbo => (hb.cell (p := ⟨b, o, none⟩) (by show b < _; omega)).trans (h2 b o hbo), fun i hi => cellOr_eq ((hb.cell (p := ⟨g, i, none⟩) h5).trans (h3 i hi)),
    fun i => (hb.frozen (p := ⟨g, i, none⟩) h5).trans (h4 i), Nat.lt_of_lt_of_le h5 hb.size⟩
theorem held_set {W0 W : World} {B g nc : Nat} (hB : B ≤ g) (h : Held W0 B g nc W) (j : Nat) (u : Value) : Held W0 B g nc (W.setCell ⟨g, j, none⟩ u) := by
  obtain ⟨h1, h2, h3, h4, h5⟩ := h
  refine ⟨h1.setCell (by show B ≤ g; exact hB) _, fun b o hbo => ?_, fun i hi => ?_, fun i => ?_, by simpa [World.setCell] using h5⟩
  · exact (World.cell?_of_block (w := W) (a := ⟨b, o, none⟩) (Below.heap_setCell _ _ _ _ (by show b ≠ g; omega))).trans (h2 b o hbo)
  · obtain ⟨v, hv⟩ := cell?_setCell_some (w := W) (p := ⟨g, j, none⟩) (x := u) (q := ⟨g, i, none⟩) (v := cellOr g i W) (h3 i hi)
    exact cellOr_eq hv
  · have := h4 i
    rw [← this]
    simp only [World.frozen?, World.setCell, Array.getElem?_modify]
    simp only [↓reduceIte]
    cases W.heap[g]? with
    | none => rfl
    | some o => cases o <;> rfl

/-- Sign looks at the first field alone -/
theorem Sign_raw (s : Int) (A : Option Addr) (n c : Nat) (w : World) :
    Calls Tryz.prog 184 #[.agg #[.int .i64 s, .slice A n c]] w fun e w' => e = .returned (.int .i64 (Dig.sgn s)) ∧ Below w.heap.size w w' := by
  go_enter Tryz.func184, Tryz.ntmps184
  go_wp2
  · go_ret
    exact ⟨ret_int (Dig.sgn_gt (by omega)).symm, (Below.refl _ _).alloc (Nat.le_refl _) _⟩
  · go_ret
    exact ⟨ret_int (Dig.sgn_lt (by omega)).symm, (Below.refl _ _).alloc (Nat.le_refl _) _⟩
  · go_ret
    exact ⟨ret_int (by rw [show s = 0 by omega]; rfl), (Below.refl _ _).alloc (Nat.le_refl _) _⟩

theorem wrap_in {x : Int} (h1 : -9223372036854775808 ≤ x) (h2 : x ≤ 9223372036854775807) : IntKind.i64.wrap x = x := by rw [IntKind.wrap_i64]; omega
theorem mul_wrap {s s' p : Int} (hp : p = Dig.ab s * Dig.ab s') (h : p < 4611686018427387904) :
    IntKind.i64.wrap (IntKind.i64.wrap (Dig.sgn s * Dig.sgn s') * IntKind.i64.wrap p) = s * s' ∧ -4611686018427387904 < s * s' ∧ s * s' < 4611686018427387904 := by
  have h0 : 0 ≤ p := by rw [hp]; exact Int.mul_nonneg (Dig.ab_nonneg _) (Dig.ab_nonneg _)
  have e : Dig.sgn s * Dig.sgn s' * p = s * s' := by
    have e1 := Dig.sgn_ab s
    have e2 := Dig.sgn_ab s'
    rw [hp]
    calc Dig.sgn s * Dig.sgn s' * (Dig.ab s * Dig.ab s') = (Dig.sgn s * Dig.ab s) * (Dig.sgn s' * Dig.ab s') := by grind
      _ = s * s' := by rw [e1, e2]
  have hs : Dig.sgn s * Dig.sgn s' = -1 ∨ Dig.sgn s * Dig.sgn s' = 0 ∨ Dig.sgn s * Dig.sgn s' = 1 := by
    obtain ⟨r1, r2⟩ := Dig.sgn_range s
    obtain ⟨r3, r4⟩ := Dig.sgn_range s'
    obtain h1 | h1 | h1 : Dig.sgn s = -1 ∨ Dig.sgn s = 0 ∨ Dig.sgn s = 1 := by omega
    all_goals rw [h1]; omega
  rw [wrap_in (x := p) (by omega) (by omega), wrap_in (x := Dig.sgn s * Dig.sgn s') (by omega) (by omega)]
  rcases hs with h1 | h1 | h1
  all_goals
    rw [h1] at e ⊢
    rw [wrap_in (by omega) (by omega)]
    omega

/-- the product of small numbers, of which the machine word is enough -/
theorem Mul_small (s s' : Int) (D : Nat → Prop) (w : World) (hx : -4611686018427387904 < s ∧ s < 4611686018427387904) (hy : -4611686018427387904 < s' ∧ s' < 4611686018427387904)
    (hl : Dig.ab s * Dig.ab s' < 4611686018427387904) :
    Calls Tryz.prog 181 #[.agg #[.int .i64 s, .slice none 0 0], .agg #[.int .i64 s', .slice none 0 0]] w fun e w' => ∃ t B m d, e = .returned (.agg #[.int .i64 t, .slice B m d]) ∧ Below w.heap.size w w' ∧ IntC w' (gr D w w') t B m d (s * s') := by
  have hnil := fun (w : World) (a : Option Addr) (n c : Nat) => Lib.run_eql_slice_nil (P := Tryz.prog) w 154 199 a n c 0 0 Tryz.underlying154
  obtain ⟨hx1, hx2⟩ := hx
  obtain ⟨hy1, hy2⟩ := hy
  go_enter Tryz.func181, Tryz.ntmps181
  go_wp2_with fail
  rw [show max s (-s) = ((s.natAbs : Nat) : Int) by omega, show max s' (-s') = ((s'.natAbs : Nat) : Int) by omega]
  refine (Tryz.bits_Mul64 s.natAbs s'.natAbs (by omega) (by omega) _).mono ?_
  have hp : s.natAbs * s'.natAbs < 4611686018427387904 := by
    have e1 : (s.natAbs : Int) = Dig.ab s := by unfold Dig.ab; split <;> omega
    have e2 : (s'.natAbs : Int) = Dig.ab s' := by unfold Dig.ab; split <;> omega
    have : ((s.natAbs * s'.natAbs : Nat) : Int) < 4611686018427387904 := by rw [Int.natCast_mul, e1, e2]; exact hl
    omega
  rw [Nat.div_eq_of_lt (by omega), Nat.mod_eq_of_lt (by omega)]
  have HP : Is ((s.natAbs * s'.natAbs : Nat) : Int) (Dig.ab s * Dig.ab s') := ⟨by
    rw [Int.natCast_mul]
    congr 1
    · unfold Dig.ab; split <;> omega
    · unfold Dig.ab; split <;> omega⟩
  generalize s.natAbs * s'.natAbs = p at *
  rintro e w1 ⟨rfl, rfl⟩
  have hlow : (p : Int) < 4611686018427387904 := by omega
  go_wp2_with fail
  obtain ⟨r1, r2⟩ := Dig.sgn_range s
  obtain ⟨r3, r4⟩ := Dig.sgn_range s'
  have i1 : ∀ W, IntC W D s none 0 0 s := fun W => IntC.small hx1 hx2
  have i2 : ∀ W, IntC W D s' none 0 0 s' := fun W => IntC.small hy1 hy2
  have I1 := Lib.hid i1
  have I2 := Lib.hid i2
  clear i1 i2
  obtain ⟨q1, q2, q3, q4, q5, q6, qf, q9, q10⟩ := boxes3_cells w (.int .i64 s) (.slice none 0 0) (.int .i64 s') (.slice none 0 0) (.int .i64 0) (.slice none 0 0) 156
  generalize ((w.alloc (.cells #[.int .i64 s, .slice none 0 0] 156)).alloc (.cells #[.int .i64 s', .slice none 0 0] 156)).alloc (.cells #[.int .i64 0, .slice none 0 0] 156) = W0 at *
  have z0 : w.heap.size < W0.heap.size := by omega
  have z1 : w.heap.size + 1 < W0.heap.size := by omega
  have z2 : w.heap.size + 1 + 1 < W0.heap.size := by omega
  have hh := held_start (W0 := W0) (B := w.heap.size + 2) (g := w.heap.size + 1 + 1) (nc := 2) (fun i hi => by
    match i, hi with
    | 0, _ => exact ⟨_, q5⟩
    | 1, _ => exact ⟨_, q6⟩) qf z2
  have HB := Nat.le_of_lt q9
  go_region_held3 (fun W => Below (w.heap.size + 2) W0 W ∧ (∀ b o, b < w.heap.size + 2 → W.cell? ⟨b, o, none⟩ = W0.cell? ⟨b, o, none⟩) ∧ (∀ i, i < 2 → W.cell? ⟨w.heap.size + 1 + 1, i, none⟩ = some (cellOr (w.heap.size + 1 + 1) i W)) ∧ (∀ i, W.frozen? ⟨w.heap.size + 1 + 1, i, none⟩ = false) ∧ w.heap.size + 1 + 1 < W.heap.size)
    (first | exact hh | exact held_call HB (by assumption) hbq | exact held_set (Nat.le_refl _) (held_set (Nat.le_refl _) (by assumption) _ _) _ _ | go_keep)
    (first | (go_at_call 184; refine (Sign_raw _ _ _ _ _).mono ?_; rintro e wq ⟨rfl, hbq⟩))
  go_wp2
  rename_i wq1 hbq1 hHeld
  obtain ⟨hm, hm1, hm2⟩ := mul_wrap HP.out hlow
  have hT : Below W0.heap.size W0 wq := ((Below.refl _ _).drew.trans hbq1).trans (hbq.mono hbq1.size)
  have c5 : wq.cell? ⟨w.heap.size + 1 + 1, 0, none⟩ = some (.int .i64 0) := (hT.cell (p := ⟨_, _, _⟩) z2).trans q5
  have c6 : wq.cell? ⟨w.heap.size + 1 + 1, 1, none⟩ = some (.slice none 0 0) := (hT.cell (p := ⟨_, _, _⟩) z2).trans q6
  have hfb := hHeld.1
  clear hHeld
  rw [hm] at hfb ⊢
  exact bodyPost_ret (v := .agg #[.int .i64 (s * s'), .slice none 0 0]) (by simp [results, Tryz.results181, go_sem, c5, c6]) rfl ⟨_, _, _, _, rfl, q10.trans (hfb.mono (by omega)), IntC.small hm1 hm2⟩

end Go.Proofs.YtoffbdlgmnpblaaGreat
