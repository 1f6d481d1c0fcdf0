/- Part 5: Ex8 Div2 Ex9. -/
import Derived.Test.YtoffbdlgmnpblaaGreatJ04
import Derived.Test.YtoffbdlgmnpblaaGreatJ01
import Derived.Laws.BitsAllLaws

/- Package exact: the product of integers by their digits. -/
namespace Go.Proofs.YtoffbdlgmnpblaaGreat
open Go.RowKit
set_option maxHeartbeats 4000000
set_option maxRecDepth 100000

theorem Sl.nums {k : IntKind} {w : World} {D : Nat → Prop} {A : Option Addr} {n c : Nat} {xs : List Int} (h : Sl (Kind.int k) w D (.slice A n c) xs) :
    0 < xs.length → ∃ ad, A = some ad ∧ D ad.block ∧ ∀ i, i < xs.length → w.cell? (ad.add i) = some (.int k (Dig.gd xs i)) := by
  obtain ⟨A', c', e, _, _, h3⟩ := h.ints
  injection e with e1 e2 e3
  subst e1
  exact h3

/-- what the rows of a product have gathered -/
structure MulRow (zs xs ys : List Int) (i : Nat) : Prop where
  ok : Dig.ok B32 zs
  val : Dig.val B32 zs = Dig.val B32 (xs.take i) * Dig.val B32 ys
  zero : ∀ j, i + ys.length ≤ j → Dig.gd zs j = 0
structure MulCol (zs xs ys : List Int) (i k : Nat) (c : Int) : Prop where
  ok : Dig.ok B32 zs
  val : Dig.val B32 zs + B32 ^ (i + k) * c = Dig.val B32 (xs.take i) * Dig.val B32 ys + B32 ^ i * (Dig.gd xs i * Dig.val B32 (ys.take k))
  zero : ∀ j, i + ys.length ≤ j → Dig.gd zs j = 0

theorem sgn_mul (x y : Int) : -1 ≤ Dig.sgn x * Dig.sgn y ∧ Dig.sgn x * Dig.sgn y ≤ 1 := by
  obtain ⟨r1, r2⟩ := Dig.sgn_range x
  obtain ⟨r3, r4⟩ := Dig.sgn_range y
  obtain h1 | h1 | h1 : Dig.sgn x = -1 ∨ Dig.sgn x = 0 ∨ Dig.sgn x = 1 := by omega
  all_goals rw [h1]; omega

theorem Mul_big (s : Int) (A : Option Addr) (n c : Nat) (x : Int) (s' : Int) (A' : Option Addr) (n' c' : Nat) (y : Int) (D : Nat → Prop) (w : World) (hD : Lo D w)
    (hx : IntC w D s A n c x) (hy : IntC w D s' A' n' c' y) (N : Nat) (hN : N ≤ 268435456) (fx : Fit N x) (fy : Fit N y) (hbig : ¬ (A = none ∧ A' = none ∧ Dig.ab x * Dig.ab y < 4611686018427387904)) :
    Calls Tryz.prog 181 #[.agg #[.int .i64 s, .slice A n c], .agg #[.int .i64 s', .slice A' n' c']] w fun e w' => ∃ t B m d, e = .returned (.agg #[.int .i64 t, .slice B m d]) ∧ Below w.heap.size w w' ∧ IntC w' (gr D w w') t B m d (x * y) := by
  have hnil := fun (w : World) (a : Option Addr) (n c : Nat) => Lib.run_eql_slice_nil (P := Tryz.prog) w 154 199 a n c 0 0 Tryz.underlying154
  have HX := Lib.hid hx
  have HY := Lib.hid hy
  have HBIG := Lib.hid hbig
  clear hbig
  have hcase : (∃ ad, A = some ad) ∨ (A = none ∧ ∃ ad, A' = some ad) ∨ (A = none ∧ A' = none) := by
    cases A with
    | some ad => exact .inl ⟨ad, rfl⟩
    | none => cases A' with
      | some ad => exact .inr (.inl ⟨rfl, ad, rfl⟩)
      | none => exact .inr (.inr ⟨rfl, rfl⟩)
  rcases hcase with ⟨ad, rfl⟩ | ⟨rfl, ad, rfl⟩ | ⟨rfl, rfl⟩
  case' inr.inr =>
    obtain ⟨hx1, hx2⟩ := hx.s_lt
    obtain ⟨hy1, hy2⟩ := hy.s_lt
    go_enter Tryz.func181, Tryz.ntmps181
    go_wp2_with fail
    rw [show max s (-s) = ((s.natAbs : Nat) : Int) by omega, show max s' (-s') = ((s'.natAbs : Nat) : Int) by omega]
    refine (Tryz.bits_Mul64 s.natAbs s'.natAbs (by omega) (by omega) _).mono ?_
    have hp : 4611686018427387904 ≤ s.natAbs * s'.natAbs := by
      have e0 : s = x := by
        rcases hx with ⟨-, -, -, h, -, -⟩ | ⟨xs, h1, -, -, h4, -⟩
        · exact h
        · exfalso
          obtain ⟨A1, c1, e1, -, -, h6⟩ := h1.form
          obtain ⟨ad, e2, _⟩ := h6 (trimmed_ne h4)
          injection e1 with e1
          rw [← e1] at e2; cases e2
      have e0' : s' = y := by
        rcases hy with ⟨-, -, -, h, -, -⟩ | ⟨xs, h1, -, -, h4, -⟩
        · exact h
        · exfalso
          obtain ⟨A1, c1, e1, -, -, h6⟩ := h1.form
          obtain ⟨ad, e2, _⟩ := h6 (trimmed_ne h4)
          injection e1 with e1
          rw [← e1] at e2; cases e2
      have e1 : (s.natAbs : Int) = Dig.ab x := by rw [← e0]; unfold Dig.ab; split <;> omega
      have e2 : (s'.natAbs : Int) = Dig.ab y := by rw [← e0']; unfold Dig.ab; split <;> omega
      have : ¬ Dig.ab x * Dig.ab y < 4611686018427387904 := fun h => HBIG.out (by simpa using h)
      have : (4611686018427387904 : Int) ≤ ((s.natAbs * s'.natAbs : Nat) : Int) := by rw [Int.natCast_mul, e1, e2]; omega
      omega
    generalize s.natAbs * s'.natAbs = p at *
    rintro e wm ⟨rfl, rfl⟩
    refine (Nat.lt_or_ge p 18446744073709551616).elim (fun hp64 => ?lo) (fun hp64 => ?hi)
    case' lo =>
      rw [Nat.div_eq_of_lt hp64, Nat.mod_eq_of_lt hp64]
      have hlow : (4611686018427387904 : Int) ≤ (p : Int) := by omega
      clear hx hy hp64 hp
      generalize (p : Int) = q at *
      go_wp2_with fail
    case' hi =>
      have hhigh : ((((p / 18446744073709551616 : Nat)) : Int) == 0) = false := by rw [beq_eq_false_iff_ne]; omega
      clear hx hy hp64 hp
      generalize p / 18446744073709551616 = q at *
      generalize p % 18446744073709551616 = q' at *
      go_wp2_with fail
  case' inl =>
    go_enter Tryz.func181, Tryz.ntmps181
    go_wp2_with fail
  case' inr.inl =>
    go_enter Tryz.func181, Tryz.ntmps181
    go_wp2_with fail
  all_goals
    refine (digits_calls s _ n c x D _ (hD.up (boxes3 _ _ _ _).size) (HX.out.below hD (boxes3 _ _ _ _))).mono ?_
    rintro e w1 ⟨A1, n1, c1, xs, rfl, hb1, hs1, o1, t1, v1⟩
    have hB1 := (boxes3 _ _ _ _).trans (hb1.mono (by simp <;> omega))
    obtain ⟨hc1, hf1⟩ := bcell hb1
    have hz1 : w.heap.size + 2 < w1.heap.size := by have := hb1.size; simp at this; omega
    go_wp2_with fail
    refine (digits_calls s' _ n' c' y D _ (hD.up hB1.size) (HY.out.below hD hB1)).mono ?_
    rintro e w2 ⟨A2, n2, c2, ys, rfl, hb2, hs2, o2, t2, v2⟩
    have hT2 := hb1.trans (hb2.mono hb1.size)
    have hB2 := (boxes3 _ _ _ _).trans (hT2.mono (by simp <;> omega))
    clear hc1 hf1
    obtain ⟨hc2, hf2⟩ := bcell hT2
    have hz2 : w.heap.size + 2 < w2.heap.size := by have := hb2.size; omega
    have hL1 := (hD.up (boxes3 _ _ _ _).size).gr hb1
    have hL2 := (hD.up hB1.size).gr hb2
    have hs1' := hs1.same (hL1.same hb2)
    have l1 := fx.len o1 t1 v1
    have l2 := fy.len o2 t2 v2
    obtain ⟨rfl, -, -⟩ := hs1.len
    obtain ⟨rfl, -, -⟩ := hs2.len
    go_wp2_with (refine wpList_mk1 elem_u32 rfl _ _ rfl (by intro cs h; cases h) w2.heap.size _ _ ((xs.length : Int) + (ys.length : Int)) ((xs.length : Int) + (ys.length : Int)) rfl rfl (by omega) (by omega) (by omega) (by omega) (Nat.le_refl _) ?_; intro w3 hown hb3 hz3 _)
    have hx3 := hs1'.nums
    have hy3 := hs2.nums
    have hg0 : w.heap.size + 3 ≤ w2.heap.size := by omega
    have HL1 := Lib.hid (hL1.up hb2.size)
    have HL2 := Lib.hid hL2
    clear hL1 hL2 hs1 hs1' hs2 hc2 hf2
    go_loopw [76] (fun iv wr => ∃ (i : Nat) (zs : List Int), i ≤ xs.length ∧ iv = .int .i64 i ∧ wr.ownsRow w2.heap.size 199 1 (.slice (some ⟨w2.heap.size, 0, none⟩) (xs.length + ys.length) (xs.length + ys.length)) (xs.length + ys.length) (zs.map (.int .u32)) ∧
        Below w2.heap.size w2 wr ∧ MulRow zs xs ys i) (fun iv _ => xs.length - (intOf iv).toNat)
    case atStart =>
      refine ⟨0, List.replicate (xs.length + ys.length) 0, Nat.zero_le _, rfl, ?_, hb3, ⟨Dig.ok_replicate (by decide) _, by rw [Dig.val_replicate]; simp [Dig.val], fun j _ => Dig.gd_replicate _ _⟩⟩
      rw [List.map_replicate]
      have e : ((xs.length : Int) + (ys.length : Int)).toNat = xs.length + ys.length := by omega
      rw [e] at hown
      exact hown
    case round =>
      obtain ⟨i, zs, hi, rfl, ho, hb, HR⟩ := hrel
      have hlz : zs.length = xs.length + ys.length := by have := ho.1; simpa using this
      have HZ := Lib.hid hlz
      clear hlz hown hb3 hz3
      by_cases hix : i < xs.length
      · obtain ⟨ad1, rfl, hd1, hcx⟩ := hx3 (by omega)
        have hcx1 := (hb.cell (p := ad1.add i) (by rw [block_of_add]; exact HL1.out _ hd1)).trans (hcx i hix)
        obtain ⟨bx1, bx2⟩ : 0 ≤ Dig.gd xs i ∧ Dig.gd xs i < 4294967296 := Dig.ok_get o1 (by decide) i
        clear hcx hx3
        go_wp2
        obtain ⟨wo, rfl⟩ : ∃ wo : World, wo = wr := ⟨_, rfl⟩
        go_loopw [14, 83] (fun cv kv wr => ∃ (k : Nat) (zs : List Int) (cc : Int), k ≤ ys.length ∧ kv = .int .i64 k ∧ cv = .int .u64 cc ∧ 0 ≤ cc ∧ cc < 4294967296 ∧
            wr.ownsRow w2.heap.size 199 1 (.slice (some ⟨w2.heap.size, 0, none⟩) (xs.length + ys.length) (xs.length + ys.length)) (xs.length + ys.length) (zs.map (.int .u32)) ∧
            Below w2.heap.size w2 wr ∧ MulCol zs xs ys i k cc) (fun _ kv _ => ys.length - (intOf kv).toNat)
        case atStart => exact ⟨0, zs, 0, Nat.zero_le _, rfl, rfl, by decide, by decide, ho, hb, ⟨HR.ok, by rw [HR.val]; simp [Dig.val], HR.zero⟩⟩
        case round =>
          clear HR HZ ho hcx1
          obtain ⟨k, zs, cc, hk, rfl, rfl, hc0, hc1, ho, hb, HC⟩ := hrel
          have hlz : zs.length = xs.length + ys.length := by have := ho.1; simpa using this
          by_cases hky : k < ys.length
          · obtain ⟨ad2, rfl, hd2, hcy⟩ := hy3 (by omega)
            have hcy1 := (hb.cell (p := ad2.add k) (by rw [block_of_add]; exact HL2.out _ hd2)).trans (hcy k hky)
            obtain ⟨by1, by2⟩ : 0 ≤ Dig.gd ys k ∧ Dig.gd ys k < 4294967296 := Dig.ok_get o2 (by decide) k
            obtain ⟨bz1, bz2⟩ : 0 ≤ Dig.gd zs (i + k) ∧ Dig.gd zs (i + k) < 4294967296 := Dig.ok_get HC.ok (by decide) (i + k)
            have hik : i + k < xs.length + ys.length := by omega
            obtain ⟨hz1', hz2'⟩ := own_cell ho (i + k) (.int .u32 (Dig.gd zs (i + k))) (by rw [List.getElem?_map, Dig.gd_lt (by omega)]; rfl)
            have hp1 : 0 ≤ Dig.gd xs i * Dig.gd ys k := Int.mul_nonneg bx1 by1
            have hp2 : Dig.gd xs i * Dig.gd ys k ≤ 4294967295 * 4294967295 := by
              have h1 : Dig.gd xs i * Dig.gd ys k ≤ 4294967295 * Dig.gd ys k := Int.mul_le_mul_of_nonneg_right (by omega) by1
              omega
            have HZ := Lib.hid hlz
            clear hlz hcy hy3
            go_wp2
            have hst := Dig.mul_step (b := B32) (by decide) (i := i) (k := k) (c := cc) (p := Dig.gd xs i) (V := Dig.val B32 (xs.take i) * Dig.val B32 ys) HC.ok (by rw [HZ.out]; exact hik) hky rfl HC.val
            refine ⟨⟨k + 1, zs.set (i + k) ((cc + (Dig.gd xs i * Dig.gd ys k + Dig.gd zs (i + k))) % 4294967296), _, by omega, by go_num, rfl, by omega, by omega, ?_, hb.setCell (Nat.le_refl _) _, ⟨hst.1, hst.2, fun j hj => ?_⟩⟩, by simp [intOf]; omega⟩
            · rw [List.map_set]; exact own_set ho (i + k) hik _
            · rw [Dig.gd_set_other _ _ _ _ (by omega)]; exact HC.zero j hj
          · obtain rfl : k = ys.length := by omega
            have hik : i + ys.length < xs.length + ys.length := by omega
            obtain ⟨hz1', hz2'⟩ := own_cell ho (i + ys.length) (.int .u32 (Dig.gd zs (i + ys.length))) (by rw [List.getElem?_map, Dig.gd_lt (by omega)]; rfl)
            have HZ := Lib.hid hlz
            clear hlz hy3
            go_wp2
            have hst := Dig.mul_row (b := B32) HC.ok ⟨hc0, hc1⟩ hix (by rw [HZ.out]; exact hik) (HC.zero _ (Nat.le_refl _)) HC.val
            refine ⟨⟨i + 1, zs.set (i + ys.length) cc, by omega, by go_num, ?_, hb.setCell (Nat.le_refl _) _, ⟨hst.1, hst.2, fun j hj => ?_⟩⟩, by simp [intOf]; omega⟩
            · rw [List.map_set]; exact own_set ho _ hik _
            · rw [Dig.gd_set_other _ _ _ _ (by omega)]; exact HC.zero j (by omega)
      · obtain rfl : i = xs.length := by omega
        clear hx3 hy3
        obtain ⟨r1, r2⟩ := sgn_mul x y
        go_wp2_with fail
        refine (made_calls (Dig.sgn x * Dig.sgn y) zs _ _ _ (own_ints ho).2 (fun k hk => hk.2) HR.ok r1 r2 ?_).mono ?_
        · intro h0
          have hv := HR.val
          rw [List.take_length, v1, v2] at hv
          rw [hv]
          have hxy := Dig.sgn_ab x
          have hyy := Dig.sgn_ab y
          rcases Int.mul_eq_zero.1 h0 with h0 | h0
          · rw [h0, Int.zero_mul] at hxy
            rw [← hxy, Dig.ab_of_pos (Int.le_refl 0), Int.zero_mul]; decide
          · rw [h0, Int.zero_mul] at hyy
            rw [← hyy, Dig.ab_of_pos (Int.le_refl 0), Int.mul_zero]; decide
        rintro e w4 ⟨t, B, m, d, rfl, hb4, hi4⟩
        have hT4 := hT2.trans ((hb.mono hT2.size).trans (hb4.mono (Nat.le_trans hT2.size hb.size)))
        have hB4 := (boxes3 _ _ _ _).trans (hT4.mono (by simp <;> omega))
        obtain ⟨hc4, hf4⟩ := bcell hT4
        have hz4 : w.heap.size + 2 < w4.heap.size := by have := hb.size; have := hb4.size; omega
        go_wp2
        refine bodyPost_ret (v := .agg #[.int .i64 t, .slice B m d]) (by simp [results, Tryz.results181, go_sem, hc4]) rfl ⟨_, _, _, _, rfl, ?_, ?_⟩
        · exact (hB4.setCell (by simp <;> omega) _).setCell (by simp <;> omega) _
        · have e : Dig.sgn x * Dig.sgn y * Dig.val B32 zs = x * y := by
            have hv := HR.val
            rw [List.take_length, v1, v2] at hv
            rw [hv]
            calc Dig.sgn x * Dig.sgn y * (Dig.ab x * Dig.ab y) = (Dig.sgn x * Dig.ab x) * (Dig.sgn y * Dig.ab y) := by grind
              _ = x * y := by rw [Dig.sgn_ab, Dig.sgn_ab]
          rw [← e]
          exact (hi4.store2 _ (fun k => by have := k.1; omega) _ _ _ _).mono fun k hk => .inr ⟨by have := hk.1; omega, by have := hk.2; have := hb4.size; simp [World.setCell]; omega⟩

theorem IntC.nil_eq {w : World} {D : Nat → Prop} {s : Int} {n c : Nat} {z : Int} (h : IntC w D s none n c z) : n = 0 ∧ c = 0 ∧ s = z ∧ -4611686018427387904 < z ∧ z < 4611686018427387904 := by
  rcases h with ⟨-, h1, h2, h, h3, h4⟩ | ⟨xs, h1, -, -, h4, -⟩
  · exact ⟨h1, h2, h, h3, h4⟩
  · exfalso
    obtain ⟨A1, c1, e1, -, -, h6⟩ := h1.form
    obtain ⟨ad, e2, _⟩ := h6 (trimmed_ne h4)
    injection e1 with e1
    rw [← e1] at e2; cases e2

theorem Mul_calls (s : Int) (A : Option Addr) (n c : Nat) (x : Int) (s' : Int) (A' : Option Addr) (n' c' : Nat) (y : Int) (D : Nat → Prop) (w : World) (hD : Lo D w)
    (hx : IntC w D s A n c x) (hy : IntC w D s' A' n' c' y) (N : Nat) (hN : N ≤ 268435456) (fx : Fit N x) (fy : Fit N y) :
    Calls Tryz.prog 181 #[.agg #[.int .i64 s, .slice A n c], .agg #[.int .i64 s', .slice A' n' c']] w fun e w' => ∃ t B m d, e = .returned (.agg #[.int .i64 t, .slice B m d]) ∧ Below w.heap.size w w' ∧ IntC w' (gr D w w') t B m d (x * y) := by
  by_cases h : A = none ∧ A' = none ∧ Dig.ab x * Dig.ab y < 4611686018427387904
  · obtain ⟨rfl, rfl, h⟩ := h
    obtain ⟨rfl, rfl, rfl, h1, h2⟩ := hx.nil_eq
    obtain ⟨rfl, rfl, rfl, h3, h4⟩ := hy.nil_eq
    exact Mul_small s s' D w ⟨h1, h2⟩ ⟨h3, h4⟩ h
  · exact Mul_big s A n c x s' A' n' c' y D w hD hx hy N hN fx fy h

end Go.Proofs.YtoffbdlgmnpblaaGreat

/- Plain laws on digits: shifted digits. -/
namespace Go.Proofs.YtoffbdlgmnpblaaGreat.Dig

theorem pow_split {n : Nat} (hn : n < 32) : ∃ P Q : Int, (2 : Int) ^ n = P ∧ 0 < P ∧ 0 < Q ∧ P * Q = 4294967296 := by
  refine ⟨2 ^ n, 2 ^ (32 - n), rfl, Int.pow_pos (by decide), Int.pow_pos (by decide), ?_⟩
  rw [← Int.pow_add, show n + (32 - n) = 32 by omega]
  decide

/-- a digit times 2^n: its lower part and what is carried -/
theorem shift_parts {d P Q z : Int} (hP : 0 < P) (hQ : 0 < Q) (hPQ : P * Q = 4294967296) (hd : 0 ≤ d ∧ d < 4294967296) (hz : 0 ≤ z ∧ z < P) :
    d * P % 4294967296 = P * (d % Q) ∧ d * P / 4294967296 = d / Q ∧ 0 ≤ z + d * P % 4294967296 ∧ z + d * P % 4294967296 < 4294967296 ∧ 0 ≤ d / Q ∧ d / Q < P := by
  have e1 : d * P % 4294967296 = P * (d % Q) := by rw [← hPQ, Int.mul_comm d P]; exact Int.mul_emod_mul_of_pos _ _ hP
  have e2 : d * P / 4294967296 = d / Q := by rw [← hPQ, Int.mul_comm d P]; exact Int.mul_ediv_mul_of_pos _ _ hP
  have h1 := Int.emod_nonneg d (show Q ≠ 0 by omega)
  have h2 := Int.emod_lt_of_pos d hQ
  have h3 : P * (d % Q) ≤ P * (Q - 1) := Int.mul_le_mul_of_nonneg_left (by omega) (Int.le_of_lt hP)
  have h4 : 0 ≤ P * (d % Q) := Int.mul_nonneg (Int.le_of_lt hP) h1
  have h5 : P * (Q - 1) = P * Q - P := by grind
  refine ⟨e1, e2, by omega, by omega, Int.ediv_nonneg hd.1 (by omega), Int.ediv_lt_of_lt_mul hQ (by omega)⟩

theorem or_low {n : Nat} {a b : Int} (hn : n < 32) (ha : 0 ≤ a ∧ a < 2 ^ n) (hb : 0 ≤ b ∧ b < 4294967296) (hm : ∃ k : Int, b = 2 ^ n * k) : Go.bits .or .u32 a b = a + b := by
  obtain ⟨k, hk⟩ := hm
  have hpp : (2 : Int) ^ n ≤ 2 ^ 31 := pow_mono (by decide) (by omega)
  have h31 : (2 : Int) ^ 31 = 2147483648 := by decide
  rw [Go.u32_or _ _ (by omega) (by omega) (by omega) (by omega), Nat.or_comm, Go.nat_join n _ _ ?_ ?_]
  · omega
  · have hp : (0 : Int) < 2 ^ n := Int.pow_pos (by decide)
    have : ((b.toNat % 2 ^ n : Nat) : Int) = 0 := by
      rw [Int.natCast_emod, Int.toNat_of_nonneg hb.1, hk, show ((2 ^ n : Nat) : Int) = 2 ^ n by simp, Int.mul_emod_right]
    omega
  · have : ((a.toNat : Nat) : Int) < ((2 ^ n : Nat) : Int) := by
      rw [Int.toNat_of_nonneg ha.1, show ((2 ^ n : Nat) : Int) = 2 ^ n by simp]; exact ha.2
    omega

theorem shift_step {zs xs : List Int} {i : Nat} {n : Nat} (hn : n < 32) (ho : ok 4294967296 zs) (ox : ok 4294967296 xs) (hi : i < xs.length) (hz : i + 1 < zs.length)
    (hv : val 4294967296 zs = 2 ^ n * val 4294967296 (xs.take i)) (hzero : ∀ j, i < j → gd zs j = 0) (hlow : gd zs i < 2 ^ n) :
    Go.bits .or .u32 (gd zs i) (gd xs i * 2 ^ n % 4294967296) = gd zs i + gd xs i * 2 ^ n % 4294967296 ∧ gd xs i * 2 ^ n / 4294967296 < 4294967296 ∧
    ok 4294967296 ((zs.set i (gd zs i + gd xs i * 2 ^ n % 4294967296)).set (i + 1) (gd xs i * 2 ^ n / 4294967296)) ∧
    val 4294967296 ((zs.set i (gd zs i + gd xs i * 2 ^ n % 4294967296)).set (i + 1) (gd xs i * 2 ^ n / 4294967296)) = 2 ^ n * val 4294967296 (xs.take (i + 1)) ∧
    (∀ j, i + 1 < j → gd ((zs.set i (gd zs i + gd xs i * 2 ^ n % 4294967296)).set (i + 1) (gd xs i * 2 ^ n / 4294967296)) j = 0) ∧
    gd ((zs.set i (gd zs i + gd xs i * 2 ^ n % 4294967296)).set (i + 1) (gd xs i * 2 ^ n / 4294967296)) (i + 1) < 2 ^ n := by
  obtain ⟨P, Q, eP, hP, hQ, hPQ⟩ := pow_split hn
  have hd := ok_get ox (by decide) i
  have hzi := ok_get ho (by decide) i
  rw [← gd_int] at hd hzi
  obtain ⟨p1, p2, p3, p4, p5, p6⟩ := shift_parts hP hQ hPQ hd ⟨hzi.1, by rw [← eP]; exact hlow⟩
  have hPle : P ≤ 4294967296 := by
    have : P * 1 ≤ P * Q := Int.mul_le_mul_of_nonneg_left (by omega) (Int.le_of_lt hP)
    omega
  refine ⟨?_, ?_, ?_, ?_, ?_, ?_⟩
  · refine or_low hn ⟨hzi.1, hlow⟩ ⟨Int.emod_nonneg _ (by decide), Int.emod_lt_of_pos _ (by decide)⟩ ⟨gd xs i % Q, ?_⟩
    rw [eP, p1]
  · rw [eP, p2]; omega
  · rw [eP]
    refine ok_set (ok_set ho _ ⟨p3, p4⟩) _ ⟨by rw [p2]; exact p5, by rw [p2]; omega⟩
  · rw [val_set _ _ _ _ (by simpa using hz), val_set _ _ _ _ (by omega), ← gd_int, ← gd_int, gd_set_other _ _ _ _ (by omega), hzero (i + 1) (by omega), gd_take_succ xs i hi, hv, Int.pow_succ]
    have e := Int.mul_ediv_add_emod (gd xs i * 2 ^ n) 4294967296
    grind
  · intro j hj
    rw [gd_set_other _ _ _ _ (by omega), gd_set_other _ _ _ _ (by omega)]
    exact hzero j (by omega)
  · rw [gd_set_same _ _ _ (by simpa using hz), eP, p2]
    exact p6

end Go.Proofs.YtoffbdlgmnpblaaGreat.Dig

/- Package exact: the division of digits by one digit; digits shifted. -/
namespace Go.Proofs.YtoffbdlgmnpblaaGreat
open Go.RowKit
set_option maxHeartbeats 2000000
set_option maxRecDepth 100000

structure ShortAt (xs zs : List Int) (y r : Int) (k : Nat) : Prop where
  ok : Dig.ok B32 zs
  val : Dig.val B32 (xs.drop k) = y * Dig.val B32 (zs.drop k) + r

theorem short_calls (xs : List Int) (v : Value) (D : Nat → Prop) (y : Int) (w : World) (hD : Lo D w) (h : Sl (Kind.int .u32) w D v xs) (ox : Dig.ok B32 xs) (hy0 : 0 < y) (hy1 : y < 4294967296) (hl : xs.length ≤ 1073741824) :
    Calls Tryz.prog 255 #[v, .int .u32 y] w fun e w' => ∃ v' r zs, e = .returned (.tuple #[v', .int .u32 r]) ∧ Below w.heap.size w w' ∧ Sl (Kind.int .u32) w' (nw w w') v' zs ∧ Dig.ok B32 zs ∧
      Dig.val B32 xs = y * Dig.val B32 zs + r ∧ 0 ≤ r ∧ r < y := by
  obtain ⟨A, c, rfl, h1, h2, h3⟩ := h.ints
  clear h
  unfold maxLen at h2
  go_enter Tryz.func255, Tryz.ntmps255
  go_wp2_with (refine wpList_mk1 elem_u32 rfl _ _ rfl (by intro cs h; cases h) w.heap.size _ _ (xs.length : Int) (xs.length : Int) rfl rfl (by omega) (by omega) (by omega) (by omega) (Nat.le_refl _) ?_; intro w1 hown hb1 hz1 _)
  go_loopw [7, 8] (fun rv iv wr => ∃ (k : Nat) (r : Int) (zs : List Int), k ≤ xs.length ∧ iv = .int .i64 ((k : Int) - 1) ∧ rv = .int .u32 r ∧ 0 ≤ r ∧ r < y ∧
      wr.ownsRow w.heap.size 199 1 (.slice (some ⟨w.heap.size, 0, none⟩) xs.length xs.length) xs.length (zs.map (.int .u32)) ∧ Below w.heap.size w wr ∧ ShortAt xs zs y r k) (fun _ iv _ => (intOf iv + 1).toNat)
  case atStart =>
    refine ⟨xs.length, 0, List.replicate xs.length 0, Nat.le_refl _, rfl, rfl, by omega, by omega, ?_, hb1, ⟨Dig.ok_replicate (by decide) _, by simp [Dig.val]⟩⟩
    rw [List.map_replicate]
    rw [Int.toNat_natCast] at hown
    exact hown
  case round =>
    obtain ⟨k, r, zs, hk, rfl, rfl, hr0, hr1, ho, hb, HR⟩ := hrel
    have hlz : zs.length = xs.length := by have := ho.1; simpa using this
    clear hown hb1 hz1
    by_cases hp : 0 < k
    · obtain ⟨k, rfl⟩ : ∃ m, k = m + 1 := ⟨k - 1, by omega⟩
      obtain ⟨ad, rfl, hd, hx⟩ := h3 (by omega)
      have hcx := (hb.cell (p := ad.add k) (by rw [block_of_add]; exact hD _ hd)).trans (hx k (by omega))
      obtain ⟨bx1, bx2⟩ : 0 ≤ Dig.gd xs k ∧ Dig.gd xs k < 4294967296 := Dig.ok_get ox (by decide) k
      have hkx : k < xs.length := by omega
      obtain ⟨hz1', hz2'⟩ := own_cell ho k (.int .u32 (Dig.gd zs k)) (by rw [List.getElem?_map, Dig.gd_lt (by omega)]; rfl)
      rw [show ((k + 1 : Nat) : Int) - 1 = (k : Int) from by omega]
      have HS := Lib.hid (Dig.short_step (b := B32) (by decide) HR.ok ox hkx (by omega) ⟨hr0, hr1⟩ rfl HR.val)
      clear hx h3
      have HZ := Lib.hid hlz
      clear hlz
      go_wp2_with (go_at_call 263; refine (Div32_calls _ _ _ _ ⟨by omega, by omega⟩ ⟨by omega, by omega⟩ (by omega)).mono ?_; rintro e w2 ⟨rfl, n2, rfl⟩)
      obtain ⟨s1, s2, s3, s4⟩ := HS.out
      refine ⟨⟨k, (r * 4294967296 + Dig.gd xs k) % y, zs.set k ((r * 4294967296 + Dig.gd xs k) / y), by omega, rfl, rfl, s3, s4, ?_, (below_drewN hb n2).setCell (Nat.le_refl _) _, ⟨s1, s2⟩⟩, by simp [intOf]⟩
      rw [List.map_set]
      exact own_set (w := wr.drewN n2) ho k hkx _
    · obtain rfl : k = 0 := by omega
      clear h3
      go_wp2
      go_ret2
      have hv := HR.val
      simp only [List.drop_zero] at hv
      exact ⟨_, _, zs, rfl, hb, (own_ints ho).2, HR.ok, hv, hr0, hr1⟩

structure ShiftAt (xs zs : List Int) (n i : Nat) : Prop where
  ok : Dig.ok B32 zs
  val : Dig.val B32 zs = 2 ^ n * Dig.val B32 (xs.take i)
  zero : ∀ j, i < j → Dig.gd zs j = 0
  low : Dig.gd zs i < 2 ^ n

theorem shifted_calls (xs : List Int) (v : Value) (D : Nat → Prop) (n : Nat) (w : World) (hD : Lo D w) (h : Sl (Kind.int .u32) w D v xs) (ox : Dig.ok B32 xs) (hn : n < 32) (hl : xs.length ≤ 1073741824) :
    Calls Tryz.prog 265 #[v, .int .i64 n] w fun e w' => ∃ g zs, e = .returned (.slice (some ⟨g, 0, none⟩) (xs.length + 1) (xs.length + 1)) ∧ Below w.heap.size w w' ∧ g = w.heap.size ∧
      w'.ownsRow w.heap.size 199 1 (.slice (some ⟨g, 0, none⟩) (xs.length + 1) (xs.length + 1)) (xs.length + 1) (zs.map (.int .u32)) ∧ Dig.ok B32 zs ∧ Dig.val B32 zs = 2 ^ n * Dig.val B32 xs := by
  obtain ⟨A, c, rfl, h1, h2, h3⟩ := h.ints
  clear h
  unfold maxLen at h2
  go_enter Tryz.func265, Tryz.ntmps265
  go_wp2_with (refine wpList_mk1 elem_u32 rfl _ _ rfl (by intro cs h; cases h) w.heap.size _ _ ((xs.length : Int) + 1) ((xs.length : Int) + 1) rfl rfl (by omega) (by omega) (by omega) (by omega) (Nat.le_refl _) ?_; intro w1 hown hb1 hz1 _)
  go_loopw [15] (fun iv wr => ∃ (i : Nat) (zs : List Int), i ≤ xs.length ∧ iv = .int .i64 i ∧
      wr.ownsRow w.heap.size 199 1 (.slice (some ⟨w.heap.size, 0, none⟩) (xs.length + 1) (xs.length + 1)) (xs.length + 1) (zs.map (.int .u32)) ∧ Below w.heap.size w wr ∧ ShiftAt xs zs n i) (fun iv _ => xs.length - (intOf iv).toNat)
  case atStart =>
    refine ⟨0, List.replicate (xs.length + 1) 0, Nat.zero_le _, rfl, ?_, hb1, ⟨Dig.ok_replicate (by decide) _, by rw [Dig.val_replicate]; simp [Dig.val], fun j _ => Dig.gd_replicate _ _, by rw [Dig.gd_replicate]; exact Int.pow_pos (by decide)⟩⟩
    rw [List.map_replicate]
    have e : ((xs.length : Int) + 1).toNat = xs.length + 1 := by omega
    rw [e] at hown
    exact hown
  case round =>
    obtain ⟨i, zs, hi, rfl, ho, hb, HR⟩ := hrel
    have hlz : zs.length = xs.length + 1 := by have := ho.1; simpa using this
    clear hown hb1 hz1
    by_cases hix : i < xs.length
    · obtain ⟨ad, rfl, hd, hx⟩ := h3 (by omega)
      have hcx := (hb.cell (p := ad.add i) (by rw [block_of_add]; exact hD _ hd)).trans (hx i hix)
      obtain ⟨bx1, bx2⟩ : 0 ≤ Dig.gd xs i ∧ Dig.gd xs i < 4294967296 := Dig.ok_get ox (by decide) i
      obtain ⟨hz1', hz2'⟩ := own_cell ho i (.int .u32 (Dig.gd zs i)) (by rw [List.getElem?_map, Dig.gd_lt (by omega)]; rfl)
      clear hx h3
      have HZ := Lib.hid hlz
      clear hlz
      obtain ⟨hz3', hz4'⟩ := own_cell ho (i + 1) (.int .u32 (Dig.gd zs (i + 1))) (by rw [List.getElem?_map, Dig.gd_lt (by have := HZ.out; omega)]; rfl)
      obtain ⟨s1, s2, s3, s4, s5, s6⟩ := Dig.shift_step hn HR.ok ox hix (by have := HZ.out; omega) HR.val HR.zero HR.low
      have ht0 : 0 ≤ Dig.gd xs i * 2 ^ n := Int.mul_nonneg bx1 (Int.le_of_lt (Int.pow_pos (by decide)))
      have ht1 : Dig.gd xs i * 2 ^ n ≤ 9223372036854775807 := by
        have h31 : (2 : Int) ^ 31 = 2147483648 := by decide
        have hpp : (2 : Int) ^ n ≤ 2 ^ 31 := Dig.pow_mono (by decide) (by omega)
        have h1 : Dig.gd xs i * 2 ^ n ≤ Dig.gd xs i * 2147483648 := Int.mul_le_mul_of_nonneg_left (by omega) bx1
        omega
      have hdiv : Dig.gd xs i * 2 ^ n / 4294967296 < 4294967296 := s2
      have HS := Lib.hid (And.intro s1 (And.intro s3 (And.intro s4 (And.intro s5 s6))))
      clear s1 s3 s4 s5 s6 s2
      go_wp2
      obtain ⟨s1, s3, s4, s5, s6⟩ := HS.out
      rw [s1]
      refine ⟨⟨i + 1, (zs.set i (Dig.gd zs i + Dig.gd xs i * 2 ^ n % 4294967296)).set (i + 1) (Dig.gd xs i * 2 ^ n / 4294967296), by omega, by go_num, ?_, (hb.setCell (Nat.le_refl _) _).setCell (Nat.le_refl _) _, ⟨s3, s4, s5, s6⟩⟩, by simp [intOf]; omega⟩
      rw [List.map_set, List.map_set]
      exact own_set (own_set ho i (by omega) _) (i + 1) (by omega) _
    · obtain rfl : i = xs.length := by omega
      clear h3
      go_wp2
      go_ret
      have hv := HR.val
      rw [List.take_length] at hv
      exact ⟨_, zs, rfl, hb, rfl, ho, HR.ok, hv⟩

end Go.Proofs.YtoffbdlgmnpblaaGreat
