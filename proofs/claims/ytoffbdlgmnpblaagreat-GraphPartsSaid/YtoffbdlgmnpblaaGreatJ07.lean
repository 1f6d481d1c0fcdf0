/- Part 7: Ex10. -/
import Derived.Test.YtoffbdlgmnpblaaGreatJ05
import Derived.Test.YtoffbdlgmnpblaaGreatJ06
import Derived.BigQuiet
import Derived.BigRegion
import Derived.Lib.EndianBits
import Derived.Deep.DeepCutAuto
import Derived.Deep.CutBlock

/- Package exact: long division of digits. -/
namespace Go.Proofs.YtoffbdlgmnpblaaGreat
open Go.RowKit
set_option maxHeartbeats 8000000
set_option maxRecDepth 100000

theorem own_far {w : World} {base : Nat} {e : TypeId} {sz g n cap : Nat} {vs : List Value} (h : w.ownsRow base e sz (.slice (some ⟨g, 0, none⟩) n cap) n vs) {p : Addr} (hp : g ≠ p.block) (u : Value) :
    (w.setCell p u).ownsRow base e sz (.slice (some ⟨g, 0, none⟩) n cap) n vs := by
  obtain ⟨hl, ⟨h1, _⟩ | ⟨g', cap', cur, hv, hb, hg, rest⟩⟩ := h
  · cases h1
  · simp only [Value.slice.injEq, Option.some.injEq, Addr.mk.injEq, true_and, and_true] at hv
    obtain ⟨rfl, rfl⟩ := hv
    exact ⟨hl, .inr ⟨g, cap, cur, rfl, hb, (Below.heap_setCell _ _ _ _ hp).trans hg, rest⟩⟩
theorem own_below {w w' : World} {base : Nat} {e : TypeId} {sz n : Nat} {v : Value} {vs : List Value} (h : w.ownsRow base e sz v n vs) (hb : Below w.heap.size w w') : w'.ownsRow base e sz v n vs :=
  h.kept (row := none) ⟨hb.os, hb.tape, hb.output, hb.size, fun k hk _ => hb.block k hk⟩ (by cases v.ownBlock <;> simp)
theorem own_base {w : World} {base base' : Nat} {e : TypeId} {sz n : Nat} {v : Value} {vs : List Value} (h : w.ownsRow base e sz v n vs) (hb : base' ≤ base) : w.ownsRow base' e sz v n vs := by
  obtain ⟨hl, h1 | ⟨g', cap', cur, hv, hb', rest⟩⟩ := h
  · exact ⟨hl, .inl h1⟩
  · exact ⟨hl, .inr ⟨g', cap', cur, hv, Nat.le_trans hb hb', rest⟩⟩
theorem own_sl {w : World} {base : Nat} {e : TypeId} {g n cap : Nat} {k : IntKind} {xs : List Int} (h : w.ownsRow base e 1 (.slice (some ⟨g, 0, none⟩) n cap) n (xs.map (.int k))) :
    Sl (Kind.int k) w (fun b => b = g) (.slice (some ⟨g, 0, none⟩) n cap) xs := by
  obtain ⟨e1, e2⟩ := own_ints h
  subst e1
  obtain ⟨_, k1, k2⟩ := e2.len
  exact Sl.of_ints k1 k2 fun _ => ⟨_, rfl, rfl, fun i hi => h.cells (g := g) rfl i _ (by rw [List.getElem?_map, Dig.gd_lt hi]; rfl)⟩
theorem Sl.far {α : Type} {K : Kind α} {w : World} {D : Nat → Prop} {v : Value} {xs : List α} (h : Sl K w D v xs) {p : Addr} (hp : ¬ D p.block) (u : Value) : Sl K (w.setCell p u) D v xs :=
  h.same fun k hk => Below.heap_setCell _ _ _ _ (by rintro rfl; exact hp hk)

theorem own_lt {w : World} {base : Nat} {e : TypeId} {sz g n cap : Nat} {vs : List Value} (h : w.ownsRow base e sz (.slice (some ⟨g, 0, none⟩) n cap) n vs) : g < w.heap.size := by
  obtain ⟨hl, ⟨h1, _⟩ | ⟨g', cap', cur, hv, hb, hg, rest⟩⟩ := h
  · cases h1
  · simp only [Value.slice.injEq, Option.some.injEq, Addr.mk.injEq, true_and, and_true] at hv
    obtain ⟨rfl, rfl⟩ := hv
    rcases Nat.lt_or_ge g w.heap.size with h | h
    · exact h
    · rw [Array.getElem?_eq_none h] at hg; cases hg
theorem Same.setCell {D : Nat → Prop} {a b : World} (h : Same D a b) {p : Addr} (hp : ¬ D p.block) (u : Value) : Same D a (b.setCell p u) :=
  fun k hk => (Below.heap_setCell _ _ _ _ (by rintro rfl; exact hp hk)).trans (h k hk)
theorem borrow_neg {a b : Int} (_h1 : 0 ≤ b) (_h2 : b ≤ 1) (h3 : -4294967296 ≤ a - b) (h4 : a - b < 0) :
    IntKind.u64.wrap (IntKind.u64.wrap a - b) / 9223372036854775808 = 1 ∧ IntKind.u64.wrap (IntKind.u64.wrap a - b) % 4294967296 = a - b + 4294967296 := by
  rw [IntKind.wrap_u64, IntKind.wrap_u64]; omega
theorem borrow_pos {a : Int} (h1 : 0 ≤ a) (h2 : a < 4294967296) : a / 9223372036854775808 = 0 := Int.ediv_eq_zero_of_lt h1 (by omega)
theorem join64 {hi lo : Int} (h0 : 0 ≤ hi) (h1 : hi < 4294967296) (l0 : 0 ≤ lo) (l1 : lo < 4294967296) : bits BinOp.or IntKind.u64 (hi * 4294967296) lo = hi * 4294967296 + lo :=
  bits_join .u64 64 (by decide) wraps_u64 32 (hi * 4294967296) lo (by omega) (by omega) (by omega) l0 (by omega) (by omega)
theorem join64' {hi lo : Int} (h0 : 0 ≤ hi) (h1 : hi < 4294967296) (l0 : 0 ≤ lo) (l1 : lo < 4294967296) : bits BinOp.or IntKind.u64 lo (hi * 4294967296) = hi * 4294967296 + lo := by
  rw [bits_join_low .u64 64 (by decide) wraps_u64 32 lo (hi * 4294967296) l0 (by omega) (by omega) (by omega) (by omega) (by omega)]
  omega

theorem long_calls (xs ys : List Int) (v u : Value) (D : Nat → Prop) (w : World) (hD : Lo D w) (h : Sl (Kind.int .u32) w D v xs) (h' : Sl (Kind.int .u32) w D u ys)
    (ox : Dig.ok B32 xs) (oy : Dig.ok B32 ys) (ty : Dig.trimmed ys) (hl2 : 2 ≤ ys.length) (hle : ys.length ≤ xs.length) (hl : xs.length ≤ 536870912) :
    Calls Tryz.prog 256 #[v, u] w fun e w' => ∃ v' u' qs rs, e = .returned (.tuple #[v', u']) ∧ Below w.heap.size w w' ∧ Sl (Kind.int .u32) w' (nw w w') v' qs ∧ Sl (Kind.int .u32) w' (nw w w') u' rs ∧
      Dig.ok B32 qs ∧ Dig.ok B32 rs ∧ Dig.val B32 xs = Dig.val B32 ys * Dig.val B32 qs + Dig.val B32 rs ∧ Dig.val B32 rs < Dig.val B32 ys := by
  have HX := Lib.hid h
  have HY := Lib.hid h'
  obtain ⟨A, c, rfl, h1, h2, -⟩ := h.ints
  obtain ⟨A', c', rfl, h1', h2', h3'⟩ := h'.ints
  clear h h'
  unfold maxLen at h2 h2'
  obtain ⟨ad, rfl, hd, hy⟩ := h3' (by omega)
  have hylast := hy (ys.length - 1) (by omega)
  obtain ⟨by1, by2⟩ : 0 ≤ Dig.gd ys (ys.length - 1) ∧ Dig.gd ys (ys.length - 1) < 4294967296 := Dig.ok_get oy (by decide) _
  clear hy h3'
  have hidx : (ys.length : Int) - 1 = ((ys.length - 1 : Nat) : Int) := by omega
  go_enter Tryz.func256, Tryz.ntmps256
  go_wp2_with fail
  have hy0 : 0 < Dig.gd ys (ys.length - 1) := by
    have := ty (by intro e; subst e; simp at hl2)
    rw [List.getLast_eq_getElem] at this
    have e : Dig.gd ys (ys.length - 1) = ys[ys.length - 1] := Dig.gd_of (List.getElem?_eq_getElem (by omega))
    omega
  refine (Tryz.bits_LeadingZeros32 _ _ by1 (by omega)).mono ?_
  obtain ⟨n1, n2, n3, n4⟩ := Dig.clz_bounds hy0 by2
  rw [show (32 - (Lib.bitLen (Dig.gd ys (ys.length - 1)).toNat : Int)) = ((32 - Lib.bitLen (Dig.gd ys (ys.length - 1)).toNat : Nat) : Int) by omega]
  have HN := Lib.hid (And.intro n3 n4)
  clear n3 n4 n1
  generalize 32 - Lib.bitLen (Dig.gd ys (ys.length - 1)).toNat = n at *
  rintro e w1 ⟨rfl, rfl⟩
  go_wp2_with fail
  refine (shifted_calls xs _ D n _ hD HX.out ox n2 (by omega)).mono ?_
  rintro e w2 ⟨gu, zs0, rfl, hb2, rfl, hou, oz, vz⟩
  go_wp2_with fail
  have hb2s := hb2.size
  refine (shifted_calls ys _ D n _ (hD.up hb2s) (HY.out.same (hD.same hb2)) oy n2 (by omega)).mono ?_
  rintro e w3 ⟨gv, vs0, rfl, hb3, rfl, hov, ov0, vv0⟩
  have hb3s := hb3.size
  have hlt1 := own_lt hou
  have hlt2 := own_lt hov
  go_wp2_with fail
  refine (trim_calls vs0 _ (fun k => k = w2.heap.size) _ (own_sl hov)).mono ?_
  rintro e w4 ⟨vt, rfl, rfl, hvs⟩
  have hvv : Dig.val B32 (Dig.trim vs0) = 2 ^ n * Dig.val B32 ys := by rw [Dig.val_trim, vv0]
  obtain ⟨hm1, hm2⟩ := Dig.norm_div (by omega) oy (Dig.ok_trim ov0) (Dig.trim_trimmed vs0) hvv HN.out.1 HN.out.2
  have ov := Dig.ok_trim ov0
  have HVV := Lib.hid hvv
  clear hvv ov0 vv0 hov
  generalize Dig.trim vs0 = vs at *
  obtain ⟨A3, c3, rfl, k1, k2, k3⟩ := hvs.form
  clear k3
  unfold maxLen at k2
  obtain ⟨N, hN⟩ : ∃ N : Nat, (xs.length : Int) + 1 - (vs.length : Int) = (N : Int) := ⟨xs.length + 1 - vs.length, by omega⟩
  have hvl : vs.length ≤ xs.length := by omega
  have hv2 : 2 ≤ vs.length := by omega
  rw [← hm1] at hm2
  have HM := Lib.hid hm1
  clear hm1
  go_wp2_with (refine wpList_mk1 elem_u32 rfl _ _ rfl (by intro cs h; cases h) w3.heap.size _ _ (N : Int) (N : Int) rfl rfl (by omega) (by omega) (by omega) (by omega) (Nat.le_refl _) ?_; intro w5 hown hb5 hz5 _)
  have hvs3 := hvs.nums
  have hN1 : 1 ≤ N := by omega
  have HVS := Lib.hid hvs
  clear hvs
  go_loopw [11] (fun kv wr => ∃ (K : Nat) (zs qs : List Int), K ≤ N ∧ kv = .int .i64 ((K : Int) - 1) ∧
      wr.ownsRow w1.heap.size 199 1 (.slice (some ⟨w1.heap.size, 0, none⟩) (xs.length + 1) (xs.length + 1)) (xs.length + 1) (zs.map (.int .u32)) ∧
      wr.ownsRow w1.heap.size 199 1 (.slice (some ⟨w3.heap.size, 0, none⟩) N N) N (qs.map (.int .u32)) ∧
      Below w1.heap.size w1 wr ∧ Same (fun k => k = w2.heap.size) w3 wr ∧ Dig.LongAt 4294967296 zs qs (Dig.val B32 vs) (2 ^ n * Dig.val B32 xs) K) (fun kv _ => (intOf kv + 1).toNat)
  case atStart =>
    have hb3' := hb2.trans (hb3.mono hb2s)
    have hu3 : w3.ownsRow w1.heap.size 199 1 (.slice (some ⟨w1.heap.size, 0, none⟩) (xs.length + 1) (xs.length + 1)) (xs.length + 1) (zs0.map (.int .u32)) := own_below hou hb3
    rw [Int.toNat_natCast] at hown
    refine ⟨N, zs0, List.replicate N 0, Nat.le_refl _, rfl, own_below hu3 hb5, ?_, hb3'.trans (hb5.mono (by omega)), fun k hk => hb5.block k (by omega), ⟨oz, Dig.ok_replicate (by decide) _, ?_, ?_⟩⟩
    · rw [List.map_replicate]
      exact own_base hown (by omega)
    · rw [vz]; simp [Dig.val]
    · exact Dig.long_start n2 oz ox ov (by have := hou.1; simpa using this) (by omega) hN vz hm2
  case round =>
    obtain ⟨K, zs, qs, hK, rfl, hu, hq, hb, hsm, HR⟩ := hrel
    have hlz : zs.length = xs.length + 1 := by have := hu.1; simpa using this
    have hlq : qs.length = N := by have := hq.1; simpa using this
    have HZ := Lib.hid hlz
    have HQ := Lib.hid hlq
    clear hlz hlq hown hb5 hz5
    by_cases hp : 0 < K
    · obtain ⟨k, rfl⟩ : ∃ m, K = m + 1 := ⟨K - 1, by omega⟩
      rw [show ((k + 1 : Nat) : Int) - 1 = (k : Int) from by omega]
      obtain ⟨ad, rfl, hd, hcv⟩ := hvs3 (by omega)
      have cv1 := (World.cell?_of_block (w := w3) (w' := wr) (a := ad.add (vs.length - 1)) (by rw [block_of_add]; exact hsm _ hd)).trans (hcv (vs.length - 1) (by omega))
      have cv2 := (World.cell?_of_block (w := w3) (w' := wr) (a := ad.add (vs.length - 2)) (by rw [block_of_add]; exact hsm _ hd)).trans (hcv (vs.length - 2) (by omega))
      obtain ⟨cu0, cu0'⟩ := own_cell hu (k + vs.length) (.int .u32 (Dig.gd zs (k + vs.length))) (by rw [List.getElem?_map, Dig.gd_lt (by have := HZ.out; omega)]; rfl)
      obtain ⟨cu1, cu1'⟩ := own_cell hu (k + vs.length - 1) (.int .u32 (Dig.gd zs (k + vs.length - 1))) (by rw [List.getElem?_map, Dig.gd_lt (by have := HZ.out; omega)]; rfl)
      obtain ⟨cu2, cu2'⟩ := own_cell hu (k + vs.length - 2) (.int .u32 (Dig.gd zs (k + vs.length - 2))) (by rw [List.getElem?_map, Dig.gd_lt (by have := HZ.out; omega)]; rfl)
      have HVN := Lib.hid hcv
      clear hcv hvs3
      have hi1 : (vs.length : Int) - 1 = ((vs.length - 1 : Nat) : Int) := by omega
      have hi2 : (vs.length : Int) - 2 = ((vs.length - 2 : Nat) : Int) := by omega
      have hi3 : (k : Int) + (vs.length : Int) - 1 = ((k + vs.length - 1 : Nat) : Int) := by omega
      have hi4 : (k : Int) + (vs.length : Int) - 2 = ((k + vs.length - 2 : Nat) : Int) := by omega
      obtain ⟨bu0, bu0'⟩ : 0 ≤ Dig.gd zs (k + vs.length) ∧ Dig.gd zs (k + vs.length) < 4294967296 := Dig.ok_get HR.oz (by decide) _
      obtain ⟨bu1, bu1'⟩ : 0 ≤ Dig.gd zs (k + vs.length - 1) ∧ Dig.gd zs (k + vs.length - 1) < 4294967296 := Dig.ok_get HR.oz (by decide) _
      obtain ⟨bu2, bu2'⟩ : 0 ≤ Dig.gd zs (k + vs.length - 2) ∧ Dig.gd zs (k + vs.length - 2) < 4294967296 := Dig.ok_get HR.oz (by decide) _
      obtain ⟨-, bv1'⟩ : 0 ≤ Dig.gd vs (vs.length - 1) ∧ Dig.gd vs (vs.length - 1) < 4294967296 := Dig.ok_get ov (by decide) _
      obtain ⟨bv2, bv2'⟩ : 0 ≤ Dig.gd vs (vs.length - 2) ∧ Dig.gd vs (vs.length - 2) < 4294967296 := Dig.ok_get ov (by decide) _
      have hj0 := Lib.hid (join64 bu0 bu0' bu1 bu1')
      obtain ⟨hW, hz0⟩ := Dig.win_of (b := 4294967296) (by decide) HR.oz ov rfl hv2 (by have := HZ.out; omega) HR.small
      have HZ0 := Lib.hid hz0
      clear hz0
      go_upto_region 8 with fail
      go_quiet (fail)
      rw [hj0.out]
      have hE := hW.begin (by decide) (by omega) (by omega) bv2 bu2'
      have ht : Dig.gd zs (k + vs.length) * 4294967296 + Dig.gd zs (k + vs.length - 1) < 18446744073709551616 := by omega
      have ht0 : 0 ≤ Dig.gd zs (k + vs.length) * 4294967296 + Dig.gd zs (k + vs.length - 1) := by omega
      generalize Dig.gd zs (k + vs.length) * 4294967296 + Dig.gd zs (k + vs.length - 1) = t at *
      go_upto_block 2 with fail
      have hq0 : t / Dig.gd vs (vs.length - 1) < 8589934593 := by
        apply Int.ediv_lt_of_lt_mul (by omega)
        have : 8589934593 * 2147483648 ≤ 8589934593 * Dig.gd vs (vs.length - 1) := Int.mul_le_mul_of_nonneg_left hm2 (by decide)
        omega
      have hr0 : t % Dig.gd vs (vs.length - 1) < 4294967296 := by
        have := Int.emod_lt_of_pos t (show 0 < Dig.gd vs (vs.length - 1) by omega)
        omega
      go_cut [13, 14] from 90 to 125 (fun qv rv wx => ∃ q : Int, qv = .int .u64 q ∧ 0 ≤ q ∧ q < 4294967296 ∧ Dig.val B32 (zs.drop k) < (q + 1) * Dig.val B32 vs ∧ q * Dig.val B32 vs < Dig.val B32 (zs.drop k) + Dig.val B32 vs ∧ ∃ n, wx = wr.drewN n)
      case first =>
        go_wp2_with fail
        go_loopw [13, 14] (fun qv rv wx => ∃ q r : Int, qv = .int .u64 q ∧ rv = .int .u64 r ∧ q < 8589934593 ∧ r < 4294967296 ∧ Dig.Est (Dig.val B32 (zs.drop k)) (Dig.val B32 vs) q r t (Dig.gd vs (vs.length - 1)) ∧ ∃ n, wx = wr.drewN n) (fun qv _ _ => (intOf qv).toNat)
        case atStart => exact ⟨_, _, rfl, rfl, hq0, hr0, hE, _, rfl⟩
        case round =>
          obtain ⟨q, r, rfl, rfl, hq1, hr1, hE, nx, rfl⟩ := hrel
          clear hq0 hr0
          obtain ⟨hq0, hr0⟩ : 0 ≤ q ∧ 0 ≤ r := ⟨hE.q0, hE.r0⟩
          have hgo : ∀ _ : 4294967296 ≤ q ∨ r * 4294967296 + Dig.gd zs (k + vs.length - 2) < q * Dig.gd vs (vs.length - 2), Dig.Est (Dig.val B32 (zs.drop k)) (Dig.val B32 vs) (q - 1) (r + Dig.gd vs (vs.length - 1)) t (Dig.gd vs (vs.length - 1)) :=
            fun g => hW.dec hE (by decide) (by omega) g
          have hend : ∀ r q, Dig.Est (Dig.val B32 (zs.drop k)) (Dig.val B32 vs) q r t (Dig.gd vs (vs.length - 1)) → q < 4294967296 → q * Dig.gd vs (vs.length - 2) ≤ r * 4294967296 + Dig.gd zs (k + vs.length - 2) →
              Dig.val B32 (zs.drop k) < (q + 1) * Dig.val B32 vs ∧ q * Dig.val B32 vs < Dig.val B32 (zs.drop k) + Dig.val B32 vs :=
            fun r q hE g1 g2 => ⟨hE.up, hW.near hE (by decide) (by omega) bv2 g1 g2⟩
          have HGO := Lib.hid hgo
          have HEND := Lib.hid hend
          clear hgo hend
          rcases Int.lt_or_le q 4294967296 with hqB | hqB
          · obtain ⟨hqv0, hqv1⟩ : 0 ≤ q * Dig.gd vs (vs.length - 2) ∧ q * Dig.gd vs (vs.length - 2) < 18446744073709551616 := by
              refine ⟨Int.mul_nonneg hq0 bv2, ?_⟩
              have a1 : q * Dig.gd vs (vs.length - 2) ≤ q * 4294967295 := Int.mul_le_mul_of_nonneg_left (by omega) hq0
              omega
            have hj2 := Lib.hid (join64 hr0 hr1 bu2 bu2')
            have hdq : decide (4294967296 ≤ q) = false := decide_eq_false (by omega)
            go_upto_region 11 with fail
            go_quiet (fail)
            rw [hj2.out]
            rcases Int.lt_or_le (r * 4294967296 + Dig.gd zs (k + vs.length - 2)) (q * Dig.gd vs (vs.length - 2)) with hg | hg
            · have hE' := HGO.out (.inr hg)
              have hq' : 0 ≤ q - 1 := hE'.q0
              rcases Int.lt_or_le (r + Dig.gd vs (vs.length - 1)) 4294967296 with hrB | hrB
              · go_wp2
                exact ⟨⟨q - 1, _, rfl, rfl, by omega, hrB, hE', _, rfl⟩, by simp [intOf]; omega⟩
              · go_wp2
                go_meet
                obtain ⟨f1, f2⟩ := hW.far hE' (by decide) (by omega) ⟨bv2, bv2'⟩ bu2 hrB
                obtain ⟨f3, f4⟩ := HEND.out _ _ hE' f1 f2
                exact ⟨q - 1, rfl, hq', f1, f3, f4, _, rfl⟩
            · go_wp2
              go_meet
              obtain ⟨f3, f4⟩ := HEND.out _ _ hE hqB hg
              exact ⟨q, rfl, hq0, hqB, f3, f4, nx + nq, by rw [World.drewN_drewN]⟩
          · go_upto_region 11 with fail
            go_quiet (fail)
            have hE' := HGO.out (.inl hqB)
            have hq' : 0 ≤ q - 1 := hE'.q0
            rcases Int.lt_or_le (r + Dig.gd vs (vs.length - 1)) 4294967296 with hrB | hrB
            · go_wp2
              exact ⟨⟨q - 1, _, rfl, rfl, by omega, hrB, hE', _, rfl⟩, by simp [intOf]; omega⟩
            · go_wp2
              go_meet
              obtain ⟨f1, f2⟩ := hW.far hE' (by decide) (by omega) ⟨bv2, bv2'⟩ bu2 hrB
              obtain ⟨f3, f4⟩ := HEND.out _ _ hE' f1 f2
              exact ⟨q - 1, rfl, hq', f1, f3, f4, _, rfl⟩
      case rest =>
        obtain ⟨q, rfl, hq0', hq1, hup, hnear, n1, rfl⟩ := hcut
        have HW := Lib.hid hW
        have HHU := Lib.hid (And.intro hup hnear)
        clear hW hE hup hnear cv1 cv2 cu0 cu0' cu1 cu1' cu2 cu2' hi1 hi2 hi3 hi4 bu0 bu0' bu1 bu1' bu2 bu2' bv2 bv2' hj0 ht ht0 hq0 hr0
        have hb' := below_drewN hb n1
        have hsm' : Same (fun k => k = w2.heap.size) w3 (wr.drewN n1) := hsm
        have hu' : (wr.drewN n1).ownsRow w1.heap.size 199 1 (.slice (some ⟨w1.heap.size, 0, none⟩) (xs.length + 1) (xs.length + 1)) (xs.length + 1) (zs.map (.int .u32)) := hu
        have hq' : (wr.drewN n1).ownsRow w1.heap.size 199 1 (.slice (some ⟨w3.heap.size, 0, none⟩) N N) N (qs.map (.int .u32)) := hq
        clear hb hsm hu hq
        go_wp2_with fail
        generalize wr.drewN n1 = wr at *
        obtain ⟨wo, rfl⟩ : ∃ wo : World, wo = wr := ⟨_, rfl⟩
        go_loopw [15, 16, 128] (fun bv cv iv wr => ∃ (i : Nat) (zs1 : List Int) (cy bo : Int), i ≤ vs.length ∧ iv = .int .i64 i ∧ bv = .int .u64 bo ∧ cv = .int .u64 cy ∧ 0 ≤ cy ∧ cy < 4294967296 ∧ 0 ≤ bo ∧ bo ≤ 1 ∧
            wr.ownsRow w1.heap.size 199 1 (.slice (some ⟨w1.heap.size, 0, none⟩) (xs.length + 1) (xs.length + 1)) (xs.length + 1) (zs1.map (.int .u32)) ∧
            wr.ownsRow w1.heap.size 199 1 (.slice (some ⟨w3.heap.size, 0, none⟩) N N) N (qs.map (.int .u32)) ∧
            Below w1.heap.size w1 wr ∧ Same (fun k => k = w2.heap.size) w3 wr ∧ Dig.Less 4294967296 zs zs1 vs k i q cy bo) (fun _ _ iv _ => vs.length - (intOf iv).toNat)
        case atStart =>
          exact ⟨0, zs, 0, 0, Nat.zero_le _, rfl, rfl, rfl, by decide, by decide, by decide, by decide, hu', hq', hb', hsm', ⟨HR.oz, by simp [Dig.val], fun _ _ => rfl⟩⟩
        case round =>
          clear hu' hq' hb' hsm'
          obtain ⟨i, zs1, cy, bo, hi, rfl, rfl, rfl, hcy0, hcy1, hbo0, hbo1, hu, hq, hb, hsm, HC⟩ := hrel
          have hlz1 : zs1.length = xs.length + 1 := by have := hu.1; simpa using this
          have HZ1 := Lib.hid hlz1
          clear hlz1
          by_cases hiv : i < vs.length
          · have cvi := (World.cell?_of_block (w := w3) (w' := wr) (a := ad.add i) (by rw [block_of_add]; exact hsm _ hd)).trans (HVN.out i hiv)
            obtain ⟨cui, cui'⟩ := own_cell hu (k + i) (.int .u32 (Dig.gd zs1 (k + i))) (by rw [List.getElem?_map, Dig.gd_lt (by have := HZ1.out; omega)]; rfl)
            obtain ⟨bu, bu'⟩ : 0 ≤ Dig.gd zs1 (k + i) ∧ Dig.gd zs1 (k + i) < 4294967296 := Dig.ok_get HC.dg (by decide) _
            obtain ⟨bv, bv'⟩ : 0 ≤ Dig.gd vs i ∧ Dig.gd vs i < 4294967296 := Dig.ok_get ov (by decide) _
            obtain ⟨hp0, hp1⟩ : 0 ≤ q * Dig.gd vs i ∧ q * Dig.gd vs i ≤ 18446744065119617025 := by
              refine ⟨Int.mul_nonneg hq0' bv, ?_⟩
              have a1 : q * Dig.gd vs i ≤ q * 4294967295 := Int.mul_le_mul_of_nonneg_left (by omega) hq0'
              omega
            rcases Int.lt_or_le (Dig.gd zs1 (k + i) - (q * Dig.gd vs i + cy) % 4294967296 - bo) 0 with hs | hs
            · go_wp2
              obtain ⟨e1, e2⟩ := borrow_neg hbo0 hbo1 (a := Dig.gd zs1 (k + i) - (q * Dig.gd vs i + cy) % 4294967296) (by omega) hs
              rw [e1, e2]
              refine ⟨⟨i + 1, zs1.set (k + i) (Dig.gd zs1 (k + i) - (q * Dig.gd vs i + cy) % 4294967296 - bo + 4294967296), _, 1, by omega, by go_num, rfl, rfl, by omega, by omega, by decide, by decide, ?_, own_far hq (by simp <;> omega) _, hb.setCell (Nat.le_refl _) _, hsm.setCell (by simp <;> omega) _,
                HC.step (by decide) (by have := HZ1.out; omega) hiv ⟨by omega, by omega⟩ (by omega)⟩, by simp [intOf]; omega⟩
              rw [List.map_set]
              exact own_set hu (k + i) (by have := HZ1.out; omega) _
            · go_wp2
              rw [borrow_pos (by omega) (by omega)]
              refine ⟨⟨i + 1, zs1.set (k + i) (Dig.gd zs1 (k + i) - (q * Dig.gd vs i + cy) % 4294967296 - bo), _, 0, by omega, by go_num, rfl, rfl, by omega, by omega, by decide, by decide, ?_, own_far hq (by simp <;> omega) _, hb.setCell (Nat.le_refl _) _, hsm.setCell (by simp <;> omega) _,
                HC.step (by decide) (by have := HZ1.out; omega) hiv ⟨by omega, by omega⟩ (by omega)⟩, by simp [intOf]; omega⟩
              rw [List.map_set]
              exact own_set hu (k + i) (by have := HZ1.out; omega) _
          · obtain rfl : i = vs.length := by omega
            obtain ⟨cui, cui'⟩ := own_cell hu (k + vs.length) (.int .u32 (Dig.gd zs1 (k + vs.length))) (by rw [List.getElem?_map, Dig.gd_lt (by have := HZ1.out; omega)]; rfl)
            obtain ⟨bu, bu'⟩ : 0 ≤ Dig.gd zs1 (k + vs.length) ∧ Dig.gd zs1 (k + vs.length) < 4294967296 := Dig.ok_get HC.dg (by decide) _
            rcases Int.lt_or_le (Dig.gd zs1 (k + vs.length) - cy - bo) 0 with hs | hs
            · go_upto_region 27 with fail
              obtain ⟨e1, e2⟩ := borrow_neg hbo0 hbo1 (a := Dig.gd zs1 (k + vs.length) - cy) (by omega) hs
              have HL := HC.last (d := Dig.gd zs1 (k + vs.length) - cy - bo + 4294967296) (bo' := 1) (by have := HZ1.out; omega) ⟨by omega, by omega⟩ (by omega)
              rw [e2]
              have e3 : (IntKind.u64.wrap (IntKind.u64.wrap (Dig.gd zs1 (k + vs.length) - cy) - bo) / 9223372036854775808 == 1) = true := by rw [e1]; rfl
              clear e1 e2
              have HCZ : Hid ((zs1.set (k + vs.length) (Dig.gd zs1 (k + vs.length) - cy - bo + 4294967296)).length = xs.length + 1) := Lib.hid (by rw [List.length_set]; exact HZ1.out)
              generalize IntKind.u64.wrap (IntKind.u64.wrap (Dig.gd zs1 (k + vs.length) - cy) - bo) = s64 at *
              have hu2 : (wr.setCell ⟨w1.heap.size, k + vs.length, none⟩ (.int .u32 (Dig.gd zs1 (k + vs.length) - cy - bo + 4294967296))).ownsRow w1.heap.size 199 1 (.slice (some ⟨w1.heap.size, 0, none⟩) (xs.length + 1) (xs.length + 1)) (xs.length + 1) ((zs1.set (k + vs.length) (Dig.gd zs1 (k + vs.length) - cy - bo + 4294967296)).map (.int .u32)) := by
                rw [List.map_set]
                exact own_set hu (k + vs.length) (by have := HZ1.out; omega) _
              have hq2 := own_far hq (p := ⟨w1.heap.size, k + vs.length, none⟩) (by simp <;> omega) (.int .u32 (Dig.gd zs1 (k + vs.length) - cy - bo + 4294967296))
              have hb2' := hb.setCell (p := ⟨w1.heap.size, k + vs.length, none⟩) (Nat.le_refl _) (.int .u32 (Dig.gd zs1 (k + vs.length) - cy - bo + 4294967296))
              have hsm2 := hsm.setCell (p := ⟨w1.heap.size, k + vs.length, none⟩) (by simp <;> omega) (.int .u32 (Dig.gd zs1 (k + vs.length) - cy - bo + 4294967296))
              generalize zs1.set (k + vs.length) (Dig.gd zs1 (k + vs.length) - cy - bo + 4294967296) = zs2 at *
              generalize wr.setCell ⟨w1.heap.size, k + vs.length, none⟩ (.int .u32 (Dig.gd zs1 (k + vs.length) - cy - bo + 4294967296)) = wr2 at *
              clear hu hq hb hsm cui cui' bu bu' hs HC HZ1
              have hq1' : 1 ≤ q := HL.one (by decide) HR (by have := HCZ.out; have := HZ.out; omega) (by have := HZ.out; omega) HZ0.out HW.out.W0 HW.out.V0
              have HL2 := Lib.hid HL
              clear HL
              go_wp2_with fail
              obtain ⟨wo, rfl⟩ : ∃ wo : World, wo = wr2 := ⟨_, rfl⟩
              go_loopw [22, 189] (fun cv iv wr => ∃ (i : Nat) (zs3 : List Int) (c : Int), i ≤ vs.length ∧ iv = .int .i64 i ∧ cv = .int .u32 c ∧ 0 ≤ c ∧ c ≤ 1 ∧
                  wr.ownsRow w1.heap.size 199 1 (.slice (some ⟨w1.heap.size, 0, none⟩) (xs.length + 1) (xs.length + 1)) (xs.length + 1) (zs3.map (.int .u32)) ∧
                  wr.ownsRow w1.heap.size 199 1 (.slice (some ⟨w3.heap.size, 0, none⟩) N N) N (qs.map (.int .u32)) ∧
                  Below w1.heap.size w1 wr ∧ Same (fun k => k = w2.heap.size) w3 wr ∧ Dig.Back 4294967296 zs2 zs3 vs k i c) (fun _ iv _ => vs.length - (intOf iv).toNat)
              case atStart =>
                exact ⟨0, zs2, 0, Nat.zero_le _, rfl, rfl, by decide, by decide, hu2, hq2, hb2', hsm2, ⟨HL2.out.dg, by simp [Dig.val], fun _ _ => rfl⟩⟩
              case round =>
                clear hu2 hq2 hb2' hsm2
                obtain ⟨i, zs3, c, hi, rfl, rfl, hc0, hc1, hu, hq, hb, hsm, HC⟩ := hrel
                have hlz3 : zs3.length = xs.length + 1 := by have := hu.1; simpa using this
                have HZ3 := Lib.hid hlz3
                clear hlz3
                by_cases hiv : i < vs.length
                · have cvi := (World.cell?_of_block (w := w3) (w' := wr) (a := ad.add i) (by rw [block_of_add]; exact hsm _ hd)).trans (HVN.out i hiv)
                  obtain ⟨cui, cui'⟩ := own_cell hu (k + i) (.int .u32 (Dig.gd zs3 (k + i))) (by rw [List.getElem?_map, Dig.gd_lt (by have := HZ3.out; omega)]; rfl)
                  obtain ⟨bu, bu'⟩ : 0 ≤ Dig.gd zs3 (k + i) ∧ Dig.gd zs3 (k + i) < 4294967296 := Dig.ok_get HC.dg (by decide) _
                  obtain ⟨bv, bv'⟩ : 0 ≤ Dig.gd vs i ∧ Dig.gd vs i < 4294967296 := Dig.ok_get ov (by decide) _
                  go_wp2_with (go_at_call 253; refine (Add32_calls _ _ _ _ ⟨by omega, by omega⟩ ⟨by omega, by omega⟩ ⟨by omega, by omega⟩).mono ?_; rintro e w' ⟨rfl, rfl⟩)
                  refine ⟨⟨i + 1, zs3.set (k + i) ((Dig.gd zs3 (k + i) + Dig.gd vs i + c) % 4294967296), _, by omega, by go_num, rfl, by omega, by omega, ?_, own_far hq (by simp <;> omega) _, hb.setCell (Nat.le_refl _) _, hsm.setCell (by simp <;> omega) _, HC.step (by decide) (by have := HZ3.out; omega) hiv⟩, by simp [intOf]; omega⟩
                  rw [List.map_set]
                  exact own_set hu (k + i) (by have := HZ3.out; omega) _
                · obtain rfl : i = vs.length := by omega
                  obtain ⟨cui, cui'⟩ := own_cell hu (k + vs.length) (.int .u32 (Dig.gd zs3 (k + vs.length))) (by rw [List.getElem?_map, Dig.gd_lt (by have := HZ3.out; omega)]; rfl)
                  obtain ⟨bu, bu'⟩ : 0 ≤ Dig.gd zs3 (k + vs.length) ∧ Dig.gd zs3 (k + vs.length) < 4294967296 := Dig.ok_get HC.dg (by decide) _
                  obtain ⟨cq, cq'⟩ := own_cell hq k (.int .u32 (Dig.gd qs k)) (by rw [List.getElem?_map, Dig.gd_lt (by have := HQ.out; omega)]; rfl)
                  obtain ⟨-, HN2⟩ := HL2.out.back (by decide) HR HC (by have := HQ.out; omega) (by have := HZ.out; have := HZ3.out; omega) (by have := HZ.out; have := HCZ.out; omega) (by have := HZ.out; omega) hq1 HZ0.out HHU.out.2 HW.out.W0 HW.out.V0 ⟨hc0, hc1⟩
                  go_wp2
                  have hu4 := own_set hu (k + vs.length) (by have := HZ3.out; omega) (.int .u32 ((Dig.gd zs3 (k + vs.length) + c) % 4294967296))
                  have hq4 := own_far hq (p := ⟨w1.heap.size, k + vs.length, none⟩) (by simp <;> omega) (.int .u32 ((Dig.gd zs3 (k + vs.length) + c) % 4294967296))
                  have hb4 := hb.setCell (p := ⟨w1.heap.size, k + vs.length, none⟩) (Nat.le_refl _) (.int .u32 ((Dig.gd zs3 (k + vs.length) + c) % 4294967296))
                  have hsm4 := hsm.setCell (p := ⟨w1.heap.size, k + vs.length, none⟩) (by simp <;> omega) (.int .u32 ((Dig.gd zs3 (k + vs.length) + c) % 4294967296))
                  rw [← List.map_set] at hu4
                  refine ⟨⟨k, _, qs.set k (q - 1), by omega, rfl, own_far hu4 (by simp <;> omega) _, ?_, hb4.setCell (by simp <;> omega) _, hsm4.setCell (by simp <;> omega) _, HN2⟩, by simp [intOf]⟩
                  rw [List.map_set]
                  exact own_set hq4 k (by omega) _
            · go_upto_region 27 with fail
              have HL := HC.last (d := Dig.gd zs1 (k + vs.length) - cy - bo) (bo' := 0) (by have := HZ1.out; omega) ⟨by omega, by omega⟩ (by omega)
              have e3 : ((Dig.gd zs1 (k + vs.length) - cy - bo) / 9223372036854775808 == 1) = false := by rw [borrow_pos (by omega) (by omega)]; rfl
              have hu2 : (wr.setCell ⟨w1.heap.size, k + vs.length, none⟩ (.int .u32 (Dig.gd zs1 (k + vs.length) - cy - bo))).ownsRow w1.heap.size 199 1 (.slice (some ⟨w1.heap.size, 0, none⟩) (xs.length + 1) (xs.length + 1)) (xs.length + 1) ((zs1.set (k + vs.length) (Dig.gd zs1 (k + vs.length) - cy - bo)).map (.int .u32)) := by
                rw [List.map_set]
                exact own_set hu (k + vs.length) (by have := HZ1.out; omega) _
              have hq2 := own_far hq (p := ⟨w1.heap.size, k + vs.length, none⟩) (by simp <;> omega) (.int .u32 (Dig.gd zs1 (k + vs.length) - cy - bo))
              have hb2' := hb.setCell (p := ⟨w1.heap.size, k + vs.length, none⟩) (Nat.le_refl _) (.int .u32 (Dig.gd zs1 (k + vs.length) - cy - bo))
              have hsm2 := hsm.setCell (p := ⟨w1.heap.size, k + vs.length, none⟩) (by simp <;> omega) (.int .u32 (Dig.gd zs1 (k + vs.length) - cy - bo))
              have HN2 := HL.stands (by decide) HR (by have := HQ.out; omega) (by rw [List.length_set]; have := HZ1.out; omega) (by have := HZ.out; omega) ⟨hq0', hq1⟩ HHU.out.1
              generalize zs1.set (k + vs.length) (Dig.gd zs1 (k + vs.length) - cy - bo) = zs2 at *
              generalize wr.setCell ⟨w1.heap.size, k + vs.length, none⟩ (.int .u32 (Dig.gd zs1 (k + vs.length) - cy - bo)) = wr2 at *
              clear hu hq hb hsm cui cui' HC HZ1
              obtain ⟨cq, cq'⟩ := own_cell hq2 k (.int .u32 (Dig.gd qs k)) (by rw [List.getElem?_map, Dig.gd_lt (by have := HQ.out; omega)]; rfl)
              go_wp2
              refine ⟨⟨k, zs2, qs.set k q, by omega, rfl, own_far hu2 (by simp <;> omega) _, ?_, hb2'.setCell (by simp <;> omega) _, hsm2.setCell (by simp <;> omega) _, HN2⟩, by simp [intOf]⟩
              rw [List.map_set]
              exact own_set hq2 k (by omega) _
    · obtain rfl : K = 0 := by omega
      clear hvs3
      go_wp2_with (refine wpList_mk1 elem_u32 rfl _ _ rfl (by intro cs h; cases h) wr.heap.size _ _ (vs.length : Int) (vs.length : Int) rfl rfl (by omega) (by omega) (by omega) (by omega) (Nat.le_refl _) ?_; intro w6 hown6 hb6 hz6 _)
      obtain ⟨hE1, hE2, hE3⟩ := Dig.long_end HR HVV.out
      have HEND := Lib.hid (And.intro hE1 (And.intro hE2 hE3))
      clear hE1 hE2 hE3
      have hus := own_lt hu
      have hqs := own_lt hq
      have hu6 := own_below hu hb6
      rw [Int.toNat_natCast] at hown6
      have hown6' := own_base hown6 (Nat.zero_le _)
      have hbT := hb.trans (hb6.mono hb.size)
      have hq6 := own_below hq hb6
      obtain ⟨wo, rfl⟩ : ∃ wo : World, wo = wr := ⟨_, rfl⟩
      go_loopw [230] (fun iv wq => ∃ (i : Nat) (rs : List Int), i ≤ vs.length ∧ iv = .int .i64 i ∧
          wq.ownsRow w1.heap.size 199 1 (.slice (some ⟨w1.heap.size, 0, none⟩) (xs.length + 1) (xs.length + 1)) (xs.length + 1) (zs.map (.int .u32)) ∧
          wq.ownsRow w1.heap.size 199 1 (.slice (some ⟨w3.heap.size, 0, none⟩) N N) N (qs.map (.int .u32)) ∧
          wq.ownsRow w1.heap.size 199 1 (.slice (some ⟨wo.heap.size, 0, none⟩) vs.length vs.length) vs.length (rs.map (.int .u32)) ∧
          Below w1.heap.size w1 wq ∧ Dig.RestAt zs rs n i) (fun iv _ => vs.length - (intOf iv).toNat)
      case atStart =>
        refine ⟨0, List.replicate vs.length 0, Nat.zero_le _, rfl, hu6, hq6, ?_, hbT, ⟨Dig.ok_replicate (by decide) _, by simp [Dig.val]⟩⟩
        rw [List.map_replicate]
        exact own_base hown6 (by omega)
      case round =>
        clear hu hq hb hu6 hq6 hown6 hown6' hbT hb6 hz6
        obtain ⟨i, rs, hi, rfl, hu, hq, ho, hb, HC⟩ := hrel
        have hlr : rs.length = vs.length := by have := ho.1; simpa using this
        have HLR := Lib.hid hlr
        clear hlr
        by_cases hiv : i < vs.length
        · obtain ⟨cu1, cu1'⟩ := own_cell hu i (.int .u32 (Dig.gd zs i)) (by rw [List.getElem?_map, Dig.gd_lt (by have := HZ.out; omega)]; rfl)
          obtain ⟨cu2, cu2'⟩ := own_cell hu (i + 1) (.int .u32 (Dig.gd zs (i + 1))) (by rw [List.getElem?_map, Dig.gd_lt (by have := HZ.out; omega)]; rfl)
          obtain ⟨cr, cr'⟩ := own_cell ho i (.int .u32 (Dig.gd rs i)) (by rw [List.getElem?_map, Dig.gd_lt (by have := HLR.out; omega)]; rfl)
          obtain ⟨bu1, bu1'⟩ : 0 ≤ Dig.gd zs i ∧ Dig.gd zs i < 4294967296 := Dig.ok_get HR.oz (by decide) _
          obtain ⟨bu2, bu2'⟩ : 0 ≤ Dig.gd zs (i + 1) ∧ Dig.gd zs (i + 1) < 4294967296 := Dig.ok_get HR.oz (by decide) _
          have hj := Lib.hid (join64' bu2 bu2' bu1 bu1')
          go_upto_region 41 with fail
          go_region
          rw [hj.out]
          go_wp2
          have ho2 := own_set ho i hiv (.int .u32 ((Dig.gd zs (i + 1) * 4294967296 + Dig.gd zs i) / 2 ^ n % 4294967296))
          rw [← List.map_set] at ho2
          have hb2 := hb.setCell (p := ⟨wo.heap.size, i, none⟩) (by simp <;> omega) (.int .u32 ((Dig.gd zs (i + 1) * 4294967296 + Dig.gd zs i) / 2 ^ n % 4294967296))
          have hu2 := own_far hu (p := ⟨wo.heap.size, i, none⟩) (by simp <;> omega) (.int .u32 ((Dig.gd zs (i + 1) * 4294967296 + Dig.gd zs i) / 2 ^ n % 4294967296))
          have hq2 := own_far hq (p := ⟨wo.heap.size, i, none⟩) (by simp <;> omega) (.int .u32 ((Dig.gd zs (i + 1) * 4294967296 + Dig.gd zs i) / 2 ^ n % 4294967296))
          refine ⟨⟨i + 1, rs.set i ((Dig.gd zs (i + 1) * 4294967296 + Dig.gd zs i) / 2 ^ n % 4294967296), by omega, by go_num, hu2, hq2, ho2, below_drewN hb2 1, HC.step HR.oz n2 (by have := HZ.out; omega) (by have := HLR.out; omega)⟩, by simp [intOf]; omega⟩
        · obtain rfl : i = vs.length := by omega
          go_wp2
          go_ret2
          obtain ⟨f1, f2, -⟩ := HEND.out
          have hv := HC.done (by have := HLR.out; omega) oy HM.out.symm (Dig.val_nonneg (by decide) HR.oz) f2
          have hqs2 := own_lt hq
          have hrs2 := own_lt ho
          have hb2s' := hb2s
          refine ⟨_, _, qs, rs, rfl, hb, (own_sl hq).mono fun k hk => ?_, (own_sl ho).mono fun k hk => ?_, HR.oq, HC.dg, ?_, ?_⟩
          · subst hk; exact ⟨by omega, hqs2⟩
          · subst hk; exact ⟨by have := hb.size; omega, hrs2⟩
          · rw [hv]; exact f1
          · rw [hv]; exact f2

end Go.Proofs.YtoffbdlgmnpblaaGreat
