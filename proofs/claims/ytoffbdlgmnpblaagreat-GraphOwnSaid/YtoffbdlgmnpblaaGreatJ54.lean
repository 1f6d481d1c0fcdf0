/- Part 54 of 55: Gw1. -/
import Derived.Test.YtoffbdlgmnpblaaGreatJ53
import Derived.Test.YtoffbdlgmnpblaaGreatJ46
import Derived.Test.YtoffbdlgmnpblaaGreatJ44
import Derived.Test.YtoffbdlgmnpblaaGreatJ45
import Derived.Deep.CutRange
import Derived.BigRegion

/- GraphOwn: the nine calls, the copies, the spoiling, the same calls again. -/
namespace Go.Proofs.YtoffbdlgmnpblaaGreat
open Go.RowKit
set_option maxHeartbeats 4000000
set_option maxRecDepth 100000

theorem few_lens {m : List St} {l : List Int} (h : few5 m l = true) : (m.length ≤ 1000000 ∧ ∀ s ∈ m, s.chs.length ≤ 1000000 ∧ ∀ c ∈ s.chs, c.brs.length ≤ 1000000) ∧ l.length ≤ 60 := by
  unfold few5 fewB at h
  simp only [Bool.and_eq_true, decide_eq_true_eq, List.all_eq_true] at h
  obtain ⟨⟨h1, h2⟩, h3⟩ := h
  refine ⟨⟨by omega, fun s hs => ?_⟩, h3⟩
  have := h2 s hs
  unfold fewS at this
  simp only [Bool.and_eq_true, decide_eq_true_eq, List.all_eq_true] at this
  refine ⟨by omega, fun c hc => ?_⟩
  have := this.2 c hc
  simp [fewC] at this
  omega

theorem GraphOwn_calls (m : List St) (l : List Int) (s t : Int) (v u : Value) (w : World) (h : ModelC w (· < w.heap.size) v m) (hl : Sl (Kind.int .i64) w (· < w.heap.size) u l) :
    Calls Tryz.prog 7 #[v, u, .int .i64 s, .int .i64 t] w fun e w' => e = .returned (.bool true) ∧ Below w.heap.size w w' := by
  obtain ⟨mv, rfl, hmm⟩ := h
  have HM : Hid (ModelC w (· < w.heap.size) (.agg #[mv]) m) := ⟨mv, rfl, hmm⟩
  obtain ⟨A, c, rfl, h1, h2, -⟩ := hmm.form
  obtain ⟨LA, lc, rfl, l1, l2, -⟩ := hl.ints
  have HL := Lib.hid hl
  unfold maxLen at h2 l2
  have hB0 := (Below.refl w.heap.size w).alloc (Nat.le_refl _) (.cells #[.slice A m.length c] 24)
  have HB0 := Lib.hid hB0
  have hlo : Lo (· < w.heap.size) w := fun _ hk => hk
  have HM0 := Lib.hid (HM.out.same (hlo.same hB0))
  have HL0 := Lib.hid (HL.out.same (hlo.same hB0))
  have hbx := heap_alloc_new w (.cells #[.slice A m.length c] 24)
  have HBX := Lib.hid hbx
  clear hmm hl hB0 hlo hbx
  go_enter Tryz.func7, Tryz.ntmps7
  go_wp2_with fail
  refine (few5_calls m l _ _ (· < w.heap.size) _ (fun k hk => by simp; omega) HM0.out HL0.out).mono ?_
  rintro e w1 ⟨rfl, hb1⟩
  have hbx1 := (hb1.block w.heap.size (by simp)).trans HBX.out
  have HB1 := Lib.hid (HB0.out.trans (hb1.mono HB0.out.size))
  have HBX1 := Lib.hid hbx1
  have c1 := (cells_of hbx1 0).1
  have hz1 : w.heap.size < w1.heap.size := by have := hb1.size; simp at this; omega
  clear hb1 hbx1
  cases hf : few5 m l with
  | false =>
    clear hf
    go_wp2_with fail
    refine (awake_calls w1).mono ?_
    rintro e w2 ⟨rfl, hb2⟩
    go_wp2
    go_ret
    exact ⟨rfl, HB1.out.trans (hb2.mono HB1.out.size)⟩
  | true =>
    obtain ⟨hlens, hll⟩ := few_lens hf
    have HLENS := Lib.hid hlens
    have HCL := Lib.hid (cut_lens hlens hll)
    have HM1 := Lib.hid (HM.out.same fun k hk => HB1.out.block k hk)
    have HL1 := Lib.hid (HL.out.same fun k hk => HB1.out.block k hk)
    clear hf hlens
    go_wp2_with fail
    refine (RCopy_calls m _ (· < w.heap.size) w1 (fun k hk => by show k < _; have : k < w.heap.size := hk; omega) HM1.out HLENS.out).mono ?_
    rintro e w2 ⟨sv, ss, rfl, hsep, hss, hb2⟩
    have hsm := sep_model hsep
    rw [hss] at hsm
    obtain ⟨SA, sc, rfl, -, -, -⟩ := hsm.form
    have HSM := Lib.hid hsm
    have HB2 := Lib.hid hb2
    have hz2 := hb2.size
    have HU := Lib.hid (HL1.out.same (w' := w2.alloc (.cells #[] 3)) fun k hk => (heap_alloc_old _ _ (by have : k < w.heap.size := hk; omega)).trans (hb2.block k (by have : k < w.heap.size := hk; omega)))
    clear hsep hss hb2 hsm c1
    go_wp2_with (at_builtin; (refine wpList_appInts elem_i64 rfl _ _ rfl w2.heap.size _ [] l rfl (own_empty w2 w2.heap.size (Nat.le_refl _) 3 1) _ rfl HU.out (by simp; omega) (by decide) (by simp) ?_); (intro v3 w3 ho3 hg3 ha3); (have ho3 : w3.ownsRow w2.heap.size 3 1 v3 l.length (ints l) := ho3); (have HO3 := Lib.hid ho3); (have hb3 : Below w2.heap.size w2 w3 := ((Below.refl w2.heap.size w2).alloc (Nat.le_refl _) (.cells #[] 3)).grown hg3 (by simp) (fun k hk => by cases hk; exact Nat.le_refl _)); (have HB3 := Lib.hid hb3); (have hz3 := hb3.size); (obtain ⟨BA, bc, rfl, -, -, -⟩ := own_form ho3); (have hb13 : Below w.heap.size w w3 := HB1.out.trans ((HB2.out.trans (hb3.mono hz2)).mono HB1.out.size)); (have hbx3 := (hb3.block w.heap.size (by omega)).trans ((HB2.out.block w.heap.size hz1).trans HBX1.out)); (have HB13 := Lib.hid hb13); (have HBX3 := Lib.hid hbx3); (have c3 := (cells_of hbx3 0).1); (have hz13 : w.heap.size < w3.heap.size := by omega); (clear ho3 hg3 ha3 hb3 hb13 hbx3))
    have hB4 : Below w3.heap.size w3 (w3.alloc (.cells #[.slice SA m.length sc] 24)) := (Below.refl _ _).alloc (Nat.le_refl _) _
    have HBA4 : Hid (Base w (w3.alloc (.cells #[.slice SA m.length sc] 24)).heap.size w3.heap.size A c m (.slice LA l.length lc) l (.slice SA m.length sc) (.slice BA l.length bc) (w3.alloc (.cells #[.slice SA m.length sc] 24))) := by
      have hs4 : (w3.alloc (.cells #[.slice SA m.length sc] 24)).heap.size = w3.heap.size + 1 := by simp
      have hBw := HB13.out.trans (hB4.mono HB13.out.size)
      have hb24 := HB3.out.trans (hB4.mono HB3.out.size)
      refine ⟨Nat.le_refl _, hBw, by omega, (hB4.block _ hz13).trans HBX3.out, by omega, heap_alloc_new _ _, ?_, ?_, ?_, ?_⟩
      · exact (HM.out.same fun k hk => hBw.block k hk).mono fun k hk => by have : k < w.heap.size := hk; omega
      · exact (HL.out.same fun k hk => hBw.block k hk).mono fun k hk => by have : k < w.heap.size := hk; omega
      · exact ⟨_, rfl, (HSM.out.same fun k hk => hb24.block k hk.2.1).mono fun k hk => by have := hk.2.1; omega⟩
      · exact ((own_intsS HO3.out).same fun k hk => hB4.block k hk.2.1).mono fun k hk => by have := hk.2.1; omega
    clear hB4 HM HL HSM HO3 HB1 HB2 HB3 HB13 HBX1 HBX3 HM1 HL1 HU HB0 HM0 HL0 HBX hz1 hz2 hz3 hz13 c3 HLENS h1 h2 l1 l2
    obtain ⟨ab, hab⟩ : ∃ b : Nat, b = w3.heap.size := ⟨_, rfl⟩
    obtain ⟨w4, hw4⟩ : ∃ W : World, W = w3.alloc (.cells #[.slice SA m.length sc] 24) := ⟨_, rfl⟩
    rw [← hw4, ← hab] at HBA4
    rw [← hw4, ← hab]
    have c4 := HBA4.out.cell
    obtain ⟨n0, hn0⟩ : ∃ b : Nat, b = w4.heap.size := ⟨_, rfl⟩
    rw [← hn0] at HBA4
    have HN0 := Lib.hid (Nat.le_of_eq hn0)
    clear hw4 hab hn0
    refine (Edges_calls m _ (· < n0) w4 HBA4.out.lo HBA4.out.M).mono ?_
    rintro e w5 ⟨xv, rfl, hb5, hx5⟩
    have X5 := Lib.hid hx5
    obtain ⟨xA, xn, xc, rfl⟩ := hx5.shape
    have HBA5 := Lib.hid (HBA4.out.next hb5)
    have B5 := Lib.hid hb5
    have c5 := HBA5.out.cell
    clear hb5 hx5 c4 HBA4
    go_wp2_with fail
    refine (Components_calls m _ (· < n0) w5 HBA5.out.lo HBA5.out.M).mono ?_
    rintro e w6 ⟨cv, rfl, hb6, hx6⟩
    have X6 := Lib.hid hx6
    obtain ⟨cA, cn, cc, rfl⟩ := hx6.shape
    have HBA6 := Lib.hid (HBA5.out.next hb6)
    have B6 := Lib.hid hb6
    have c6 := HBA6.out.cell
    clear hb6 hx6 c5 HBA5
    go_wp2_with fail
    refine (Path_calls m s t _ (· < n0) w6 HBA6.out.lo HBA6.out.M).mono ?_
    rintro e w7 ⟨pv, rfl, hb7, hx7⟩
    have X7 := Lib.hid hx7
    obtain ⟨pA, pn, pc, rfl⟩ := hx7.shape
    have HBA7 := Lib.hid (HBA6.out.next hb7)
    have B7 := Lib.hid hb7
    have c7 := HBA7.out.cell
    clear hb7 hx7 c6 HBA6
    go_wp2_with fail
    refine (Cut_calls m l _ _ (· < n0) w7 HBA7.out.lo HBA7.out.M HBA7.out.L).mono ?_
    rintro e w8 ⟨uv, us, rfl, hsep, hss, hb8⟩
    have hx8 := sep_model hsep
    rw [hss] at hx8
    have X8 := Lib.hid hx8
    obtain ⟨uA, un, uc, rfl⟩ := hx8.shape
    have HBA8 := Lib.hid (HBA7.out.next hb8)
    have B8 := Lib.hid hb8
    have c8 := HBA8.out.cell
    have hz8 : w.heap.size < w8.heap.size := Nat.lt_of_lt_of_le HBA8.out.wn HBA8.out.size
    clear hb8 hx8 c7 HBA7 hsep hss
    go_wp2_with fail
    have hb9 : Below w8.heap.size w8 (w8.alloc (.cells #[.slice uA un uc] 24)) := (Below.refl _ _).alloc (Nat.le_refl _) _
    have hub9 := heap_alloc_new w8 (.cells #[.slice uA un uc] 24)
    have HBA9 := Lib.hid (HBA8.out.next hb9)
    have B9 := Lib.hid hb9
    have UB9 := Lib.hid hub9
    have c9 := HBA9.out.cell
    clear hb9 hub9 HBA8 c8 hz8
    obtain ⟨ub, hub⟩ : ∃ b : Nat, b = w8.heap.size := ⟨_, rfl⟩
    obtain ⟨w9, hw9⟩ : ∃ W : World, W = w8.alloc (.cells #[.slice uA un uc] 24) := ⟨_, rfl⟩
    rw [← hw9] at HBA9 B9 UB9 c9
    rw [← hub] at UB9
    rw [← hw9, ← hub]
    have HUB := Lib.hid hub
    clear hub hw9
    refine (From_calls m l _ _ (· < n0) w9 HBA9.out.lo HBA9.out.M HBA9.out.L).mono ?_
    rintro e w10 ⟨fv, rfl, hb10, hx10⟩
    have X10 := Lib.hid hx10
    obtain ⟨fA, fn, fc, rfl⟩ := hx10.shape
    have HBA10 := Lib.hid (HBA9.out.next hb10)
    have B10 := Lib.hid hb10
    have c10 := HBA10.out.cell
    clear hb10 hx10 c9 HBA9
    go_wp2_with fail
    refine (To_calls m l _ _ (· < n0) w10 HBA10.out.lo HBA10.out.M HBA10.out.L).mono ?_
    rintro e w11 ⟨ov, rfl, hb11, hx11⟩
    have X11 := Lib.hid hx11
    obtain ⟨oA, on, oc, rfl⟩ := hx11.shape
    have HBA11 := Lib.hid (HBA10.out.next hb11)
    have B11 := Lib.hid hb11
    have c11 := HBA11.out.cell
    clear hb11 hx11 c10 HBA10
    go_wp2_with fail
    refine (Distance_calls m l _ _ (· < n0) w11 HBA11.out.lo HBA11.out.M HBA11.out.L).mono ?_
    rintro e w12 ⟨dv, rfl, hb12, hx12⟩
    have X12 := Lib.hid hx12
    obtain ⟨dA, dn, dc, rfl⟩ := hx12.shape
    have HBA12 := Lib.hid (HBA11.out.next hb12)
    have B12 := Lib.hid hb12
    have c12 := HBA12.out.cell
    clear hb12 hx12 c11 HBA11
    go_wp2_with fail
    refine (Period_calls m _ (· < n0) w12 HBA12.out.lo HBA12.out.M).mono ?_
    rintro e w13 ⟨qv, rfl, hb13, hx13⟩
    have X13 := Lib.hid hx13
    obtain ⟨qA, qn, qc, rfl⟩ := hx13.shape
    have HBA13 := Lib.hid (HBA12.out.next hb13)
    have B13 := Lib.hid hb13
    have c13 := HBA13.out.cell
    clear hb13 hx13 c12 HBA12
    go_wp2_with fail
    refine (Bottom_calls m _ (· < n0) w13 HBA13.out.lo HBA13.out.M).mono ?_
    rintro e w14 ⟨zv, rfl, hb14, hx14⟩
    have X14 := Lib.hid hx14
    obtain ⟨zA, zn, zc, rfl⟩ := hx14.shape
    have HBA14 := Lib.hid (HBA13.out.next hb14)
    have B14 := Lib.hid hb14
    have c14 := HBA14.out.cell
    clear hb14 hx14 c13 HBA13
    go_upto_region 14 with fail
    obtain ⟨hone, hub14, hnu, hul, hb15⟩ := One.of_calls (ty := 31) (x := .slice xA xn xc) (c := .slice cA cn cc) (p := .slice pA pn pc) (u := .slice uA un uc) (f := .slice fA fn fc) (o := .slice oA on oc) (d := .slice dA dn dc) (q := .slice qA qn qc) (z := .slice zA zn zc) HN0.out B5.out X5.out B6.out X6.out B7.out X7.out B8.out X8.out HUB.out B9.out B10.out X10.out B11.out X11.out B12.out X12.out B13.out X13.out B14.out X14.out UB9.out
    have HBA15 := Lib.hid (HBA14.out.next hb15)
    obtain ⟨lb, hlb⟩ : ∃ b : Nat, b = w14.heap.size := ⟨_, rfl⟩
    obtain ⟨w15, hw15⟩ : ∃ W : World, W = w14.alloc (.cells #[.slice pA pn pc, .slice fA fn fc, .slice oA on oc, .slice dA dn dc, .slice qA qn qc] 31) := ⟨_, rfl⟩
    rw [← hw15] at hone hub14 hul HBA15
    rw [← hlb] at hone
    rw [← hw15, ← hlb]
    have HONE := Lib.hid hone
    have HUB := Lib.hid hub14
    have HNU := Lib.hid hnu
    have HUL := Lib.hid hul
    clear hone hub14 hnu hul hb15 hlb hw15 X5 X6 X7 X8 X10 X11 X12 X13 X14 B5 B6 B7 B8 B9 B10 B11 B12 B13 B14 UB9 HBA14 c14 HN0
    go_cut [30, 31, 32, 33, 34] from 113 to 122 (fun s30 s31 s32 s33 s34 wx => ∃ (l1 x1 c1 z1 u1 : Value) (kb : Nat), s30 = l1 ∧ s31 = x1 ∧ s32 = c1 ∧ s33 = z1 ∧ s34 = .pointer (some ⟨kb, 0, none⟩) ∧ Hid (Below w15.heap.size w15 wx ∧ One (fun k => w15.heap.size ≤ k ∧ k < wx.heap.size) m l s t x1 c1 z1 l1 u1 wx ∧ wx.heap[kb]? = some (.cells #[u1] 24 (0, 0)) ∧ kb < wx.heap.size ∧ w15.heap.size ≤ kb))
    case first =>
      have HQ0 : Hid (Below w15.heap.size w15 w15.drew) := Lib.hid (Below.refl _ _).drew
      have R0 := Lib.hid (Below.refl w15.heap.size w15)
      have S0 : Hid (HeldU ub uA un uc w15.drew) := Lib.hid (heldU_of HUB.out HQ0.out)
      clear HBA15 hll HNU HUL
      go_region_held3 (fun V => V.cell? ⟨ub, 0, none⟩ = some (.slice uA un uc) ∧ ub < V.heap.size)
        (with_reducible (first | exact S0.out | exact S1.out | exact S2.out | exact S3.out | exact S4.out | exact S5.out | exact heldU_of HUB.out (HQ0.out.alloc HQ0.out.size _) | exact heldU_of HUB.out (HQ1.out.alloc HQ1.out.size _) | exact heldU_of HUB.out (HQ2.out.alloc HQ2.out.size _) | exact heldU_of HUB.out (HQ3.out.alloc HQ3.out.size _) | exact heldU_of HUB.out (HQ4.out.alloc HQ4.out.size _) | exact heldU_of HUB.out (HQ5.out.alloc HQ5.out.size _) | exact heldU_of HUB.out ((R0.out.alloc R0.out.size _).drew) | exact heldU_of HUB.out (HQ5.out.trans (below_set (by omega)))))
        (first
          | ((with_reducible show Calls _ 42 #[(.slice (some ⟨lb, 0, none⟩) 5 5)] w15.drew _); (refine (copies_calls (listsOf m l s t) (.slice (some ⟨lb, 0, none⟩) 5 5) (DB n0 w15) w15.drew (lo_db HQ0.out) (HONE.out.S.same (DB.same HQ0.out)) (lists_bd m l s t)).mono ?_); (rintro e y1 ⟨g1, p1, rfl, hr1, hp1, hb1⟩); (have H1 := Lib.hid hr1); (have P1 := Lib.hid hp1); (have B1 := Lib.hid hb1); (have D1 : Hid (Below w15.heap.size w15 w15.drew) := Lib.hid ((Below.refl _ _).drew)); (have ZV1 : Hid (w15.drew.heap.size = w15.heap.size) := Lib.hid (rfl)); (have HQ1 := Lib.hid ((HQ0.out).trans (hb1.mono (HQ0.out).size))); (have S1 := Lib.hid (heldU_of HUB.out HQ1.out)); (have z1 : w15.heap.size ≤ y1.heap.size := hb1.size); (clear hr1 hp1 hb1))
          | ((with_reducible show Calls _ 42 #[(.slice (some ⟨lb, 0, none⟩) 5 5)] (World.alloc w15.drew (.cells #[.slice none 0 0] 24)) _); (refine (copies_calls (listsOf m l s t) (.slice (some ⟨lb, 0, none⟩) 5 5) (DB n0 w15) (World.alloc w15.drew (.cells #[.slice none 0 0] 24)) (lo_db (HQ0.out.alloc HQ0.out.size (.cells #[.slice none 0 0] 24))) (HONE.out.S.same (DB.same (HQ0.out.alloc HQ0.out.size (.cells #[.slice none 0 0] 24)))) (lists_bd m l s t)).mono ?_); (rintro e y1 ⟨g1, p1, rfl, hr1, hp1, hb1⟩); (have H1 := Lib.hid hr1); (have P1 := Lib.hid hp1); (have B1 := Lib.hid hb1); (have D1 : Hid (Below w15.heap.size w15 (World.alloc w15.drew (.cells #[.slice none 0 0] 24))) := Lib.hid (((Below.refl w15.heap.size w15).drew).alloc (Nat.le_refl _) _)); (have ZV1 : Hid ((World.alloc w15.drew (.cells #[.slice none 0 0] 24)).heap.size = w15.heap.size + 1) := Lib.hid (World.size_alloc _ _)); (have HQ1 := Lib.hid (((HQ0.out.alloc HQ0.out.size (.cells #[.slice none 0 0] 24))).trans (hb1.mono ((HQ0.out.alloc HQ0.out.size (.cells #[.slice none 0 0] 24))).size))); (have S1 := Lib.hid (heldU_of HUB.out HQ1.out)); (have z1 : w15.heap.size + 1 ≤ y1.heap.size := by have hz := hb1.size; have hz2 : (World.alloc w15.drew (.cells #[.slice none 0 0] 24)).heap.size = w15.heap.size + 1 := World.size_alloc _ _; omega); (have hx1 : y1.heap[w15.heap.size]? = some (.cells #[.slice none 0 0] 24) := (hb1.block w15.heap.size (by have hz2 : (World.alloc w15.drew (.cells #[.slice none 0 0] 24)).heap.size = w15.heap.size + 1 := World.size_alloc _ _; omega)).trans (heap_alloc_new w15.drew (.cells #[.slice none 0 0] 24))); (have xc1 := (cells_of hx1 0).1); (have xf1 := (cells_of hx1 0).2); (have XK1 := Lib.hid hx1); (clear hx1); (clear hr1 hp1 hb1))
          | ((with_reducible show Calls _ 42 #[(.slice (some ⟨lb, 0, none⟩) 5 5)] (World.drew (World.alloc w15 (.cells #[.slice none 0 0] 24))) _); (refine (copies_calls (listsOf m l s t) (.slice (some ⟨lb, 0, none⟩) 5 5) (DB n0 w15) (World.drew (World.alloc w15 (.cells #[.slice none 0 0] 24))) (lo_db ((R0.out.alloc R0.out.size (.cells #[.slice none 0 0] 24)).drew)) (HONE.out.S.same (DB.same ((R0.out.alloc R0.out.size (.cells #[.slice none 0 0] 24)).drew))) (lists_bd m l s t)).mono ?_); (rintro e y1 ⟨g1, p1, rfl, hr1, hp1, hb1⟩); (have H1 := Lib.hid hr1); (have P1 := Lib.hid hp1); (have B1 := Lib.hid hb1); (have D1 : Hid (Below w15.heap.size w15 (World.drew (World.alloc w15 (.cells #[.slice none 0 0] 24)))) := Lib.hid (((Below.refl w15.heap.size w15).alloc (Nat.le_refl _) _).drew)); (have ZV1 : Hid ((World.drew (World.alloc w15 (.cells #[.slice none 0 0] 24))).heap.size = w15.heap.size + 1) := Lib.hid (World.size_alloc _ _)); (have HQ1 := Lib.hid ((((R0.out.alloc R0.out.size (.cells #[.slice none 0 0] 24)).drew)).trans (hb1.mono (((R0.out.alloc R0.out.size (.cells #[.slice none 0 0] 24)).drew)).size))); (have S1 := Lib.hid (heldU_of HUB.out HQ1.out)); (have z1 : w15.heap.size + 1 ≤ y1.heap.size := by have hz := hb1.size; have hz2 : (World.drew (World.alloc w15 (.cells #[.slice none 0 0] 24))).heap.size = w15.heap.size + 1 := World.size_alloc _ _; omega); (have hx1 : y1.heap[w15.heap.size]? = some (.cells #[.slice none 0 0] 24) := (hb1.block w15.heap.size (by have hz2 : (World.drew (World.alloc w15 (.cells #[.slice none 0 0] 24))).heap.size = w15.heap.size + 1 := World.size_alloc _ _; omega)).trans (heap_alloc_new w15 (.cells #[.slice none 0 0] 24))); (have xc1 := (cells_of hx1 0).1); (have xf1 := (cells_of hx1 0).2); (have XK1 := Lib.hid hx1); (clear hx1); (clear hr1 hp1 hb1))
          | ((with_reducible show Calls _ 42 #[(.slice xA xn xc)] y1 _); (refine (copies_calls (edgesOf m) (.slice xA xn xc) (DB n0 w15) y1 (lo_db HQ1.out) (HONE.out.X.same (DB.same HQ1.out)) (edges_bd m)).mono ?_); (rintro e y2 ⟨g2, p2, rfl, hr2, hp2, hb2⟩); (have H2 := Lib.hid hr2); (have P2 := Lib.hid hp2); (have B2 := Lib.hid hb2); (have D2 : Hid (Below y1.heap.size y1 y1) := Lib.hid (Below.refl _ _)); (skip); (have HQ2 := Lib.hid ((HQ1.out).trans (hb2.mono (HQ1.out).size))); (have S2 := Lib.hid (heldU_of HUB.out HQ2.out)); (have z2 : y1.heap.size ≤ y2.heap.size := hb2.size); (first | (have hx2 := (hb2.block _ (Array.getElem?_eq_some_iff.1 XK1.out).1).trans XK1.out; have xc2 := (cells_of hx2 0).1; have xf2 := (cells_of hx2 0).2; have XK2 := Lib.hid hx2; clear hx2 xc1 xf1) | skip); (clear hr2 hp2 hb2))
          | ((with_reducible show Calls _ 42 #[(.slice xA xn xc)] (World.alloc y1 (.cells #[.slice none 0 0] 24)) _); (refine (copies_calls (edgesOf m) (.slice xA xn xc) (DB n0 w15) (World.alloc y1 (.cells #[.slice none 0 0] 24)) (lo_db (HQ1.out.alloc HQ1.out.size (.cells #[.slice none 0 0] 24))) (HONE.out.X.same (DB.same (HQ1.out.alloc HQ1.out.size (.cells #[.slice none 0 0] 24)))) (edges_bd m)).mono ?_); (rintro e y2 ⟨g2, p2, rfl, hr2, hp2, hb2⟩); (have H2 := Lib.hid hr2); (have P2 := Lib.hid hp2); (have B2 := Lib.hid hb2); (have D2 : Hid (Below y1.heap.size y1 (World.alloc y1 (.cells #[.slice none 0 0] 24))) := Lib.hid ((Below.refl _ _).alloc (Nat.le_refl _) _)); (have ZV2 : Hid ((World.alloc y1 (.cells #[.slice none 0 0] 24)).heap.size = y1.heap.size + 1) := Lib.hid (World.size_alloc _ _)); (have HQ2 := Lib.hid (((HQ1.out.alloc HQ1.out.size (.cells #[.slice none 0 0] 24))).trans (hb2.mono ((HQ1.out.alloc HQ1.out.size (.cells #[.slice none 0 0] 24))).size))); (have S2 := Lib.hid (heldU_of HUB.out HQ2.out)); (have z2 : y1.heap.size + 1 ≤ y2.heap.size := by have hz := hb2.size; have hz2 : (World.alloc y1 (.cells #[.slice none 0 0] 24)).heap.size = y1.heap.size + 1 := World.size_alloc _ _; omega); (have hx2 : y2.heap[y1.heap.size]? = some (.cells #[.slice none 0 0] 24) := (hb2.block y1.heap.size (by have hz2 : (World.alloc y1 (.cells #[.slice none 0 0] 24)).heap.size = y1.heap.size + 1 := World.size_alloc _ _; omega)).trans (heap_alloc_new y1 (.cells #[.slice none 0 0] 24))); (have xc2 := (cells_of hx2 0).1); (have xf2 := (cells_of hx2 0).2); (have XK2 := Lib.hid hx2); (clear hx2); (clear hr2 hp2 hb2))
          | ((with_reducible show Calls _ 42 #[(.slice cA cn cc)] y2 _); (refine (copies_calls (compsOf m) (.slice cA cn cc) (DB n0 w15) y2 (lo_db HQ2.out) (HONE.out.C.same (DB.same HQ2.out)) (comps_bd m)).mono ?_); (rintro e y3 ⟨g3, p3, rfl, hr3, hp3, hb3⟩); (have H3 := Lib.hid hr3); (have P3 := Lib.hid hp3); (have B3 := Lib.hid hb3); (have D3 : Hid (Below y2.heap.size y2 y2) := Lib.hid (Below.refl _ _)); (skip); (have HQ3 := Lib.hid ((HQ2.out).trans (hb3.mono (HQ2.out).size))); (have S3 := Lib.hid (heldU_of HUB.out HQ3.out)); (have z3 : y2.heap.size ≤ y3.heap.size := hb3.size); (first | (have hx3 := (hb3.block _ (Array.getElem?_eq_some_iff.1 XK2.out).1).trans XK2.out; have xc3 := (cells_of hx3 0).1; have xf3 := (cells_of hx3 0).2; have XK3 := Lib.hid hx3; clear hx3 xc2 xf2) | skip); (clear hr3 hp3 hb3))
          | ((with_reducible show Calls _ 42 #[(.slice cA cn cc)] (World.alloc y2 (.cells #[.slice none 0 0] 24)) _); (refine (copies_calls (compsOf m) (.slice cA cn cc) (DB n0 w15) (World.alloc y2 (.cells #[.slice none 0 0] 24)) (lo_db (HQ2.out.alloc HQ2.out.size (.cells #[.slice none 0 0] 24))) (HONE.out.C.same (DB.same (HQ2.out.alloc HQ2.out.size (.cells #[.slice none 0 0] 24)))) (comps_bd m)).mono ?_); (rintro e y3 ⟨g3, p3, rfl, hr3, hp3, hb3⟩); (have H3 := Lib.hid hr3); (have P3 := Lib.hid hp3); (have B3 := Lib.hid hb3); (have D3 : Hid (Below y2.heap.size y2 (World.alloc y2 (.cells #[.slice none 0 0] 24))) := Lib.hid ((Below.refl _ _).alloc (Nat.le_refl _) _)); (have ZV3 : Hid ((World.alloc y2 (.cells #[.slice none 0 0] 24)).heap.size = y2.heap.size + 1) := Lib.hid (World.size_alloc _ _)); (have HQ3 := Lib.hid (((HQ2.out.alloc HQ2.out.size (.cells #[.slice none 0 0] 24))).trans (hb3.mono ((HQ2.out.alloc HQ2.out.size (.cells #[.slice none 0 0] 24))).size))); (have S3 := Lib.hid (heldU_of HUB.out HQ3.out)); (have z3 : y2.heap.size + 1 ≤ y3.heap.size := by have hz := hb3.size; have hz2 : (World.alloc y2 (.cells #[.slice none 0 0] 24)).heap.size = y2.heap.size + 1 := World.size_alloc _ _; omega); (have hx3 : y3.heap[y2.heap.size]? = some (.cells #[.slice none 0 0] 24) := (hb3.block y2.heap.size (by have hz2 : (World.alloc y2 (.cells #[.slice none 0 0] 24)).heap.size = y2.heap.size + 1 := World.size_alloc _ _; omega)).trans (heap_alloc_new y2 (.cells #[.slice none 0 0] 24))); (have xc3 := (cells_of hx3 0).1); (have xf3 := (cells_of hx3 0).2); (have XK3 := Lib.hid hx3); (clear hx3); (clear hr3 hp3 hb3))
          | ((with_reducible show Calls _ 42 #[(.slice zA zn zc)] y3 _); (refine (copies_calls (botOf m) (.slice zA zn zc) (DB n0 w15) y3 (lo_db HQ3.out) (HONE.out.Z.same (DB.same HQ3.out)) (bot_bd m)).mono ?_); (rintro e y4 ⟨g4, p4, rfl, hr4, hp4, hb4⟩); (have H4 := Lib.hid hr4); (have P4 := Lib.hid hp4); (have B4 := Lib.hid hb4); (have D4 : Hid (Below y3.heap.size y3 y3) := Lib.hid (Below.refl _ _)); (skip); (have HQ4 := Lib.hid ((HQ3.out).trans (hb4.mono (HQ3.out).size))); (have S4 := Lib.hid (heldU_of HUB.out HQ4.out)); (have z4 : y3.heap.size ≤ y4.heap.size := hb4.size); (first | (have hx4 := (hb4.block _ (Array.getElem?_eq_some_iff.1 XK3.out).1).trans XK3.out; have xc4 := (cells_of hx4 0).1; have xf4 := (cells_of hx4 0).2; have XK4 := Lib.hid hx4; clear hx4 xc3 xf3) | skip); (clear hr4 hp4 hb4))
          | ((with_reducible show Calls _ 42 #[(.slice zA zn zc)] (World.alloc y3 (.cells #[.slice none 0 0] 24)) _); (refine (copies_calls (botOf m) (.slice zA zn zc) (DB n0 w15) (World.alloc y3 (.cells #[.slice none 0 0] 24)) (lo_db (HQ3.out.alloc HQ3.out.size (.cells #[.slice none 0 0] 24))) (HONE.out.Z.same (DB.same (HQ3.out.alloc HQ3.out.size (.cells #[.slice none 0 0] 24)))) (bot_bd m)).mono ?_); (rintro e y4 ⟨g4, p4, rfl, hr4, hp4, hb4⟩); (have H4 := Lib.hid hr4); (have P4 := Lib.hid hp4); (have B4 := Lib.hid hb4); (have D4 : Hid (Below y3.heap.size y3 (World.alloc y3 (.cells #[.slice none 0 0] 24))) := Lib.hid ((Below.refl _ _).alloc (Nat.le_refl _) _)); (have ZV4 : Hid ((World.alloc y3 (.cells #[.slice none 0 0] 24)).heap.size = y3.heap.size + 1) := Lib.hid (World.size_alloc _ _)); (have HQ4 := Lib.hid (((HQ3.out.alloc HQ3.out.size (.cells #[.slice none 0 0] 24))).trans (hb4.mono ((HQ3.out.alloc HQ3.out.size (.cells #[.slice none 0 0] 24))).size))); (have S4 := Lib.hid (heldU_of HUB.out HQ4.out)); (have z4 : y3.heap.size + 1 ≤ y4.heap.size := by have hz := hb4.size; have hz2 : (World.alloc y3 (.cells #[.slice none 0 0] 24)).heap.size = y3.heap.size + 1 := World.size_alloc _ _; omega); (have hx4 : y4.heap[y3.heap.size]? = some (.cells #[.slice none 0 0] 24) := (hb4.block y3.heap.size (by have hz2 : (World.alloc y3 (.cells #[.slice none 0 0] 24)).heap.size = y3.heap.size + 1 := World.size_alloc _ _; omega)).trans (heap_alloc_new y3 (.cells #[.slice none 0 0] 24))); (have xc4 := (cells_of hx4 0).1); (have xf4 := (cells_of hx4 0).2); (have XK4 := Lib.hid hx4); (clear hx4); (clear hr4 hp4 hb4))
          | ((with_reducible show Calls _ 41 #[(.agg #[.slice uA un uc])] y4 _); (refine (RCopy_calls (cutOf m l) _ (DB n0 w15) y4 (lo_db HQ4.out) ⟨_, rfl, HONE.out.U.same (DB.same HQ4.out)⟩ HCL.out).mono ?_); (rintro e y5 ⟨g5, ss5, rfl, hsep, hss, hb5⟩); (have hr5 := sep_model hsep); (rw [hss] at hr5); (obtain ⟨gA, gn, gc, rfl⟩ := hr5.shape); (have H5 := Lib.hid hr5); (have B5 := Lib.hid hb5); (have D5 : Hid (Below y4.heap.size y4 y4) := Lib.hid (Below.refl _ _)); (skip); (have HQ5 := Lib.hid ((HQ4.out).trans (hb5.mono (HQ4.out).size))); (have S5 := Lib.hid (heldU_of HUB.out HQ5.out)); (have z5 : y4.heap.size ≤ y5.heap.size := hb5.size); (first | (have hx5 := (hb5.block _ (Array.getElem?_eq_some_iff.1 XK4.out).1).trans XK4.out; have xc5 := (cells_of hx5 0).1; have xf5 := (cells_of hx5 0).2; have XK5 := Lib.hid hx5; clear hx5 xc4 xf4) | skip); (clear hr5 hsep hss hb5))
          | ((with_reducible show Calls _ 41 #[(.agg #[.slice uA un uc])] (World.alloc y4 (.cells #[.slice none 0 0] 24)) _); (refine (RCopy_calls (cutOf m l) _ (DB n0 w15) (World.alloc y4 (.cells #[.slice none 0 0] 24)) (lo_db (HQ4.out.alloc HQ4.out.size (.cells #[.slice none 0 0] 24))) ⟨_, rfl, HONE.out.U.same (DB.same (HQ4.out.alloc HQ4.out.size (.cells #[.slice none 0 0] 24)))⟩ HCL.out).mono ?_); (rintro e y5 ⟨g5, ss5, rfl, hsep, hss, hb5⟩); (have hr5 := sep_model hsep); (rw [hss] at hr5); (obtain ⟨gA, gn, gc, rfl⟩ := hr5.shape); (have H5 := Lib.hid hr5); (have B5 := Lib.hid hb5); (have D5 : Hid (Below y4.heap.size y4 (World.alloc y4 (.cells #[.slice none 0 0] 24))) := Lib.hid ((Below.refl _ _).alloc (Nat.le_refl _) _)); (have ZV5 : Hid ((World.alloc y4 (.cells #[.slice none 0 0] 24)).heap.size = y4.heap.size + 1) := Lib.hid (World.size_alloc _ _)); (have HQ5 := Lib.hid (((HQ4.out.alloc HQ4.out.size (.cells #[.slice none 0 0] 24))).trans (hb5.mono ((HQ4.out.alloc HQ4.out.size (.cells #[.slice none 0 0] 24))).size))); (have S5 := Lib.hid (heldU_of HUB.out HQ5.out)); (have z5 : y4.heap.size + 1 ≤ y5.heap.size := by have hz := hb5.size; have hz2 : (World.alloc y4 (.cells #[.slice none 0 0] 24)).heap.size = y4.heap.size + 1 := World.size_alloc _ _; omega); (have hx5 : y5.heap[y4.heap.size]? = some (.cells #[.slice none 0 0] 24) := (hb5.block y4.heap.size (by have hz2 : (World.alloc y4 (.cells #[.slice none 0 0] 24)).heap.size = y4.heap.size + 1 := World.size_alloc _ _; omega)).trans (heap_alloc_new y4 (.cells #[.slice none 0 0] 24))); (have xc5 := (cells_of hx5 0).1); (have xf5 := (cells_of hx5 0).2); (have XK5 := Lib.hid hx5); (clear hx5); (clear hr5 hsep hss hb5)))
      all_goals
        go_wp2_with fail
        go_meet
        refine ⟨g1, g2, g3, g4, .slice gA gn gc, _, rfl, rfl, rfl, rfl, rfl, ?_⟩
        have v1 := ZV1.out
        (first | (have v2 := ZV2.out) | skip)
        (first | (have v3 := ZV3.out) | skip)
        (first | (have v4 := ZV4.out) | skip)
        (first | (have v5 := ZV5.out) | skip)
        first
          | (with_reducible refine Lib.hid (One.of_copies_set rfl D1.out B1.out H1.out P1.out D2.out B2.out H2.out P2.out D3.out B3.out H3.out P3.out D4.out B4.out H4.out P4.out D5.out B5.out H5.out ?_ ?_ ?_ ?_ ?_ ?_ XK5.out) <;> omega)
          | (with_reducible exact Lib.hid (One.of_copies_new rfl D1.out B1.out H1.out P1.out D2.out B2.out H2.out P2.out D3.out B3.out H3.out P3.out D4.out B4.out H4.out P4.out D5.out B5.out H5.out))
    case rest =>
      obtain ⟨lv1, xv1, cv1, zv1, uv1, kb, rfl, rfl, rfl, rfl, rfl, HCUT⟩ := hcut
      obtain ⟨hbc, hcp, hkb, hkl, hkn⟩ := HCUT.out
      obtain ⟨u1A, u1n, u1c, rfl⟩ := hcp.U.shape
      obtain ⟨n2, hn2⟩ : ∃ b : Nat, b = wc.heap.size := ⟨_, rfl⟩
      have HBAc := Lib.hid (HBA15.out.next hbc)
      have HBCc := Lib.hid hbc
      have HCPc : Hid (Cop w15.heap.size n2 kb m l s t u31 u32 u33 u30 (.slice u1A u1n u1c) wc) := Lib.hid ⟨by rw [hn2]; exact hcp, hkb, ⟨hkn, by omega⟩, by omega⟩
      have hb16 : Below wc.heap.size wc (wc.alloc (.cells #[.slice (some ⟨lb, 0, none⟩) 5 5, .slice xA xn xc, .slice cA cn cc, .slice zA zn zc] 27)) := (Below.refl _ _).alloc (Nat.le_refl _) _
      have HONE16 := Lib.hid (HONE.out.same fun k hk => (hb16.block k (Nat.lt_of_lt_of_le hk.2.1 hbc.size)).trans (hbc.block k hk.2.1))
      have hal := heap_alloc_new wc (.cells #[.slice (some ⟨lb, 0, none⟩) 5 5, .slice xA xn xc, .slice cA cn cc, .slice zA zn zc] 27)
      have HAL := Lib.hid hal
      have HUX16 := Lib.hid ((BoxU.of HUB.out).next (hbc.trans (hb16.mono hbc.size)))
      have HSF : Hid (∀ k, DB n0 w15 k → Soft (wc.alloc (.cells #[.slice (some ⟨lb, 0, none⟩) 5 5, .slice xA xn xc, .slice cA cn cc, .slice zA zn zc] 27)) k) := Lib.hid fun k hk => (hk.2.2.same (hbc.block k hk.2.1)).same (hb16.block k (Nat.lt_of_lt_of_le hk.2.1 hbc.size))
      have HLO : Hid (Lo (DB n0 w15) (wc.alloc (.cells #[.slice (some ⟨lb, 0, none⟩) 5 5, .slice xA xn xc, .slice cA cn cc, .slice zA zn zc] 27))) := Lib.hid (lo_db (hbc.trans (hb16.mono hbc.size)))
      clear hbc hcp hkb hkl hkn hn2 hb16 hal HCUT HBA15 HONE
      have HLL := Lib.hid hll
      clear hll
      go_wp2_with fail
      go_loopw [129] (fun k W => ∃ (i : Nat), i ≤ 4 ∧ k = .int .i64 (i : Int) ∧ Hid (Turned (DB n0 w15) (wc.alloc (.cells #[.slice (some ⟨lb, 0, none⟩) 5 5, .slice xA xn xc, .slice cA cn cc, .slice zA zn zc] 27)) W)) (fun k _ => 4 - (intOf k).toNat)
      case atStart => exact ⟨0, by omega, rfl, Turned.refl _ _⟩
      case round =>
        obtain ⟨i, hi, rfl, HT⟩ := hrel
        by_cases hlt : i < 4
        · have hsoft : Hid (∀ k, DB n0 w15 k → Soft wr k) := Lib.hid fun k hk => HT.out.soft (HSF.out k hk)
          rcases (show i = 0 ∨ i = 1 ∨ i = 2 ∨ i = 3 by omega) with rfl | rfl | rfl | rfl
          · have e0 := slice_turn HT.out (cells_of HAL.out 0).1
            obtain ⟨ys, -, -, hys⟩ := HONE16.out.S.turned HT.out
            have HY := Lib.hid hys
            clear hys
            go_wp2_with ((go_at_call 43); (refine (spoil_calls ys _ (DB n0 w15) wr HY.out hsoft.out).mono ?_); (rintro e wz ⟨rfl, hz⟩); (have HZ := Lib.hid hz); (clear hz))
            exact ⟨⟨1, by omega, by go_num, HT.out.trans HZ.out⟩, by simp [intOf]⟩
          · have e0 := slice_turn HT.out (cells_of HAL.out 1).1
            obtain ⟨ys, -, -, hys⟩ := HONE16.out.X.turned HT.out
            have HY := Lib.hid hys
            clear hys
            go_wp2_with ((go_at_call 43); (refine (spoil_calls ys _ (DB n0 w15) wr HY.out hsoft.out).mono ?_); (rintro e wz ⟨rfl, hz⟩); (have HZ := Lib.hid hz); (clear hz))
            exact ⟨⟨2, by omega, by go_num, HT.out.trans HZ.out⟩, by simp [intOf]⟩
          · have e0 := slice_turn HT.out (cells_of HAL.out 2).1
            obtain ⟨ys, -, -, hys⟩ := HONE16.out.C.turned HT.out
            have HY := Lib.hid hys
            clear hys
            go_wp2_with ((go_at_call 43); (refine (spoil_calls ys _ (DB n0 w15) wr HY.out hsoft.out).mono ?_); (rintro e wz ⟨rfl, hz⟩); (have HZ := Lib.hid hz); (clear hz))
            exact ⟨⟨3, by omega, by go_num, HT.out.trans HZ.out⟩, by simp [intOf]⟩
          · have e0 := slice_turn HT.out (cells_of HAL.out 3).1
            obtain ⟨ys, -, -, hys⟩ := HONE16.out.Z.turned HT.out
            have HY := Lib.hid hys
            clear hys
            go_wp2_with ((go_at_call 43); (refine (spoil_calls ys _ (DB n0 w15) wr HY.out hsoft.out).mono ?_); (rintro e wz ⟨rfl, hz⟩); (have HZ := Lib.hid hz); (clear hz))
            exact ⟨⟨4, by omega, by go_num, HT.out.trans HZ.out⟩, by simp [intOf]⟩
        · obtain rfl : i = 4 := by omega
          clear hlt hi
          have hux := HUX16.out.turned HT.out
          have e0 := hux.1
          have HUXr := Lib.hid hux
          clear hux
          go_wp2_with fail
          have hsoft : Hid (∀ k, DB n0 w15 k → Soft wr k) := Lib.hid fun k hk => HT.out.soft (HSF.out k hk)
          obtain ⟨mu, hmu, -⟩ := HONE16.out.U.firm st_firm HT.out
          have hlo : Lo (DB n0 w15) wr := fun k hk => by rw [HT.out.size]; exact HLO.out k hk
          refine (Spoil_calls mu _ (DB n0 w15) wr hlo ⟨_, rfl, hmu⟩ hsoft.out).mono ?_
          rintro e w17 ⟨rfl, ob, ht17⟩
          have hn0c : n0 ≤ wc.heap.size := HBAc.out.size
          obtain ⟨hb17, hk17⟩ := spoilt hn0c HT.out ht17
          have HBA17 := Lib.hid (HBAc.out.kept hb17.size (fun k hk => hk17 k (.inl hk) (Nat.lt_of_lt_of_le hk hn0c)) (HBAc.out.below.trans (hb17.mono (Nat.le_of_lt HBAc.out.wn))))
          have HCP17 := Lib.hid (HCPc.out.kept (fun k h1 h2 => hk17 k (.inr h1) (Nat.lt_of_lt_of_le h2 HCPc.out.size)) hb17.size)
          have HUX17 := Lib.hid ((HUXr.out.next ((Below.refl _ _).alloc (Nat.le_refl _) ob)).turned ht17)
          have c17 := HBA17.out.cell
          have a17 := HBA17.out.acell
          clear ht17 hn0c hb17 hk17 hlo hmu hsoft HT HUXr e0 HBAc HBCc HCPc HONE16 HAL HUX16 HSF HLO HUB
          go_wp2_with fail
          refine (Identical_calls m _ _ (· < n0) w17 HBA17.out.lo HBA17.out.M HBA17.out.AM).mono ?_
          rintro e w18 ⟨rfl, hb18⟩
          have HBA18 := Lib.hid (HBA17.out.next hb18)
          have HCP18 := Lib.hid (HCP17.out.next hb18)
          have HUX18 := Lib.hid (HUX17.out.next hb18)
          have HL6 := Lib.hid (show l.length ≤ 1000000 by have := HLL.out; omega)
          clear c17 a17 hb18 HBA17 HCP17 HUX17
          go_wp2_with fail
          refine (List_calls l l _ _ (· < n0) w18 HBA18.out.L HBA18.out.BL HL6.out HL6.out).mono ?_
          rintro e w19 ⟨he, hd⟩
          rw [decide_eq_true rfl] at he
          subst he
          have hb19 := hd.below w18.heap.size
          have HBA19 := Lib.hid (HBA18.out.next hb19)
          have HCP19 := Lib.hid (HCP18.out.next hb19)
          have HUX19 := Lib.hid (HUX18.out.next hb19)
          have c19 := HBA19.out.cell
          have HUX19s := Lib.hid HUX19.out.2.2
          clear hb19 hd HBA18 HCP18 HUX18
          go_wp2_with fail
          refine (Edges_calls m _ (· < n0) w19 HBA19.out.lo HBA19.out.M).mono ?_
          rintro e w20 ⟨xv, rfl, hb20, hx20⟩
          have X20 := Lib.hid hx20
          obtain ⟨xA', xn', xc', rfl⟩ := hx20.shape
          have HBA20 := Lib.hid (HBA19.out.next hb20)
          have HCP20 := Lib.hid (HCP19.out.next hb20)
          have HUX20 := Lib.hid (HUX19.out.next hb20)
          have c20 := HBA20.out.cell
          have Z1 := Lib.hid hb20.size
          clear hb20 hx20 c19 HBA19 HCP19 HUX19 
          go_wp2_with fail
          refine (Components_calls m _ (· < n0) w20 HBA20.out.lo HBA20.out.M).mono ?_
          rintro e w21 ⟨yv, rfl, hb21, hx21⟩
          have Y21 := Lib.hid hx21
          obtain ⟨yA', yn', yc', rfl⟩ := hx21.shape
          have HBA21 := Lib.hid (HBA20.out.next hb21)
          have HCP21 := Lib.hid (HCP20.out.next hb21)
          have HUX21 := Lib.hid (HUX20.out.next hb21)
          have c21 := HBA21.out.cell
          have X21 := Lib.hid (X20.out.carry hb21)
          have Z2 := Lib.hid hb21.size
          clear hb21 hx21 c20 HBA20 HCP20 HUX20 X20
          go_wp2_with fail
          refine (Bottom_calls m _ (· < n0) w21 HBA21.out.lo HBA21.out.M).mono ?_
          rintro e w22 ⟨zv, rfl, hb22, hx22⟩
          have Z22 := Lib.hid hx22
          obtain ⟨zA', zn', zc', rfl⟩ := hx22.shape
          have HBA22 := Lib.hid (HBA21.out.next hb22)
          have HCP22 := Lib.hid (HCP21.out.next hb22)
          have HUX22 := Lib.hid (HUX21.out.next hb22)
          have c22 := HBA22.out.cell
          have X22 := Lib.hid (X21.out.carry hb22)
          have Y22 := Lib.hid (Y21.out.carry hb22)
          have HZS := Lib.hid (show w19.heap.size ≤ w20.heap.size ∧ w20.heap.size ≤ w21.heap.size ∧ w21.heap.size ≤ w22.heap.size from ⟨Z1.out, Z2.out, hb22.size⟩)
          clear hb22 hx22 c21 HBA21 HCP21 HUX21 X21 Y21
          go_wp2_with fail
          refine (Cut_calls m l _ _ (· < n0) w22 HBA22.out.lo HBA22.out.M HBA22.out.L).mono ?_
          rintro e w23 ⟨vv, vs, rfl, hsep, hss, hb23⟩
          have hx23 := sep_model hsep
          rw [hss] at hx23
          obtain ⟨vA, vn, vc, rfl⟩ := hx23.shape
          have HBA23 := Lib.hid (HBA22.out.next hb23)
          have HCP23 := Lib.hid (HCP22.out.next hb23)
          have HUX23 := Lib.hid (HUX22.out.next hb23)
          have hu20 : ub < w19.heap.size := HUX19s.out
          have hu21 : ub < w20.heap.size := Nat.lt_of_lt_of_le hu20 HZS.out.1
          have hu22 : ub < w21.heap.size := Nat.lt_of_lt_of_le hu21 HZS.out.2.1
          have hu23 : ub < w22.heap.size := Nat.lt_of_lt_of_le hu22 HZS.out.2.2
          have X24 := Lib.hid (Sl.box (u := .slice vA vn vc) (X22.out.carry hb23) hu20)
          have Y24 := Lib.hid (Sl.box (u := .slice vA vn vc) (Y22.out.carry hb23) hu21)
          have Z24 := Lib.hid (Sl.box (u := .slice vA vn vc) (Z22.out.carry hb23) hu22)
          have V24 := Lib.hid (Sl.box (u := .slice vA vn vc) hx23 hu23)
          have e23 := HUX23.out.1
          have f23 := HUX23.out.2.1
          have hs24 : (w23.setCell ⟨ub, 0, none⟩ (.slice vA vn vc)).heap.size = w23.heap.size := by simp [World.setCell]
          have hnu := HNU.out
          have hwn := HBA23.out.wn
          have HBA24 := Lib.hid (HBA23.out.kept (W' := w23.setCell ⟨ub, 0, none⟩ (.slice vA vn vc)) (Nat.le_of_eq hs24.symm) (fun k hk => Below.heap_setCell _ _ _ _ (fun e => by have e : k = ub := e; omega)) (HBA23.out.below.trans (below_set (by omega))))
          have HCP24 := Lib.hid (HCP23.out.kept (W' := w23.setCell ⟨ub, 0, none⟩ (.slice vA vn vc)) (fun k h1 h2 => Below.heap_setCell _ _ _ _ (fun e => by have e : k = ub := e; have := HUL.out; omega)) (Nat.le_of_eq hs24.symm))
          have HUX24 := Lib.hid (BoxU.set (v := .slice vA vn vc) HUX23.out)
          clear hb23 hx23 c22 HBA22 HCP22 HUX22 hsep hss X22 Y22 Z22 HBA23 HCP23 HUX23 hu20 hu21 hu22 hu23 hnu hwn hs24
          go_wp2_with fail
          clear e23 f23
          obtain ⟨w24, hw24⟩ : ∃ W : World, W = w23.setCell ⟨ub, 0, none⟩ (.slice vA vn vc) := ⟨_, rfl⟩
          rw [← hw24] at X24 Y24 Z24 V24 HBA24 HCP24 HUX24
          rw [← hw24]
          clear hw24
          refine (Lists_calls (edgesOf m) (edgesOf m) _ _ (· < w24.heap.size) w24 X24.out HCP24.out.all.X (Nat.le_trans (edges_bd m).1 (by decide)) (Nat.le_trans (edges_bd m).1 (by decide)) (fun q hq => Nat.le_trans ((edges_bd m).2 q hq) (by decide)) (fun q hq => Nat.le_trans ((edges_bd m).2 q hq) (by decide))).mono ?_
          rintro e w25 ⟨he, hd⟩
          rw [decide_eq_true rfl] at he
          subst he
          have hb25 := hd.below w24.heap.size
          have HBA25 := Lib.hid (HBA24.out.next hb25)
          have HCP25 := Lib.hid (HCP24.out.next hb25)
          have HUX25 := Lib.hid (HUX24.out.next hb25)
          have Y25 := Lib.hid (Sl.on Y24.out hb25)
          have Z25 := Lib.hid (Sl.on Z24.out hb25)
          have V25 := Lib.hid (Sl.on V24.out hb25)
          clear hb25 hd HBA24 HCP24 HUX24 X24 Y24 Z24 V24
          go_wp2_with fail
          refine (Lists_calls (compsOf m) (compsOf m) _ _ (· < w25.heap.size) w25 Y25.out HCP25.out.all.C (Nat.le_trans (comps_bd m).1 (by decide)) (Nat.le_trans (comps_bd m).1 (by decide)) (fun q hq => Nat.le_trans ((comps_bd m).2 q hq) (by decide)) (fun q hq => Nat.le_trans ((comps_bd m).2 q hq) (by decide))).mono ?_
          rintro e w26 ⟨he, hd⟩
          rw [decide_eq_true rfl] at he
          subst he
          have hb26 := hd.below w25.heap.size
          have HBA26 := Lib.hid (HBA25.out.next hb26)
          have HCP26 := Lib.hid (HCP25.out.next hb26)
          have HUX26 := Lib.hid (HUX25.out.next hb26)
          have Z26 := Lib.hid (Sl.on Z25.out hb26)
          have V26 := Lib.hid (Sl.on V25.out hb26)
          clear hb26 hd HBA25 HCP25 HUX25 Y25 Z25 V25
          go_wp2_with fail
          refine (Lists_calls (botOf m) (botOf m) _ _ (· < w26.heap.size) w26 Z26.out HCP26.out.all.Z (Nat.le_trans (bot_bd m).1 (by decide)) (Nat.le_trans (bot_bd m).1 (by decide)) (fun q hq => Nat.le_trans ((bot_bd m).2 q hq) (by decide)) (fun q hq => Nat.le_trans ((bot_bd m).2 q hq) (by decide))).mono ?_
          rintro e w27 ⟨he, hd⟩
          rw [decide_eq_true rfl] at he
          subst he
          have hb27 := hd.below w26.heap.size
          have HBA27 := Lib.hid (HBA26.out.next hb27)
          have HCP27 := Lib.hid (HCP26.out.next hb27)
          have HUX27 := Lib.hid (HUX26.out.next hb27)
          have V27 := Lib.hid (Sl.on V26.out hb27)
          clear hb27 hd HBA26 HCP26 HUX26 Z26 V26
          have c27 := HUX27.out.1
          have k27 := HCP27.out.cell
          go_wp2_with fail
          refine (Identical_calls (cutOf m l) _ _ (· < w27.heap.size) w27 (fun _ hk => hk) ⟨_, rfl, V27.out⟩ ⟨_, rfl, HCP27.out.all.U⟩).mono ?_
          rintro e w28 ⟨rfl, hb28⟩
          have HBA28 := Lib.hid (HBA27.out.next hb28)
          have HCP28 := Lib.hid (HCP27.out.next hb28)
          have HUX28 := Lib.hid (HUX27.out.next hb28)
          have c28 := HBA28.out.cell
          clear c27 k27 hb28 HBA27 HCP27 HUX27 V27
          go_wp2_with fail
          refine (Path_calls m s t _ (· < n0) w28 HBA28.out.lo HBA28.out.M).mono ?_
          rintro e w29 ⟨pv, rfl, hb29, hx29⟩
          have P29 := Lib.hid hx29
          obtain ⟨pA', pn', pc', rfl⟩ := hx29.shape
          have HBA29 := Lib.hid (HBA28.out.next hb29)
          have HCP29 := Lib.hid (HCP28.out.next hb29)
          have HUX29 := Lib.hid (HUX28.out.next hb29)
          have c29 := HBA29.out.cell
          clear hb29 hx29 c28 HBA28 HCP28 HUX28 
          go_wp2_with fail
          refine (From_calls m l _ _ (· < n0) w29 HBA29.out.lo HBA29.out.M HBA29.out.L).mono ?_
          rintro e w30 ⟨fv, rfl, hb30, hx30⟩
          have F30 := Lib.hid hx30
          obtain ⟨fA', fn', fc', rfl⟩ := hx30.shape
          have HBA30 := Lib.hid (HBA29.out.next hb30)
          have HCP30 := Lib.hid (HCP29.out.next hb30)
          have HUX30 := Lib.hid (HUX29.out.next hb30)
          have c30 := HBA30.out.cell
          have P30 := Lib.hid (P29.out.carry hb30)
          clear hb30 hx30 c29 HBA29 HCP29 HUX29 P29
          go_wp2_with fail
          refine (To_calls m l _ _ (· < n0) w30 HBA30.out.lo HBA30.out.M HBA30.out.L).mono ?_
          rintro e w31 ⟨ov, rfl, hb31, hx31⟩
          have O31 := Lib.hid hx31
          obtain ⟨oA', on', oc', rfl⟩ := hx31.shape
          have HBA31 := Lib.hid (HBA30.out.next hb31)
          have HCP31 := Lib.hid (HCP30.out.next hb31)
          have HUX31 := Lib.hid (HUX30.out.next hb31)
          have c31 := HBA31.out.cell
          have P31 := Lib.hid (P30.out.carry hb31)
          have F31 := Lib.hid (F30.out.carry hb31)
          clear hb31 hx31 c30 HBA30 HCP30 HUX30 P30 F30
          go_wp2_with fail
          refine (Distance_calls m l _ _ (· < n0) w31 HBA31.out.lo HBA31.out.M HBA31.out.L).mono ?_
          rintro e w32 ⟨dv, rfl, hb32, hx32⟩
          have D32 := Lib.hid hx32
          obtain ⟨dA', dn', dc', rfl⟩ := hx32.shape
          have HBA32 := Lib.hid (HBA31.out.next hb32)
          have HCP32 := Lib.hid (HCP31.out.next hb32)
          have HUX32 := Lib.hid (HUX31.out.next hb32)
          have c32 := HBA32.out.cell
          have P32 := Lib.hid (P31.out.carry hb32)
          have F32 := Lib.hid (F31.out.carry hb32)
          have O32 := Lib.hid (O31.out.carry hb32)
          clear hb32 hx32 c31 HBA31 HCP31 HUX31 P31 F31 O31
          go_wp2_with fail
          refine (Period_calls m _ (· < n0) w32 HBA32.out.lo HBA32.out.M).mono ?_
          rintro e w33 ⟨qv, rfl, hb33, hx33⟩
          have Q33 := Lib.hid hx33
          obtain ⟨qA', qn', qc', rfl⟩ := hx33.shape
          have HBA33 := Lib.hid (HBA32.out.next hb33)
          have HCP33 := Lib.hid (HCP32.out.next hb33)
          have HUX33 := Lib.hid (HUX32.out.next hb33)
          have c33 := HBA33.out.cell
          have P33 := Lib.hid (P32.out.carry hb33)
          have F33 := Lib.hid (F32.out.carry hb33)
          have O33 := Lib.hid (O32.out.carry hb33)
          have D33 := Lib.hid (D32.out.carry hb33)
          clear hb33 hx33 c32 HBA32 HCP32 HUX32 P32 F32 O32 D32
          go_wp2_with fail
          have hb34 : Below w33.heap.size w33 (w33.alloc (.cells #[.slice pA' pn' pc', .slice fA' fn' fc', .slice oA' on' oc', .slice dA' dn' dc', .slice qA' qn' qc'] 31)) := (Below.refl _ _).alloc (Nat.le_refl _) _
          have hl34 : Rows2 (w33.alloc (.cells #[.slice pA' pn' pc', .slice fA' fn' fc', .slice oA' on' oc', .slice dA' dn' dc', .slice qA' qn' qc'] 31)) (· < (w33.alloc (.cells #[.slice pA' pn' pc', .slice fA' fn' fc', .slice oA' on' oc', .slice dA' dn' dc', .slice qA' qn' qc'] 31)).heap.size) (.slice (some ⟨w33.heap.size, 0, none⟩) 5 5) (listsOf m l s t) :=
            rows_of_five (heap_alloc_new _ _) (by simp) (Sl.onto P33.out hb34) (Sl.onto F33.out hb34) (Sl.onto O33.out hb34) (Sl.onto D33.out hb34) (Sl.onto Q33.out hb34)
          have HBA34 := Lib.hid (HBA33.out.next hb34)
          have HCP34 := Lib.hid (HCP33.out.next hb34)
          refine (Lists_calls (listsOf m l s t) (listsOf m l s t) _ _ _ _ hl34 HCP34.out.all.S (Nat.le_trans (lists_bd m l s t).1 (by decide)) (Nat.le_trans (lists_bd m l s t).1 (by decide)) (fun q hq => Nat.le_trans ((lists_bd m l s t).2 q hq) (by decide)) (fun q hq => Nat.le_trans ((lists_bd m l s t).2 q hq) (by decide))).mono ?_
          rintro e w35 ⟨he, hd⟩
          rw [decide_eq_true rfl] at he
          subst he
          have HBA35 := Lib.hid (HBA34.out.next (hd.below _))
          clear hl34 hb34 hd HBA34 HCP34 HBA33 HCP33 HUX33 P33 F33 O33 D33 Q33 c33
          go_wp2_with fail
          refine (awake_calls w35).mono ?_
          rintro e w36 ⟨rfl, hb36⟩
          have HBA36 := Lib.hid (HBA35.out.next hb36)
          clear hb36
          go_wp2
          go_ret
          exact ⟨rfl, HBA36.out.below⟩

end Go.Proofs.YtoffbdlgmnpblaaGreat
