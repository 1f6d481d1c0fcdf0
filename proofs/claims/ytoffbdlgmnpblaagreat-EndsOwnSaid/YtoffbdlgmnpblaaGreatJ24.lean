/- Part 24: En7 ShelfE En8. -/
import Derived.Test.YtoffbdlgmnpblaaGreatJ21
import Derived.Test.YtoffbdlgmnpblaaGreatJ23
import Derived.Ground.SlsfProg
import Derived.Shelf.SlSortCmp.WholeK
import Derived.Test.YtoffbdlgmnpblaaGreatProg

/- Package ends: parts. -/
namespace Go.Proofs.YtoffbdlgmnpblaaGreat
open Go.RowKit
set_option maxHeartbeats 4000000
set_option maxRecDepth 100000

/-- the box of a model and that of a set hold still -/
abbrev Held2' (a : Nat) (x : Value) (b : Nat) (y : Value) (V : World) : Prop := V.cell? ⟨a, 0, none⟩ = some x ∧ V.cell? ⟨b, 0, none⟩ = some y ∧ a < V.heap.size ∧ b < V.heap.size
theorem held2'_of {W V : World} {a b : Nat} {x y : Value} (h : Held2' a x b y W) (hb : Below W.heap.size W V) : Held2' a x b y V :=
  ⟨(hb.cell (p := ⟨a, 0, none⟩) h.2.2.1).trans h.1, (hb.cell (p := ⟨b, 0, none⟩) h.2.2.2).trans h.2.1, Nat.lt_of_lt_of_le h.2.2.1 hb.size, Nat.lt_of_lt_of_le h.2.2.2 hb.size⟩

/-- a box of an end -/
abbrev EBox (w0 wx : World) (eb : Nat) (lv kv : Value) (kss : List (List Int)) : Prop :=
  Below w0.heap.size w0 wx ∧ w0.heap.size ≤ eb ∧ wx.heap[eb]? = some (.cells #[lv, kv] 53 (0, 0)) ∧ Rows2 wx (fun k => w0.heap.size ≤ k ∧ k < wx.heap.size) kv kss
theorem ebox_new {w0 y0 y1 : World} {lv kv : Value} {ps : List (Value × List Int)} {kss : List (List Int)} (d : Below w0.heap.size w0 y0) (b : Below y0.heap.size y0 y1) (hr : RowsC y1 y0.heap.size kv ps) (he : ps.map (·.2) = kss) :
    EBox w0 (y1.alloc (.cells #[lv, kv] 53)) y1.heap.size lv kv kss := by
  have s1 := d.size
  have s2 := b.size
  have a := (Below.refl y1.heap.size y1).alloc (Nat.le_refl _) (.cells #[lv, kv] 53)
  refine ⟨d.trans ((b.mono s1).trans (a.mono (by omega))), by omega, heap_alloc_new _ _, ?_⟩
  rw [← he]
  exact (hr.sl.same fun k hk => a.block k hk.2).mono fun k hk => ⟨by have := hk.1; omega, by have := hk.2; simp; omega⟩
theorem ebox_set {w0 y0 y1 : World} {lv kv z1 z2 : Value} {ps : List (Value × List Int)} {kss : List (List Int)} (hz : y0.heap.size = w0.heap.size + 1) (d : Below w0.heap.size w0 y0) (b : Below y0.heap.size y0 y1) (hr : RowsC y1 y0.heap.size kv ps) (he : ps.map (·.2) = kss)
    (hx : y1.heap[w0.heap.size]? = some (.cells #[z1, z2] 53 (0, 0))) : EBox w0 ((y1.setCell ⟨w0.heap.size, 0, none⟩ lv).setCell ⟨w0.heap.size, 1, none⟩ kv) w0.heap.size lv kv kss := by
  have s2 := b.size
  have hF : ∀ k, k ≠ w0.heap.size → ((y1.setCell ⟨w0.heap.size, 0, none⟩ lv).setCell ⟨w0.heap.size, 1, none⟩ kv).heap[k]? = y1.heap[k]? := fun k hk => (Below.heap_setCell _ _ _ _ hk).trans (Below.heap_setCell _ _ _ _ hk)
  have hs : ((y1.setCell ⟨w0.heap.size, 0, none⟩ lv).setCell ⟨w0.heap.size, 1, none⟩ kv).heap.size = y1.heap.size := by simp [World.setCell]
  refine ⟨below_set2 (d.trans (b.mono (by omega))) (Nat.le_refl _) lv kv, Nat.le_refl _, set_of (set_of hx 0 lv) 1 kv, ?_⟩
  rw [← he]
  exact (hr.sl.same fun k hk => hF k (by have := hk.1; omega)).mono fun k hk => ⟨by have := hk.1; omega, by have := hk.2; omega⟩

theorem enter_p1 : ∀ args w, (callFunc 174 args).run Tryz.prog w = .ok (.enter 174 args) w := enter_of Tryz.func174 (by kernel_rfl) (by kernel_rfl)

theorem eparts_calls (m : List St) (l : List Int) (v u : Value) (D : Nat → Prop) (w : World) (hD : Lo D w) (h : ModelC w D v m) (hf : Fine m) (hne : 0 < m.length) (hl : Sl (Kind.int .i64) w D u l) (hg : Enp.Good m.length l) :
    Calls Tryz.prog 147 #[v, u] w fun e w' => ∃ v' ps, e = .returned v' ∧ Below w.heap.size w w' ∧ RowsC w' w.heap.size v' ps ∧ ps.map (·.2) = epartsOf m l := by
  obtain ⟨mv, rfl, hmm⟩ := h
  obtain ⟨A, c, rfl, h1, h2, -⟩ := hmm.form
  obtain ⟨B, d, rfl, k1, k2, -⟩ := hl.ints
  unfold maxLen at h2 k2
  have hB0 := ((Below.refl w.heap.size w).alloc (Nat.le_refl _) (.cells #[.slice A m.length c] 24)).alloc (by simp) (.cells #[.slice B l.length d] 31)
  obtain ⟨w0, hw0⟩ : ∃ W : World, W = (w.alloc (.cells #[.slice A m.length c] 24)).alloc (.cells #[.slice B l.length d] 31) := ⟨_, rfl⟩
  have hz0 : w0.heap.size = w.heap.size + 2 := by rw [hw0]; simp
  have hh0 : Held2' w.heap.size (.slice A m.length c) (w.heap.size + 1) (.slice B l.length d) w0 := by
    rw [hw0]
    refine ⟨?_, ?_, by simp; omega, by simp⟩
    · exact (((Below.refl (w.heap.size + 1) (w.alloc (.cells #[.slice A m.length c] 24))).alloc (by simp) (.cells #[.slice B l.length d] 31)).cell (p := ⟨w.heap.size, 0, none⟩) (by show w.heap.size < _; omega)).trans (cell_new1 _ _ _)
    · have := cell_new1 (w.alloc (.cells #[.slice A m.length c] 24)) (.slice B l.length d) 31
      rwa [World.size_alloc] at this
  rw [← hw0] at hB0
  have HB0 := Lib.hid hB0
  have HD := Lib.hid hD
  have HM := Lib.hid (show ModelC w0 D (.agg #[.slice A m.length c]) m from ⟨_, rfl, hmm.same (hD.same hB0)⟩)
  have HL := Lib.hid (hl.same (hD.same hB0))
  have HH := Lib.hid hh0
  have HD0 := Lib.hid (hD.up hB0.size)
  have HZ0 := Lib.hid hz0
  have HF := Lib.hid hf
  have HG := Lib.hid hg
  have hmf : ∀ (fn : Fn) (first cap : Array Value) (w : World), (Instr.makeFunc fn first cap).run Tryz.prog w = .ok (.func fn first cap) w := fun _ _ _ _ => rfl
  have HW0 := Lib.hid hw0
  have HLN := Lib.hid (show l.length ≤ 1000 by have := hg.len; have := hf.len; omega)
  have HMN := Lib.hid (show m.length ≤ 1000 ∧ ∀ s ∈ m, s.chs.length ≤ 1000 from ⟨by have := hf.len; omega, fun s hs => Nat.le_trans (hf.chs s hs) (by decide)⟩)
  have HIN := Lib.hid hg.bd
  clear hmm hl hD hB0 hh0 hf hg hw0 hz0
  go_enter Tryz.func147, Tryz.ntmps147
  go_upto_region 1 with fail
  rw [← HW0.out]
  clear HW0
  go_cut [5] from 6 to 10 (fun s5 wx => ∃ (eb : Nat) (kv : Value), s5 = .pointer (some ⟨eb, 0, none⟩) ∧ Hid (Below w0.heap.size w0 wx ∧ w0.heap.size ≤ eb ∧ wx.heap[eb]? = some (.cells #[.slice B l.length d, kv] 53 (0, 0)) ∧ Rows2 wx (fun k => w0.heap.size ≤ k ∧ k < wx.heap.size) kv (staysL m l)))
  case first =>
    have HQ0 : Hid (Below w0.heap.size w0 w0.drew) := Lib.hid (Below.refl _ _).drew
    have R0 := Lib.hid (Below.refl w0.heap.size w0)
    have S0 := Lib.hid (held2'_of HH.out HQ0.out)
    go_region_held3 (fun V => V.cell? ⟨w.heap.size, 0, none⟩ = some (.slice A m.length c) ∧ V.cell? ⟨w.heap.size + 1, 0, none⟩ = some (.slice B l.length d) ∧ w.heap.size < V.heap.size ∧ w.heap.size + 1 < V.heap.size)
      (with_reducible (first | exact S0.out | exact S1.out | exact held2'_of HH.out (HQ0.out.alloc HQ0.out.size _) | exact held2'_of HH.out (HQ1.out.alloc HQ1.out.size _) | exact held2'_of HH.out ((R0.out.alloc R0.out.size _).drew) | exact held2'_of HH.out (below_set2 HQ1.out (Nat.le_refl _) _ _)))
      (first
        | ((with_reducible show Calls _ 116 #[.agg #[.slice A m.length c], .slice B l.length d] w0.drew _); (refine (staying_calls m l _ _ D w0.drew (HD0.out.up (HQ0.out).size) (HM.out.same (HD0.out.same (HQ0.out))) (HL.out.same (HD0.out.same (HQ0.out))) HLN.out HMN.out HIN.out).mono ?_); (rintro e y1 ⟨g1, p1, rfl, hr1, hp1, hb1⟩); (obtain ⟨KA, kc, rfl, -, -, -⟩ := own_form hr1.own); (have H1 := Lib.hid hr1); (have P1 := Lib.hid hp1); (have B1 := Lib.hid hb1); (have D1 : Hid (Below w0.heap.size w0 w0.drew) := Lib.hid (HQ0.out)); (have HQ1 := Lib.hid ((HQ0.out).trans (hb1.mono (HQ0.out).size))); (have S1 := Lib.hid (held2'_of HH.out HQ1.out)); (clear hr1 hp1 hb1))
        | ((with_reducible show Calls _ 116 #[.agg #[.slice A m.length c], .slice B l.length d] (World.alloc w0.drew (.cells #[.slice none 0 0, .slice none 0 0] 53)) _); (refine (staying_calls m l _ _ D (World.alloc w0.drew (.cells #[.slice none 0 0, .slice none 0 0] 53)) (HD0.out.up (HQ0.out.alloc HQ0.out.size (.cells #[.slice none 0 0, .slice none 0 0] 53)).size) (HM.out.same (HD0.out.same (HQ0.out.alloc HQ0.out.size (.cells #[.slice none 0 0, .slice none 0 0] 53)))) (HL.out.same (HD0.out.same (HQ0.out.alloc HQ0.out.size (.cells #[.slice none 0 0, .slice none 0 0] 53)))) HLN.out HMN.out HIN.out).mono ?_); (rintro e y1 ⟨g1, p1, rfl, hr1, hp1, hb1⟩); (obtain ⟨KA, kc, rfl, -, -, -⟩ := own_form hr1.own); (have H1 := Lib.hid hr1); (have P1 := Lib.hid hp1); (have B1 := Lib.hid hb1); (have D1 : Hid (Below w0.heap.size w0 (World.alloc w0.drew (.cells #[.slice none 0 0, .slice none 0 0] 53))) := Lib.hid (HQ0.out.alloc HQ0.out.size (.cells #[.slice none 0 0, .slice none 0 0] 53))); (have ZV : Hid ((World.alloc w0.drew (.cells #[.slice none 0 0, .slice none 0 0] 53)).heap.size = w0.heap.size + 1) := Lib.hid (World.size_alloc w0.drew _)); (have HQ1 := Lib.hid ((HQ0.out.alloc HQ0.out.size (.cells #[.slice none 0 0, .slice none 0 0] 53)).trans (hb1.mono (HQ0.out.alloc HQ0.out.size (.cells #[.slice none 0 0, .slice none 0 0] 53)).size))); (have S1 := Lib.hid (held2'_of HH.out HQ1.out)); (have hx1 : y1.heap[w0.heap.size]? = some (.cells #[.slice none 0 0, .slice none 0 0] 53 (0, 0)) := (hb1.block w0.heap.size (Nat.lt_of_lt_of_eq (Nat.lt_succ_self _) (World.size_alloc w0.drew _).symm)).trans (heap_alloc_new w0.drew _)); (have xc0 := (cells_of hx1 0).1); (have xf0 := (cells_of hx1 0).2); (have xc1 := (cells_of hx1 1).1); (have xf1 := (cells_of hx1 1).2); (have XK := Lib.hid hx1); (clear hx1); (clear hr1 hp1 hb1))
        | ((with_reducible show Calls _ 116 #[.agg #[.slice A m.length c], .slice B l.length d] (World.drew (World.alloc w0 (.cells #[.slice none 0 0, .slice none 0 0] 53))) _); (refine (staying_calls m l _ _ D (World.drew (World.alloc w0 (.cells #[.slice none 0 0, .slice none 0 0] 53))) (HD0.out.up ((R0.out.alloc R0.out.size (.cells #[.slice none 0 0, .slice none 0 0] 53)).drew).size) (HM.out.same (HD0.out.same ((R0.out.alloc R0.out.size (.cells #[.slice none 0 0, .slice none 0 0] 53)).drew))) (HL.out.same (HD0.out.same ((R0.out.alloc R0.out.size (.cells #[.slice none 0 0, .slice none 0 0] 53)).drew))) HLN.out HMN.out HIN.out).mono ?_); (rintro e y1 ⟨g1, p1, rfl, hr1, hp1, hb1⟩); (obtain ⟨KA, kc, rfl, -, -, -⟩ := own_form hr1.own); (have H1 := Lib.hid hr1); (have P1 := Lib.hid hp1); (have B1 := Lib.hid hb1); (have D1 : Hid (Below w0.heap.size w0 (World.drew (World.alloc w0 (.cells #[.slice none 0 0, .slice none 0 0] 53)))) := Lib.hid ((R0.out.alloc R0.out.size (.cells #[.slice none 0 0, .slice none 0 0] 53)).drew)); (have ZV : Hid ((World.drew (World.alloc w0 (.cells #[.slice none 0 0, .slice none 0 0] 53))).heap.size = w0.heap.size + 1) := Lib.hid (World.size_alloc w0 _)); (have HQ1 := Lib.hid (((R0.out.alloc R0.out.size (.cells #[.slice none 0 0, .slice none 0 0] 53)).drew).trans (hb1.mono ((R0.out.alloc R0.out.size (.cells #[.slice none 0 0, .slice none 0 0] 53)).drew).size))); (have S1 := Lib.hid (held2'_of HH.out HQ1.out)); (have hx1 : y1.heap[w0.heap.size]? = some (.cells #[.slice none 0 0, .slice none 0 0] 53 (0, 0)) := (hb1.block w0.heap.size (Nat.lt_of_lt_of_eq (Nat.lt_succ_self _) (World.size_alloc w0 _).symm)).trans (heap_alloc_new w0 _)); (have xc0 := (cells_of hx1 0).1); (have xf0 := (cells_of hx1 0).2); (have xc1 := (cells_of hx1 1).1); (have xf1 := (cells_of hx1 1).2); (have XK := Lib.hid hx1); (clear hx1); (clear hr1 hp1 hb1)))
    all_goals
      go_wp2_with fail
      go_meet
      first
        | exact ⟨_, _, rfl, Lib.hid (ebox_set ZV.out D1.out B1.out H1.out P1.out XK.out)⟩
        | exact ⟨_, _, rfl, Lib.hid (ebox_new D1.out B1.out H1.out P1.out)⟩
  case rest =>
    obtain ⟨eb, kv, rfl, HCUT⟩ := hcut
    obtain ⟨hbc, hel, hbox, hks⟩ := HCUT.out
    obtain ⟨KA, kc, rfl, -, -, -⟩ := hks.form
    have hB := HB0.out.trans (hbc.mono HB0.out.size)
    have hH := held2'_of HH.out hbc
    have b0 := hH.1
    have e0 := (cells_of hbox 0).1
    have e1 := (cells_of hbox 1).1
    have HHc := Lib.hid hH
    have HBC := Lib.hid hB
    have HMc : Hid (ModelC wc (· < wc.heap.size) (.agg #[.slice A m.length c]) m) := Lib.hid ((HM.out.same (HD0.out.same hbc)).mono fun k hk => Nat.lt_of_lt_of_le (HD0.out k hk) hbc.size)
    have HLc : Hid (Sl (Kind.int .i64) wc (· < wc.heap.size) (.slice B l.length d) l) := Lib.hid ((HL.out.same (HD0.out.same hbc)).mono fun k hk => Nat.lt_of_lt_of_le (HD0.out k hk) hbc.size)
    have HKc : Hid (Rows2 wc (· < wc.heap.size) (.slice KA (staysL m l).length kc) (staysL m l)) := Lib.hid (hks.mono fun k hk => hk.2)
    have HSL := Lib.hid (show l.length = (staysL m l).length by unfold staysL; rw [List.length_map])
    have HMB := Lib.hid (show m.length ≤ 1000 ∧ ∀ s ∈ m, s.chs.length ≤ 1000 ∧ ∀ c ∈ s.chs, c.brs.length ≤ 1000 from ⟨HMN.out.1, fun s hs => ⟨HMN.out.2 s hs, fun c hc => Nat.le_trans (HF.out.brs s hs c hc) (by decide)⟩⟩)
    have HSK := Lib.hid (show ∀ ks ∈ staysL m l, ks.length ≤ 1000 from fun ks hk => by
      obtain ⟨s, -, rfl⟩ := List.mem_map.1 hk
      exact Nat.le_trans (staysOf_len HF.out l s) (by decide))
    clear hbc hbox hks hB hH HCUT
    go_wp2_with fail
    refine (eedges_calls m l (staysL m l) _ _ _ _ wc (fun _ hk => hk) HMc.out HLc.out HKc.out HSL.out HLN.out HMB.out HSK.out (stays_in HG.out)).mono ?_
    rintro e w2 ⟨vs, rfl, hb2, hr2⟩
    have hz2 := hb2.size
    have HE := Lib.hid (edgesE_edges HF.out (stays_inE HF.out HG.out) HG.out.bd)
    have HRL := Lib.hid (edgesE_row_len HF.out (stays_inE HF.out HG.out))
    have HR2 := Lib.hid (hr2.sl (Nat.le_trans HE.out.len (by decide)) m.length (edgesE_len m _).symm)
    have HN2 := Lib.hid (show 0 < (edgesE m (l.zip (staysL m l))).length by rw [edgesE_len]; exact hne)
    have HB2 := Lib.hid (HBC.out.trans (hb2.mono HBC.out.size))
    have HH2 := Lib.hid (held2'_of HHc.out hb2)
    have HL2 : Hid (Sl (Kind.int .i64) w2 (· < wc.heap.size) (.slice B l.length d) l) := Lib.hid (HLc.out.same fun k hk => hb2.block k hk)
    clear b0 e0 e1 hb2 hr2
    go_wp2_with fail
    refine (Parts_calls _ _ _ w2 (fun k hk => hk.2.1) HR2.out HE.out (fun xs hx => Nat.le_trans (HRL.out xs hx) (by decide)) HN2.out).mono ?_
    rintro e w3 ⟨v3, ps, rfl, hb3, hr3, hps⟩
    have HB3 := Lib.hid (HB2.out.trans (hb3.mono HB2.out.size))
    have HH3 := Lib.hid (held2'_of HH2.out hb3)
    have HL3 : Hid (Sl (Kind.int .i64) w3 (· < wc.heap.size) (.slice B l.length d) l) := Lib.hid (HL2.out.same fun k hk => hb3.block k (Nat.lt_of_lt_of_le hk hz2))
    have hz3 := hb3.size
    have HCM := Lib.hid (edgesE_comps HF.out (stays_inE HF.out HG.out) HG.out.bd)
    have hpl : ps.length ≤ 1000000 := by
      have h9 : (ps.map (·.2)).length = (Tar.found (edgesE m (l.zip (staysL m l)))).length := by rw [hps]; exact (Lex.lsort_perm _).length_eq
      have h8 := (Tar.upTo_rest HRL.out (Bfs.row_in HE.out.ins) _ (Nat.le_refl _)).bd.u
      rw [List.length_map] at h9
      have h7 : (Tar.found (edgesE m (l.zip (staysL m l)))).length = (Tar.upTo (edgesE m (l.zip (staysL m l))) (edgesE m (l.zip (staysL m l))).length).out.length := rfl
      have h6 := HE.out.len
      omega
    have HR3 := Lib.hid hr3
    have HPS := Lib.hid hps
    obtain ⟨A3, c3, rfl, -, -, -⟩ := own_form hr3.own
    clear hr3 hps hb3
    go_wp2_with fail
    refine (DeleteRows_calls 174 (fun xs => !l.contains (xs.getD 0 0)) #[.pointer (some ⟨w.heap.size + 1, 0, none⟩)] ps _ w2.heap.size w3 enter_p1 HR3.out hpl (fun W u xs hW hxs hu => ?_)).mono ?_
    · rw [HPS.out] at hxs
      have hne := HCM.out.some' xs hxs
      obtain ⟨x, hx⟩ : ∃ x, xs[0]? = some x := ⟨_, List.getElem?_eq_getElem (List.length_pos_iff.2 hne)⟩
      have old : ∀ k, k < wc.heap.size → W.heap[k]? = w3.heap[k]? := fun k hk => hW.block k (by omega) (fun e => by have := (HR3.out.own.lt k e.symm).1; omega)
      have hlt : w.heap.size + 1 < wc.heap.size := HHc.out.2.2.2
      have hg : W.cell? ⟨w.heap.size + 1, 0, none⟩ = some (.slice B l.length d) := (World.cell?_of_block (w := w3) (a := ⟨w.heap.size + 1, 0, none⟩) (old _ hlt)).trans HH3.out.2.1
      have hc := parts1_calls l xs x u (.slice B l.length d) (w.heap.size + 1) (· < wc.heap.size) _ W (HL3.out.same fun k hk => old k hk) hu hx hg
      have hxe : xs.getD 0 0 = x := by rw [List.getD_eq_getElem?_getD, hx]; rfl
      exact hc.mono fun e w' h => ⟨by rw [hxe]; exact h.1, h.2⟩
    · rintro e w4 ⟨v4, rfl, hr4, hg4⟩
      have hB4 : Below w.heap.size w w4 := HB3.out.grown hg4 HB3.out.size fun k hk => by
        have := (HR3.out.own.lt k hk).1
        have := HB2.out.size
        omega
      have hlo : w.heap.size ≤ w2.heap.size := HB2.out.size
      have HR4 := Lib.hid (RowsC.low hr4 hlo)
      have HFF := Lib.hid (show (ps.filter fun p => !(!l.contains (p.2.getD 0 0))).map (·.2) = epartsOf m l by
        unfold epartsOf Enp.inSet
        rw [← HPS.out, List.filter_map]
        simp [Function.comp_def])
      have HB4 := Lib.hid hB4
      clear hr4 hg4 hB4
      go_wp2
      go_ret
      exact ⟨_, _, rfl, HB4.out, HR4.out, HFF.out⟩

end Go.Proofs.YtoffbdlgmnpblaaGreat

/- The laying of slices.SortFunc at ends.End: the lines that the kit's tool lay-plain.mjs wrote for this dump. -/
namespace Go.Proofs
open Go.Shelf
def Tryz.sortEnds_ren : Go.Shelf.Ren := ⟨fun | 6 => 148 | 15 => 162 | 14 => 175 | 28 => 197 | 29 => 198 | 20 => 220 | 21 => 221 | 22 => 222 | 23 => 223 | 24 => 224 | 25 => 225 | 26 => 226 | 27 => 227 | 46 => 249 | 47 => 241 | 48 => 242 | 49 => 250 | 50 => 251 | 57 => 262 | n => n, fun | 22 => 66 | 24 => 53 | 25 => 150 | 3 => 3 | 39 => 172 | 0 => 0 | 53 => 199 | 55 => 201 | 4 => 4 | 46 => 193 | 45 => 192 | 50 => 188 | 5 => 5 | 9 => 9 | 66 => 231 | 70 => 129 | 76 => 249 | 77 => 250 | n => n, fun | n => n⟩
theorem Tryz.sortEnds : Go.Proofs.SlLaysF0.n6 Tryz.prog Tryz.sortEnds_ren := {
  mixed := by kernel_rfl
  f6 := ⟨Tryz.f148.name, by decide, Tryz.func148.trans (congrArg some (by kernel_rfl))⟩
  f14 := ⟨Tryz.f175.name, by decide, Tryz.func175.trans (congrArg some (by kernel_rfl))⟩
  f15 := Tryz.func162.trans (congrArg some (by kernel_rfl))
  f20 := ⟨Tryz.f220.name, by decide, Tryz.func220.trans (congrArg some (by kernel_rfl))⟩
  f21 := ⟨Tryz.f221.name, by decide, Tryz.func221.trans (congrArg some (by kernel_rfl))⟩
  f22 := ⟨Tryz.f222.name, by decide, Tryz.func222.trans (congrArg some (by kernel_rfl))⟩
  f23 := ⟨Tryz.f223.name, by decide, Tryz.func223.trans (congrArg some (by kernel_rfl))⟩
  f24 := ⟨Tryz.f224.name, by decide, Tryz.func224.trans (congrArg some (by kernel_rfl))⟩
  f25 := ⟨Tryz.f225.name, by decide, Tryz.func225.trans (congrArg some (by kernel_rfl))⟩
  f26 := ⟨Tryz.f226.name, by decide, Tryz.func226.trans (congrArg some (by kernel_rfl))⟩
  f27 := ⟨Tryz.f227.name, by decide, Tryz.func227.trans (congrArg some (by kernel_rfl))⟩
  f28 := Tryz.func197.trans (congrArg some (by kernel_rfl))
  f29 := Tryz.func198.trans (congrArg some (by kernel_rfl))
  f46 := ⟨Tryz.f249.name, by decide, Tryz.func249.trans (congrArg some (by kernel_rfl))⟩
  f47 := Tryz.func241.trans (congrArg some (by kernel_rfl))
  f48 := Tryz.func242.trans (congrArg some (by kernel_rfl))
  f49 := ⟨Tryz.f250.name, by decide, Tryz.func250.trans (congrArg some (by kernel_rfl))⟩
  f50 := ⟨Tryz.f251.name, by decide, Tryz.func251.trans (congrArg some (by kernel_rfl))⟩
  f57 := ⟨Tryz.f262.name, by decide, Tryz.func262.trans (congrArg some (by kernel_rfl))⟩
  t0 := Tryz.underlying0
  a0 := Tryz.isAgg0
  z0 := Tryz.sizeOf0
  v0 := Tryz.zeroValue0
  t3 := Tryz.underlying3
  a3 := Tryz.isAgg3
  z3 := Tryz.sizeOf3
  v3 := Tryz.zeroValue3
  t4 := Tryz.underlying4
  a4 := Tryz.isAgg4
  z4 := Tryz.sizeOf4
  v4 := Tryz.zeroValue4
  t5 := Tryz.underlying5
  a5 := Tryz.isAgg5
  z5 := Tryz.sizeOf5
  v5 := Tryz.zeroValue5
  t9 := Tryz.underlying9
  a9 := Tryz.isAgg9
  z9 := Tryz.sizeOf9
  v9 := Tryz.zeroValue9
  t22 := Tryz.underlying66
  a22 := Tryz.isAgg66
  z22 := Tryz.sizeOf66
  v22 := Tryz.zeroValue66
  t25 := Tryz.underlying150
  a25 := Tryz.isAgg150
  z25 := Tryz.sizeOf150
  v25 := Tryz.zeroValue150
  t39 := Tryz.underlying172
  a39 := Tryz.isAgg172
  z39 := Tryz.sizeOf172
  v39 := Tryz.zeroValue172
  t45 := Tryz.underlying192
  a45 := Tryz.isAgg192
  z45 := Tryz.sizeOf192
  v45 := Tryz.zeroValue192
  t46 := Tryz.underlying193
  a46 := Tryz.isAgg193
  z46 := Tryz.sizeOf193
  v46 := Tryz.zeroValue193
  t50 := Tryz.underlying188
  a50 := Tryz.isAgg188
  z50 := Tryz.sizeOf188
  v50 := Tryz.zeroValue188
  t53 := Tryz.underlying199
  a53 := Tryz.isAgg199
  z53 := Tryz.sizeOf199
  v53 := Tryz.zeroValue199
  t55 := Tryz.underlying201
  a55 := Tryz.isAgg201
  z55 := Tryz.sizeOf201
  v55 := Tryz.zeroValue201
  t66 := Tryz.underlying231
  a66 := Tryz.isAgg231
  z66 := Tryz.sizeOf231
  v66 := Tryz.zeroValue231
  t70 := Tryz.underlying129
  a70 := Tryz.isAgg129
  z70 := Tryz.sizeOf129
  v70 := Tryz.zeroValue129
  t76 := Tryz.underlying249
  a76 := Tryz.isAgg249
  z76 := Tryz.sizeOf249
  v76 := Tryz.zeroValue249
  t77 := Tryz.underlying250
  a77 := Tryz.isAgg250
  z77 := Tryz.sizeOf250
  v77 := Tryz.zeroValue250 }
end Go.Proofs

/- Package ends: rows of ends; slices.SortFunc on them. -/
namespace Go.Proofs.YtoffbdlgmnpblaaGreat
open Go.RowKit
set_option maxHeartbeats 4000000
set_option maxRecDepth 100000

abbrev Endp := Enp.Endp
/-- an end of two cells: its states and its choices -/
def Kind.en : Kind Endp where
  sz := 2
  R w D cs x := ∃ a b, cs = [a, b] ∧ Sl (Kind.int .i64) w D a x.1 ∧ Rows2 w D b x.2
  len h := by obtain ⟨a, b, rfl, _⟩ := h; rfl
  same h hs := by obtain ⟨a, b, e, h, k⟩ := h; exact ⟨a, b, e, h.same hs, k.same hs⟩
  mono h hs := by obtain ⟨a, b, e, h, k⟩ := h; exact ⟨a, b, e, h.mono hs, k.mono hs⟩

/-- an end in memory -/
structure EO where
  sv : Value
  kv : Value
  st : List Int
  ks : List (List Int)
def EO.en (e : EO) : Endp := (e.st, e.ks)
def ecells (l : List EO) : List Value := l.flatMap fun e => [e.sv, e.kv]
theorem ecells_len : ∀ l : List EO, (ecells l).length = l.length * 2
  | [] => rfl
  | a :: l => by
    have := ecells_len l
    unfold ecells at *
    rw [List.flatMap_cons, List.length_append, this]; simp; omega
theorem ecells_at : ∀ (l : List EO) (i : Nat) (a : EO), l[i]? = some a → (ecells l)[i * 2]? = some a.sv ∧ (ecells l)[i * 2 + 1]? = some a.kv
  | [], i, a, hh => by simp at hh
  | b :: l, 0, a, hh => by
    have : b = a := by simpa using hh
    subst this
    simp [ecells]
  | b :: l, i + 1, a, hh => by
    have ih := ecells_at l i a (by simpa using hh)
    have e : ∀ j, (ecells (b :: l))[2 + j]? = (ecells l)[j]? := fun j => by
      unfold ecells
      rw [List.flatMap_cons, List.getElem?_append_right (by simp)]; congr 1; simp
    rw [show (i + 1) * 2 = 2 + i * 2 by omega, show 2 + i * 2 + 1 = 2 + (i * 2 + 1) by omega, e, e]
    exact ih
theorem ecells_snoc (l : List EO) (a : EO) : ecells (l ++ [a]) = ecells l ++ [a.sv, a.kv] := by simp [ecells]

/-! ### the order of ends -/
def hd0 (e : Endp) : Int := e.1.getD 0 0
section
open Go.Lib Go.Sort
theorem key_swo {n : Nat} (f : Fin n → Int) : SWO (ltOf fun i j => f i - f j) := by
  refine ⟨fun x => ?_, fun x y z h k => ?_, fun x y z h k => ?_⟩
  · simp [ltOf]
  · simp only [ltOf, decide_eq_true_eq] at h k ⊢; omega
  · simp only [ltOf, decide_eq_false_iff_not] at h k ⊢; omega
def sortN (n : Nat) (f : Fin n → Endp) : List Endp :=
  if h : 0 < n then
    haveI : Inhabited (Fin n) := ⟨⟨0, h⟩⟩
    (pdq (ltOf fun i j : Fin n => hd0 (f i) - hd0 (f j)) (Array.ofFn fun i : Fin n => i) 0 n (Lib.bitLen n) true true).toList.map f
  else []
/-- ends in the order in which the program's sort leaves them -/
def sortE (l : List Endp) : List Endp := sortN l.length fun i => l[i]
theorem sortN_eq {n : Nat} {l : List Endp} (h : n = l.length) (f : Fin n → Endp) (hf : ∀ i : Fin n, f i = l[i.1]'(by have := i.2; omega)) : sortN n f = sortE l := by
  subst h
  unfold sortE
  congr 1
  funext i
  exact hf i
end

theorem sub_calls (a b : Int) (x y : List Int) (su ku sv kv : Value) (D D' : Nat → Prop) (W : World) (hD : Lo D W) (hD' : Lo D' W) (hx : Sl (Kind.int .i64) W D su x) (hy : Sl (Kind.int .i64) W D' sv y) (ha : x[0]? = some a) (hb : y[0]? = some b) (h1 : 0 ≤ a ∧ a ≤ 1000) (h2 : 0 ≤ b ∧ b ≤ 1000) :
    Calls Tryz.prog 149 #[.agg #[su, ku], .agg #[sv, kv]] W fun e w' => e = .returned (.int .i64 (a - b)) ∧ ∃ q os', w' = Go.Sort.grow (W.drewN q) os' := by
  obtain ⟨A, c, rfl, k1, k2, h3⟩ := hx.ints
  obtain ⟨B, d, rfl, l1, l2, h4⟩ := hy.ints
  have hp := (List.getElem?_eq_some_iff.1 ha).1
  have hq := (List.getElem?_eq_some_iff.1 hb).1
  obtain ⟨ad, rfl, hDa, hc⟩ := h3 hp
  obtain ⟨ae, rfl, hDe, hd⟩ := h4 hq
  have r0 := hc 0 hp
  have r1 := hd 0 hq
  rw [Dig.gd_of ha] at r0
  rw [Dig.gd_of hb] at r1
  unfold maxLen at k2 l2
  have hB := ((Below.refl W.heap.size W).alloc (Nat.le_refl _) (.cells #[.slice (some ad) x.length c, ku] 53)).alloc (by simp) (.cells #[.slice (some ae) y.length d, kv] 53)
  have q0 := (hB.cell (p := ad) (hD _ hDa)).trans (by simpa [Addr.add] using r0)
  have q1 := (hB.cell (p := ae) (hD' _ hDe)).trans (by simpa [Addr.add] using r1)
  have e1 := (((Below.refl (W.heap.size + 1) (W.alloc (.cells #[.slice (some ad) x.length c, ku] 53))).alloc (by simp) (.cells #[.slice (some ae) y.length d, kv] 53)).block W.heap.size (by omega)).trans (heap_alloc_new W _)
  have e2 := heap_alloc_new (W.alloc (.cells #[.slice (some ad) x.length c, ku] 53)) (.cells #[.slice (some ae) y.length d, kv] 53)
  rw [World.size_alloc] at e2
  have c1 := (cells_of e1 0).1
  have c2 := (cells_of e2 0).1
  clear hB hx hy hc hd h3 h4 r0 r1 hDa hDe e1 e2
  go_enter Tryz.func149, Tryz.ntmps149
  go_wp2_with fail
  go_quiet (fail)
  revert nq
  intro n1
  go_wp2
  go_ret
  exact ⟨rfl, n1, _, by rw [Go.Sort.alloc_eq_grow, Go.Sort.alloc_eq_grow, Go.Sort.grow_grow]; rfl⟩

section
open Go.Lib Go.Sort
theorem flat_cells (es : List EO) [Inhabited (Fin es.length)] (d : Array (Fin es.length)) : (flatK (fun i : Fin es.length => [es[i].sv, es[i].kv]) 2 d).toList = ecells (d.toList.map fun i => es[i]) := by
  apply List.ext_getElem?
  intro t
  by_cases ht : t < d.size * 2
  · have h1 : t / 2 < d.size := by omega
    have hl : (d.toList.map fun i => es[i])[t / 2]? = some (es[d[t / 2]]) := by simp [h1]
    obtain ⟨e0, e1⟩ := ecells_at _ _ _ hl
    have hs : t < (flatK (fun i : Fin es.length => [es[i].sv, es[i].kv]) 2 d).size := by rw [size_flatK]; exact ht
    have hg := get_flatK (fun i : Fin es.length => [es[i].sv, es[i].kv]) 2 d t ht
    rw [getElem!_pos _ t hs, getElem!_pos d (t / 2) h1] at hg
    rw [Array.getElem?_toList, Array.getElem?_eq_getElem hs, hg]
    rcases Nat.mod_two_eq_zero_or_one t with h | h
    · rw [show t / 2 * 2 = t by omega] at e0
      rw [e0, h]; rfl
    · rw [show t / 2 * 2 + 1 = t by omega] at e1
      rw [e1, h]; rfl
  · rw [List.getElem?_eq_none (by simpa using Nat.le_of_not_lt ht), List.getElem?_eq_none (by rw [ecells_len]; simpa using Nat.le_of_not_lt ht)]

theorem enter_i1 : ∀ args w, (callFunc 149 args).run Tryz.prog w = .ok (.enter 149 args) w := enter_of Tryz.func149 (by kernel_rfl) (by kernel_rfl)

theorem SortEnds_calls (v : Value) (es : List EO) (W : World) (B : Nat) (D : Nat → Prop) (hD : Lo D W) (hne : ∀ k, D k → v.ownBlock ≠ some k) (hown : W.ownsRow B 53 2 v es.length (ecells es)) (hp : es ≠ []) (hl : es.length ≤ 1000000)
    (hrow : ∀ e ∈ es, Sl (Kind.int .i64) W D e.sv e.st ∧ Rows2 W D e.kv e.ks ∧ ∃ a, e.st[0]? = some a ∧ 0 ≤ a ∧ a ≤ 1000) :
    Calls Tryz.prog 148 #[v, .func (.func 149) #[] #[]] W fun e W' => e = .returned (.tuple #[]) ∧ ∃ es' : List EO, es'.Perm es ∧ es'.map EO.en = sortE (es.map EO.en) ∧ W'.ownsRow B 53 2 v es'.length (ecells es') ∧ W.grownBy W' v.ownBlock := by
  have hpos : 0 < es.length := List.length_pos_iff.2 hp
  letI inst : Inhabited (Fin es.length) := ⟨⟨0, hpos⟩⟩
  obtain ⟨ho1, ⟨rfl, h2⟩ | ⟨g, cap, cur, rfl, hb, hg, hnc, hcm, hcs, ht⟩⟩ := hown
  · omega
  have hgl : g < W.heap.size := (Array.getElem?_eq_some_iff.1 hg).1
  let enc : Fin es.length → List Value := fun i => [es[i].sv, es[i].kv]
  let cf : Fin es.length → Fin es.length → Int := fun i j => hd0 es[i].en - hd0 es[j].en
  let d : Array (Fin es.length) := Array.ofFn (fun i => i)
  have hds : d.size = es.length := Array.size_ofFn
  have hdl : d.toList.map (fun i => es[i]) = es := by
    apply List.ext_getElem
    · simp [hds]
    · intro i h1 h2
      simp [d]
  have hfl : (flatK enc 2 d).toList = ecells es := by
    have := flat_cells es d
    rwa [hdl] at this
  have hO : ∀ x, ∀ u ∈ enc x, u.oneCell' = true := fun i u hu => by
    obtain ⟨h1, h2, -⟩ := hrow es[i] (List.getElem_mem _)
    obtain ⟨A1, c1, e1, -⟩ := h1.form
    obtain ⟨A2, c2, e2, -⟩ := h2.form
    simp only [enc, List.mem_cons, List.not_mem_nil, or_false] at hu
    rcases hu with rfl | rfl
    · rw [e1]; rfl
    · rw [e2]; rfl
  have hH : HoldsK enc 2 W g 0 d := by
    intro j hj
    rw [size_flatK, hds] at hj
    refine ⟨?_, by simp [World.frozen?, hg]⟩
    have hs : j < (flatK enc 2 d).size := by rw [size_flatK, hds]; exact hj
    have h1 : (cur.toList.take (es.length * 2))[j]? = (flatK enc 2 d).toList[j]? := by rw [ht, hfl]
    rw [List.getElem?_take_of_lt hj] at h1
    simp only [World.cell?, hg, Nat.zero_add]
    simp only [Option.isSome_none, Bool.false_eq_true, if_false]
    rw [← Array.getElem?_toList, h1, getElem!_pos _ j hs, Array.getElem?_toList, Array.getElem?_eq_getElem hs]
    rfl
  have hsame : ∀ m dk os, Same D W (sortWorldK enc 2 W g 0 m dk os) := fun m dk os k hk => heap_sortWorld id W g 0 m (flatK enc 2 dk) os (hD k hk) fun e => hne k hk (by rw [e]; rfl)
  have hcmp : CmpLays Tryz.prog 149 #[] enc 2 cf g 0 d.size W := by
    intro m os dk hs x y
    obtain ⟨hx, -, a, ha, ha1, ha2⟩ := hrow es[x] (List.getElem_mem _)
    obtain ⟨hy, -, b, hb', hb1, hb2⟩ := hrow es[y] (List.getElem_mem _)
    have hlo : Lo D (sortWorldK enc 2 W g 0 m dk os) := hD.up (size_sortWorldK_c enc 2 W g 0 m dk os)
    have hc := sub_calls a b _ _ es[x].sv es[x].kv es[y].sv es[y].kv D D _ hlo hlo (hx.same (hsame m dk os)) (hy.same (hsame m dk os)) ha hb' ⟨ha1, ha2⟩ ⟨hb1, hb2⟩
    refine hc.mono ?_
    rintro e w' ⟨rfl, q, os', rfl⟩
    have e1 : cf x y = a - b := by
      show es[x].st.getD 0 0 - es[y].st.getD 0 0 = _
      rw [List.getD_eq_getElem?_getD, List.getD_eq_getElem?_getD, ha, hb']; rfl
    exact ⟨by rw [e1], q, os', rfl⟩
  have hcall := AnyQ.slices_SortFunc_eq Tryz.sortEnds 2 Tryz.isAgg53 Tryz.sizeOf53 enc (fun _ => rfl) hO cf (key_swo _) 149 #[] g 0 cap d W enter_i1 hcmp hH hgl (by omega)
  rw [hds] at hcall
  refine hcall.mono ?_
  rintro e w' ⟨rfl, n, os, rfl⟩
  have hperm := (pdq_sorts (ltOf cf) (key_swo _) d 0 d.size (Lib.bitLen d.size) true true (Nat.zero_le _) (Nat.le_refl _) (Or.inl rfl)).1
  rw [hds] at hperm
  obtain ⟨d', hd'⟩ : ∃ d', d' = pdq (ltOf cf) d 0 es.length (Lib.bitLen es.length) true true := ⟨_, rfl⟩
  rw [← hd'] at hperm ⊢
  obtain ⟨hz, -, hpm⟩ := hperm
  have hz' : d'.size = es.length := by omega
  have ex : d'.extract 0 es.length = d' := Array.extract_eq_self_of_le (by omega)
  have ex2 : d.extract 0 es.length = d := Array.extract_eq_self_of_le (by omega)
  rw [ex, ex2] at hpm
  have hl' : (d'.toList.map fun i => es[i]).length = es.length := by simp [hz']
  have hpp : (d'.toList.map fun i => es[i]).Perm es := by
    have := hpm.map (fun i => es[i])
    rwa [hdl] at this
  refine ⟨rfl, d'.toList.map fun i => es[i], hpp, ?_, ?_, grownBy_sortedE id _⟩
  · rw [List.map_map, ← sortN_eq (l := es.map EO.en) (by rw [List.length_map]) (fun i : Fin es.length => es[i].en) (fun i => by simp)]
    unfold sortN
    rw [dif_pos hpos]
    exact congrArg (fun d : Array (Fin es.length) => d.toList.map fun i => es[i].en) hd'
  · rw [hl']
    refine ⟨by rw [ecells_len, hl'], .inr ⟨g, cap, _, rfl, hb, heap_sortedE id (flatK enc 2 d') hg, hnc, hcm, by simp [putCells, hcs], ?_⟩⟩
    have h3 := take_putCellsE id cur (flatK enc 2 d').toList (by simp [hz']; omega)
    have h4 : (flatK enc 2 d').toList.length = es.length * 2 := by simp [hz']
    rw [h4] at h3
    have h5 : (flatK enc 2 d').toList = ecells (d'.toList.map fun i => es[i]) := flat_cells es d'
    rw [← h5]
    simpa using h3
end

end Go.Proofs.YtoffbdlgmnpblaaGreat
