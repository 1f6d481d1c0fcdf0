/- Part 27: Enf Eng. -/
import Derived.Test.YtoffbdlgmnpblaaGreatJ26
import Derived.Test.YtoffbdlgmnpblaaGreatJ10

/- Package ends: Is. -/
namespace Go.Proofs.YtoffbdlgmnpblaaGreat
open Go.RowKit
set_option maxHeartbeats 4000000
set_option maxRecDepth 100000

/-- the choices of one state are choices that stay -/
def isRow (m : List St) (l : List Int) (p : Int × List Int) : Bool :=
  (rising (chsOf m p.1).length (-1) p.2 && decide (0 < p.2.length)) && !(p.2.any fun k => !withinB l ((chsOf m p.1).getD k.toNat ⟨⟨0, 0⟩, []⟩))
def isB (m : List St) (ss : List Int) (kss : List (List Int)) : Bool :=
  (rising m.length (-1) ss && decide (0 < ss.length)) && decide (kss.length = ss.length) && (ss.zip kss).all (isRow m ss) && decide ((Enp.inSet ss (partsOf (edgesE m (ss.zip kss)))).length = 1)
def isOf (m : List St) (e : Endp) : Bool := validB m && isB m e.1 e.2

theorem enter_is1 : ∀ args w, (callFunc 104 args).run Tryz.prog w = .ok (.enter 104 args) w := enter_of Tryz.func104 (by kernel_rfl) (by kernel_rfl)
theorem enter_is2 : ∀ args w, (callFunc 108 args).run Tryz.prog w = .ok (.enter 108 args) w := enter_of Tryz.func108 (by kernel_rfl) (by kernel_rfl)

/-- rows of which all are choices that stay have edges in the set -/
theorem isRow_inE {m : List St} (hm : Fine m) {ss : List Int} {kss : List (List Int)} (hg : Enp.Good m.length ss) (hl : kss.length = ss.length) (h : (ss.zip kss).all (isRow m ss) = true) :
    InE m ss (ss.zip kss) ∧ (∀ ks ∈ kss, ks.length ≤ 1000) ∧ ∀ p ∈ ss.zip kss, 0 ≤ p.1 ∧ p.1 < (m.length : Int) ∧ ∀ k ∈ p.2, 0 ≤ k ∧ k < ((chsOf m p.1).length : Int) := by
  have hr : ∀ p ∈ ss.zip kss, isRow m ss p = true := List.all_eq_true.1 h
  have hk : ∀ p ∈ ss.zip kss, p.2.length ≤ 8 ∧ (∀ k ∈ p.2, 0 ≤ k ∧ k < ((chsOf m p.1).length : Int)) ∧ ∀ k ∈ p.2, withinB ss ((chsOf m p.1).getD k.toNat ⟨⟨0, 0⟩, []⟩) = true := fun p hp => by
    have h1 := hr p hp
    unfold isRow at h1
    simp only [Bool.and_eq_true, decide_eq_true_eq, Bool.not_eq_true', List.any_eq_false] at h1
    obtain ⟨⟨h2, h3⟩, h4⟩ := h1
    obtain ⟨h5, h6⟩ := rising_good (chsOf m p.1).length p.2 (-1) h2 (by omega)
    have hgd : Enp.Good (chsOf m p.1).length p.2 := ⟨List.length_pos_iff.1 h3, h5, fun x hx => (h6 x hx).2⟩
    exact ⟨Nat.le_trans hgd.len (chsOf_len hm p.1).1, hgd.bd, fun k hk => by have := h4 k hk; simpa using this⟩
  refine ⟨⟨?_, fun p hp => hg.bd _ (List.of_mem_zip hp).1, fun p hp => (hk p hp).1, fun p hp k hkk => withinB_to ((hk p hp).2.2 k hkk)⟩, fun ks hks => ?_, fun p hp => ⟨(hg.bd _ (List.of_mem_zip hp).1).1, (hg.bd _ (List.of_mem_zip hp).1).2, (hk p hp).2.1⟩⟩
  · rw [List.map_fst_zip (by omega)]; exact hg.nd
  · obtain ⟨i, hi, rfl⟩ := List.getElem_of_mem hks
    have hz : (ss[i]'(by omega), kss[i]) ∈ ss.zip kss := by
      have : (ss.zip kss)[i]? = some (ss[i]'(by omega), kss[i]) := by rw [List.getElem?_zip_eq_some]; exact ⟨List.getElem?_eq_getElem (by omega), List.getElem?_eq_getElem hi⟩
      exact List.mem_of_getElem? this
    exact Nat.le_trans (hk _ hz).1 (by decide)

theorem ret_bi {a b : Bool} {x y : Int} (h : a = b) (k : x = y) : Ending.returned (.tuple #[.bool a, .int .i64 x]) = .returned (.tuple #[.bool b, .int .i64 y]) := by rw [h, k]

theorem Is_calls (m : List St) (ss : List Int) (kss : List (List Int)) (v su ku : Value) (D : Nat → Prop) (w : World) (hD : Lo D w) (h : ModelC w D v m) (hs : Sl (Kind.int .i64) w D su ss) (hk : Rows2 w D ku kss) :
    Calls Tryz.prog 48 #[v, .agg #[su, ku]] w fun e w' => e = .returned (.tuple #[.bool (isOf m (ss, kss)), .int .i64 (err (validB m))]) ∧ Below w.heap.size w w' := by
  obtain ⟨mv, rfl, hmm⟩ := h
  obtain ⟨A, c, rfl, h1, h2, -⟩ := hmm.form
  obtain ⟨SA, sc, rfl, k1, k2, -⟩ := hs.ints
  obtain ⟨KA, kc, rfl, q1, q2, -⟩ := hk.form
  unfold maxLen at h2 k2 q2
  have HM := Lib.hid (show ModelC w D (.agg #[.slice A m.length c]) m from ⟨_, rfl, hmm⟩)
  have HMM := Lib.hid hmm
  have HS := Lib.hid hs
  have HK := Lib.hid hk
  have HD := Lib.hid hD
  have a1 := (Below.refl w.heap.size w).alloc (Nat.le_refl _) (.cells #[.slice A m.length c] 24)
  have hz1 : (w.alloc (.cells #[.slice A m.length c] 24)).heap.size = w.heap.size + 1 := by simp
  have a2 := (Below.refl (w.heap.size + 1) (w.alloc (.cells #[.slice A m.length c] 24))).alloc (by simp) (.cells #[.slice SA ss.length sc, .slice KA kss.length kc] 53)
  have hbm := (a2.block w.heap.size (by omega)).trans (heap_alloc_new w (.cells #[.slice A m.length c] 24))
  have hbe := heap_alloc_new (w.alloc (.cells #[.slice A m.length c] 24)) (.cells #[.slice SA ss.length sc, .slice KA kss.length kc] 53)
  rw [hz1] at hbe
  obtain ⟨w0, hw0⟩ : ∃ W : World, W = (w.alloc (.cells #[.slice A m.length c] 24)).alloc (.cells #[.slice SA ss.length sc, .slice KA kss.length kc] 53) := ⟨_, rfl⟩
  have hz0 : w0.heap.size = w.heap.size + 2 := by rw [hw0]; simp
  rw [← hw0] at hbm hbe a2
  have HB0 := Lib.hid (a1.trans (a2.mono (by omega)))
  have HBM := Lib.hid hbm
  have HBE := Lib.hid hbe
  have HZ0 := Lib.hid hz0
  have HW0 := Lib.hid hw0
  clear hmm hs hk hD a1 a2 hbm hbe hw0 hz0 hz1
  go_enter Tryz.func48, Tryz.ntmps48
  go_upto_region 1 with fail
  rw [← HW0.out]
  have b0 := (cells_of HBM.out 0).1
  clear HW0
  go_wp2_with fail
  refine (Valid_calls m _ D w0 (HD.out.up HB0.out.size) (HM.out.same (HD.out.same HB0.out))).mono ?_
  rintro e w1 ⟨rfl, hb1⟩
  have HB1 := Lib.hid (HB0.out.trans (hb1.mono HB0.out.size))
  have HBM1 := Lib.hid ((hb1.block w.heap.size (by have := HZ0.out; omega)).trans HBM.out)
  have HBE1 := Lib.hid ((hb1.block (w.heap.size + 1) (by have := HZ0.out; omega)).trans HBE.out)
  have hz1 : w.heap.size + 2 ≤ w1.heap.size := by have := hb1.size; have := HZ0.out; omega
  clear hb1 b0 HB0 HBM HBE HZ0
  cases hv : validB m with
  | false =>
    have HER := Lib.hid (show (1 : Int) = err (validB m) by rw [hv]; rfl)
    have HV := Lib.hid (show false = isOf m (ss, kss) by unfold isOf; rw [hv]; rfl)
    clear hv
    go_wp2_with fail
    go_ret2
    exact ⟨ret_bi HV.out HER.out, HB1.out⟩
  | true =>
    have HER := Lib.hid (show (0 : Int) = err (validB m) by rw [hv]; rfl)
    have HV := Lib.hid (show isOf m (ss, kss) = isB m ss kss by unfold isOf; rw [hv]; rfl)
    have HF := Lib.hid (Fine.of_valid hv)
    have hp := validB.pos hv
    have HML := Lib.hid HF.out.len
    have hml := HF.out.len
    clear hv
    have b0 := (cells_of HBM1.out 0).1
    have e0 := (cells_of HBE1.out 0).1
    have e1 := (cells_of HBE1.out 1).1
    go_wp2_with fail
    refine (erising_calls m.length ss _ D w1 (HS.out.same (HD.out.same HB1.out))).mono ?_
    rintro e w2 ⟨rfl, rfl⟩
    cases hr : (rising m.length (-1) ss && decide (0 < ss.length)) with
    | false =>
      have HN := Lib.hid (show false = isOf m (ss, kss) by rw [HV.out]; unfold isB; rw [hr]; rfl)
      clear hr
      go_wp2_with fail
      go_ret2
      exact ⟨ret_bi HN.out HER.out, HB1.out⟩
    | true =>
      by_cases hlen : kss.length = ss.length
      · have hg : Enp.Good m.length ss := by
          rw [Bool.and_eq_true, decide_eq_true_eq] at hr
          obtain ⟨h5, h6⟩ := rising_good m.length ss (-1) hr.1 (by omega)
          exact ⟨List.length_pos_iff.1 hr.2, h5, fun x hx => (h6 x hx).2⟩
        have HG := Lib.hid hg
        have HN := Lib.hid (show isOf m (ss, kss) = ((ss.zip kss).all (isRow m ss) && decide ((Enp.inSet ss (partsOf (edgesE m (ss.zip kss)))).length = 1)) by rw [HV.out]; unfold isB; rw [hr, decide_eq_true hlen]; rfl)
        have hsl := hg.len
        have HLEN := Lib.hid hlen
        clear hr hg
        go_wp2_with fail
        clear b0 e0 e1 hlen
        go_loopw [31] (fun k W => ∃ i : Nat, i ≤ ss.length ∧ k = .int .i64 (i : Int) ∧ Hid (Below w2.heap.size w2 W) ∧ Hid (((ss.zip kss).take i).all (isRow m ss) = true)) (fun k _ => ss.length - (intOf k).toNat)
        case atStart => exact ⟨0, Nat.zero_le _, rfl, Below.refl _ _, rfl⟩
        case round =>
          obtain ⟨i, hi, rfl, HBW, HA⟩ := hrel
          obtain ⟨wo, rfl⟩ : ∃ wo : World, wo = wr := ⟨_, rfl⟩
          have hbm := (HBW.out.block w.heap.size (by omega)).trans HBM1.out
          have hbe := (HBW.out.block (w.heap.size + 1) (by omega)).trans HBE1.out
          have HBo := Lib.hid (HB1.out.trans (HBW.out.mono HB1.out.size))
          have hzo := HBW.out.size
          by_cases hlt : i < ss.length
          · obtain ⟨sx, hs⟩ : ∃ x, ss[i]? = some x := ⟨_, List.getElem?_eq_getElem hlt⟩
            obtain ⟨ks, hks⟩ : ∃ x, kss[i]? = some x := ⟨_, List.getElem?_eq_getElem (by have := HLEN.out; omega)⟩
            have hz : (ss.zip kss)[i]? = some (sx, ks) := by rw [List.getElem?_zip_eq_some]; exact ⟨hs, hks⟩
            obtain ⟨s0, s1⟩ := HG.out.bd sx (List.mem_of_getElem? hs)
            obtain ⟨j, rfl⟩ : ∃ j : Nat, sx = (j : Int) := ⟨sx.toNat, by omega⟩
            have hjm : j < m.length := by omega
            obtain ⟨st, hst⟩ : ∃ st, m[j]? = some st := ⟨_, List.getElem?_eq_getElem hjm⟩
            have hba := (Below.refl wo.heap.size wo).alloc (Nat.le_refl _) (.cells #[.int .i64 (j : Int)] 3)
            have HBa := Lib.hid (HBo.out.trans (hba.mono HBo.out.size))
            obtain ⟨ad, rfl, r0⟩ : ∃ ad, SA = some ad ∧ wo.cell? (ad.add i) = some (.int .i64 (j : Int)) := by
              obtain ⟨A', c', e, -, -, h3⟩ := (HS.out.same (HD.out.same HBo.out)).ints
              injection e with e1 e2 e3
              subst e1
              obtain ⟨ad, ea, hd, hc⟩ := h3 (by omega)
              have := hc i hlt
              rw [Dig.gd_of hs] at this
              exact ⟨ad, ea, this⟩
            obtain ⟨ae, cu, rfl, -, r1, hcu⟩ := Rows2.at' (HK.out.same (HD.out.same HBa.out)) i ks hks
            obtain ⟨CA, cc, rfl, y1, y2, -⟩ := hcu.ints
            unfold maxLen at y2
            have HCU := Lib.hid hcu
            have hik : i < kss.length := by have := HLEN.out; omega
            obtain ⟨am, PA, p, pd, rfl, hDa, -, -, r2, hsc⟩ := HMM.out.st_up HD.out HBa.out j st hst
            obtain ⟨rfl, hp1, hp2⟩ := hsc.len
            unfold maxLen at hp2
            have b0 := (cells_of ((hba.block w.heap.size (by omega)).trans hbm) 0).1
            have e0 := (cells_of ((hba.block (w.heap.size + 1) (by omega)).trans hbe) 0).1
            have e1 := (cells_of ((hba.block (w.heap.size + 1) (by omega)).trans hbe) 1).1
            have n0 := cell_new1 wo (.int .i64 (j : Int)) 3
            have HCH := Lib.hid (show chsOf m (j : Int) = st.chs by unfold chsOf; rw [Int.toNat_natCast, List.getD_eq_getElem?_getD, hst]; rfl)
            have hcl := HF.out.chs st (List.mem_of_getElem? hst)
            have HR := Lib.hid (show ∀ b : Bool, isRow m ss ((j : Int), ks) = b → ((ss.zip kss).take (i + 1)).all (isRow m ss) = b by
              intro b hb
              rw [List.take_add_one, hz, List.all_append, HA.out, Bool.true_and]
              simp [hb])
            have HRN := Lib.hid (show isRow m ss ((j : Int), ks) = false → isOf m (ss, kss) = false by
              intro hb
              rw [HN.out]
              have h9 : (ss.zip kss).all (isRow m ss) = false := by
                rw [List.all_eq_false]
                exact ⟨_, List.mem_of_getElem? hz, by rw [hb]; decide⟩
              rw [h9, Bool.false_and])
            have HST := Lib.hid hst
            obtain ⟨rb, hrb⟩ : ∃ b : Bool, b = (rising st.chs.length (-1) ks && decide (0 < ks.length)) := ⟨_, rfl⟩
            have HRB := Lib.hid hrb
            have HCA : Hid (∀ n, Calls Tryz.prog 102 #[.slice CA ks.length cc, .int .i64 (st.chs.length : Int)] ((wo.alloc (.cells #[.int .i64 (j : Int)] 3)).drewN n) fun e w'' => e = .returned (.bool rb) ∧ ∃ k, w'' = (wo.alloc (.cells #[.int .i64 (j : Int)] 3)).drewN k) :=
              Lib.hid fun n => (erising_calls st.chs.length ks _ D ((wo.alloc (.cells #[.int .i64 (j : Int)] 3)).drewN n) (HCU.out.same fun _ _ => rfl)).mono fun e w'' h => ⟨by rw [h.1, HRB.out], n, h.2⟩
            clear hrb hs hks hz hst hsc hcu hbm hbe s0 s1
            go_wp2_with fail
            go_quiet ((go_at_call 102; exact HCA.out _))
            revert nq
            intro n1
            have hdr : Below (wo.alloc (.cells #[.int .i64 (j : Int)] 3)).heap.size (wo.alloc (.cells #[.int .i64 (j : Int)] 3)) ((wo.alloc (.cells #[.int .i64 (j : Int)] 3)).drewN n1) := ⟨rfl, rfl, rfl, Nat.le_refl _, fun _ _ => rfl⟩
            obtain ⟨w4, hw4⟩ : ∃ W : World, W = (wo.alloc (.cells #[.int .i64 (j : Int)] 3)).drewN n1 := ⟨_, rfl⟩
            rw [← hw4] at hdr
            have c0 := (hdr.cell (cell_lt b0)).trans b0
            have c1 := (hdr.cell (cell_lt e0)).trans e0
            have c2 := (hdr.cell (cell_lt e1)).trans e1
            have c3 := (hdr.cell (cell_lt r1)).trans r1
            have c4 := (hdr.cell (cell_lt n0)).trans n0
            have HB4 := Lib.hid (HBa.out.trans (hdr.mono HBa.out.size))
            have HW4 := Lib.hid (hba.trans (hdr.mono hba.size))
            have HCU4 := Lib.hid (HCU.out.same (w' := w4) fun k hk => hdr.block k (Nat.lt_of_lt_of_le (HD.out k hk) HBa.out.size))
            rw [← hw4]
            clear hdr hw4 b0 e0 e1 r0 r1 r2 n0 hba hDa
            cases rb with
            | false =>
              have hrr := HRB.out.symm
              have HF0 := Lib.hid (show false = isOf m (ss, kss) from (HRN.out (by unfold isRow; rw [HCH.out, hrr]; rfl)).symm)
              clear hrr
              go_wp2_with fail
              go_ret2
              exact ⟨ret_bi HF0.out HER.out, HB4.out⟩
            | true =>
              have hrr := HRB.out.symm
              have hkg : Enp.Good st.chs.length ks := by
                rw [Bool.and_eq_true, decide_eq_true_eq] at hrr
                obtain ⟨h5, h6⟩ := rising_good st.chs.length ks (-1) hrr.1 (by omega)
                exact ⟨List.length_pos_iff.1 hrr.2, h5, fun x hx => (h6 x hx).2⟩
              have HKG := Lib.hid hkg
              have hkl := hkg.len
              have HRV := Lib.hid (show isRow m ss ((j : Int), ks) = !(ks.any fun k => !withinB ss (st.chs.getD k.toNat ⟨⟨0, 0⟩, []⟩)) by unfold isRow; rw [HCH.out, hrr, Bool.true_and])
              have hmf : ∀ (fn : Fn) (first cap : Array Value) (w : World), (Instr.makeFunc fn first cap).run Tryz.prog w = .ok (.func fn first cap) w := fun _ _ _ _ => rfl
              clear hrr hkg
              go_wp2_with fail
              obtain ⟨ab, hab⟩ : ∃ b : Bool, b = ks.any (fun k => !withinB ss (st.chs.getD k.toNat ⟨⟨0, 0⟩, []⟩)) := ⟨_, rfl⟩
              have HAB := Lib.hid hab
              have HC0 := Lib.hid c0
              have HC1 := Lib.hid c1
              have HC4 := Lib.hid c4
              have hc := ContainsFunc_calls 104 (fun k => !withinB ss (st.chs.getD k.toNat ⟨⟨0, 0⟩, []⟩)) #[.pointer (some ⟨w.heap.size, 0, none⟩), .pointer (some ⟨wo.heap.size, 0, none⟩), .pointer (some ⟨w.heap.size + 1, 0, none⟩)] ks (.slice CA ks.length cc) D w4 enter_is1 (HD.out.up HB4.out.size) HCU4.out (by omega) (fun W kx hW hkx => by
                obtain ⟨g1, g2⟩ := HKG.out.bd kx hkx
                obtain ⟨t, rfl⟩ : ∃ t : Nat, kx = (t : Int) := ⟨kx.toNat, by omega⟩
                obtain ⟨x, hx⟩ : ∃ x, st.chs[t]? = some x := ⟨_, List.getElem?_eq_getElem (by omega)⟩
                have hBW := HB4.out.trans (hW.mono HB4.out.size)
                have h9 := is1_calls m ss j t st x w.heap.size wo.heap.size (w.heap.size + 1) _ _ D W (HD.out.up hBW.size) (HMM.out.same (HD.out.same hBW)) (HS.out.same (HD.out.same hBW)) HST.out hx ((hW.cell (cell_lt HC0.out)).trans HC0.out) ((hW.cell (cell_lt HC4.out)).trans HC4.out) ((hW.cell (cell_lt HC1.out)).trans HC1.out)
                refine h9.mono fun e w' h => ⟨?_, h.2⟩
                rw [h.1, Int.toNat_natCast, List.getD_eq_getElem?_getD, hx]; rfl)
              refine (hc.mono fun e w' h => (show e = .returned (.bool ab) ∧ Below w4.heap.size w4 w' from ⟨by rw [h.1, HAB.out], h.2⟩)).mono ?_
              rintro e w5 ⟨rfl, hb5⟩
              have HB5 := Lib.hid (HB4.out.trans (hb5.mono HB4.out.size))
              have HW5 := Lib.hid (HBW.out.trans ((HW4.out.trans (hb5.mono HW4.out.size)).mono HBW.out.size))
              clear hc hab hb5 c0 c1 c2 c3 c4
              cases ab with
              | true =>
                have HF0 := Lib.hid (show false = isOf m (ss, kss) from (HRN.out (by rw [HRV.out, ← HAB.out]; rfl)).symm)
                go_wp2_with fail
                go_ret2
                exact ⟨ret_bi HF0.out HER.out, HB5.out⟩
              | false =>
                have HT := Lib.hid (HR.out true (by rw [HRV.out, ← HAB.out]; rfl))
                go_wp2_with fail
                exact ⟨⟨i + 1, by omega, by go_num, HW5.out, HT.out⟩, by simp [intOf]; omega⟩
          · obtain rfl : i = ss.length := by omega
            have HALL := Lib.hid (show (ss.zip kss).all (isRow m ss) = true by
              have h9 := HA.out
              rwa [List.take_of_length_le (by rw [List.length_zip]; omega)] at h9)
            have b0 := (cells_of hbm 0).1
            have e0 := (cells_of hbe 0).1
            have e1 := (cells_of hbe 1).1
            have E0 := Lib.hid e0
            obtain ⟨i1, i2, i3⟩ := isRow_inE HF.out HG.out HLEN.out HALL.out
            have HI1 := Lib.hid i1
            have HI2 := Lib.hid i2
            have HI3 := Lib.hid i3
            have HNF := Lib.hid (show isOf m (ss, kss) = decide ((Enp.inSet ss (partsOf (edgesE m (ss.zip kss)))).length = 1) by rw [HN.out, HALL.out, Bool.true_and])
            have HMB := Lib.hid (show m.length ≤ 1000 ∧ ∀ s ∈ m, s.chs.length ≤ 1000 ∧ ∀ c ∈ s.chs, c.brs.length ≤ 1000 from ⟨by omega, fun s hs => ⟨Nat.le_trans (HF.out.chs s hs) (by decide), fun c hc => Nat.le_trans (HF.out.brs s hs c hc) (by decide)⟩⟩)
            have hmf : ∀ (fn : Fn) (first cap : Array Value) (w : World), (Instr.makeFunc fn first cap).run Tryz.prog w = .ok (.func fn first cap) w := fun _ _ _ _ => rfl
            clear i1 i2 i3 hbm hbe hlt HA
            go_wp2_with fail
            refine (eedges_calls m ss kss _ _ _ D wo (HD.out.up HBo.out.size) (HM.out.same (HD.out.same HBo.out)) (HS.out.same (HD.out.same HBo.out)) (HK.out.same (HD.out.same HBo.out)) HLEN.out.symm (by omega) HMB.out HI2.out HI3.out).mono ?_
            rintro e w5 ⟨vs, rfl, hb5, hr5⟩
            have HE := Lib.hid (edgesE_edges HF.out HI1.out HG.out.bd)
            have HRL := Lib.hid (edgesE_row_len HF.out HI1.out)
            have HR5 := Lib.hid (hr5.sl (Nat.le_trans HE.out.len (by decide)) m.length (edgesE_len m _).symm)
            have HN5 := Lib.hid (show 0 < (edgesE m (ss.zip kss)).length by rw [edgesE_len]; exact hp)
            have HB5 := Lib.hid (HBo.out.trans (hb5.mono HBo.out.size))
            have HE5 := Lib.hid ((hb5.cell (cell_lt E0.out)).trans E0.out)
            clear b0 e0 e1 hb5 hr5
            go_wp2_with fail
            refine (Parts_calls _ _ _ w5 (fun k hk => hk.2.1) HR5.out HE.out (fun xs hx => Nat.le_trans (HRL.out xs hx) (by decide)) HN5.out).mono ?_
            rintro e w6 ⟨v3, ps, rfl, hb6, hr6, hps⟩
            have HB6 := Lib.hid (HB5.out.trans (hb6.mono HB5.out.size))
            have HE6 := Lib.hid ((hb6.cell (cell_lt HE5.out)).trans HE5.out)
            have HCM := Lib.hid (edgesE_comps HF.out HI1.out HG.out.bd)
            have hlt5 := cell_lt HE5.out
            have hpl : ps.length ≤ 1000000 := by
              have h9 : (ps.map (·.2)).length = (Tar.found (edgesE m (ss.zip kss))).length := by rw [hps]; exact (Lex.lsort_perm _).length_eq
              have h8 := (Tar.upTo_rest HRL.out (Bfs.row_in HE.out.ins) _ (Nat.le_refl _)).bd.u
              rw [List.length_map] at h9
              have h7 : (Tar.found (edgesE m (ss.zip kss))).length = (Tar.upTo (edgesE m (ss.zip kss)) (edgesE m (ss.zip kss)).length).out.length := rfl
              have h6 := HE.out.len
              omega
            have HR6 := Lib.hid hr6
            have HPS := Lib.hid hps
            have hz5 := HB5.out.size
            obtain ⟨A3, c3, rfl, -, -, -⟩ := own_form hr6.own
            clear hr6 hps hb6
            go_wp2_with fail
            refine (DeleteRows_calls 108 (fun xs => !ss.contains (xs.getD 0 0)) #[.pointer (some ⟨w.heap.size + 1, 0, none⟩)] ps _ w5.heap.size w6 enter_is2 HR6.out hpl (fun W u xs hW hxs hu => ?_)).mono ?_
            · rw [HPS.out] at hxs
              have hne := HCM.out.some' xs hxs
              obtain ⟨x, hx⟩ : ∃ x, xs[0]? = some x := ⟨_, List.getElem?_eq_getElem (List.length_pos_iff.2 hne)⟩
              have old : ∀ k, k < w5.heap.size → k < w6.heap.size → W.heap[k]? = w6.heap[k]? := fun k hk h6 => hW.block k h6 (fun e => by have := (HR6.out.own.lt k e.symm).1; omega)
              have hlt6 := cell_lt HE6.out
              have hg := (World.cell?_of_block (w := w6) (a := ⟨w.heap.size + 1, 0, none⟩) (old _ hlt5 hlt6)).trans HE6.out
              have hDW : Sl (Kind.int .i64) W D (.slice SA ss.length sc) ss := (HS.out.same (HD.out.same HB6.out)).same fun k hk => old k (Nat.lt_of_lt_of_le (HD.out k hk) HB5.out.size) (Nat.lt_of_lt_of_le (HD.out k hk) HB6.out.size)
              have hc := is2_calls ss xs x u _ (w.heap.size + 1) D _ W hDW hu hx hg
              have hxe : xs.getD 0 0 = x := by rw [List.getD_eq_getElem?_getD, hx]; rfl
              exact hc.mono fun e w' h => ⟨by rw [hxe]; exact h.1, h.2⟩
            · rintro e w7 ⟨v4, rfl, hr7, hg7⟩
              have hB7 : Below w.heap.size w w7 := HB6.out.grown hg7 HB6.out.size fun k hk => by have := (HR6.out.own.lt k hk).1; omega
              have hFF : (ps.filter fun p => !(!ss.contains (p.2.getD 0 0))).length = (Enp.inSet ss (partsOf (edgesE m (ss.zip kss)))).length := by
                unfold Enp.inSet
                rw [← HPS.out, List.filter_map, List.length_map]
                simp [Function.comp_def]
              obtain ⟨A7, c7, rfl, -, -, -⟩ := own_form hr7.own
              have HB7 := Lib.hid hB7
              have HFF := Lib.hid hFF
              clear hr7 hg7 hB7 hFF
              obtain ⟨n7, hn7⟩ : ∃ n : Nat, n = (ps.filter fun p => !(!ss.contains (p.2.getD 0 0))).length := ⟨_, rfl⟩
              have HNN := Lib.hid (show isOf m (ss, kss) = decide (n7 = 1) by rw [hn7, HFF.out, HNF.out])
              rw [← hn7]
              clear hn7 HFF
              by_cases h71 : n7 = 1
              · have HZ := Lib.hid (show true = isOf m (ss, kss) by rw [HNN.out, decide_eq_true h71])
                subst h71
                go_wp2_with fail
                go_ret2
                exact ⟨ret_bi HZ.out HER.out, HB7.out⟩
              · have HZ := Lib.hid (show false = isOf m (ss, kss) by rw [HNN.out, decide_eq_false h71])
                have h72 : ¬ ((n7 : Int) = 1) := by omega
                go_wp2_with fail
                go_ret2
                exact ⟨ret_bi (by rw [← HZ.out]; simpa using h72) HER.out, HB7.out⟩
      · have HN := Lib.hid (show false = isOf m (ss, kss) by rw [HV.out]; unfold isB; rw [hr, decide_eq_false hlen]; rfl)
        have hlen2 : ¬ ((kss.length : Int) = (ss.length : Int)) := by omega
        clear hr
        go_wp2_with fail
        go_ret2
        exact ⟨ret_bi HN.out HER.out, HB1.out⟩

end Go.Proofs.YtoffbdlgmnpblaaGreat

/- Package num: Out. -/
namespace Go.Proofs.YtoffbdlgmnpblaaGreat
open Go.RowKit
set_option maxHeartbeats 4000000
set_option maxRecDepth 100000

abbrev NB60 : Int := 1152921504606846976
def fits60 (z : Int) : Bool := decide (-NB60 ≤ z ∧ z ≤ NB60)
/-- a rational number as a fraction, where it fits -/
def outOk (x : Rat) : Bool := fits60 x.num && fits60 (x.den : Int)

def outN (x : Rat) : Num := if outOk x then ⟨x.num, x.den⟩ else ⟨0, 0⟩
def outE (x : Rat) : Int := if outOk x then 0 else 3
def numV (n : Num) : Value := .agg #[.int .i64 n.top, .int .i64 n.low]
theorem out_yes {x : Rat} (h : outOk x = true) : Ending.returned (.tuple #[.agg #[.int .i64 x.num, .int .i64 (x.den : Int)], .int .i64 0]) = .returned (.tuple #[numV (outN x), .int .i64 (outE x)]) := by unfold outN outE numV; rw [h]; rfl
theorem out_no {x : Rat} (h : outOk x = false) : Ending.returned (.tuple #[.agg #[.int .i64 0, .int .i64 0], .int .i64 3]) = .returned (.tuple #[numV (outN x), .int .i64 (outE x)]) := by unfold outN outE numV; rw [h]; rfl

theorem Top_calls (s : Int) (A : Option Addr) (n c : Nat) (s' : Int) (A' : Option Addr) (n' c' : Nat) (w : World) :
    Calls Tryz.prog 185 #[.agg #[.int .i64 s, .slice A n c, .int .i64 s', .slice A' n' c']] w fun e w' => e = .returned (.agg #[.int .i64 s, .slice A n c]) ∧ Below w.heap.size w w' := by
  go_enter Tryz.func185, Tryz.ntmps185
  go_wp2
  refine bodyPost_ret (v := .agg #[.int .i64 s, .slice A n c]) (by simp [results, Tryz.results185, go_sem]) rfl ⟨rfl, ?_⟩
  exact ((Below.refl _ w).alloc (Nat.le_refl _) _).alloc (by simp) _

theorem Out_calls (v : Value) (x : Rat) (D : Nat → Prop) (w : World) (hD : Lo D w) (h : RatC w D v x) :
    Calls Tryz.prog 155 #[v] w fun e w' => e = .returned (.tuple #[numV (outN x), .int .i64 (outE x)]) ∧ Below w.heap.size w w' := by
  obtain ⟨s, A, n, c, s', A', n', c', l, rfl, h1, h2, h3⟩ := h
  have H1 := Lib.hid h1
  have H2 := Lib.hid h2
  have H3 := Lib.hid h3
  have hden := x.den_nz
  have a1 := (Below.refl w.heap.size w).alloc (Nat.le_refl _) (.cells #[.int .i64 s, .slice A n c, .int .i64 s', .slice A' n' c'] 158)
  have a2 := a1.alloc (by simp) (.cells #[.int .i64 0, .int .i64 0] 94)
  have hz1 : (w.alloc (.cells #[.int .i64 s, .slice A n c, .int .i64 s', .slice A' n' c'] 158)).heap.size = w.heap.size + 1 := by simp
  have hbx := (((Below.refl (w.heap.size + 1) (w.alloc (.cells #[.int .i64 s, .slice A n c, .int .i64 s', .slice A' n' c'] 158))).alloc (by simp) (.cells #[.int .i64 0, .int .i64 0] 94)).block w.heap.size (by omega)).trans (heap_alloc_new w _)
  have hbr := heap_alloc_new (w.alloc (.cells #[.int .i64 s, .slice A n c, .int .i64 s', .slice A' n' c'] 158)) (.cells #[.int .i64 0, .int .i64 0] 94)
  rw [hz1] at hbr
  obtain ⟨w0, hw0⟩ : ∃ W : World, W = (w.alloc (.cells #[.int .i64 s, .slice A n c, .int .i64 s', .slice A' n' c'] 158)).alloc (.cells #[.int .i64 0, .int .i64 0] 94) := ⟨_, rfl⟩
  have hz0 : w0.heap.size = w.heap.size + 2 := by rw [hw0]; simp
  rw [← hw0] at a2 hbx hbr
  have HB0 := Lib.hid a2
  have HX := Lib.hid hbx
  have HR := Lib.hid hbr
  have HW0 := Lib.hid hw0
  have HZ0 := Lib.hid hz0
  have HT := Lib.hid (H1.out.same (hD.same a2))
  have HLw := Lib.hid (H2.out.same (hD.same a2))
  have HD0 := Lib.hid (hD.up a2.size)
  clear h1 h2 h3 a1 a2 hbx hbr hw0 hz0 hz1 hD
  go_enter Tryz.func155, Tryz.ntmps155
  go_upto_region 1 with fail
  rw [← HW0.out]
  clear HW0
  have x0 := (cells_of HX.out 0).1
  have x1 := (cells_of HX.out 1).1
  have x2 := (cells_of HX.out 2).1
  have x3 := (cells_of HX.out 3).1
  go_wp2_with fail
  refine (Top_calls s A n c s' A' n' c' w0).mono ?_
  rintro e w1 ⟨rfl, hb1⟩
  have HB1 := Lib.hid (HB0.out.trans (hb1.mono HB0.out.size))
  have HK1 := Lib.hid (hb1)
  have HT1 := Lib.hid (HT.out.same (HD0.out.same hb1))
  clear hb1 x0 x1 x2 x3
  go_wp2_with fail
  refine (Int_calls s A n c x.num 1152921504606846976 D w1 HT1.out (by omega) (by omega)).mono ?_
  rintro e w2 ⟨hb2, rfl⟩
  have hB2 := HK1.out.trans (hb2.mono HK1.out.size)
  have HB2 := Lib.hid (HB1.out.trans (hb2.mono HB1.out.size))
  have hlt := HZ0.out
  have hx2 := (hB2.block w.heap.size (by omega)).trans HX.out
  have x0 := (cells_of hx2 0).1
  have x1 := (cells_of hx2 1).1
  have x2 := (cells_of hx2 2).1
  have x3 := (cells_of hx2 3).1
  have HK2 := Lib.hid hB2
  have HL2 := Lib.hid (HLw.out.same (HD0.out.same hB2))
  obtain ⟨tv, htv⟩ : ∃ t : Int, t = (if -1152921504606846976 ≤ x.num ∧ x.num ≤ 1152921504606846976 then x.num else 0) := ⟨_, rfl⟩
  obtain ⟨tb, htb⟩ : ∃ b : Bool, b = decide (-1152921504606846976 ≤ x.num ∧ x.num ≤ 1152921504606846976) := ⟨_, rfl⟩
  rw [← htv, ← htb]
  have HTV := Lib.hid htv
  have HTB := Lib.hid htb
  clear hb2 hB2 htv htb hx2 hlt
  go_wp2_with fail
  refine (Low_calls s A n c s' A' n' c' l x.den D w2 (HD0.out.up HK2.out.size) HL2.out H3.out hden).mono ?_
  rintro e w3 ⟨t, LB, lm, lk, rfl, hb3, hl3⟩
  have HB3 := Lib.hid (HB2.out.trans (hb3.mono HB2.out.size))
  have HK3 := Lib.hid (HK2.out.trans (hb3.mono HK2.out.size))
  have HL3 := Lib.hid hl3
  clear hb3 hl3 x0 x1 x2 x3
  go_wp2_with fail
  refine (Int_calls t LB lm lk (x.den : Int) 1152921504606846976 D w3 HL3.out (by omega) (by omega)).mono ?_
  rintro e w4 ⟨hb4, rfl⟩
  have hB4 := HK3.out.trans (hb4.mono HK3.out.size)
  have HB4 := Lib.hid (HB3.out.trans (hb4.mono HB3.out.size))
  have hlt := HZ0.out
  have hr4 := (hB4.block (w.heap.size + 1) (by omega)).trans HR.out
  have y0 := (cells_of hr4 0).1
  have y1 := (cells_of hr4 1).1
  have g0 := (cells_of hr4 0).2
  have g1 := (cells_of hr4 1).2
  obtain ⟨lv, hlv⟩ : ∃ t : Int, t = (if -1152921504606846976 ≤ (x.den : Int) ∧ (x.den : Int) ≤ 1152921504606846976 then (x.den : Int) else 0) := ⟨_, rfl⟩
  obtain ⟨lb, hlb⟩ : ∃ b : Bool, b = decide (-1152921504606846976 ≤ (x.den : Int) ∧ (x.den : Int) ≤ 1152921504606846976) := ⟨_, rfl⟩
  rw [← hlv, ← hlb]
  have HLV := Lib.hid hlv
  have HLB := Lib.hid hlb
  have HOK := Lib.hid (show outOk x = (tb && lb) by unfold outOk fits60; rw [HTB.out, hlb])
  have HV := Lib.hid (show outOk x = true → tv = x.num ∧ lv = (x.den : Int) by
    intro h9
    rw [HOK.out, Bool.and_eq_true] at h9
    obtain ⟨h7, h8⟩ := h9
    rw [HTB.out, decide_eq_true_eq] at h7
    rw [hlb, decide_eq_true_eq] at h8
    rw [HTV.out, hlv, if_pos h7, if_pos h8]
    exact ⟨rfl, rfl⟩)
  have HR4 := Lib.hid hr4
  clear hb4 hB4 hlv hlb hr4 hlt
  cases tb with
  | false =>
    have HN := Lib.hid (show outOk x = false by rw [HOK.out]; rfl)
    go_wp2_with fail
    all_goals
      have hs9 := set_of (set_of HR4.out 0 (.int .i64 0)) 1 (.int .i64 0)
      have e0 := (cells_of hs9 0).1
      have e1 := (cells_of hs9 1).1
      exact bodyPost_ret (v := .tuple #[.agg #[.int .i64 0, .int .i64 0], .int .i64 3]) (by simp [results, Tryz.results155, go_sem, e0, e1]) rfl ⟨out_no HN.out, below_set2 HB4.out (by omega) _ _⟩
  | true =>
    cases lb with
    | false =>
      have HN := Lib.hid (show outOk x = false by rw [HOK.out]; rfl)
      go_wp2_with fail
      all_goals
        have hs9 := set_of (set_of HR4.out 0 (.int .i64 0)) 1 (.int .i64 0)
        have e0 := (cells_of hs9 0).1
        have e1 := (cells_of hs9 1).1
        exact bodyPost_ret (v := .tuple #[.agg #[.int .i64 0, .int .i64 0], .int .i64 3]) (by simp [results, Tryz.results155, go_sem, e0, e1]) rfl ⟨out_no HN.out, below_set2 HB4.out (by omega) _ _⟩
    | true =>
      have HN := Lib.hid (show outOk x = true by rw [HOK.out]; rfl)
      obtain ⟨rfl, rfl⟩ := HV.out HN.out
      go_wp2_with fail
      all_goals
        have hs9 := set_of (set_of HR4.out 0 (.int .i64 x.num)) 1 (.int .i64 (x.den : Int))
        have e0 := (cells_of hs9 0).1
        have e1 := (cells_of hs9 1).1
        exact bodyPost_ret (v := .tuple #[.agg #[.int .i64 x.num, .int .i64 (x.den : Int)], .int .i64 0]) (by simp [results, Tryz.results155, go_sem, e0, e1]) rfl ⟨out_yes HN.out, below_set2 HB4.out (by omega) _ _⟩

end Go.Proofs.YtoffbdlgmnpblaaGreat
