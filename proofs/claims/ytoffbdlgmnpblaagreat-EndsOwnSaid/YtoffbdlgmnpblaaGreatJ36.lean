/- Part 36: Eo9. -/
import Derived.Test.YtoffbdlgmnpblaaGreatJ35
import Derived.Deep.CutRange
import Derived.BigRegion

/- EndsOwn: the calls, the copies, the spoiling, the same calls again. -/
namespace Go.Proofs.YtoffbdlgmnpblaaGreat
open Go.RowKit
set_option maxHeartbeats 4000000
set_option maxRecDepth 100000

theorem few8_lens {m : List St} {l : List Int} (h : few5 m l = true) : (m.length ≤ 1000000 ∧ ∀ s ∈ m, s.chs.length ≤ 1000000 ∧ ∀ c ∈ s.chs, c.brs.length ≤ 1000000) ∧ l.length ≤ 60 := by
  unfold few5 fewB at h
  simp only [Bool.and_eq_true, decide_eq_true_eq, List.all_eq_true] at h
  obtain ⟨⟨h1, h2⟩, h3⟩ := h
  refine ⟨⟨by omega, fun s hs => ?_⟩, h3⟩
  have := h2 s hs
  unfold fewS at this
  simp only [Bool.and_eq_true, decide_eq_true_eq, List.all_eq_true] at this
  refine ⟨by omega, fun c hc => ?_⟩
  have := this.2 c hc
  simp [fewC] at this
  omega

/-- what the copies of the arguments leave -/
def Phi3 (mv u xs xk : Value) (m : List St) (l : List Int) (x : Endp) : Nat → Value → World → (Nat → Prop) → Prop
  | 0, v, _, _ => v = .agg #[mv]
  | 1, v, w, D => ∃ SA sc, v = .agg #[.slice SA m.length sc] ∧ Sl Kind.st w D (.slice SA m.length sc) m
  | 2, v, _, _ => ∃ b, v = .slice (some ⟨b, 0, none⟩) 0 0
  | 3, v, _, _ => v = u
  | 4, v, w, D => Sl (Kind.int .i64) w D v l
  | 5, v, _, _ => v = .agg #[xs, xk]
  | 6, v, w, D => ∃ b, v = .slice (some ⟨b, 0, none⟩) 1 1 ∧ D b ∧ w.heap[b]? = some (.cells #[xs, xk] 53 (0, 0))
  | 7, v, w, D => Sl Kind.en w D v [x]
  | 10, v, w, D => Sl (Kind.int .i64) w D v l
  | 11, v, w, D => Sl Kind.en w D v [x]
  | _, _, _, _ => True
theorem Phi3.firm (mv u xs xk : Value) (m : List St) (l : List Int) (x : Endp) : Firm8 (Phi3 mv u xs xk m l x) := by
  intro j v w w' D D' h hs hD
  match j, h with
  | 0, h => exact h
  | 1, h => obtain ⟨SA, sc, e, h⟩ := h; exact ⟨SA, sc, e, (h.same hs).mono hD⟩
  | 2, h => exact h
  | 3, h => exact h
  | 4, h => exact (Sl.same h hs).mono hD
  | 5, h => exact h
  | 6, h => obtain ⟨b, e, h1, h2⟩ := h; exact ⟨b, e, hD b h1, (hs b h1).trans h2⟩
  | 7, h => exact (Sl.same h hs).mono hD
  | 8, _ => trivial
  | 9, _ => trivial
  | 10, h => exact (Sl.same h hs).mono hD
  | 11, h => exact (Sl.same h hs).mono hD
  | j + 12, _ => trivial

theorem enter_copy : ∀ args w, (callFunc 41 args).run Tryz.prog w = .ok (.enter 41 args) w := enter_of Tryz.func41 (by kernel_rfl) (by kernel_rfl)
theorem enter_copied : ∀ args w, (callFunc 65 args).run Tryz.prog w = .ok (.enter 65 args) w := enter_of Tryz.func65 (by kernel_rfl) (by kernel_rfl)
/-- one end, out of its block -/
theorem en1_of_block {W : World} {D : Nat → Prop} {b : Nat} {xs xk : Value} {x : Endp} {t : TypeId} (hb : W.heap[b]? = some (.cells #[xs, xk] t (0, 0))) (hD : D b) (h1 : Sl (Kind.int .i64) W D xs x.1) (h2 : Rows2 W D xk x.2) : Sl Kind.en W D (.slice (some ⟨b, 0, none⟩) 1 1) [x] := by
  have hadd : ∀ k, (⟨b, 0, none⟩ : Addr).add k = ⟨b, k, none⟩ := fun k => by unfold Addr.add; split <;> simp_all
  refine ⟨some ⟨b, 0, none⟩, 1, rfl, Nat.le_refl _, by decide, fun i y hy => ?_⟩
  cases i with
  | zero =>
    simp at hy; subst hy
    refine ⟨⟨b, 0, none⟩, _, rfl, hD, ⟨_, _, rfl, h1, h2⟩, fun j u hj => ?_⟩
    rw [add_of_add, hadd]
    match j, hj with
    | 0, hj => simp at hj; subst hj; exact (cells_of hb 0).1
    | 1, hj => simp at hj; subst hj; exact (cells_of hb 1).1
    | j + 2, hj => simp at hj
  | succ i => simp at hy

/-- what the copies of the results leave -/
def Phi9 (pv qv rv uv tv : Value) (m : List St) (l : List Int) : Nat → Value → World → (Nat → Prop) → Prop
  | 0, v, _, _ => v = pv
  | 1, v, w, D => Sl Kind.en w D v (maxOf m)
  | 2, v, _, _ => v = qv
  | 3, v, w, D => Sl Kind.en w D v (insOf m l)
  | 4, v, _, _ => ∃ b, v = .slice (some ⟨b, 0, none⟩) 0 0
  | 5, v, _, _ => v = rv
  | 6, v, w, D => Sl (Kind.int .i64) w D v (stayOf m l)
  | 7, v, _, _ => v = .agg #[uv]
  | 8, v, w, D => ∃ SA n sc, v = .agg #[.slice SA n sc] ∧ Sl Kind.st w D (.slice SA n sc) (mergeM m)
  | 9, v, _, _ => ∃ b, v = .slice (some ⟨b, 0, none⟩) 0 0
  | 10, v, _, _ => v = tv
  | 11, v, w, D => Sl (Kind.int .i64) w D v (mergeP m)
  | 13, v, w, D => Sl Kind.en w D v (maxOf m)
  | 14, v, w, D => Sl Kind.en w D v (insOf m l)
  | 15, v, w, D => Sl (Kind.int .i64) w D v (stayOf m l)
  | 17, v, w, D => Sl (Kind.int .i64) w D v (mergeP m)
  | _, _, _, _ => True
theorem Phi9.firm (pv qv rv uv tv : Value) (m : List St) (l : List Int) : Firm8 (Phi9 pv qv rv uv tv m l) := by
  intro j v w w' D D' h hs hD
  match j, h with
  | 0, h => exact h
  | 1, h => exact (Sl.same h hs).mono hD
  | 2, h => exact h
  | 3, h => exact (Sl.same h hs).mono hD
  | 4, h => exact h
  | 5, h => exact h
  | 6, h => exact (Sl.same h hs).mono hD
  | 7, h => exact h
  | 8, h => obtain ⟨SA, n, sc, e, h⟩ := h; exact ⟨SA, n, sc, e, (h.same hs).mono hD⟩
  | 9, h => exact h
  | 10, h => exact h
  | 11, h => exact (Sl.same h hs).mono hD
  | 12, _ => trivial
  | 13, h => exact (Sl.same h hs).mono hD
  | 14, h => exact (Sl.same h hs).mono hD
  | 15, h => exact (Sl.same h hs).mono hD
  | 16, _ => trivial
  | 17, h => exact (Sl.same h hs).mono hD
  | j + 18, _ => trivial

/-- what is read in blocks that were there already, is read in the world before -/
theorem rows_back {D : Nat → Prop} {w W : World} (hb : Below w.heap.size w W) (hD : ∀ k, D k → k < w.heap.size) {es : List EO} (h : ∀ e ∈ es, Sl (Kind.int .i64) W D e.sv e.st ∧ Rows2 W D e.kv e.ks) :
    ∀ e ∈ es, Sl (Kind.int .i64) w D e.sv e.st ∧ Rows2 w D e.kv e.ks := fun e he =>
  ⟨(h e he).1.same fun k hk => (hb.block k (hD k hk)).symm, (h e he).2.same fun k hk => (hb.block k (hD k hk)).symm⟩
/-- an end of an own row -/
theorem own_end_at {W : World} {base n : Nat} {ty : TypeId} {A : Option Addr} {c : Nat} {es : List EO} (h : W.ownsRow base ty 2 (.slice A n c) n (ecells es)) (i : Nat) (e : EO) (hi : i < n) (he : es[i]? = some e) :
    ∃ ad, A = some ad ∧ W.cell? (ad.add (i * 2)) = some e.sv ∧ W.cell? ⟨(ad.add (i * 2)).block, (ad.add (i * 2)).off + 1, none⟩ = some e.kv := by
  obtain ⟨A', c', e1, -, -, h3⟩ := own_form h
  injection e1 with e1 e2 e3
  subst e1
  obtain ⟨ad, rfl, -, -, -, hat⟩ := h3 (by omega)
  obtain ⟨q0, q1⟩ := ecells_at es i e he
  have q1 := hat _ _ q1
  rw [← add_of_add] at q1
  exact ⟨ad, rfl, hat _ _ q0, q1⟩
/-- an own row stays while others' numbers turn -/
theorem own_turned {D : Nat → Prop} {W W' : World} {base n : Nat} {ty : TypeId} {v : Value} {vs : List Value} (h : W.ownsRow base ty 2 v n vs) (hD : ∀ k, D k → k < base) (ht : Turned D W W') : W'.ownsRow base ty 2 v n vs :=
  own_kept h fun k hk => ht.out k fun hd => by have := hD k hd; have := (h.lt k hk).1; omega

theorem EndsOwn_calls (m : List St) (l : List Int) (x : Endp) (v u xs xk : Value) (w : World) (h : ModelC w (· < w.heap.size) v m) (hl : Sl (Kind.int .i64) w (· < w.heap.size) u l)
    (hx : Sl (Kind.int .i64) w (· < w.heap.size) xs x.1) (hk : Rows2 w (· < w.heap.size) xk x.2) (hlen : ∀ ks ∈ x.2, ks.length ≤ 17592186044416) :
    Calls Tryz.prog 12 #[v, u, .agg #[xs, xk]] w fun e w' => e = .returned (.bool true) ∧ Below w.heap.size w w' := by
  obtain ⟨mv, rfl, hmm⟩ := h
  have HM : Hid (ModelC w (· < w.heap.size) (.agg #[mv]) m) := ⟨mv, rfl, hmm⟩
  obtain ⟨A, c, rfl, h1, h2, -⟩ := hmm.form
  obtain ⟨LA, lc, rfl, l1, l2, -⟩ := hl.ints
  obtain ⟨XA, xc, rfl, x1, x2, -⟩ := hx.ints
  obtain ⟨KA, kc, rfl, k1, k2, -⟩ := hk.form
  have HL := Lib.hid hl
  have HX := Lib.hid hx
  have HK := Lib.hid hk
  have HLEN := Lib.hid hlen
  unfold maxLen at h2 l2 x2 k2
  obtain ⟨w0, hw0⟩ : ∃ W : World, W = (w.alloc (.cells #[.slice A m.length c] 24)).alloc (.cells #[.slice XA x.1.length xc, .slice KA x.2.length kc] 53) := ⟨_, rfl⟩
  have hB0 : Below w.heap.size w w0 := by
    rw [hw0]
    have h9 := (Below.refl w.heap.size w).alloc (Nat.le_refl _) (.cells #[.slice A m.length c] 24)
    exact h9.alloc h9.size _
  have hz0 : w0.heap.size = w.heap.size + 2 := by rw [hw0]; simp
  have hbx : w0.heap[w.heap.size]? = some (.cells #[.slice A m.length c] 24 (0, 0)) := by
    rw [hw0]; exact (heap_alloc_old _ _ (by simp)).trans (heap_alloc_new w _)
  have hxx : w0.heap[w.heap.size + 1]? = some (.cells #[.slice XA x.1.length xc, .slice KA x.2.length kc] 53 (0, 0)) := by
    have h9 := heap_alloc_new (w.alloc (.cells #[.slice A m.length c] 24)) (.cells #[.slice XA x.1.length xc, .slice KA x.2.length kc] 53)
    rw [World.size_alloc] at h9
    rw [hw0]; exact h9
  have HB0 := Lib.hid hB0
  have HBX := Lib.hid hbx
  have HXX := Lib.hid hxx
  have hlo : Lo (· < w.heap.size) w0 := fun k hk => by have : k < w.heap.size := hk; show k < w0.heap.size; omega
  have HLO := Lib.hid hlo
  have hlow : Lo (· < w.heap.size) w := fun _ hk => hk
  have HM0 := Lib.hid (HM.out.same (hlow.same hB0))
  have HL0 := Lib.hid (HL.out.same (hlow.same hB0))
  have HX0 := Lib.hid (HX.out.same (hlow.same hB0))
  have HW0 := Lib.hid hw0
  have HZ0 := Lib.hid hz0
  clear hmm hl hx hk hlen hB0 hlo hbx hxx hw0 hz0 hlow
  go_enter Tryz.func12, Tryz.ntmps12
  go_upto_region 1 with fail
  rw [← HW0.out]
  clear HW0
  have c0 := (cells_of HBX.out 0).1
  obtain ⟨y0, y1⟩ : w0.cell? ⟨w.heap.size + 1, 0, none⟩ = some (.slice XA x.1.length xc) ∧ w0.cell? ⟨w.heap.size + 1, 1, none⟩ = some (.slice KA x.2.length kc) := ⟨(cells_of HXX.out 0).1, (cells_of HXX.out 1).1⟩
  go_wp2_with fail
  refine (few8_calls m l _ _ (· < w.heap.size) w0 HLO.out HM0.out HL0.out).mono ?_
  rintro e w1 ⟨rfl, hb1⟩
  have HBX1 := Lib.hid ((hb1.block w.heap.size (by have := HZ0.out; omega)).trans HBX.out)
  have HXX1 := Lib.hid ((hb1.block (w.heap.size + 1) (by have := HZ0.out; omega)).trans HXX.out)
  have HB1 := Lib.hid (HB0.out.trans (hb1.mono HB0.out.size))
  have hz1 : w.heap.size + 2 ≤ w1.heap.size := by have := hb1.size; have := HZ0.out; omega
  clear hb1 c0 y0 y1 HBX HXX
  cases hf : few5 m l with
  | false =>
    clear hf
    go_wp2_with fail
    refine (awake8_calls w1).mono ?_
    rintro e w2 ⟨rfl, hb2⟩
    go_wp2
    go_ret
    exact ⟨rfl, HB1.out.trans (hb2.mono HB1.out.size)⟩
  | true =>
    obtain ⟨hlens, hll⟩ := few8_lens hf
    have HLENS := Lib.hid hlens
    have c1 := (cells_of HBX1.out 0).1
    obtain ⟨y0, y1⟩ : w1.cell? ⟨w.heap.size + 1, 0, none⟩ = some (.slice XA x.1.length xc) ∧ w1.cell? ⟨w.heap.size + 1, 1, none⟩ = some (.slice KA x.2.length kc) := ⟨(cells_of HXX1.out 0).1, (cells_of HXX1.out 1).1⟩
    have hlow : Lo (· < w.heap.size) w := fun _ hk => hk
    have HM1 := Lib.hid (HM.out.same (hlow.same HB1.out))
    have HX1 := Lib.hid (HX.out.same (hlow.same HB1.out))
    have HLO1 := Lib.hid (show Lo (· < w.heap.size) w1 from hlow.up HB1.out.size)
    clear hf hlens hlow
    go_wp2_with fail
    refine (few8_calls m x.1 _ _ (· < w.heap.size) w1 HLO1.out HM1.out HX1.out).mono ?_
    rintro e w2 ⟨rfl, hb2⟩
    have HBX2 := Lib.hid ((hb2.block w.heap.size (by omega)).trans HBX1.out)
    have HXX2 := Lib.hid ((hb2.block (w.heap.size + 1) (by omega)).trans HXX1.out)
    have HB2 := Lib.hid (HB1.out.trans (hb2.mono HB1.out.size))
    have hz2 : w.heap.size + 2 ≤ w2.heap.size := by have := hb2.size; omega
    clear hb2 c1 y0 y1 HBX1 HXX1 hz1
    cases hf : few5 m x.1 with
    | false =>
      clear hf
      go_wp2_with fail
      refine (awake8_calls w2).mono ?_
      rintro e w3 ⟨rfl, hb3⟩
      go_wp2
      go_ret
      exact ⟨rfl, HB2.out.trans (hb3.mono HB2.out.size)⟩
    | true =>
      obtain ⟨-, hxl⟩ := few8_lens hf
      obtain ⟨y0, y1⟩ : w2.cell? ⟨w.heap.size + 1, 0, none⟩ = some (.slice XA x.1.length xc) ∧ w2.cell? ⟨w.heap.size + 1, 1, none⟩ = some (.slice KA x.2.length kc) := ⟨(cells_of HXX2.out 0).1, (cells_of HXX2.out 1).1⟩
      clear hf
      by_cases hkl : x.2.length ≤ 60
      · have HKL := Lib.hid hkl
        have hdec : decide ((x.2.length : Int) > 60) = false := decide_eq_false (by omega)
        go_upto_region 3 with fail
        clear hdec y0 y1
        have hlow : Lo (· < w.heap.size) w := fun _ hk => hk
        have HM2 := Lib.hid (HM.out.same (hlow.same HB2.out))
        have HL2 := Lib.hid (HL.out.same (hlow.same HB2.out))
        have HX2 := Lib.hid (HX.out.same (hlow.same HB2.out))
        have HK2 := Lib.hid (HK.out.same (hlow.same HB2.out))
        have HF := Lib.hid (Phi3.firm (.slice A m.length c) (.slice LA l.length lc) (.slice XA x.1.length xc) (.slice KA x.2.length kc) m l x)
        have HLW := Lib.hid (show Lo (· < w.heap.size) w2 from hlow.up HB2.out.size)
        clear hlow
        refine inv_region2 (J := Jr w2.heap.size 8 9 1 w2 (Phi3 (.slice A m.length c) (.slice LA l.length lc) (.slice XA x.1.length xc) (.slice KA x.2.length kc) m l x)) [some 50, some 51, some 52, some 53, some 54, some 55, some 56, some 57, some 7, none, some 8, some 9] [[], [0], [], [], [2, 3], [], [5], [6], [], [8, 1], [4], [7]] (by rfl) (by kernel_rfl) (by kernel_rfl) ?_ ?_ ?_
        · intro d s hd
          refine Jr.start rfl (hd 8 (by decide)) (hd 9 (by decide)) fun j _ _ hj => ?_
          by_cases hj12 : j < 12
          · rw [hd j hj12] at hj; cases hj
          · obtain ⟨k, rfl⟩ : ∃ k, j = k + 12 := ⟨j - 12, by omega⟩
            trivial
        · intro j o ho d s V ρ hJ hd hdep hs hold hfun
          have hj : j < 12 := (Array.getElem?_eq_some_iff.1 ho).1
          have HJ := Lib.hid hJ
          have HBV := Lib.hid hJ.below
          have HBR := Lib.hid (Below.refl V.heap.size V)
          have hzV : w.heap.size + 2 ≤ V.heap.size := by have := hJ.size; omega
          have HBXV := Lib.hid ((HBV.out.block w.heap.size (by omega)).trans HBX2.out)
          have HXXV := Lib.hid ((HBV.out.block (w.heap.size + 1) (by omega)).trans HXX2.out)
          have HSM := Lib.hid (HLW.out.same HBV.out)
          have HLV := Lib.hid (HLW.out.up HBV.out.size)
          rcases (show j = 0 ∨ j = 1 ∨ j = 2 ∨ j = 3 ∨ j = 4 ∨ j = 5 ∨ j = 6 ∨ j = 7 ∨ j = 8 ∨ j = 9 ∨ j = 10 ∨ j = 11 by omega) with rfl | rfl | rfl | rfl | rfl | rfl | rfl | rfl | rfl | rfl | rfl | rfl
          · cases ho
            exact st_load24 rfl ((hold 3 rfl).trans rfl) (cells_of HBXV.out 0).1 (hJ.step HF.out hd (by decide) (by decide) HBR.out rfl)
          · cases ho
            have h0 : s 0 = .agg #[.slice A m.length c] := hJ.ok 0 (by decide) (by decide) (hdep 0 (by decide))
            refine st_call rfl enter_copy ((hs 0 50 rfl).trans h0) (hfun _) ((RCopy_calls m _ (· < w.heap.size) V HLV.out (HM2.out.same HSM.out) HLENS.out).mono ?_)
            rintro e V' ⟨sv, ss, rfl, hsep, hss, hb⟩
            have hsm := sep_model hsep
            rw [hss] at hsm
            obtain ⟨SA, sc, rfl, -, -, -⟩ := hsm.form
            exact ⟨_, rfl, hJ.step HF.out hd (by decide) (by decide) hb ⟨SA, sc, rfl, hsm.mono fun k hk => hJ.new hk⟩⟩
          · cases ho
            exact st_build0 rfl (hJ.step HF.out hd (by decide) (by decide) (HBR.out.alloc (Nat.le_refl _) _) ⟨_, rfl⟩)
          · cases ho
            exact st_move (.inl rfl) (hJ.step HF.out hd (by decide) (by decide) HBR.out ((hold 1 rfl).trans rfl))
          · cases ho
            obtain ⟨b, h2⟩ : ∃ b, s 2 = .slice (some ⟨b, 0, none⟩) 0 0 := hJ.ok 2 (by decide) (by decide) (hdep 2 (by decide))
            have h3 : s 3 = .slice LA l.length lc := hJ.ok 3 (by decide) (by decide) (hdep 3 (by decide))
            exact st_append rfl ((hs 2 52 rfl).trans h2) ((hs 3 53 rfl).trans h3) (HL2.out.same HSM.out) (by omega) fun v' w' hb hsl => hJ.step HF.out hd (by decide) (by decide) hb (hsl.mono fun k hk => hJ.new hk)
          · cases ho
            exact st_load53 rfl ((hold 5 rfl).trans rfl) (cells_of HXXV.out 0).1 (cells_of HXXV.out 1).1 (hJ.step HF.out hd (by decide) (by decide) HBR.out rfl)
          · cases ho
            have h5 : s 5 = .agg #[.slice XA x.1.length xc, .slice KA x.2.length kc] := hJ.ok 5 (by decide) (by decide) (hdep 5 (by decide))
            exact st_build1 rfl ((hs 5 55 rfl).trans h5) (hJ.step HF.out hd (by decide) (by decide) (HBR.out.alloc (Nat.le_refl _) _) ⟨_, rfl, hJ.new (DB.new _ _ (Nat.le_refl _)), heap_alloc_new _ _⟩) rfl rfl
          · cases ho
            obtain ⟨b, h6, hDb, hbb⟩ : ∃ b, s 6 = .slice (some ⟨b, 0, none⟩) 1 1 ∧ DD w2.heap.size (bxOf 8 d s) V b ∧ V.heap[b]? = some (.cells #[.slice XA x.1.length xc, .slice KA x.2.length kc] 53 (0, 0)) := hJ.ok 6 (by decide) (by decide) (hdep 6 (by decide))
            have hen := en1_of_block (D := (· < V.heap.size)) hbb hDb.1.2.1 ((HX2.out.same HSM.out).mono HLV.out) ((HK2.out.same HSM.out).mono HLV.out)
            refine st_call rfl enter_copied ((hs 6 56 rfl).trans h6) (hfun _) ((copied_calls [x] _ (· < V.heap.size) V (fun _ hk => hk) hen (by simp) (fun e he => by rw [List.mem_singleton] at he; subst he; exact ⟨by omega, by omega, HLEN.out⟩)).mono ?_)
            rintro e V' ⟨v', rfl, hb, hsl⟩
            exact ⟨_, rfl, hJ.step HF.out hd (by decide) (by decide) hb (hsl.mono fun k hk => hJ.new hk)⟩
          · cases ho
            exact st_alloc rfl (hJ.alloc HF.out (by decide) hd)
          · cases ho
            have hd8 := hdep 8 (by decide)
            have hd1 := hdep 1 (by decide)
            obtain ⟨b, A', n', c', h8, -, -, hbb, -⟩ := hJ.box hd8
            obtain ⟨SA, sc, h1', -⟩ : ∃ SA sc, s 1 = .agg #[.slice SA m.length sc] ∧ Sl Kind.st V (DD w2.heap.size (bxOf 8 d s) V) (.slice SA m.length sc) m := hJ.ok 1 (by decide) (by decide) hd1
            exact st_store rfl ((hs 8 7 rfl).trans h8) ((hs 1 51 rfl).trans h1') (cells_of hbb 0).1 (cells_of hbb 0).2 (hJ.store HF.out (by decide) (by decide) hd8 hd1 h8 h1' _)
          · cases ho
            exact st_move (.inr rfl) (hJ.step HF.out hd (by decide) (by decide) HBR.out (by rw [hs 4 54 rfl]; exact hJ.ok 4 (by decide) (by decide) (hdep 4 (by decide))))
          · cases ho
            exact st_move (.inr rfl) (hJ.step HF.out hd (by decide) (by decide) HBR.out (by rw [hs 7 57 rfl]; exact hJ.ok 7 (by decide) (by decide) (hdep 7 (by decide))))
        · intro d s w3 hJ hd
          have hd8 := hd 8 (by decide)
          obtain ⟨ab, A', n', c', h8, hab1, hab2, habb, h1'⟩ := hJ.box hd8
          have h1' := h1' (hd 9 (by decide))
          obtain ⟨SA, sc, h1'', hsm⟩ : ∃ SA sc, s 1 = .agg #[.slice SA m.length sc] ∧ Sl Kind.st w3 (DD w2.heap.size (bxOf 8 d s) w3) (.slice SA m.length sc) m := hJ.ok 1 (by decide) (by decide) (hd 1 (by decide))
          have hsl : Sl (Kind.int .i64) w3 (DD w2.heap.size (bxOf 8 d s) w3) (s 10) l := hJ.ok 10 (by decide) (by decide) (hd 10 (by decide))
          have hse : Sl Kind.en w3 (DD w2.heap.size (bxOf 8 d s) w3) (s 11) [x] := hJ.ok 11 (by decide) (by decide) (hd 11 (by decide))
          rw [h1''] at h1'
          injection h1' with h1'
          injection h1' with h1'
          injection h1' with h1' _
          injection h1' with e1 e2 e3
          subst e1 e2 e3
          obtain ⟨BA, bn, bc, h10⟩ := hsl.shape
          obtain ⟨CA, cn, cc, h11⟩ := hse.shape
          have hBA : BaseE w w3.heap.size ab A c m (.slice LA l.length lc) l (.slice XA x.1.length xc) (.slice KA x.2.length kc) x (.slice SA m.length sc) (s 10) (s 11) w3 := by
            have hb := hJ.below
            have hsm' := HLW.out.same hb
            have hup := HLW.out.up hb.size
            refine ⟨Nat.le_refl _, HB2.out.trans (hb.mono HB2.out.size), by have := hb.size; omega, (hb.block _ (by omega)).trans HBX2.out, (hb.block _ (by omega)).trans HXX2.out, hab2, habb, ?_, ?_, ?_, ?_, ?_, ?_, ?_⟩
            · exact (HM2.out.same hsm').mono hup
            · exact (HL2.out.same hsm').mono hup
            · exact (HX2.out.same hsm').mono hup
            · exact (HK2.out.same hsm').mono hup
            · exact ⟨_, rfl, hsm.mono fun k hk => hk.1.2.1⟩
            · exact hsl.mono fun k hk => hk.1.2.1
            · exact hse.mono fun k hk => hk.1.2.1
          rw [h10, h11] at hBA
          have HBA3 := Lib.hid hBA
          simp only [putL, Act.put, List.setIfInBounds_toArray, List.set_cons_succ, List.set_cons_zero, Nat.reduceAdd, Nat.zero_add, h8, h10, h11]
          generalize s 0 = z0
          generalize s 1 = z1
          generalize s 2 = z2
          generalize s 3 = z3
          generalize s 4 = z4
          generalize s 5 = z5
          generalize s 6 = z6
          generalize s 7 = z7
          obtain ⟨n0, hn0⟩ : ∃ b : Nat, b = w3.heap.size := ⟨_, rfl⟩
          rw [← hn0] at HBA3
          have HN0 := Lib.hid (Nat.le_of_eq hn0)
          clear hn0 hBA h8 h10 h11 h1'' hsm hsl hse habb hab1 hab2 hd8 hJ hd HF HLW HM2 HL2 HX2 HK2 HBX2 HXX2 HB2 hz2 HM HL HX HK HB0 HLO HM0 HL0 HX0 HZ0 HB1 HM1 HX1 HLO1
          have c3 := HBA3.out.cell
          go_wp2_with fail
          refine (Maximal_calls m _ (· < n0) w3 HBA3.out.lo HBA3.out.M).mono ?_
          rintro e w4 ⟨pv, rfl, hb4, hx4⟩
          have X4 := Lib.hid hx4
          obtain ⟨pA, pn, pc, rfl⟩ := hx4.shape
          have HBA4 := Lib.hid (HBA3.out.next hb4)
          have B4 := Lib.hid hb4
          have c4 := HBA4.out.cell
          clear hb4 hx4 c3 HBA3
          go_wp2_with fail
          refine (Inside_calls m l _ _ (· < n0) w4 HBA4.out.lo HBA4.out.M HBA4.out.L).mono ?_
          rintro e w5 ⟨qv, rfl, hb5, hx5⟩
          have X5 := Lib.hid hx5
          obtain ⟨qA, qn, qc, rfl⟩ := hx5.shape
          have HBA5 := Lib.hid (HBA4.out.next hb5)
          have B5 := Lib.hid hb5
          have c5 := HBA5.out.cell
          clear hb5 hx5 c4 HBA4
          go_wp2_with fail
          refine (Stay_calls m l _ _ (· < n0) w5 HBA5.out.lo HBA5.out.M HBA5.out.L).mono ?_
          rintro e w6 ⟨rv, rfl, hb6, hx6⟩
          have X6 := Lib.hid hx6
          obtain ⟨rA, rn, rc, rfl⟩ := hx6.shape
          have HBA6 := Lib.hid (HBA5.out.next hb6)
          have B6 := Lib.hid hb6
          have c6 := HBA6.out.cell
          clear hb6 hx6 c5 HBA5
          go_wp2_with fail
          refine (Merge_calls m _ (· < n0) w6 HBA6.out.lo HBA6.out.M).mono ?_
          rintro e w7 ⟨uv, tv, rfl, hb7, hx7, ht7⟩
          have X7 := Lib.hid hx7
          have T7 := Lib.hid ht7
          obtain ⟨uA, un, uc, rfl⟩ := hx7.shape
          obtain ⟨tA, tn, tc, rfl⟩ := ht7.shape
          have HBA7 := Lib.hid (HBA6.out.next hb7)
          have B7 := Lib.hid hb7
          have hz7 : w.heap.size + 1 < w7.heap.size := Nat.lt_of_lt_of_le HBA7.out.wn HBA7.out.size
          clear hb7 hx7 ht7 c6 HBA6
          go_upto_region 8 with fail
          have hb8 : Below w7.heap.size w7 (w7.alloc (.cells #[.slice uA un uc] 24)) := (Below.refl _ _).alloc (Nat.le_refl _) _
          have hub8 := heap_alloc_new w7 (.cells #[.slice uA un uc] 24)
          have HBA8 := Lib.hid (HBA7.out.next hb8)
          have B8 := Lib.hid hb8
          have UB8 := Lib.hid hub8
          have c8 := HBA8.out.cell
          obtain ⟨y0, y1⟩ := HBA8.out.xcell
          clear hb8 hub8 HBA7 hz7
          obtain ⟨ub, hub⟩ : ∃ b : Nat, b = w7.heap.size := ⟨_, rfl⟩
          obtain ⟨w8, hw8⟩ : ∃ W : World, W = w7.alloc (.cells #[.slice uA un uc] 24) := ⟨_, rfl⟩
          rw [← hw8] at HBA8 B8 UB8 c8 y0 y1
          rw [← hub] at UB8
          rw [← hw8, ← hub]
          have HUB := Lib.hid hub
          clear hub hw8
          go_wp2_with fail
          refine (Is_calls m x.1 x.2 _ _ _ (· < n0) w8 HBA8.out.lo HBA8.out.M HBA8.out.X HBA8.out.XK).mono ?_
          obtain ⟨ib, hib⟩ : ∃ b : Bool, b = isOf m (x.1, x.2) := ⟨_, rfl⟩
          rw [← hib]
          clear hib
          rintro e w9 ⟨rfl, hb9⟩
          have HBA9 := Lib.hid (HBA8.out.next hb9)
          have B9 := Lib.hid hb9
          clear hb9 c8 y0 y1 HBA8
          go_upto_region 9 with fail
          have hONE : OneE (DB n0 w9) m l (.slice pA pn pc) (.slice qA qn qc) (.slice rA rn rc) (.slice uA un uc) (.slice tA tn tc) w9 := by
            have q7 := B8.out.trans (B9.out.mono B8.out.size)
            have q6 := B7.out.trans (q7.mono B7.out.size)
            have q5 := B6.out.trans (q6.mono B6.out.size)
            have q4 := B5.out.trans (q5.mono B5.out.size)
            have n3 := HN0.out
            have n4 := Nat.le_trans n3 B4.out.size
            have n5 := Nat.le_trans n4 B5.out.size
            have n6 := Nat.le_trans n5 B6.out.size
            exact ⟨(Sl.born X4.out n3).carry q4, (Sl.born X5.out n4).carry q5, (Sl.born X6.out n5).carry q6, (Sl.born X7.out n6).carry q7, (Sl.born T7.out n6).carry q7⟩
          have HONE := Lib.hid hONE
          have hub9 := (B9.out.block ub (Array.getElem?_eq_some_iff.1 UB8.out).1).trans UB8.out
          have HUB9 := Lib.hid hub9
          have HNU : Hid (n0 ≤ ub) := Lib.hid (by
            have := HUB.out
            have := HN0.out
            have := B4.out.size
            have := B5.out.size
            have := B6.out.size
            have := B7.out.size
            omega)
          have HF := Lib.hid (Phi9.firm (.slice pA pn pc) (.slice qA qn qc) (.slice rA rn rc) (.slice uA un uc) (.slice tA tn tc) m l)
          have hn9 := HBA9.out.size
          clear hONE hub9 B4 B5 B6 B7 B8 B9 X4 X5 X6 X7 T7 UB8 HUB HN0
          refine inv_region2 (J := Jr w9.heap.size 12 16 8 w9 (Phi9 (.slice pA pn pc) (.slice qA qn qc) (.slice rA rn rc) (.slice uA un uc) (.slice tA tn tc) m l)) [some 87, some 88, some 89, some 90, some 91, some 92, some 93, some 94, some 95, some 96, some 97, some 98, some 22, some 19, some 20, some 21, none, some 23] [[], [0], [], [2], [], [], [4, 5], [], [7], [], [], [9, 10], [], [1], [3], [6], [12, 8], [11]] (by rfl) (by kernel_rfl) (by kernel_rfl) ?_ ?_ ?_
          · intro d s hd
            refine Jr.start rfl (hd 12 (by decide)) (hd 16 (by decide)) fun j _ _ hj => ?_
            by_cases hj12 : j < 18
            · rw [hd j hj12] at hj; cases hj
            · obtain ⟨k, rfl⟩ : ∃ k, j = k + 18 := ⟨j - 18, by omega⟩
              trivial
          · intro j o ho d s V ρ hJ hd hdep hs hold hfun
            have hj : j < 18 := (Array.getElem?_eq_some_iff.1 ho).1
            have HBV := Lib.hid hJ.below
            have HBR := Lib.hid (Below.refl V.heap.size V)
            have HSM := Lib.hid (DB.same (B := n0) HBV.out)
            have HLV := Lib.hid (lo_db (n0 := n0) HBV.out)
            have HUV := Lib.hid ((HBV.out.block ub (Array.getElem?_eq_some_iff.1 HUB9.out).1).trans HUB9.out)
            rcases (show j = 0 ∨ j = 1 ∨ j = 2 ∨ j = 3 ∨ j = 4 ∨ j = 5 ∨ j = 6 ∨ j = 7 ∨ j = 8 ∨ j = 9 ∨ j = 10 ∨ j = 11 ∨ j = 12 ∨ j = 13 ∨ j = 14 ∨ j = 15 ∨ j = 16 ∨ j = 17 by omega) with rfl | rfl | rfl | rfl | rfl | rfl | rfl | rfl | rfl | rfl | rfl | rfl | rfl | rfl | rfl | rfl | rfl | rfl
            · cases ho
              exact st_move (.inl rfl) (hJ.step HF.out hd (by decide) (by decide) HBR.out ((hold 10 rfl).trans rfl))
            · cases ho
              have h0 : s 0 = .slice pA pn pc := hJ.ok 0 (by decide) (by decide) (hdep 0 (by decide))
              have hbd := max_bd m
              refine st_call rfl enter_copied ((hs 0 87 rfl).trans h0) (hfun _) ((copied_calls (maxOf m) _ (DB n0 w9) V HLV.out (HONE.out.P.same HSM.out) (by omega) hbd.2).mono ?_)
              rintro e V' ⟨v', rfl, hb, hsl⟩
              exact ⟨_, rfl, hJ.step HF.out hd (by decide) (by decide) hb (hsl.mono fun k hk => hJ.new hk)⟩
            · cases ho
              exact st_move (.inl rfl) (hJ.step HF.out hd (by decide) (by decide) HBR.out ((hold 12 rfl).trans rfl))
            · cases ho
              have h0 : s 2 = .slice qA qn qc := hJ.ok 2 (by decide) (by decide) (hdep 2 (by decide))
              have hbd := ins_bd m l
              refine st_call rfl enter_copied ((hs 2 89 rfl).trans h0) (hfun _) ((copied_calls (insOf m l) _ (DB n0 w9) V HLV.out (HONE.out.Q.same HSM.out) (by omega) hbd.2).mono ?_)
              rintro e V' ⟨v', rfl, hb, hsl⟩
              exact ⟨_, rfl, hJ.step HF.out hd (by decide) (by decide) hb (hsl.mono fun k hk => hJ.new hk)⟩
            · cases ho
              exact st_build0 rfl (hJ.step HF.out hd (by decide) (by decide) (HBR.out.alloc (Nat.le_refl _) _) ⟨_, rfl⟩)
            · cases ho
              exact st_move (.inl rfl) (hJ.step HF.out hd (by decide) (by decide) HBR.out ((hold 14 rfl).trans rfl))
            · cases ho
              obtain ⟨b, h2⟩ : ∃ b, s 4 = .slice (some ⟨b, 0, none⟩) 0 0 := hJ.ok 4 (by decide) (by decide) (hdep 4 (by decide))
              have h3 : s 5 = .slice rA rn rc := hJ.ok 5 (by decide) (by decide) (hdep 5 (by decide))
              have hbd := stay_bd m l
              exact st_append rfl ((hs 4 91 rfl).trans h2) ((hs 5 92 rfl).trans h3) (HONE.out.R.same HSM.out) (by omega) fun v' w' hb hsl => hJ.step HF.out hd (by decide) (by decide) hb (hsl.mono fun k hk => hJ.new hk)
            · cases ho
              exact st_load24 rfl ((hold 16 rfl).trans rfl) (cells_of HUV.out 0).1 (hJ.step HF.out hd (by decide) (by decide) HBR.out rfl)
            · cases ho
              have h0 : s 7 = .agg #[.slice uA un uc] := hJ.ok 7 (by decide) (by decide) (hdep 7 (by decide))
              refine st_call rfl enter_copy ((hs 7 94 rfl).trans h0) (hfun _) ((RCopy_calls (mergeM m) _ (DB n0 w9) V HLV.out ⟨_, rfl, HONE.out.S.same HSM.out⟩ (mergeM_bd m)).mono ?_)
              rintro e V' ⟨sv, ss, rfl, hsep, hss, hb⟩
              have hsm := sep_model hsep
              rw [hss] at hsm
              obtain ⟨SA', sn', sc', rfl⟩ := hsm.shape
              exact ⟨_, rfl, hJ.step HF.out hd (by decide) (by decide) hb ⟨SA', sn', sc', rfl, hsm.mono fun k hk => hJ.new hk⟩⟩
            · cases ho
              exact st_build0 rfl (hJ.step HF.out hd (by decide) (by decide) (HBR.out.alloc (Nat.le_refl _) _) ⟨_, rfl⟩)
            · cases ho
              exact st_move (.inl rfl) (hJ.step HF.out hd (by decide) (by decide) HBR.out ((hold 17 rfl).trans rfl))
            · cases ho
              obtain ⟨b, h2⟩ : ∃ b, s 9 = .slice (some ⟨b, 0, none⟩) 0 0 := hJ.ok 9 (by decide) (by decide) (hdep 9 (by decide))
              have h3 : s 10 = .slice tA tn tc := hJ.ok 10 (by decide) (by decide) (hdep 10 (by decide))
              have hbd := mergeP_bd m
              exact st_append rfl ((hs 9 96 rfl).trans h2) ((hs 10 97 rfl).trans h3) (HONE.out.T.same HSM.out) (by omega) fun v' w' hb hsl => hJ.step HF.out hd (by decide) (by decide) hb (hsl.mono fun k hk => hJ.new hk)
            · cases ho
              exact st_alloc rfl (hJ.alloc HF.out (by decide) hd)
            · cases ho
              exact st_move (.inr rfl) (hJ.step HF.out hd (by decide) (by decide) HBR.out (by rw [hs 1 88 rfl]; exact hJ.ok 1 (by decide) (by decide) (hdep 1 (by decide))))
            · cases ho
              exact st_move (.inr rfl) (hJ.step HF.out hd (by decide) (by decide) HBR.out (by rw [hs 3 90 rfl]; exact hJ.ok 3 (by decide) (by decide) (hdep 3 (by decide))))
            · cases ho
              exact st_move (.inr rfl) (hJ.step HF.out hd (by decide) (by decide) HBR.out (by rw [hs 6 93 rfl]; exact hJ.ok 6 (by decide) (by decide) (hdep 6 (by decide))))
            · cases ho
              have hd8 := hdep 12 (by decide)
              have hd1 := hdep 8 (by decide)
              obtain ⟨b, A', n', c', h8, -, -, hbb, -⟩ := hJ.box hd8
              obtain ⟨SA', sn', sc', h1', -⟩ : ∃ SA n sc, s 8 = .agg #[.slice SA n sc] ∧ Sl Kind.st V (DD w9.heap.size (bxOf 12 d s) V) (.slice SA n sc) (mergeM m) := hJ.ok 8 (by decide) (by decide) hd1
              exact st_store rfl ((hs 12 22 rfl).trans h8) ((hs 8 95 rfl).trans h1') (cells_of hbb 0).1 (cells_of hbb 0).2 (hJ.store HF.out (by decide) (by decide) hd8 hd1 h8 h1' _)
            · cases ho
              exact st_move (.inr rfl) (hJ.step HF.out hd (by decide) (by decide) HBR.out (by rw [hs 11 98 rfl]; exact hJ.ok 11 (by decide) (by decide) (hdep 11 (by decide))))
          · intro d s wc hJ hd
            have hd8 := hd 12 (by decide)
            obtain ⟨kb, A', n', c', h8, hab1, hab2, habb, h1'⟩ := hJ.box hd8
            have h1' := h1' (hd 16 (by decide))
            obtain ⟨S1, s1n, s1c, h1'', hsm⟩ : ∃ SA n sc, s 8 = .agg #[.slice SA n sc] ∧ Sl Kind.st wc (DD w9.heap.size (bxOf 12 d s) wc) (.slice SA n sc) (mergeM m) := hJ.ok 8 (by decide) (by decide) (hd 8 (by decide))
            have hp : Sl Kind.en wc (DD w9.heap.size (bxOf 12 d s) wc) (s 13) (maxOf m) := hJ.ok 13 (by decide) (by decide) (hd 13 (by decide))
            have hq : Sl Kind.en wc (DD w9.heap.size (bxOf 12 d s) wc) (s 14) (insOf m l) := hJ.ok 14 (by decide) (by decide) (hd 14 (by decide))
            have hr : Sl (Kind.int .i64) wc (DD w9.heap.size (bxOf 12 d s) wc) (s 15) (stayOf m l) := hJ.ok 15 (by decide) (by decide) (hd 15 (by decide))
            have ht : Sl (Kind.int .i64) wc (DD w9.heap.size (bxOf 12 d s) wc) (s 17) (mergeP m) := hJ.ok 17 (by decide) (by decide) (hd 17 (by decide))
            rw [h1''] at h1'
            injection h1' with h1'
            injection h1' with h1'
            injection h1' with h1' _
            injection h1' with e1 e2 e3
            subst e1 e2 e3
            obtain ⟨p1A, p1n, p1c, h13⟩ := hp.shape
            obtain ⟨q1A, q1n, q1c, h14⟩ := hq.shape
            obtain ⟨r1A, r1n, r1c, h15⟩ := hr.shape
            obtain ⟨t1A, t1n, t1c, h17⟩ := ht.shape
            obtain ⟨n2, hn2⟩ : ∃ b : Nat, b = wc.heap.size := ⟨_, rfl⟩
            have hdd : ∀ k, DD w9.heap.size (bxOf 12 d s) wc k → w9.heap.size ≤ k ∧ k < n2 := fun k hk => ⟨hk.1.1, by rw [hn2]; exact hk.1.2.1⟩
            have hCP : CopE w9.heap.size n2 kb m l (s 13) (s 14) (s 15) (.slice S1 s1n s1c) (s 17) wc :=
              ⟨⟨hp.mono hdd, hq.mono hdd, hr.mono hdd, hsm.mono hdd, ht.mono hdd⟩, habb, ⟨hab1, by rw [hn2]; exact hab2⟩, Nat.le_of_eq hn2⟩
            rw [h13, h14, h15, h17] at hCP
            have HCPc := Lib.hid hCP
            have HBc := Lib.hid hJ.below
            have HBAc := Lib.hid (HBA9.out.next hJ.below)
            have HZc := Lib.hid hn2
            simp only [putL, Act.put, List.setIfInBounds_toArray, List.set_cons_succ, List.set_cons_zero, Nat.reduceAdd, Nat.zero_add, h8, h13, h14, h15, h17]
            generalize s 0 = z20
            generalize s 1 = z21
            generalize s 2 = z22
            generalize s 3 = z23
            generalize s 4 = z24
            generalize s 5 = z25
            generalize s 6 = z26
            generalize s 7 = z27
            generalize s 8 = z28
            generalize s 9 = z29
            generalize s 10 = z30
            generalize s 11 = z31
            clear hCP h8 h13 h14 h15 h17 h1'' hsm hp hq hr ht habb hab1 hab2 hd8 hJ hd HF hn2 hdd HBA9
            have HDL : Hid (∀ k, DB n0 w9 k → k < wc.heap.size) := Lib.hid fun k hk => Nat.lt_of_lt_of_le hk.2.1 HBc.out.size
            have HONEC := Lib.hid (HONE.out.same (DB.same HBc.out))
            have HUC := Lib.hid ((BoxU.of HUB9.out).next HBc.out)
            have HSF : Hid (∀ k, DB n0 w9 k → Soft wc k) := Lib.hid fun k hk => hk.2.2.same (HBc.out.block k hk.2.1)
            have hbA : Below wc.heap.size wc (wc.alloc (.cells #[] 53)) := (Below.refl _ _).alloc (Nat.le_refl _) _
            have HPA := Lib.hid (HONEC.out.P.same fun k hk => hbA.block k (HDL.out k hk))
            have HBA := Lib.hid hbA
            have hbd1 := (max_bd m).1
            have hbd2 := (ins_bd m l).1
            clear hbA
            go_wp2_with (first
              | ((at_builtin); (refine wpList_appEnds (D := DB n0 w9) rfl _ _ rfl wc.heap.size (.slice A1 es1.length c1) es1 rfl HO1.out _ (insOf m l) rfl HQA.out (by omega) hsP ?_); (intro vq wq es2 he2 hr2 ho2 hg2 ha2); (have hb2 : Below wc.heap.size wc wq := HBP.out.grown hg2 hsP (fun k hk => (HO1.out.lt k hk).1)); (have HBQ := Lib.hid hb2); (have HR2 := Lib.hid (rows_back HBP.out HDL.out hr2)); (have hl2 : (es1 ++ es2).length ≤ 80 := by (have h9 : es2.length = (insOf m l).length := by (rw [← he2, List.length_map])); (rw [List.length_append]; omega)); (have HRW : Hid (∀ e ∈ es1 ++ es2, Sl (Kind.int .i64) wc (DB n0 w9) e.sv e.st ∧ Rows2 wc (DB n0 w9) e.kv e.ks) := Lib.hid fun e he => (List.mem_append.1 he).elim (HR1.out e) (HR2.out e)); (obtain ⟨es, hes⟩ : ∃ es : List EO, es = es1 ++ es2 := ⟨_, rfl⟩); (rw [← hes] at HRW ho2 hl2); (have HO2 := Lib.hid ho2); (obtain ⟨VA, vc, rfl, -, -, -⟩ := own_form ho2); (clear ho2 hg2 ha2 hb2 he2 hr2 hsP hes HR1 HR2 HO1 HBP HBA HPA HQA hl1 hbd1 hbd2))
              | ((at_builtin); (refine wpList_appEnds (D := DB n0 w9) rfl _ _ rfl wc.heap.size (.slice (some ⟨wc.heap.size, 0, none⟩) 0 0) [] rfl (own_empty wc wc.heap.size (Nat.le_refl _) 53 2) _ (maxOf m) rfl HPA.out (by simp; omega) (by simp) ?_); (intro vp wp es1 he1 hr1 ho1 hg1 ha1); (have ho1 : wp.ownsRow wc.heap.size 53 2 vp es1.length (ecells es1) := ho1); (have HO1 := Lib.hid ho1); (have hb1 : Below wc.heap.size wc wp := HBA.out.grown hg1 (by simp) (fun k hk => by cases hk; exact Nat.le_refl _)); (have HBP := Lib.hid hb1); (have HR1 := Lib.hid (rows_back HBA.out HDL.out hr1)); (have hl1 : es1.length ≤ 40 := by (have h9 : es1.length = (maxOf m).length := by (rw [← he1, List.length_map])); omega); (have hsP := hb1.size); (have HQA := Lib.hid (HONEC.out.Q.same fun k hk => hb1.block k (HDL.out k hk))); (obtain ⟨A1, c1, rfl, -, -, -⟩ := own_form ho1); (clear ho1 hg1 ha1 hb1 he1 hr1)))
            go_loopw [105] (fun k W => ∃ (i : Nat), i ≤ es.length ∧ k = .int .i64 (i : Int) ∧ Hid (TurnW (DB n0 w9) wc W) ∧ Hid (W.ownsRow wc.heap.size 53 2 (.slice VA es.length vc) es.length (ecells es))) (fun k _ => es.length - (intOf k).toNat)
            case atStart => exact ⟨0, Nat.zero_le _, rfl, TurnW.start HBQ.out, HO2.out⟩
            case round =>
              obtain ⟨i, hi, rfl, HT, HO⟩ := hrel
              by_cases hlt : i < es.length
              · obtain ⟨⟨sv, kv, st, ks⟩, he⟩ : ∃ e, es[i]? = some e := ⟨_, List.getElem?_eq_getElem hlt⟩
                obtain ⟨ad, rfl, q0, q1⟩ := own_end_at HO.out i _ hlt he
                obtain ⟨hsv, hkv⟩ : Sl (Kind.int .i64) wc (DB n0 w9) sv st ∧ Rows2 wc (DB n0 w9) kv ks := HRW.out _ (List.mem_of_getElem? he)
                obtain ⟨SA, sc, rfl, -, -, -⟩ := hsv.form
                obtain ⟨KA, kc, rfl, g1, g2, -⟩ := hkv.form
                unfold maxLen at g2
                simp only at q0 q1
                obtain ⟨wo, rfl⟩ : ∃ wo : World, wo = wr := ⟨_, rfl⟩
                have hba : Below wo.heap.size wo (wo.alloc (.cells #[.slice SA st.length sc, .slice KA ks.length kc] 53)) := (Below.refl _ _).alloc (Nat.le_refl _) _
                have HTA := Lib.hid (HT.out.next (hba.mono HT.out.size))
                have HOA := Lib.hid (own_below HO.out hba)
                have HKV := Lib.hid hkv
                obtain ⟨xs', hx', -⟩ := HTA.out.ints HDL.out hsv
                have HX' := Lib.hid hx'
                have hbx := heap_alloc_new wo (.cells #[.slice SA st.length sc, .slice KA ks.length kc] 53)
                have HBX := Lib.hid hbx
                have b0 := (cells_of hbx 0).1
                have b1 := (cells_of hbx 1).1
                have HWO : Hid (wc.heap.size ≤ wo.heap.size) := Lib.hid HT.out.size
                clear hba hsv hkv hx' hbx he
                go_wp2_with ((go_at_call 66); (refine (spoil8_calls xs' _ (DB n0 w9) _ HX'.out (HTA.out.soft HDL.out HSF.out)).mono ?_); (rintro e wz ⟨rfl, hz⟩); (have HTZ := Lib.hid (HTA.out.turn HDL.out hz)); (have HOZ := Lib.hid (own_turned HOA.out HDL.out hz)); (have hbz := (hz.out wo.heap.size (fun hd => by have := HDL.out _ hd; have := HWO.out; omega)).trans HBX.out); (have z1 := (cells_of hbz 1).1); (clear hz hbz b0 b1 q0 q1))
                go_loopw [115] (fun k W => ∃ (r : Nat), r ≤ ks.length ∧ k = .int .i64 (r : Int) ∧ Hid (Turned (DB n0 w9) wz W)) (fun k _ => ks.length - (intOf k).toNat)
                case atStart => exact ⟨0, Nat.zero_le _, rfl, Turned.refl _ _⟩
                case round =>
                  obtain ⟨r, hr, rfl, HT2⟩ := hrel
                  by_cases hlt2 : r < ks.length
                  · obtain ⟨yss, hR, hyl⟩ := (HTZ.out.turn HDL.out HT2.out).rows HDL.out HKV.out
                    obtain ⟨ys, hy⟩ : ∃ ys, yss[r]? = some ys := ⟨_, List.getElem?_eq_getElem (by omega)⟩
                    obtain ⟨ad2, u2, rfl, -, hcu, hu⟩ := hR.at' r ys hy
                    have HU := Lib.hid hu
                    have HSO : Hid (∀ k, DB n0 w9 k → Soft wr k) := Lib.hid ((HTZ.out.turn HDL.out HT2.out).soft HDL.out HSF.out)
                    clear hR hyl hy hu
                    go_wp2_with ((go_at_call 66); (refine (spoil8_calls ys _ (DB n0 w9) _ HU.out HSO.out).mono ?_); (rintro e wy ⟨rfl, hz⟩); (have HTY := Lib.hid (HT2.out.trans hz)); (clear hz hcu))
                    exact ⟨⟨r + 1, by omega, by go_num, HTY.out⟩, by simp [intOf]; omega⟩
                  · obtain rfl : r = ks.length := by omega
                    clear hlt2
                    go_wp2
                    exact ⟨⟨i + 1, by omega, by go_num, HTZ.out.turn HDL.out HT2.out, own_turned HOZ.out HDL.out HT2.out⟩, by simp [intOf]; omega⟩
              · obtain rfl : i = es.length := by omega
                clear hlt hi HO
                obtain ⟨rs, hrs, -⟩ := HT.out.ints HDL.out HONEC.out.R
                have HRS := Lib.hid hrs
                have HSO := Lib.hid (HT.out.soft HDL.out HSF.out)
                have HUL9 : Hid (ub < w9.heap.size) := Lib.hid (Array.getElem?_eq_some_iff.1 HUB9.out).1
                clear hrs
                go_wp2_with fail
                refine (spoil8_calls rs _ (DB n0 w9) _ HRS.out HSO.out).mono ?_
                rintro e w10 ⟨rfl, ht10⟩
                have HT10 := Lib.hid (HT.out.turn HDL.out ht10)
                obtain ⟨ts, hts, -⟩ := HT10.out.ints HDL.out HONEC.out.T
                have HTS := Lib.hid hts
                have HSO1 := Lib.hid (HT10.out.soft HDL.out HSF.out)
                clear ht10 hts HT HRS HSO
                go_wp2_with fail
                refine (spoil8_calls ts _ (DB n0 w9) _ HTS.out HSO1.out).mono ?_
                rintro e w11 ⟨rfl, ht11⟩
                have HT11 := Lib.hid (HT10.out.turn HDL.out ht11)
                have HU11 := Lib.hid (HUC.out.turnedW HT11.out)
                have e11 := HU11.out.1
                obtain ⟨mu, hmu, -⟩ := HT11.out.firm st_firm HDL.out HONEC.out.S
                have HMU := Lib.hid hmu
                have HSO2 := Lib.hid (HT11.out.soft HDL.out HSF.out)
                have HLO2 : Hid (Lo (DB n0 w9) w11) := Lib.hid fun k hk => Nat.lt_of_lt_of_le (HDL.out k hk) HT11.out.size
                clear ht11 hmu HT10 HTS HSO1
                go_wp2_with fail
                refine (Spoil_calls mu _ (DB n0 w9) w11 HLO2.out ⟨_, rfl, HMU.out⟩ HSO2.out).mono ?_
                rintro e w17 ⟨rfl, ob, ht17⟩
                have HT17 := Lib.hid ((HT11.out.next (((Below.refl w11.heap.size w11).alloc (Nat.le_refl _) ob).mono HT11.out.size)).turn HDL.out ht17)
                have hn0c : n0 ≤ wc.heap.size := HBAc.out.size
                have HBA17 := Lib.hid (HBAc.out.kept HT17.out.size (fun k hk => HT17.out.block (fun hd => by have := hd.1; omega) (Nat.lt_of_lt_of_le hk hn0c)) (HBAc.out.below.trans ((HT17.out.below (fun k hk => hk.1) hn0c).mono (Nat.le_of_lt (Nat.lt_of_succ_lt HBAc.out.wn)))))
                have HCP17 := Lib.hid (HCPc.out.kept (fun k h1 h2 => HT17.out.block (fun hd => by have := hd.2.1; omega) (by have := HZc.out; omega)) HT17.out.size)
                have HUX17 := Lib.hid (HUC.out.turnedW HT17.out)
                have c17 := HBA17.out.cell
                have a17 := HBA17.out.acell
                clear ht17 hn0c e11 HT11 HU11 HMU HSO2 HLO2 HT17 HBAc HBc HBQ HCPc HONE HONEC HUC HSF HDL HRW HO2 HZc HUB9
                go_wp2_with fail
                refine (Identical_calls m _ _ (· < n0) w17 HBA17.out.lo HBA17.out.M HBA17.out.AM).mono ?_
                rintro e w18 ⟨rfl, hb18⟩
                have HBA18 := Lib.hid (HBA17.out.next hb18)
                have HCP18 := Lib.hid (HCP17.out.next hb18)
                have HUX18 := Lib.hid (HUX17.out.next hb18)
                clear c17 a17 hb18 HBA17 HCP17 HUX17
                go_wp2_with fail
                refine (List2_calls l l _ _ (· < n0) w18 HBA18.out.L HBA18.out.BL).mono ?_
                rintro e w19 ⟨he, hd⟩
                rw [decide_eq_true rfl] at he
                subst he
                have hb19 := hd.below w18.heap.size
                have HBA19 := Lib.hid (HBA18.out.next hb19)
                have HCP19 := Lib.hid (HCP18.out.next hb19)
                have HUX19 := Lib.hid (HUX18.out.next hb19)
                obtain ⟨y0, y1⟩ := HBA19.out.xcell
                clear hb19 hd HBA18 HCP18 HUX18
                go_wp2_with fail
                have hb20 : Below w19.heap.size w19 (w19.alloc (.cells #[.slice XA x.1.length xc, .slice KA x.2.length kc] 53)) := (Below.refl _ _).alloc (Nat.le_refl _) _
                have hl20 := heap_alloc_new w19 (.cells #[.slice XA x.1.length xc, .slice KA x.2.length kc] 53)
                have hz20 : w19.heap.size < (w19.alloc (.cells #[.slice XA x.1.length xc, .slice KA x.2.length kc] 53)).heap.size := by simp
                obtain ⟨xb, hxb⟩ : ∃ b : Nat, b = w19.heap.size := ⟨_, rfl⟩
                obtain ⟨w20, hw20⟩ : ∃ W : World, W = w19.alloc (.cells #[.slice XA x.1.length xc, .slice KA x.2.length kc] 53) := ⟨_, rfl⟩
                rw [← hw20] at hb20 hl20 hz20
                rw [← hxb] at hl20 hz20
                rw [← hw20, ← hxb]
                clear hw20 hxb y0 y1
                have HBA20 := Lib.hid (HBA19.out.next hb20)
                have HCP20 := Lib.hid (HCP19.out.next hb20)
                have HUX20 := Lib.hid (HUX19.out.next hb20)
                clear hb20 HBA19 HCP19 HUX19
                have hx20 := en1_of_block (D := (· < w20.heap.size)) hl20 hz20 (HBA20.out.X.mono HBA20.out.lo) (HBA20.out.XK.mono HBA20.out.lo)
                have HX20 := Lib.hid hx20
                clear hl20 hz20 hx20
                refine (same8_calls [x] _ (· < w20.heap.size) w20 (fun _ h => h) HX20.out (by simp)).mono ?_
                rintro e w21 ⟨sv1, rfl, hb21, hs21⟩
                have SA21 := Lib.hid hs21
                have HBA21 := Lib.hid (HBA20.out.next hb21)
                have HCP21 := Lib.hid (HCP20.out.next hb21)
                have HUX21 := Lib.hid (HUX20.out.next hb21)
                clear hb21 HBA20 HCP20 HUX20 hs21 HX20
                go_wp2_with fail
                refine (same8_calls [x] _ (· < n0) w21 HBA21.out.lo HBA21.out.CX (by simp)).mono ?_
                rintro e w22 ⟨sv2, rfl, hb22, hs22⟩
                have SB22 := Lib.hid hs22
                have HBA22 := Lib.hid (HBA21.out.next hb22)
                have HCP22 := Lib.hid (HCP21.out.next hb22)
                have HUX22 := Lib.hid (HUX21.out.next hb22)
                have SA22 := Lib.hid (Sl.on SA21.out hb22)
                clear hb22 HBA21 HCP21 HUX21 SA21 hs22
                go_wp2_with fail
                refine (Same_calls [x] [x] _ _ _ _ w22 SA22.out SB22.out).mono ?_
                rintro e w23 ⟨he, hd⟩
                rw [decide_eq_true rfl] at he
                subst he
                have hb23 := hd.below w22.heap.size
                have HBA23 := Lib.hid (HBA22.out.next hb23)
                have HCP23 := Lib.hid (HCP22.out.next hb23)
                have HUX23 := Lib.hid (HUX22.out.next hb23)
                clear hb23 HBA22 HCP22 HUX22 hd SA22 SB22
                have c23 := HBA23.out.cell
                have HUS := Lib.hid (show ub < w23.heap.size from HUX23.out.2.2)
                go_wp2_with fail
                refine (Maximal_calls m _ (· < n0) w23 HBA23.out.lo HBA23.out.M).mono ?_
                rintro e w24 ⟨pv2, rfl, hb24, hx24⟩
                have P24 := Lib.hid hx24
                obtain ⟨p2A, p2n, p2c, rfl⟩ := hx24.shape
                have Z24 := Lib.hid hb24.size
                have HBA24 := Lib.hid (HBA23.out.next hb24)
                have HCP24 := Lib.hid (HCP23.out.next hb24)
                have HUX24 := Lib.hid (HUX23.out.next hb24)
                clear hb24 HBA23 HCP23 HUX23 hx24 c23
                have c24 := HBA24.out.cell
                go_wp2_with fail
                refine (Inside_calls m l _ _ (· < n0) w24 HBA24.out.lo HBA24.out.M HBA24.out.L).mono ?_
                rintro e w25 ⟨qv2, rfl, hb25, hx25⟩
                have Q25 := Lib.hid hx25
                obtain ⟨q2A, q2n, q2c, rfl⟩ := hx25.shape
                have Z25 := Lib.hid hb25.size
                have HBA25 := Lib.hid (HBA24.out.next hb25)
                have HCP25 := Lib.hid (HCP24.out.next hb25)
                have HUX25 := Lib.hid (HUX24.out.next hb25)
                have P25 := Lib.hid (P24.out.carry hb25)
                clear hb25 HBA24 HCP24 HUX24 P24 hx25 c24
                have c25 := HBA25.out.cell
                go_wp2_with fail
                refine (Stay_calls m l _ _ (· < n0) w25 HBA25.out.lo HBA25.out.M HBA25.out.L).mono ?_
                rintro e w26 ⟨rv2, rfl, hb26, hx26⟩
                have R26 := Lib.hid hx26
                obtain ⟨r2A, r2n, r2c, rfl⟩ := hx26.shape
                have Z26 := Lib.hid hb26.size
                have HBA26 := Lib.hid (HBA25.out.next hb26)
                have HCP26 := Lib.hid (HCP25.out.next hb26)
                have HUX26 := Lib.hid (HUX25.out.next hb26)
                have P26 := Lib.hid (P25.out.carry hb26)
                have Q26 := Lib.hid (Q25.out.carry hb26)
                clear hb26 HBA25 HCP25 HUX25 P25 Q25 hx26 c25
                have c26 := HBA26.out.cell
                
                go_wp2_with fail
                refine (Merge_calls m _ (· < n0) w26 HBA26.out.lo HBA26.out.M).mono ?_
                rintro e w27 ⟨uv2, tv2, rfl, hb27, hx27, ht27⟩
                have U27 := Lib.hid hx27
                have T27 := Lib.hid ht27
                obtain ⟨u2A, u2n, u2c, rfl⟩ := hx27.shape
                obtain ⟨t2A, t2n, t2c, rfl⟩ := ht27.shape
                have HBA27 := Lib.hid (HBA26.out.next hb27)
                have HCP27 := Lib.hid (HCP26.out.next hb27)
                have HUX27 := Lib.hid (HUX26.out.next hb27)
                have P27 := Lib.hid (P26.out.carry hb27)
                have Q27 := Lib.hid (Q26.out.carry hb27)
                have R27 := Lib.hid (R26.out.carry hb27)
                clear hb27 HBA26 HCP26 HUX26 P26 Q26 R26 hx27 ht27 c26
                have hu23 : ub < w23.heap.size := HUS.out
                have hu24 : ub < w24.heap.size := Nat.lt_of_lt_of_le hu23 Z24.out
                have hu25 : ub < w25.heap.size := Nat.lt_of_lt_of_le hu24 Z25.out
                have hu26 : ub < w26.heap.size := Nat.lt_of_lt_of_le hu25 Z26.out
                have P28 := Lib.hid (Sl.box (u := .slice u2A u2n u2c) P27.out hu23)
                have Q28 := Lib.hid (Sl.box (u := .slice u2A u2n u2c) Q27.out hu24)
                have R28 := Lib.hid (Sl.box (u := .slice u2A u2n u2c) R27.out hu25)
                have U28 := Lib.hid (Sl.box (u := .slice u2A u2n u2c) U27.out hu26)
                have T28 := Lib.hid (Sl.box (u := .slice u2A u2n u2c) T27.out hu26)
                have e27 := HUX27.out.1
                have f27 := HUX27.out.2.1
                have hs28 : (w27.setCell ⟨ub, 0, none⟩ (.slice u2A u2n u2c)).heap.size = w27.heap.size := by simp [World.setCell]
                have hnu := HNU.out
                have hwn := HBA27.out.wn
                have HBA28 := Lib.hid (HBA27.out.kept (W' := w27.setCell ⟨ub, 0, none⟩ (.slice u2A u2n u2c)) (Nat.le_of_eq hs28.symm) (fun k hk => Below.heap_setCell _ _ _ _ (fun e => by have e : k = ub := e; omega)) (HBA27.out.below.trans (below_set (by omega))))
                have HCP28 := Lib.hid (HCP27.out.kept (W' := w27.setCell ⟨ub, 0, none⟩ (.slice u2A u2n u2c)) (fun k h1 h2 => Below.heap_setCell _ _ _ _ (fun e => by have e : k = ub := e; have := HUL9.out; omega)) (Nat.le_of_eq hs28.symm))
                have HUX28 := Lib.hid (BoxU.set (v := .slice u2A u2n u2c) HUX27.out)
                clear P27 Q27 R27 U27 T27 HBA27 HCP27 HUX27 hu23 hu24 hu25 hu26 hnu hwn hs28 Z24 Z25 Z26 HUS
                go_wp2_with fail
                clear e27 f27
                obtain ⟨w28, hw28⟩ : ∃ W : World, W = w27.setCell ⟨ub, 0, none⟩ (.slice u2A u2n u2c) := ⟨_, rfl⟩
                rw [← hw28] at P28 Q28 R28 U28 T28 HBA28 HCP28 HUX28
                rw [← hw28]
                clear hw28
                refine (same8_calls (maxOf m) _ (· < w28.heap.size) w28 (fun _ h => h) P28.out (by have := (max_bd m).1; omega)).mono ?_
                rintro e w29 ⟨va29, rfl, hb29, hs29⟩
                have SA29 := Lib.hid hs29
                have HBA29 := Lib.hid (HBA28.out.next hb29)
                have HCP29 := Lib.hid (HCP28.out.next hb29)
                have HUX29 := Lib.hid (HUX28.out.next hb29)
                have Q29 := Lib.hid (Sl.on Q28.out hb29)
                have R29 := Lib.hid (Sl.on R28.out hb29)
                have U29 := Lib.hid (Sl.on U28.out hb29)
                have T29 := Lib.hid (Sl.on T28.out hb29)
                clear hb29 HBA28 HCP28 HUX28 Q28 R28 U28 T28 hs29 P28
                go_wp2_with fail
                refine (same8_calls (maxOf m) _ (· < w29.heap.size) w29 (fun _ h => h) HCP29.out.all.P (by have := (max_bd m).1; omega)).mono ?_
                rintro e w30 ⟨vb30, rfl, hb30, hs30⟩
                have SB30 := Lib.hid hs30
                have HBA30 := Lib.hid (HBA29.out.next hb30)
                have HCP30 := Lib.hid (HCP29.out.next hb30)
                have HUX30 := Lib.hid (HUX29.out.next hb30)
                have Q30 := Lib.hid (Sl.on Q29.out hb30)
                have R30 := Lib.hid (Sl.on R29.out hb30)
                have U30 := Lib.hid (Sl.on U29.out hb30)
                have T30 := Lib.hid (Sl.on T29.out hb30)
                have SA30 := Lib.hid (Sl.on SA29.out hb30)
                clear hb30 HBA29 HCP29 HUX29 Q29 R29 U29 T29 SA29 hs30
                go_wp2_with fail
                refine (Same_calls (maxOf m) (maxOf m) _ _ _ _ w30 SA30.out SB30.out).mono ?_
                rintro e w31 ⟨he, hd⟩
                rw [decide_eq_true rfl] at he
                subst he
                have hb31 := hd.below w30.heap.size
                have HBA31 := Lib.hid (HBA30.out.next hb31)
                have HCP31 := Lib.hid (HCP30.out.next hb31)
                have HUX31 := Lib.hid (HUX30.out.next hb31)
                have Q31 := Lib.hid (Sl.on Q30.out hb31)
                have R31 := Lib.hid (Sl.on R30.out hb31)
                have U31 := Lib.hid (Sl.on U30.out hb31)
                have T31 := Lib.hid (Sl.on T30.out hb31)
                clear hb31 HBA30 HCP30 HUX30 Q30 R30 U30 T30 hd SA30 SB30
                go_wp2_with fail
                refine (same8_calls (insOf m l) _ (· < w31.heap.size) w31 (fun _ h => h) Q31.out (by have := (ins_bd m l).1; omega)).mono ?_
                rintro e w32 ⟨va32, rfl, hb32, hs32⟩
                have SA32 := Lib.hid hs32
                have HBA32 := Lib.hid (HBA31.out.next hb32)
                have HCP32 := Lib.hid (HCP31.out.next hb32)
                have HUX32 := Lib.hid (HUX31.out.next hb32)
                have R32 := Lib.hid (Sl.on R31.out hb32)
                have U32 := Lib.hid (Sl.on U31.out hb32)
                have T32 := Lib.hid (Sl.on T31.out hb32)
                clear hb32 HBA31 HCP31 HUX31 R31 U31 T31 hs32 Q31
                go_wp2_with fail
                refine (same8_calls (insOf m l) _ (· < w32.heap.size) w32 (fun _ h => h) HCP32.out.all.Q (by have := (ins_bd m l).1; omega)).mono ?_
                rintro e w33 ⟨vb33, rfl, hb33, hs33⟩
                have SB33 := Lib.hid hs33
                have HBA33 := Lib.hid (HBA32.out.next hb33)
                have HCP33 := Lib.hid (HCP32.out.next hb33)
                have HUX33 := Lib.hid (HUX32.out.next hb33)
                have R33 := Lib.hid (Sl.on R32.out hb33)
                have U33 := Lib.hid (Sl.on U32.out hb33)
                have T33 := Lib.hid (Sl.on T32.out hb33)
                have SA33 := Lib.hid (Sl.on SA32.out hb33)
                clear hb33 HBA32 HCP32 HUX32 R32 U32 T32 SA32 hs33
                go_wp2_with fail
                refine (Same_calls (insOf m l) (insOf m l) _ _ _ _ w33 SA33.out SB33.out).mono ?_
                rintro e w34 ⟨he, hd⟩
                rw [decide_eq_true rfl] at he
                subst he
                have hb34 := hd.below w33.heap.size
                have HBA34 := Lib.hid (HBA33.out.next hb34)
                have HCP34 := Lib.hid (HCP33.out.next hb34)
                have HUX34 := Lib.hid (HUX33.out.next hb34)
                have R34 := Lib.hid (Sl.on R33.out hb34)
                have U34 := Lib.hid (Sl.on U33.out hb34)
                have T34 := Lib.hid (Sl.on T33.out hb34)
                clear hb34 HBA33 HCP33 HUX33 R33 U33 T33 hd SA33 SB33
                go_wp2_with fail
                refine (List2_calls (stayOf m l) (stayOf m l) _ _ _ w34 R34.out HCP34.out.all.R).mono ?_
                rintro e w35 ⟨he, hd⟩
                rw [decide_eq_true rfl] at he
                subst he
                have hb35 := hd.below w34.heap.size
                have HBA35 := Lib.hid (HBA34.out.next hb35)
                have HCP35 := Lib.hid (HCP34.out.next hb35)
                have HUX35 := Lib.hid (HUX34.out.next hb35)
                have U35 := Lib.hid (Sl.on U34.out hb35)
                have T35 := Lib.hid (Sl.on T34.out hb35)
                clear hb35 HBA34 HCP34 HUX34 U34 T34 hd R34
                have e35 := HUX35.out.1
                have k35 := HCP35.out.cell
                go_wp2_with fail
                refine (Identical_calls (mergeM m) _ _ (· < w35.heap.size) w35 (fun _ hk => hk) ⟨_, rfl, U35.out⟩ ⟨_, rfl, HCP35.out.all.S⟩).mono ?_
                rintro e w36 ⟨rfl, hb36⟩
                have HBA36 := Lib.hid (HBA35.out.next hb36)
                have HCP36 := Lib.hid (HCP35.out.next hb36)
                have T36 := Lib.hid (Sl.on T35.out hb36)
                clear hb36 HBA35 HCP35 T35 e35 k35 U35 HUX35
                go_wp2_with fail
                refine (List2_calls (mergeP m) (mergeP m) _ _ _ w36 T36.out HCP36.out.all.T).mono ?_
                rintro e w37 ⟨he, hd⟩
                rw [decide_eq_true rfl] at he
                subst he
                have hb37 := hd.below w36.heap.size
                have HBA37 := Lib.hid (HBA36.out.next hb37)
                have HCP37 := Lib.hid (HCP36.out.next hb37)
                clear hb37 HBA36 HCP36 hd T36
                go_wp2_with fail
                refine (awake8_calls w37).mono ?_
                rintro e w38 ⟨rfl, hb38⟩
                have HBZ := Lib.hid (HBA37.out.next hb38)
                clear hb38 HBA37 HCP37
                go_wp2
                go_ret
                exact ⟨rfl, HBZ.out.below⟩
      · have hdec : decide ((x.2.length : Int) > 60) = true := decide_eq_true (by omega)
        go_wp2_with fail
        refine (awake8_calls w2).mono ?_
        rintro e w3 ⟨rfl, hb3⟩
        go_wp2
        go_ret
        exact ⟨rfl, HB2.out.trans (hb3.mono HB2.out.size)⟩

end Go.Proofs.YtoffbdlgmnpblaaGreat
