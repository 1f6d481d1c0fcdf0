/- Part 31: Enl. -/
import Derived.Test.YtoffbdlgmnpblaaGreatJ30

/- Package ends: Merge. -/
namespace Go.Proofs.YtoffbdlgmnpblaaGreat
open Go.RowKit
set_option maxHeartbeats 40000000
set_option maxRecDepth 100000

theorem sortE_mem {l : List Endp} : ∀ e ∈ sortE l, e ∈ l := by
  intro e he
  unfold sortE sortN at he
  split at he
  · obtain ⟨i, -, rfl⟩ := List.mem_map.1 he
    exact List.getElem_mem _
  · cases he
/-- the ends that are found fit Merge -/
theorem found_fit {m : List St} (hf : Fine m) (hp : 0 < m.length) : ∀ e ∈ foundOf m, Enp.Good m.length e.1 ∧ e.2.length = e.1.length ∧ ∀ ks ∈ e.2, ks.length ≤ 8 := by
  intro e he
  have h1 := sortE_mem e he
  have h2 := (Enp.runI_good (ends_fit hf) (all_good hp)).2 e h1
  have h3 := Enp.runI_cho _ e h1
  refine ⟨h2, ?_, ?_⟩
  · rw [h3]; unfold staysL; rw [List.length_map]
  · intro ks hks
    rw [h3] at hks
    obtain ⟨s, -, rfl⟩ := List.mem_map.1 hks
    exact staysOf_len hf _ _

theorem merge_none {m : List St} (hv : validB m = true) (h : mergeR m = none) : mergeM m = [] ∧ mergeP m = [] ∧ mergeE m = 3 := by
  unfold mergeM mergeP mergeE
  rw [hv, h]
  exact ⟨rfl, rfl, rfl⟩
theorem merge_some {m : List St} {ss : List St} (hv : validB m = true) (h : mergeR m = some ss) : mergeM m = ss ∧ mergeP m = (plTo (foundOf m) m.length m.length).1 ∧ mergeE m = 0 := by
  unfold mergeM mergeP mergeE
  rw [hv, h]
  exact ⟨rfl, rfl, rfl⟩
theorem merge_bad {m : List St} (hv : validB m = false) : mergeM m = [] ∧ mergeP m = [] ∧ mergeE m = 1 := by
  unfold mergeM mergeP mergeE
  rw [hv]
  exact ⟨rfl, rfl, rfl⟩
theorem group_none {m : List St} {pl : List Int} {g : Nat} {e : Endp} (h : layCh pl (itemsZ m (e.1.zip e.2)) [] = none) : groupSt m pl g e = none := by unfold groupSt; rw [h]
theorem group_many {m : List St} {pl : List Int} {g : Nat} {e : Endp} {cs : List Ch} (h : layCh pl (itemsZ m (e.1.zip e.2)) [] = some cs) (h8 : 8 < cs.length) : groupSt m pl g e = none := by
  unfold groupSt; rw [h]
  simp only
  rw [if_neg (show ¬ cs.length = 0 by omega), if_pos h8]
theorem group_some {m : List St} {pl : List Int} {g : Nat} {e : Endp} {cs : List Ch} (h : layCh pl (itemsZ m (e.1.zip e.2)) [] = some cs) (h0 : ¬ cs.length = 0) (h8 : ¬ 8 < cs.length) : groupSt m pl g e = some ⟨(stAt m (e.1.getD 0 0)).owner, (stAt m (e.1.getD 0 0)).mark, cs⟩ := by
  unfold groupSt; rw [h]
  simp only
  rw [if_neg h0, if_neg h8]
theorem group_loop {m : List St} {pl : List Int} {g : Nat} {e : Endp} (h : layCh pl (itemsZ m (e.1.zip e.2)) [] = some []) : groupSt m pl g e = some ⟨(stAt m (e.1.getD 0 0)).owner, (stAt m (e.1.getD 0 0)).mark, [loopCh g]⟩ := by
  unfold groupSt; rw [h]
  rfl

theorem brsOk_valid {n : Int} : ∀ {last : Int} {l : List Br}, brsOk n last l = true → ∀ b ∈ l, validN b.ch.top b.ch.low = true := by
  intro last l
  induction l generalizing last with
  | nil => intro _ b hb; cases hb
  | cons a l ih =>
    intro h b hb
    simp only [brsOk, Bool.and_eq_true] at h
    rcases List.mem_cons.1 hb with rfl | hb
    · exact h.1.2
    · exact ih h.2 b hb
theorem valid_chances {m : List St} (h : validB m = true) : ∀ s ∈ m, ∀ c ∈ s.chs, ∀ b ∈ c.brs, validN b.ch.top b.ch.low = true := by
  intro s hs c hc
  unfold validB at h
  simp only [Bool.and_eq_true, List.all_eq_true] at h
  have h1 := h.2 s hs
  unfold stB at h1
  simp only [Bool.and_eq_true, List.all_eq_true] at h1
  have h2 := h1.2 c hc
  unfold choiceB at h2
  simp only [Bool.and_eq_true] at h2
  exact brsOk_valid h2.2.2.1

/-- what is loaded of the first state of a group -/
abbrev FirstH (mb eb : Nat) (mv sv : Value) (sa : Addr) (f : Value) (a b d : Addr) (x y z : Value) (V : World) : Prop :=
  V.cell? ⟨mb, 0, none⟩ = some mv ∧ V.cell? ⟨eb, 0, none⟩ = some sv ∧ V.cell? sa = some f ∧ V.cell? a = some x ∧ V.cell? b = some y ∧ V.cell? d = some z
theorem firstH_of {mb eb : Nat} {mv sv : Value} {sa : Addr} {f : Value} {a b d : Addr} {x y z : Value} {W V : World} (h : FirstH mb eb mv sv sa f a b d x y z W) (hb : Below W.heap.size W V) : FirstH mb eb mv sv sa f a b d x y z V := by
  obtain ⟨h1, h2, h3, h4, h5, h6⟩ := h
  exact ⟨(hb.cell (cell_lt h1)).trans h1, (hb.cell (cell_lt h2)).trans h2, (hb.cell (cell_lt h3)).trans h3, (hb.cell (cell_lt h4)).trans h4, (hb.cell (cell_lt h5)).trans h5, (hb.cell (cell_lt h6)).trans h6⟩
theorem below_set3 {n kb : Nat} {w0 W : World} {u v x : Value} (h : Below n w0 W) (hk : n ≤ kb) : Below n w0 (((W.setCell ⟨kb, 0, none⟩ u).setCell ⟨kb, 1, none⟩ v).setCell ⟨kb, 2, none⟩ x) :=
  ((h.setCell (p := ⟨kb, 0, none⟩) hk u).setCell (p := ⟨kb, 1, none⟩) hk v).setCell (p := ⟨kb, 2, none⟩) hk x

/-- an end that was found -/
structure EAt (w : World) (pb : Nat) (gv : Value) (W : World) (ad : Addr) (j : Nat) (SA : Option Addr) (sc : Nat) (KA : Option Addr) (kc : Nat) (x : Endp) : Prop where
  dd : ND w pb gv W ad.block
  c0 : W.cell? (ad.add (j * 2)) = some (.slice SA x.1.length sc)
  c1 : W.cell? ⟨(ad.add (j * 2)).block, (ad.add (j * 2)).off + 1, none⟩ = some (.slice KA x.2.length kc)
  hs : Sl (Kind.int .i64) W (ND w pb gv W) (.slice SA x.1.length sc) x.1
  hk : Rows2 W (ND w pb gv W) (.slice KA x.2.length kc) x.2
section
variable {w : World} {pb : Nat} {gv : Value} {W W' : World} {ad : Addr} {j : Nat} {SA : Option Addr} {sc : Nat} {KA : Option Addr} {kc : Nat} {x : Endp}
theorem EAt.kept (h : EAt w pb gv W ad j SA sc KA kc x) (hs : Same (ND w pb gv W) W W') (hm : ∀ k, ND w pb gv W k → ND w pb gv W' k) : EAt w pb gv W' ad j SA sc KA kc x :=
  ⟨hm _ h.dd, (World.cell?_of_block (hs _ (by rw [block_of_add]; exact h.dd))).trans h.c0, (World.cell?_of_block (hs _ (by show ND w pb gv W (ad.add (j * 2)).block; rw [block_of_add]; exact h.dd))).trans h.c1, (h.hs.same hs).mono hm, (h.hk.same hs).mono hm⟩
theorem EAt.next (h : EAt w pb gv W ad j SA sc KA kc x) (hb : Below W.heap.size W W') : EAt w pb gv W' ad j SA sc KA kc x := h.kept (ND.same hb) fun _ hk => ND.next hk hb
theorem EAt.put (h : EAt w pb gv W ad j SA sc KA kc x) (t : Nat) (v : Value) : EAt w pb gv (W.setCell ⟨pb, t, none⟩ v) ad j SA sc KA kc x := h.kept (ND.samePut t v) fun _ hk => ND.put hk t v
end

/-- a group of one state -/
theorem MgA.three {mv ev : Value} {l : List Endp} {w : World} {pb : Nat} {W : World} {gv : Value} {es : List EO} {pl : List Int} (h : MgA mv l ev w pb W gv es pl) (q : Int) :
    ∃ W8 : World, W8 = (((W.alloc (.cells #[.int .i64 q] 3)).alloc (.cells #[.slice none 0 0] 31)).alloc (.cells #[.slice (some ⟨W.heap.size, 0, none⟩) 1 1, .slice (some ⟨W.heap.size + 1, 0, none⟩) 1 1] 53)) ∧
      MgA mv l ev w pb W8 gv es pl ∧ W8.heap[W.heap.size + 1 + 1]? = some (.cells #[.slice (some ⟨W.heap.size, 0, none⟩) 1 1, .slice (some ⟨W.heap.size + 1, 0, none⟩) 1 1] 53 (0, 0)) ∧
      Sl (Kind.int .i64) W8 (ND w pb gv W8) (.slice (some ⟨W.heap.size, 0, none⟩) 1 1) [q] ∧ Rows2 W8 (ND w pb gv W8) (.slice (some ⟨W.heap.size + 1, 0, none⟩) 1 1) [[]] ∧ W.heap.size ≤ W8.heap.size := by
  refine ⟨_, rfl, ?_⟩
  have hb := allocs_below [.cells #[.int .i64 q] 3, .cells #[.slice none 0 0] 31, .cells #[.slice (some ⟨W.heap.size, 0, none⟩) 1 1, .slice (some ⟨W.heap.size + 1, 0, none⟩) 1 1] 53] W
  have e0 := allocs_at [.cells #[.int .i64 q] 3, .cells #[.slice none 0 0] 31, .cells #[.slice (some ⟨W.heap.size, 0, none⟩) 1 1, .slice (some ⟨W.heap.size + 1, 0, none⟩) 1 1] 53] W 0 _ rfl
  have e1 := allocs_at [.cells #[.int .i64 q] 3, .cells #[.slice none 0 0] 31, .cells #[.slice (some ⟨W.heap.size, 0, none⟩) 1 1, .slice (some ⟨W.heap.size + 1, 0, none⟩) 1 1] 53] W 1 _ rfl
  have e2 := allocs_at [.cells #[.int .i64 q] 3, .cells #[.slice none 0 0] 31, .cells #[.slice (some ⟨W.heap.size, 0, none⟩) 1 1, .slice (some ⟨W.heap.size + 1, 0, none⟩) 1 1] 53] W 2 _ rfl
  have hz := allocs_size [.cells #[.int .i64 q] 3, .cells #[.slice none 0 0] 31, .cells #[.slice (some ⟨W.heap.size, 0, none⟩) 1 1, .slice (some ⟨W.heap.size + 1, 0, none⟩) 1 1] 53] W
  simp only [List.length_cons, List.length_nil, Nat.add_zero] at hz e0
  have hd0 := h.fresh (W' := allocs W [.cells #[.int .i64 q] 3, .cells #[.slice none 0 0] 31, .cells #[.slice (some ⟨W.heap.size, 0, none⟩) 1 1, .slice (some ⟨W.heap.size + 1, 0, none⟩) 1 1] 53]) (k := W.heap.size) (Nat.le_refl _) (by omega) (soft_of_block e0)
  have hd1 := h.fresh (W' := allocs W [.cells #[.int .i64 q] 3, .cells #[.slice none 0 0] 31, .cells #[.slice (some ⟨W.heap.size, 0, none⟩) 1 1, .slice (some ⟨W.heap.size + 1, 0, none⟩) 1 1] 53]) (k := W.heap.size + 1) (by omega) (by omega) (soft_of_block e1)
  refine ⟨h.next hb, e2, ints_of_block [q] e0 hd0 rfl (by decide) rfl, rows_of_block [.slice none 0 0] [[]] e1 hd1 rfl rfl (by decide) rfl fun j a xs ha hx => ?_, hb.size⟩
  cases j with
  | zero => simp at ha hx; subst ha hx; exact Sl.nil _ _ _
  | succ j => simp at ha

theorem Merge_calls (m : List St) (v : Value) (D : Nat → Prop) (w : World) (hD : Lo D w) (h : ModelC w D v m) :
    Calls Tryz.prog 60 #[v] w fun e w' => ∃ uv pv, e = .returned (.tuple #[.agg #[uv], pv, .int .i64 (mergeE m)]) ∧ Below w.heap.size w w' ∧ Sl Kind.st w' (nws w w') uv (mergeM m) ∧ Sl (Kind.int .i64) w' (nws w w') pv (mergeP m) := by
  obtain ⟨mv, rfl, hmm⟩ := h
  obtain ⟨A, c, rfl, h1, h2, -⟩ := hmm.form
  unfold maxLen at h2
  have HM := Lib.hid (show ModelC w D (.agg #[.slice A m.length c]) m from ⟨_, rfl, hmm⟩)
  have HMM := Lib.hid hmm
  have HD := Lib.hid hD
  have a1 := (Below.refl w.heap.size w).alloc (Nat.le_refl _) (.cells #[.slice A m.length c] 24)
  have hz1 : (w.alloc (.cells #[.slice A m.length c] 24)).heap.size = w.heap.size + 1 := by simp
  have a2 := (Below.refl (w.heap.size + 1) (w.alloc (.cells #[.slice A m.length c] 24))).alloc (by simp) (.cells #[.slice none 0 0] 24)
  have hbm := (a2.block w.heap.size (by omega)).trans (heap_alloc_new w _)
  have hbr := heap_alloc_new (w.alloc (.cells #[.slice A m.length c] 24)) (.cells #[.slice none 0 0] 24)
  rw [hz1] at hbr
  obtain ⟨w0, hw0⟩ : ∃ W : World, W = (w.alloc (.cells #[.slice A m.length c] 24)).alloc (.cells #[.slice none 0 0] 24) := ⟨_, rfl⟩
  have hz0 : w0.heap.size = w.heap.size + 2 := by rw [hw0]; simp
  rw [← hw0] at hbm hbr a2
  have HB0 := Lib.hid (a1.trans (a2.mono (by omega)))
  have HBM := Lib.hid hbm
  have HBR := Lib.hid hbr
  have HW0 := Lib.hid hw0
  have HZ0 := Lib.hid hz0
  clear hmm hD a1 a2 hz1 hbm hbr hw0 hz0
  go_enter Tryz.func60, Tryz.ntmps60
  go_upto_region 1 with fail
  rw [← HW0.out]
  clear HW0
  have b0 := (cells_of HBM.out 0).1
  go_wp2_with fail
  refine (Valid_calls m _ D w0 (HD.out.up HB0.out.size) (HM.out.same (HD.out.same HB0.out))).mono ?_
  rintro e w1 ⟨rfl, hb1⟩
  have HB1 := Lib.hid (HB0.out.trans (hb1.mono HB0.out.size))
  have HBM1 := Lib.hid ((hb1.block w.heap.size (by have := HZ0.out; omega)).trans HBM.out)
  have HBR1 := Lib.hid ((hb1.block (w.heap.size + 1) (by have := HZ0.out; omega)).trans HBR.out)
  have hz1 : w.heap.size + 2 ≤ w1.heap.size := by have := hb1.size; have := HZ0.out; omega
  clear hb1 b0 HB0 HBM HBR HZ0
  cases hv : validB m with
  | false =>
    obtain ⟨r0, r1⟩ := cells_of HBR1.out 0
    have HNO := Lib.hid (merge_bad hv)
    have HPQ := Lib.hid (And.intro r0 r1)
    clear hv
    go_wp2_with fail
    have e0 := World.cell?_setCell_same w1 ⟨w.heap.size + 1, 0, none⟩ (.slice none 0 0) HPQ.out.1
    refine bodyPost_ret (v := .tuple #[.agg #[.slice none 0 0], .slice none 0 0, .int .i64 1]) (by simp [results, Tryz.results60, go_sem, e0]) rfl ⟨_, _, by rw [HNO.out.2.2], HB1.out.setCell (p := ⟨w.heap.size + 1, 0, none⟩) (by show w.heap.size ≤ w.heap.size + 1; omega) _, by rw [HNO.out.1]; exact Sl.nil _ _ _, by rw [HNO.out.2.1]; exact Sl.nil _ _ _⟩
  | true =>
    have HF := Lib.hid (Fine.of_valid hv)
    have hp := validB.pos hv
    have hml := HF.out.len
    have HFF := Lib.hid (found_fit HF.out hp)
    have HVC := Lib.hid (valid_chances hv)
    have HVT := Lib.hid hv
    have b0 := (cells_of HBM1.out 0).1
    clear hv
    go_wp2_with fail
    refine (Found_calls m _ D w1 (HD.out.up HB1.out.size) (HM.out.same (HD.out.same HB1.out)) HF.out hp).mono ?_
    rintro e w2 ⟨ev, rfl, hb2, hev⟩
    obtain ⟨EA, ec, rfl, x1, x2, -⟩ := hev.form
    unfold maxLen at x2
    have HEV := Lib.hid hev
    have hz2 : w1.heap.size ≤ w2.heap.size := hb2.size
    have HB2 := Lib.hid (HB1.out.trans (hb2.mono HB1.out.size))
    have HBM2 := Lib.hid ((hb2.block w.heap.size (by omega)).trans HBM1.out)
    have HBR2 := Lib.hid ((hb2.block (w.heap.size + 1) (by omega)).trans HBR1.out)
    have b0' := (cells_of HBM2.out 0).1
    clear hb2 hev b0
    go_wp2_with (refine wpList_mk1 elem_i64 rfl _ _ rfl (by intro cs h; cases h) w2.heap.size _ _ (m.length : Int) (m.length : Int) rfl rfl (by omega) (by omega) (by omega) (by omega) (Nat.le_refl _) ?_; intro w3 hown3 hb3 hz3 hcells3; have HC3 := Lib.hid hcells3; have HB3 := Lib.hid hb3; have hz3' : w3.heap.size = w2.heap.size + 1 := hz3; have b3 := (hb3.cell (p := ⟨w.heap.size, 0, none⟩) (by show w.heap.size < w2.heap.size; omega)).trans b0'; clear hown3 hb3 hcells3 hz3 hz3')
    obtain ⟨pb, hpb⟩ : ∃ n : Nat, n = w2.heap.size := ⟨_, rfl⟩
    have hA3 : MgA (.slice A m.length c) (foundOf m) (.slice EA (foundOf m).length ec) w pb w3 (.slice none 0 0) [] (List.replicate m.length 0) := by
      have h3 : w3.heap[pb]? = some (.cells (ints (List.replicate m.length 0)).toArray 3 (0, 0)) := by rw [hpb, HC3.out]; simp [ints]
      refine ⟨HB2.out.trans (HB3.out.mono HB2.out.size), (HB3.out.block _ (by omega)).trans HBM2.out, (HB3.out.block _ (by omega)).trans HBR2.out, h3, by omega, World.ownsRow_nil _ _ _ _, fun e he => (List.not_mem_nil he).elim, ?_⟩
      refine (HEV.out.same fun k hk => HB3.out.block k hk.2.1).mono fun k hk => ⟨⟨Nat.le_trans hz1 hk.1, Nat.lt_of_lt_of_le hk.2.1 HB3.out.size, hk.2.2.same (HB3.out.block k hk.2.1)⟩, fun e => ?_, by simp [Value.ownBlock]⟩
      have := hk.2.1
      omega
    have HA3 := Lib.hid hA3
    have hmf : ∀ (fn : Fn) (first cap : Array Value) (w : World), (Instr.makeFunc fn first cap).run Tryz.prog w = .ok (.func fn first cap) w := fun _ _ _ _ => rfl
    obtain ⟨ln, hln⟩ : ∃ n : Nat, n = (foundOf m).length := ⟨_, rfl⟩
    have HLN := Lib.hid hln
    rw [← hpb, ← hln]
    rw [← hln] at HA3
    clear hA3 HC3 HB3 HB2 HBM2 HBR2 HEV hpb b0' b3 hln
    go_loopw [7, 36] (fun gv k W => ∃ (q : Nat) (es : List EO) (pl : List Int), q ≤ m.length ∧ k = .int .i64 (q : Int) ∧ Hid (MgA (.slice A m.length c) (foundOf m) (.slice EA ln ec) w pb W gv es pl) ∧ Hid ((pl, es.map EO.en) = plTo (foundOf m) m.length q)) (fun _ k _ => m.length - (intOf k).toNat)
    case atStart => exact ⟨0, [], _, Nat.zero_le _, rfl, HA3.out, rfl⟩
    case round =>
      obtain ⟨q, es, pl, hq, rfl, HA, HE⟩ := hrel
      obtain ⟨wo, rfl⟩ : ∃ wo : World, wo = wr := ⟨_, rfl⟩
      have hgok : GOk m.length q (pl, es.map EO.en) := by rw [HE.out]; exact plTo_ok HFF.out q hq
      have hpll : pl.length = m.length := hgok.len
      have hesl : es.length ≤ q := by have h9 := hgok.grp; simpa using h9
      by_cases hlt : q < m.length
      · have hal := (Below.refl wo.heap.size wo).alloc (Nat.le_refl _) (.cells #[.int .i64 (q : Int)] 3)
        have HA1 := Lib.hid (HA.out.next hal)
        have HSC := Lib.hid (cell_new1 wo (.int .i64 (q : Int)) 3)
        have hz1' : (wo.alloc (.cells #[.int .i64 (q : Int)] 3)).heap.size = wo.heap.size + 1 := by simp
        clear hal hgok
        go_wp2_with fail
        obtain ⟨ii, hii⟩ : ∃ z : Int, z = idxI (hasS (q : Int)) (foundOf m) := ⟨_, rfl⟩
        have HII := Lib.hid hii
        have hc := IndexFuncE_calls 119 (hasS (q : Int)) #[.pointer (some ⟨wo.heap.size, 0, none⟩)] (foundOf m) (.slice EA ln ec) _ _ enter_m1 ND.lo HA1.out.ends (fun W e a b hW he hsl => merge1_calls e.1 (q : Int) a b wo.heap.size _ W (ND.lo.up hW.size) hsl ((hW.cell (cell_lt HSC.out)).trans HSC.out))
        refine (hc.mono fun e w' h => (show e = .returned (.int .i64 ii) ∧ Below (wo.alloc (.cells #[.int .i64 (q : Int)] 3)).heap.size (wo.alloc (.cells #[.int .i64 (q : Int)] 3)) w' from ⟨by rw [h.1, HII.out], h.2⟩)).mono ?_
        rintro e w4 ⟨rfl, hb4⟩
        have HA4 := Lib.hid (HA1.out.next hb4)
        have HSC4 := Lib.hid ((hb4.cell (cell_lt HSC.out)).trans HSC.out)
        have hi2 := idxI_range (hasS (q : Int)) (foundOf m)
        rw [← hii] at hi2
        have HI2 := Lib.hid hi2
        have hso4 : wo.heap.size < w4.heap.size := cell_lt HSC4.out
        have hpbo := HA.out.pblt
        clear hc hb4 hii hi2 hz1'
        by_cases hneg : ii < 0
        · have HPL := Lib.hid (show plTo (foundOf m) m.length (q + 1) = (pl.set q (es.length : Int), es.map EO.en ++ [([(q : Int)], [[]])]) by
            rw [plTo, ← HE.out, plStep, if_pos (by rw [← HII.out]; exact hneg), Int.toNat_natCast, List.length_map])
          have s0 := HSC4.out
          obtain ⟨p0, p1⟩ := cells_of HA4.out.place q
          have hpq : (ints pl).toArray[q]? = some (.int .i64 (Dig.gd pl q)) := by simp [ints, Dig.gd, show q < pl.length by omega]
          rw [hpq] at p0
          have p1' : w4.frozen? ⟨pb, q, none⟩ = false := p1
          have hown4 := HA4.out.own
          obtain ⟨GA, gc, rfl, g1, g2, -⟩ := own_form hown4
          have hA5 := HA4.out.put q (es.length : Int)
          have hz5 : (w4.setCell ⟨pb, q, none⟩ (.int .i64 (es.length : Int))).heap.size = w4.heap.size := by simp [World.setCell]
          obtain ⟨W8, hW8, hA8, hE8, hS8, hK8, hz8⟩ := hA5.three (q : Int)
          rw [hz5] at hW8 hE8 hS8 hK8 hz8
          have HA8 := Lib.hid hA8
          have HE8 := Lib.hid hE8
          have HS8 := Lib.hid hS8
          have HK8 := Lib.hid hK8
          have hpb8 := HA8.out.pblt
          subst hW8
          clear hown4 hpq p1 hA5 hz5 hA8 hE8 hS8 hK8
          go_wp2_with ((at_builtin); (refine wpList_appEnd rfl _ _ rfl (pb + 1) _ es.length (ecells es) rfl HA8.out.own (w4.heap.size + 1 + 1) 1 (.slice (some ⟨w4.heap.size, 0, none⟩) 1 1) (.slice (some ⟨w4.heap.size + 1, 0, none⟩) 1 1) rfl HE8.out rfl rfl (by omega) (by omega) ?_); (intro v9 w9 ho9 hg9 ha9); (have HO9 := Lib.hid ho9); (have HG9 := Lib.hid hg9); (have HA9 := Lib.hid ha9); (obtain ⟨A9, c9, rfl, -, -, -⟩ := own_form ho9); (clear ho9 hg9 ha9))
          have hAN := Lib.hid (HA8.out.add (e := ⟨.slice (some ⟨w4.heap.size, 0, none⟩) 1 1, .slice (some ⟨w4.heap.size + 1, 0, none⟩) 1 1, [(q : Int)], [[]]⟩) HS8.out HK8.out HG9.out HO9.out HA9.out (Nat.le_refl _))
          exact ⟨⟨q + 1, es ++ [⟨.slice (some ⟨w4.heap.size, 0, none⟩) 1 1, .slice (some ⟨w4.heap.size + 1, 0, none⟩) 1 1, [(q : Int)], [[]]⟩], pl.set q (es.length : Int), by omega, by go_num, hAN, Lib.hid (by rw [HPL.out, List.map_append]; rfl)⟩, by simp [intOf]; omega⟩
        · obtain ⟨j, rfl⟩ : ∃ j : Nat, ii = (j : Int) := ⟨ii.toNat, by omega⟩
          have hjl : j < (foundOf m).length := by have := HI2.out.2; omega
          have hjn : j < ln := by rw [HLN.out]; exact hjl
          obtain ⟨x, hx⟩ : ∃ x, (foundOf m)[j]? = some x := ⟨_, List.getElem?_eq_getElem hjl⟩
          obtain ⟨hxg, -, -⟩ := HFF.out x (List.mem_of_getElem? hx)
          obtain ⟨ad, SA, sc, KA, kc, ea, hdd, q0, q1, hsx, hkx⟩ := HA4.out.ends.en_at j x hx
          have hE4 : EAt w pb u7 w4 ad j SA sc KA kc x := ⟨hdd, q0, q1, hsx, hkx⟩
          have hgd : (foundOf m).getD ((j : Int)).toNat noEnd = x := by rw [Int.toNat_natCast, List.getD_eq_getElem?_getD, hx]; rfl
          subst ea
          obtain ⟨f0, hf0⟩ : ∃ y, x.1[0]? = some y := ⟨_, List.getElem?_eq_getElem hxg.pos⟩
          have HXG := Lib.hid hxg
          have hxp := hxg.pos
          have hxn := hxg.len
          obtain ⟨sa, rfl, z0⟩ : ∃ sa, SA = some sa ∧ w4.cell? sa = some (.int .i64 f0) := by
            obtain ⟨A', c', e, -, -, h3⟩ := hsx.ints
            injection e with e1 e2 e3
            subst e1
            obtain ⟨sa, es', -, hc⟩ := h3 hxp
            have h9 := hc 0 hxp
            rw [Dig.gd_of hf0] at h9
            exact ⟨sa, es', by simpa [Addr.add] using h9⟩
          obtain ⟨x1', x2'⟩ : x.1.length ≤ sc ∧ sc ≤ maxLen := by
            obtain ⟨A', c', e, y1, y2, -⟩ := hsx.form
            injection e with e1 e2 e3
            subst e3
            exact ⟨y1, y2⟩
          unfold maxLen at x2'
          have HE4 := Lib.hid hE4
          have HPL := Lib.hid (show plTo (foundOf m) m.length (q + 1) = if f0 = (q : Int) then (putAll pl x.1 (es.length : Int), es.map EO.en ++ [x]) else (pl, es.map EO.en) by
            have hf0' : x.1.getD 0 0 = f0 := by rw [List.getD_eq_getElem?_getD, hf0]; rfl
            rw [plTo, ← HE.out, plStep, ← HII.out, if_neg hneg, hgd, hf0', List.length_map])
          have s0 := HSC4.out
          clear hE4 hgd hx hxg hdd hsx hkx hf0 q1 hjl
          go_wp2_with fail
          go_quiet (fail)
          revert nq
          intro n1
          have hdr : Below w4.heap.size w4 (w4.drewN n1) := ⟨rfl, rfl, rfl, Nat.le_refl _, fun _ _ => rfl⟩
          obtain ⟨w5, hw5⟩ : ∃ W : World, W = w4.drewN n1 := ⟨_, rfl⟩
          rw [← hw5] at hdr ⊢
          have HA5 := Lib.hid (HA4.out.next hdr)
          have HE5 := Lib.hid (HE4.out.next hdr)
          clear hdr hw5 q0 z0 s0
          by_cases heq : f0 = (q : Int)
          · have HPL2 := Lib.hid (show plTo (foundOf m) m.length (q + 1) = (putAll pl x.1 (es.length : Int), es.map EO.en ++ [x]) by rw [HPL.out, if_pos heq])
            have q0 := HE5.out.c0
            have hown5 := HA5.out.own
            obtain ⟨GA, gc, rfl, g1, g2, -⟩ := own_form hown5
            subst heq
            clear HPL hown5
            go_wp2_with fail
            clear q0
            go_loopw [73] (fun k W => ∃ r : Nat, r ≤ x.1.length ∧ k = .int .i64 (r : Int) ∧ Hid (MgA (.slice A m.length c) (foundOf m) (.slice (some ad) ln ec) w pb W (.slice GA es.length gc) es (putAll pl (x.1.take r) (es.length : Int))) ∧ Hid (EAt w pb (.slice GA es.length gc) W ad j (some sa) sc KA kc x)) (fun k _ => x.1.length - (intOf k).toNat)
            case atStart => exact ⟨0, Nat.zero_le _, rfl, HA5.out, HE5.out⟩
            case round =>
              obtain ⟨r, hr, rfl, HA6, HE6⟩ := hrel
              by_cases hlt2 : r < x.1.length
              · obtain ⟨t, ht⟩ : ∃ t, x.1[r]? = some t := ⟨_, List.getElem?_eq_getElem hlt2⟩
                obtain ⟨t0, t1⟩ := HXG.out.bd t (List.mem_of_getElem? ht)
                obtain ⟨tn, rfl⟩ : ∃ tn : Nat, t = (tn : Int) := ⟨t.toNat, by omega⟩
                have z0 : wr.cell? (sa.add r) = some (.int .i64 (tn : Int)) := by
                  obtain ⟨A', c', e, -, -, h3⟩ := HE6.out.hs.ints
                  injection e with e1 e2 e3
                  subst e1
                  obtain ⟨sa', es', -, hc⟩ := h3 hxp
                  injection es' with es'
                  subst es'
                  have h9 := hc r hlt2
                  rwa [Dig.gd_of ht] at h9
                have hsn := putAll_snoc pl x.1 r (tn : Int) (es.length : Int) ht
                rw [Int.toNat_natCast] at hsn
                have HSN := Lib.hid hsn
                have hpl6 := putAll_len (es.length : Int) (x.1.take r) pl
                obtain ⟨p0, p1⟩ := cells_of HA6.out.place tn
                have hpq : (ints (putAll pl (x.1.take r) (es.length : Int))).toArray[tn]? = some (.int .i64 (Dig.gd (putAll pl (x.1.take r) (es.length : Int)) tn)) := by simp [ints, Dig.gd, show tn < (putAll pl (x.1.take r) (es.length : Int)).length by omega]
                rw [hpq] at p0
                have p1' : wr.frozen? ⟨pb, tn, none⟩ = false := p1
                clear ht hsn hpl6 hpq p1
                go_wp2_with fail
                exact ⟨⟨r + 1, by omega, by go_num, Lib.hid (by rw [HSN.out]; exact HA6.out.put tn (es.length : Int)), HE6.out.put tn _⟩, by simp [intOf]; omega⟩
              · obtain rfl : r = x.1.length := by omega
                have HA7 := Lib.hid (show MgA (.slice A m.length c) (foundOf m) (.slice (some ad) ln ec) w pb wr (.slice GA es.length gc) es (putAll pl x.1 (es.length : Int)) by have h9 := HA6.out; rwa [List.take_length] at h9)
                have hbA := (Below.refl wr.heap.size wr).alloc (Nat.le_refl _) (.cells #[.slice (some sa) x.1.length sc, .slice KA x.2.length kc] 53)
                have HA8 := Lib.hid (HA7.out.next hbA)
                have HE8 := Lib.hid (HE6.out.next hbA)
                have q0 := HE6.out.c0
                have q1 := HE6.out.c1
                have hpb8 := HA7.out.pblt
                clear hlt2 HA6 HA7 hbA
                go_wp2_with ((at_builtin); (refine wpList_appEnd rfl _ _ rfl (pb + 1) _ es.length (ecells es) rfl HA8.out.own wr.heap.size 1 (.slice (some sa) x.1.length sc) (.slice KA x.2.length kc) rfl (heap_alloc_new _ _) rfl rfl (by omega) (by simp; omega) ?_); (intro v9 w9 ho9 hg9 ha9); (have HO9 := Lib.hid ho9); (have HG9 := Lib.hid hg9); (have HA9 := Lib.hid ha9); (obtain ⟨A9, c9, rfl, -, -, -⟩ := own_form ho9); (clear ho9 hg9 ha9))
                have hAN := Lib.hid (HA8.out.add (e := ⟨.slice (some sa) x.1.length sc, .slice KA x.2.length kc, x.1, x.2⟩) HE8.out.hs HE8.out.hk HG9.out HO9.out HA9.out (Nat.le_refl _))
                exact ⟨⟨q + 1, es ++ [⟨.slice (some sa) x.1.length sc, .slice KA x.2.length kc, x.1, x.2⟩], putAll pl x.1 (es.length : Int), by omega, by go_num, hAN, Lib.hid (by rw [HPL2.out, List.map_append]; rfl)⟩, by simp [intOf]; omega⟩
          · have HPL2 := Lib.hid (show plTo (foundOf m) m.length (q + 1) = (pl, es.map EO.en) by rw [HPL.out, if_neg heq])
            clear HPL
            go_wp2_with fail
            exact ⟨⟨q + 1, es, pl, by omega, by go_num, HA5.out, Lib.hid HPL2.out.symm⟩, by simp [intOf]; omega⟩
      · obtain rfl : q = m.length := by omega
        have hgk : GOk m.length m.length (pl, es.map EO.en) := by rw [HE.out]; exact plTo_ok HFF.out _ (Nat.le_refl _)
        have HPV := Lib.hid (show ∀ p ∈ pl, 0 ≤ p ∧ p < 40 from fun p hp' => by have := hgk.val p hp'; omega)
        have HES := Lib.hid (show ∀ e ∈ es, Enp.Good m.length e.st ∧ e.ks.length = e.st.length ∧ ∀ ks ∈ e.ks, ks.length ≤ 8 from fun e he => hgk.ok _ (List.mem_map.2 ⟨e, he, rfl⟩))
        have HMR := Lib.hid (show mergeR m = mergeG m pl (es.map EO.en).zipIdx [] by unfold mergeR; rw [← HE.out])
        have hes40 : es.length ≤ 40 := by omega
        have hwo := (HA.out.below).size
        have hown := HA.out.own
        obtain ⟨GA, gc, rfl, g1, g2, g3⟩ := own_form hown
        unfold maxLen at g2
        have HGA := Lib.hid g3
        have HMS := Lib.hid (MOut.start wo)
        have HBA := Lib.hid ((Below.refl wo.heap.size wo).alloc (Nat.le_refl _) (.cells #[.slice none 0 0] 24))
        clear hgk hown g3 hlt HA3 hgok
        go_wp2_with fail
        go_loopw [93] (fun k W => ∃ (g : Nat) (sv : Value) (ss : List SO), g ≤ es.length ∧ k = .int .i64 (g : Int) ∧ Hid (Below wo.heap.size wo W) ∧ Hid (MOut wo.heap.size W wo.heap.size sv ss) ∧ ss.length ≤ g ∧ Hid (mergeR m = mergeG m pl ((es.map EO.en).zipIdx.drop g) (ss.map SO.st))) (fun k _ => es.length - (intOf k).toNat)
        case atStart => exact ⟨0, _, [], Nat.zero_le _, rfl, HBA.out, HMS.out, Nat.le_refl _, HMR.out⟩
        case round =>
          obtain ⟨g, sv, ss, hg, rfl, HBW, HMO, hsg, HEQ⟩ := hrel
          obtain ⟨w5, rfl⟩ : ∃ w5 : World, w5 = wr := ⟨_, rfl⟩
          have hz5 := HBW.out.size
          by_cases hlg : g < es.length
          · obtain ⟨e, he⟩ : ∃ e, es[g]? = some e := ⟨_, List.getElem?_eq_getElem hlg⟩
            obtain ⟨hgd, hgl, hgk⟩ := HES.out e (List.mem_of_getElem? he)
            obtain ⟨ga, rfl, -, hgb, -, hgat⟩ := HGA.out (by omega)
            obtain ⟨x0, x1⟩ := ecells_at es g e he
            have hrow := HA.out.row e (List.mem_of_getElem? he)
            obtain ⟨SA, sc, hsv, y1, y2, -⟩ := hrow.1.form
            obtain ⟨KA, kc, hkv, y3, y4, -⟩ := hrow.2.form
            unfold maxLen at y2 y4
            have q0 := (HBW.out.cell (cell_lt (hgat _ _ x0))).trans (hgat _ _ x0)
            have q1 := (HBW.out.cell (cell_lt (hgat _ _ x1))).trans (hgat _ _ x1)
            have hadd : ga.add (g * 2 + 1) = ⟨(ga.add (g * 2)).block, (ga.add (g * 2)).off + 1, none⟩ := by rw [← add_of_add]; rfl
            rw [hadd] at q1
            rw [hsv] at q0
            rw [hkv] at q1
            have HRSo := Lib.hid hrow.1
            have HRKo := Lib.hid hrow.2
            rw [hsv] at HRSo
            rw [hkv] at HRKo
            have HGD := Lib.hid hgd
            have HGL := Lib.hid hgl
            have HGK := Lib.hid hgk
            have HGS := Lib.hid (show (es.map EO.en).zipIdx[g]? = some (e.en, g) by rw [List.getElem?_zipIdx, List.getElem?_map, he]; simp)
            have HSTEP := Lib.hid (mergeG_step m pl (es.map EO.en).zipIdx g e.en g (ss.map SO.st) HGS.out)
            have hgp := hgd.pos
            have hgn := hgd.len
            obtain ⟨f0, hf0⟩ : ∃ y, e.st[0]? = some y := ⟨_, List.getElem?_eq_getElem hgp⟩
            obtain ⟨t0, t1⟩ := hgd.bd f0 (List.mem_of_getElem? hf0)
            obtain ⟨j, rfl⟩ : ∃ j : Nat, f0 = (j : Int) := ⟨f0.toNat, by omega⟩
            have hjm : j < m.length := by omega
            obtain ⟨st, hst⟩ : ∃ st, m[j]? = some st := ⟨_, List.getElem?_eq_getElem hjm⟩
            have hal5 := (Below.refl w5.heap.size w5).alloc (Nat.le_refl _) (.cells #[.slice SA e.st.length sc, .slice KA e.ks.length kc] 53)
            have hB5 := (HA.out.below.trans (HBW.out.mono hwo)).trans (hal5.mono (Nat.le_trans hwo hz5))
            obtain ⟨am, PA, pp, pd, ham, hDa, c0, c1, c2, hsc⟩ := HMM.out.st_up HD.out hB5 j st hst
            subst ham
            obtain ⟨rfl, hp1, hp2⟩ := hsc.len
            obtain ⟨sa, hsa, z0⟩ : ∃ sa, SA = some sa ∧ wo.cell? sa = some (.int .i64 (j : Int)) := by
              have h8 := hrow.1
              rw [hsv] at h8
              obtain ⟨A', c', ee, -, -, h3⟩ := h8.ints
              injection ee with e1 e2 e3
              subst e1
              obtain ⟨sa, es', -, hc⟩ := h3 hgp
              have h9 := hc 0 hgp
              rw [Dig.gd_of hf0] at h9
              exact ⟨sa, es', by simpa [Addr.add] using h9⟩
            subst hsa
            have hH : FirstH w.heap.size w5.heap.size (.slice (some am) m.length c) (.slice (some sa) e.st.length sc) sa (.int .i64 (j : Int)) (am.add (j * 3)) ⟨(am.add (j * 3)).block, (am.add (j * 3)).off + 1, none⟩ ⟨(am.add (j * 3)).block, (am.add (j * 3)).off + 2, none⟩ (.int .i64 st.owner) (.int .i64 st.mark) (.slice PA st.chs.length pd) (w5.alloc (.cells #[.slice (some sa) e.st.length sc, .slice KA e.ks.length kc] 53)) := by
              have u0 := (cells_of HA.out.bm 0).1
              refine ⟨(hal5.cell (Nat.lt_of_lt_of_le (cell_lt u0) hz5)).trans ((HBW.out.cell (cell_lt u0)).trans u0), (cells_of (heap_alloc_new w5 _) 0).1, (hal5.cell (Nat.lt_of_lt_of_le (cell_lt z0) hz5)).trans ((HBW.out.cell (cell_lt z0)).trans z0), c0, c1, c2⟩
            have HFH := Lib.hid hH
            have HST := Lib.hid hst
            have HE5 := Lib.hid (heap_alloc_new w5 (.cells #[.slice (some sa) e.st.length sc, .slice KA e.ks.length kc] 53))
            have HAL5 := Lib.hid hal5
            have HOM := Lib.hid (show stAt m (e.st.getD 0 0) = st by
              have h9 : e.st.getD 0 0 = (j : Int) := by rw [List.getD_eq_getElem?_getD, hf0]; rfl
              rw [h9, stAt, Int.toNat_natCast, List.getD_eq_getElem?_getD, hst]; rfl)
            clear hrow hgd hgl hgk he x0 x1 hgat hadd hf0 hst hal5 hB5 hsc z0 hH c0 c1 c2 hDa t0 t1 hsv hkv
            go_upto_region 25 with fail
            obtain ⟨w6, hw6⟩ : ∃ W : World, W = w5.alloc (.cells #[.slice (some sa) e.st.length sc, .slice KA e.ks.length kc] 53) := ⟨_, rfl⟩
            rw [← hw6] at HFH HE5 HAL5 ⊢
            clear hw6 q0 q1
            go_cut [15] from 98 to 105 (fun s15 wx => ∃ fb : Nat, s15 = .pointer (some ⟨fb, 0, none⟩) ∧ Hid (Below w6.heap.size w6 wx ∧ wx.heap[fb]? = some (.cells #[.int .i64 st.owner, .int .i64 st.mark, .slice PA st.chs.length pd] 79 (0, 0))))
            case first =>
              have HQ0 : Hid (Below w6.heap.size w6 w6.drew) := Lib.hid (Below.refl _ _).drew
              have R0 := Lib.hid (Below.refl w6.heap.size w6)
              have S0 := Lib.hid (firstH_of HFH.out HQ0.out)
              go_region_held3 (fun V => V.cell? ⟨w.heap.size, 0, none⟩ = some (.slice (some am) m.length c) ∧ V.cell? ⟨w5.heap.size, 0, none⟩ = some (.slice (some sa) e.st.length sc) ∧ V.cell? sa = some (.int .i64 (j : Int)) ∧ V.cell? (am.add (j * 3)) = some (.int .i64 st.owner) ∧ V.cell? ⟨(am.add (j * 3)).block, (am.add (j * 3)).off + 1, none⟩ = some (.int .i64 st.mark) ∧ V.cell? ⟨(am.add (j * 3)).block, (am.add (j * 3)).off + 2, none⟩ = some (.slice PA st.chs.length pd))
                (with_reducible (first | exact S0.out | exact firstH_of HFH.out (HQ0.out.alloc HQ0.out.size _) | exact firstH_of HFH.out ((R0.out.alloc R0.out.size _).drew) | exact firstH_of HFH.out (below_set3 (HQ0.out.alloc HQ0.out.size _) (Nat.le_refl _)) | exact firstH_of HFH.out (below_set3 ((R0.out.alloc R0.out.size _).drew) (Nat.le_refl _))))
                (fail)
              all_goals
                go_wp2_with fail
                go_meet
                first
                  | exact ⟨_, rfl, Lib.hid ⟨(R0.out.alloc R0.out.size _).drew, heap_alloc_new w6 _⟩⟩
                  | exact ⟨_, rfl, Lib.hid ⟨HQ0.out.alloc HQ0.out.size _, heap_alloc_new w6.drew _⟩⟩
            case rest =>
              obtain ⟨fb, rfl, HCUT⟩ := hcut
              obtain ⟨hbc, hfb⟩ := HCUT.out
              have f0 := (cells_of hfb 0).1
              have f1 := (cells_of hfb 1).1
              have hx := heap_alloc_new wc (.cells #[.int .i64 st.owner, .int .i64 st.mark, .slice none 0 0] 79)
              have hxa := (Below.refl wc.heap.size wc).alloc (Nat.le_refl _) (.cells #[.int .i64 st.owner, .int .i64 st.mark, .slice none 0 0] 79)
              have hbx := hbc.trans (hxa.mono hbc.size)
              have hBw := HBW.out.trans ((HAL5.out.trans (hbx.mono HAL5.out.size)).mono hz5)
              have hMR := MOut.open HMO.out hz5 st.owner st.mark (.slice (some sa) e.st.length sc) (.slice KA e.ks.length kc) HAL5.out HE5.out (Nat.le_refl _) hbx hx hbc.size
              have HMR0 := Lib.hid hMR
              have HBX0 := Lib.hid hBw
              have ee := (cells_of (m_e hMR) 0).1
              have HLC := Lib.hid (show layCh pl (itemsZ m (e.st.zip e.ks)) [] = layCh pl (itemsZ m ((e.st.zip e.ks).drop 0)) (([] : List CO).map CO.ch) from rfl)
              have hxbz : wo.heap.size ≤ wc.heap.size := Nat.le_trans hz5 (Nat.le_trans HAL5.out.size hbc.size)
              clear hfb hx hxa hbx hBw hMR hbc HCUT HFH
              go_wp2_with fail
              clear f0 f1 ee
              go_loopw [114] (fun k W => ∃ (i : Nat) (xv : Value) (cs : List CO), i ≤ e.st.length ∧ k = .int .i64 (i : Int) ∧ Hid (Below wo.heap.size wo W) ∧ Hid (MRow wo.heap.size W wo.heap.size wc.heap.size st.owner st.mark xv cs (boxC w5.heap.size #[.slice (some sa) e.st.length sc, .slice KA e.ks.length kc] 53) sv ss) ∧ cs.length ≤ 8 * i ∧ Hid (layCh pl (itemsZ m (e.st.zip e.ks)) [] = layCh pl (itemsZ m ((e.st.zip e.ks).drop i)) (cs.map CO.ch))) (fun k _ => e.st.length - (intOf k).toNat)
              case atStart => exact ⟨0, _, [], Nat.zero_le _, rfl, HBX0.out, HMR0.out, by simp, HLC.out⟩
              case round =>
                obtain ⟨i, xv, cs, hi, rfl, HBI, HMI, hci, HLI⟩ := hrel
                obtain ⟨wi, rfl⟩ : ∃ wi : World, wi = wr := ⟨_, rfl⟩
                have hzi := HBI.out.size
                by_cases hlti : i < e.st.length
                · obtain ⟨s2, hs2⟩ : ∃ y, e.st[i]? = some y := ⟨_, List.getElem?_eq_getElem hlti⟩
                  obtain ⟨ks, hks⟩ : ∃ y, e.ks[i]? = some y := ⟨_, List.getElem?_eq_getElem (by have := HGL.out; omega)⟩
                  have hzp : (e.st.zip e.ks)[i]? = some (s2, ks) := by rw [List.getElem?_zip_eq_some]; exact ⟨hs2, hks⟩
                  obtain ⟨t0, t1⟩ := HGD.out.bd s2 (List.mem_of_getElem? hs2)
                  obtain ⟨j2, rfl⟩ : ∃ j : Nat, s2 = (j : Int) := ⟨s2.toNat, by omega⟩
                  have hj2m : j2 < m.length := by omega
                  obtain ⟨st2, hst2⟩ : ∃ st, m[j2]? = some st := ⟨_, List.getElem?_eq_getElem hj2m⟩
                  have hBi := HA.out.below.trans (HBI.out.mono hwo)
                  obtain ⟨am', PB, pp', pd', ham, -, -, -, c2, hsc2⟩ := HMM.out.st_up HD.out hBi j2 st2 hst2
                  injection ham with ham
                  subst ham
                  obtain ⟨rfl, hp1', hp2'⟩ := hsc2.len
                  unfold maxLen at hp2'
                  have z0 : wi.cell? (sa.add i) = some (.int .i64 (j2 : Int)) := by
                    obtain ⟨A', c', ee, -, -, h3⟩ := (HRSo.out.same (ND.same HBI.out)).ints
                    injection ee with e1 e2 e3
                    subst e1
                    obtain ⟨sa', es', -, hc⟩ := h3 hgp
                    injection es' with es'
                    subst es'
                    have h9 := hc i hlti
                    rwa [Dig.gd_of hs2] at h9
                  have b0 := (HBI.out.cell (cell_lt (cells_of HA.out.bm 0).1)).trans (cells_of HA.out.bm 0).1
                  have HCH := Lib.hid (show chsOf m (j2 : Int) = st2.chs by unfold chsOf; rw [Int.toNat_natCast, List.getD_eq_getElem?_getD, hst2]; rfl)
                  have HL0 := Lib.hid (show layCh pl (itemsZ m (e.st.zip e.ks)) [] = layCh pl ((itemsS m ((j2 : Int), ks)).drop 0 ++ itemsZ m ((e.st.zip e.ks).drop (i + 1))) (cs.map CO.ch) by rw [HLI.out, itemsZ_step m _ i _ hzp, List.drop_zero])
                  have HSC2 := Lib.hid hsc2
                  have hch2 := HF.out.chs st2 (List.mem_of_getElem? hst2)
                  have HST2 := Lib.hid hst2
                  have HKS := Lib.hid hks
                  have HBi := Lib.hid hBi
                  clear hs2 hks hzp t0 t1 hst2 hsc2 hBi
                  go_wp2_with fail
                  go_loopw [126] (fun k W => ∃ (q2 : Nat) (xv : Value) (cs : List CO), q2 ≤ st2.chs.length ∧ k = .int .i64 (q2 : Int) ∧ Hid (Below wo.heap.size wo W) ∧ Hid (MRow wo.heap.size W wo.heap.size wc.heap.size st.owner st.mark xv cs (boxC w5.heap.size #[.slice (some sa) e.st.length sc, .slice KA e.ks.length kc] 53) sv ss) ∧ cs.length ≤ 8 * i + q2 ∧ Hid (layCh pl (itemsZ m (e.st.zip e.ks)) [] = layCh pl ((itemsS m ((j2 : Int), ks)).drop q2 ++ itemsZ m ((e.st.zip e.ks).drop (i + 1))) (cs.map CO.ch))) (fun k _ => st2.chs.length - (intOf k).toNat)
                  case atStart => exact ⟨0, xv, cs, Nat.zero_le _, rfl, HBI.out, HMI.out, by omega, HL0.out⟩
                  case round =>
                    obtain ⟨q2, xv2, cs2, hq2, rfl, HBJ, HMJ, hcj, HLJ⟩ := hrel
                    obtain ⟨wj, rfl⟩ : ∃ wj : World, wj = wr := ⟨_, rfl⟩
                    have hzj := HBJ.out.size
                    by_cases hltj : q2 < st2.chs.length
                    · obtain ⟨ch, hch⟩ : ∃ y, st2.chs[q2]? = some y := ⟨_, List.getElem?_eq_getElem hltj⟩
                      have hBj := HA.out.below.trans (HBJ.out.mono hwo)
                      have hbij : Below w.heap.size w wi := HBi.out
                      obtain ⟨pa2, CB, cp, cd, rfl, -, u0, u1, u2, hcc⟩ := HSC2.out.ch_up HD.out hBj q2 ch hch
                      obtain ⟨rfl, hc1', hc2'⟩ := hcc.len
                      unfold maxLen at hc2'
                      have hal := (Below.refl wj.heap.size wj).alloc (Nat.le_refl _) (.cells #[.int .i64 ch.rw.top, .int .i64 ch.rw.low, .slice CB ch.brs.length cd] 97)
                      have HMK := Lib.hid (Sep.below HMJ.out hal)
                      have HBK := Lib.hid (HBJ.out.trans (hal.mono hzj))
                      have hcb := heap_alloc_new wj (.cells #[.int .i64 ch.rw.top, .int .i64 ch.rw.low, .slice CB ch.brs.length cd] 97)
                      have hzk : (wj.alloc (.cells #[.int .i64 ch.rw.top, .int .i64 ch.rw.low, .slice CB ch.brs.length cd] 97)).heap.size = wj.heap.size + 1 := by simp
                      obtain ⟨k1', ku, hka, -, r1, hku⟩ := Rows2.at' (HRKo.out.same (ND.same HBK.out)) i ks HKS.out
                      subst hka
                      obtain ⟨KB, kd, rfl, -, -, -⟩ := hku.ints
                      have hik : i < e.ks.length := (List.getElem?_eq_some_iff.1 HKS.out).1
                      have e1 := (cells_of (m_e HMK.out) 1).1
                      have v0 := (cells_of hcb 0).1
                      have v1 := (cells_of hcb 1).1
                      have v2 := (cells_of hcb 2).1
                      have HKU := Lib.hid hku
                      have HCC := Lib.hid (hcc.same (w' := wj.alloc (.cells #[.int .i64 ch.rw.top, .int .i64 ch.rw.low, .slice CB ch.brs.length cd] 97)) (HD.out.same (hBj.trans (hal.mono hBj.size))))
                      have HCHB := Lib.hid (List.mem_of_getElem? hch)
                      have HIT := Lib.hid (itemsS_at m ((j2 : Int), ks) q2 ch (by rw [HCH.out]; exact hch))
                      have hchb := HF.out.brs st2 (List.mem_of_getElem? HST2.out) ch (List.mem_of_getElem? hch)
                      have HTO := Lib.hid (HF.out.tos st2 (List.mem_of_getElem? HST2.out) ch (List.mem_of_getElem? hch))
                      have HVV := Lib.hid (HVC.out st2 (List.mem_of_getElem? HST2.out) ch (List.mem_of_getElem? hch))
                      have HBk := Lib.hid (hBj.trans (hal.mono hBj.size))
                      clear hch hcc hal hcb hku hBj hbij
                      go_wp2_with fail
                      refine (Contains_calls ks (q2 : Int) _ _ _ HKU.out).mono ?_
                      rintro ee w7 ⟨rfl, hw7⟩
                      subst hw7
                      obtain ⟨cb, hcb⟩ : ∃ b : Bool, b = ks.contains (q2 : Int) := ⟨_, rfl⟩
                      rw [← hcb]
                      have HLS := Lib.hid (layCh_step pl (itemsS m ((j2 : Int), ks)) q2 ch cb (itemsZ m ((e.st.zip e.ks).drop (i + 1))) (cs2.map CO.ch) (by rw [hcb]; exact HIT.out))
                      clear hcb
                      cases cb with
                      | true =>
                        have HL2 := Lib.hid (HLJ.out.trans HLS.out)
                        clear v0 v1 v2 u0 u1 u2 e1 r1
                        go_wp2_with fail
                        exact ⟨⟨q2 + 1, xv2, cs2, by omega, by go_num, HBK.out, HMK.out, by omega, Lib.hid (by rw [HL2.out]; simp)⟩, by simp [intOf]; omega⟩
                      | false =>
                        clear u0 u1 u2 e1 r1
                        go_wp2_with fail
                        obtain ⟨w8, hw8⟩ : ∃ W : World, W = wj.alloc (.cells #[.int .i64 ch.rw.top, .int .i64 ch.rw.low, .slice CB ch.brs.length cd] 97) := ⟨_, rfl⟩
                        rw [← hw8] at HMK HBK HCC HBk ⊢
                        rw [← hw8] at hzk
                        have hwo8 := HBK.out.size
                        have HPS : Hid (Sl (Kind.int .i64) w8 (· < w8.heap.size) (.slice (some ⟨pb, 0, none⟩) m.length m.length) pl) := Lib.hid (ints_of_block pl ((HBK.out.block pb HA.out.pblt).trans HA.out.place) (Nat.lt_of_lt_of_le HA.out.pblt hwo8) hpll (by unfold maxLen; omega) (by simp))
                        refine (eturned_calls ch pl CB ch.brs.length cd _ (· < w8.heap.size) w8 (fun _ hk => hk) (HCC.out.mono fun k hk => Nat.lt_of_lt_of_le (HD.out k hk) HBk.out.size) HPS.out hchb (fun b hb => ⟨(HTO.out b hb).1, by have := (HTO.out b hb).2; omega⟩) HPV.out HVV.out).mono ?_
                        rintro ee w9 ⟨bv, rfl, hbo, hb9⟩
                        obtain ⟨BA, bc, rfl, -, -, -⟩ := own_form hbo
                        have HBO := Lib.hid hbo
                        have HB9 := Lib.hid hb9
                        have HBK9 := Lib.hid (HBK.out.trans (hb9.mono hwo8))
                        have HM9 := Lib.hid (Sep.below HMK.out hb9)
                        have hbr9 := (HBK9.out.block (w.heap.size + 1) (by have := HA.out.pblt; have := HA.out.pbn; omega)).trans HA.out.br
                        have HBR9 := Lib.hid hbr9
                        clear v0 v1 v2 hbo hb9 hbr9 hw8
                        cases hok : (turnedOf ch pl).isSome with
                        | false =>
                          have hte : turnE ch pl = 3 := by unfold turnE; rw [hok]; rfl
                          rw [hte]
                          have HNO := Lib.hid (merge_none HVT.out (show mergeR m = none by
                            have h9 : layCh pl (itemsZ m (e.en.1.zip e.en.2)) [] = none := by
                              show layCh pl (itemsZ m (e.st.zip e.ks)) [] = none
                              rw [HLJ.out, HLS.out]; simp [hok]
                            rw [HEQ.out, HSTEP.out, group_none h9]))
                          obtain ⟨p0, p1⟩ := cells_of (((((Below.refl w9.heap.size w9).alloc (Nat.le_refl _) (.cells #[.int .i64 (turnCh ch pl).rw.top, .int .i64 (turnCh ch pl).rw.low, .slice BA (turnCh ch pl).brs.length bc] 97))).block (w.heap.size + 1) (Array.getElem?_eq_some_iff.1 HBR9.out).1).trans HBR9.out) 0
                          have HBF := Lib.hid (show Below w.heap.size w (w9.alloc (.cells #[.int .i64 (turnCh ch pl).rw.top, .int .i64 (turnCh ch pl).rw.low, .slice BA (turnCh ch pl).brs.length bc] 97)) from (HA.out.below.trans (HBK9.out.mono hwo)).alloc ((HA.out.below.trans (HBK9.out.mono hwo)).size) _)
                          have HPQ := Lib.hid (And.intro p0 p1)
                          clear hok hte
                          go_wp2_with fail
                          have e0 := World.cell?_setCell_same (w9.alloc (.cells #[.int .i64 (turnCh ch pl).rw.top, .int .i64 (turnCh ch pl).rw.low, .slice BA (turnCh ch pl).brs.length bc] 97)) ⟨w.heap.size + 1, 0, none⟩ (.slice none 0 0) HPQ.out.1
                          refine bodyPost_ret (v := .tuple #[.agg #[.slice none 0 0], .slice none 0 0, .int .i64 3]) (by simp [results, Tryz.results60, go_sem, e0]) rfl ⟨_, _, by rw [HNO.out.2.2], HBF.out.setCell (p := ⟨w.heap.size + 1, 0, none⟩) (by show w.heap.size ≤ w.heap.size + 1; omega) _, by rw [HNO.out.1]; exact Sl.nil _ _ _, by rw [HNO.out.2.1]; exact Sl.nil _ _ _⟩
                        | true =>
                          have hte : turnE ch pl = 0 := by unfold turnE; rw [hok]; rfl
                          rw [hte]
                          have HL2 := Lib.hid (show layCh pl (itemsZ m (e.st.zip e.ks)) [] = layCh pl ((itemsS m ((j2 : Int), ks)).drop (q2 + 1) ++ itemsZ m ((e.st.zip e.ks).drop (i + 1))) (cs2.map CO.ch ++ [turnCh ch pl]) by
                            rw [HLJ.out, HLS.out]; simp [hok])
                          have halx := (Below.refl w9.heap.size w9).alloc (Nat.le_refl _) (.cells #[.int .i64 (turnCh ch pl).rw.top, .int .i64 (turnCh ch pl).rw.low, .slice BA (turnCh ch pl).brs.length bc] 97)
                          have hxx := heap_alloc_new w9 (.cells #[.int .i64 (turnCh ch pl).rw.top, .int .i64 (turnCh ch pl).rw.low, .slice BA (turnCh ch pl).brs.length bc] 97)
                          have HMX := Lib.hid (Sep.below HM9.out halx)
                          have HBX9 := Lib.hid (HB9.out.trans (halx.mono HB9.out.size))
                          have HBOX := Lib.hid (own_below HBO.out halx)
                          have HBKX := Lib.hid (HBK9.out.trans (halx.mono (Nat.le_trans hwo8 HB9.out.size)))
                          have v0 := (cells_of hxx 0).1
                          have v1 := (cells_of hxx 1).1
                          have v2 := (cells_of hxx 2).1
                          have x2c := (cells_of (m_x HMX.out) 2).1
                          have hown := m_ch HMX.out
                          obtain ⟨XA, xc, rfl, -, -, -⟩ := own_form hown
                          have hz9 := HB9.out.size
                          have hz10 : (w9.alloc (.cells #[.int .i64 (turnCh ch pl).rw.top, .int .i64 (turnCh ch pl).rw.low, .slice BA (turnCh ch pl).brs.length bc] 97)).heap.size = w9.heap.size + 1 := by simp
                          clear hok hte halx hxx hown
                          go_upto_region 37 with fail
                          obtain ⟨w10, hw10⟩ : ∃ W : World, W = w9.alloc (.cells #[.int .i64 (turnCh ch pl).rw.top, .int .i64 (turnCh ch pl).rw.low, .slice BA (turnCh ch pl).brs.length bc] 97) := ⟨_, rfl⟩
                          rw [← hw10] at HMX HBX9 HBOX HBKX v0 v1 v2 x2c hz10 ⊢
                          obtain ⟨b10, hb10⟩ : ∃ n : Nat, n = w9.heap.size := ⟨_, rfl⟩
                          rw [← hb10] at v0 v1 v2 hz10 ⊢
                          have hal11 := (Below.refl w10.heap.size w10).alloc (Nat.le_refl _) (.cells #[.int .i64 (turnCh ch pl).rw.top, .int .i64 (turnCh ch pl).rw.low, .slice BA (turnCh ch pl).brs.length bc] 97)
                          have h11 := heap_alloc_new w10 (.cells #[.int .i64 (turnCh ch pl).rw.top, .int .i64 (turnCh ch pl).rw.low, .slice BA (turnCh ch pl).brs.length bc] 97)
                          have HM11 := Lib.hid (Sep.below HMX.out hal11)
                          have H11 := Lib.hid h11
                          have HBK11 := Lib.hid (HBKX.out.trans (hal11.mono HBKX.out.size))
                          have hwo10 := HBKX.out.size
                          have HZ10 := Lib.hid hz10
                          clear hal11 h11 hw10 hb10 hz10
                          go_wp2_with ((at_builtin); (refine wpList_app3 elem_ch rfl _ _ rfl wo.heap.size _ cs2.length (ccells cs2) rfl (m_ch HM11.out) w10.heap.size 1 (.int .i64 (turnCh ch pl).rw.top) (.int .i64 (turnCh ch pl).rw.low) (.slice BA (turnCh ch pl).brs.length bc) rfl H11.out rfl rfl rfl (by omega) (by omega) (by simp; omega) ?_); (intro v12 w12 ho12 hg12 ha12); (have hlt12 := m_lt HM11.out); (have hx12 := (hg12.block wc.heap.size hlt12.2.2.2.1 (fun e => (hlt12.2.2.2.2.2.2.2.1 _ e.symm).2.1 rfl)).trans (m_x HM11.out)); (obtain ⟨c20, c21⟩ := cells_of hx12 2); (have HO12 := Lib.hid ho12); (have HG12 := Lib.hid hg12); (have HA12 := Lib.hid ha12); (obtain ⟨A12, c12, rfl, -, -, -⟩ := own_form ho12); (clear ho12 hg12 ha12 hlt12 hx12))
                          have hlt12 := m_lt HM11.out
                          have HB13 := Lib.hid ((HBK11.out.grown HG12.out HBK11.out.size fun k hk => (hlt12.2.2.2.2.2.2.2.1 k hk).1).setCell (p := ⟨wc.heap.size, 2, none⟩) hlt12.2.2.1 (.slice A12 (cs2.length + 1) c12))
                          have HM13 := Lib.hid (Sep.addChoice (rw' := (turnCh ch pl).rw) (brs := (turnCh ch pl).brs) HMK.out hwo8 HBX9.out HBOX.out HG12.out HO12.out HA12.out)
                          clear hlt12
                          exact ⟨⟨q2 + 1, .slice A12 (cs2.length + 1) c12, cs2 ++ [(⟨.slice BA (turnCh ch pl).brs.length bc, (turnCh ch pl).rw, (turnCh ch pl).brs⟩ : CO)], by omega, by go_num, HB13.out, HM13, by simp; omega, Lib.hid (by rw [HL2.out, List.map_append]; rfl)⟩, by simp [intOf]; omega⟩
                    · obtain rfl : q2 = st2.chs.length := by omega
                      have HL2 := Lib.hid (show layCh pl (itemsZ m (e.st.zip e.ks)) [] = layCh pl (itemsZ m ((e.st.zip e.ks).drop (i + 1))) (cs2.map CO.ch) by
                        rw [HLJ.out, List.drop_of_length_le (by rw [itemsS_len, HCH.out]; exact Nat.le_refl _), List.nil_append])
                      clear hltj
                      go_wp2
                      exact ⟨⟨i + 1, xv2, cs2, by omega, by go_num, HBJ.out, HMJ.out, by omega, HL2.out⟩, by simp [intOf]; omega⟩
                · obtain rfl : i = e.st.length := by omega
                  have HLF := Lib.hid (show layCh pl (itemsZ m (e.en.1.zip e.en.2)) [] = some (cs.map CO.ch) by
                    show layCh pl (itemsZ m (e.st.zip e.ks)) [] = _
                    rw [HLI.out, List.drop_of_length_le (by rw [List.length_zip]; omega)]; rfl)
                  have hown := m_ch HMI.out
                  obtain ⟨XA, xc, rfl, -, -, -⟩ := own_form hown
                  have x0 := (cells_of (m_x HMI.out) 0).1
                  have x1 := (cells_of (m_x HMI.out) 1).1
                  obtain ⟨x2, x2f⟩ := cells_of (m_x HMI.out) 2
                  have hlt := m_lt HMI.out
                  have hwoi := HBI.out.size
                  have hgnm := hgn
                  clear hown hlti
                  by_cases h0 : cs.length = 0
                  · obtain rfl : cs = [] := List.eq_nil_of_length_eq_zero h0
                    have HGR := Lib.hid (group_loop (g := g) HLF.out)
                    have HML := Lib.hid (MRow.loop2 (ca := XA) (cc := xc) hwoi g hlt.2.2.2.1 HMI.out)
                    have HOM' : stAt m (e.en.1.getD 0 0) = st := HOM.out
                    go_upto_region 42 with fail
                    obtain ⟨wl, hwl⟩ : ∃ W : World, W = ((wi.setCell ⟨wc.heap.size, 2, none⟩ (.slice (some ⟨wi.heap.size + 1, 0, none⟩) 1 1)).alloc (.cells #[.int .i64 (g : Int), .int .i64 1, .int .i64 1] 103)).alloc (.cells #[.int .i64 0, .int .i64 1, .slice (some ⟨wi.heap.size, 0, none⟩) 1 1] 97) := ⟨_, rfl⟩
                    have HBL : Hid (Below wo.heap.size wo wl) := Lib.hid (by
                      rw [hwl]
                      have h9 := HBI.out.setCell (p := ⟨wc.heap.size, 2, none⟩) hlt.2.2.1 (.slice (some ⟨wi.heap.size + 1, 0, none⟩) 1 1)
                      have h8 := h9.alloc h9.size (.cells #[.int .i64 (g : Int), .int .i64 1, .int .i64 1] 103)
                      exact h8.alloc h8.size _)
                    rw [← hwl] at HML ⊢
                    clear hwl x0 x1 x2 x2f
                    have q0 := (cells_of (m_ob HML.out) 0).1
                    have x0 := (cells_of (m_x HML.out) 0).1
                    have x1 := (cells_of (m_x HML.out) 1).1
                    have x2 := (cells_of (m_x HML.out) 2).1
                    have hsw := HBL.out.size
                    have hos := m_st HML.out
                    obtain ⟨VA, vc, rfl, -, -, -⟩ := own_form hos
                    have HM9 := Lib.hid (Sep.below HML.out ((Below.refl _ _).alloc (Nat.le_refl _) (.cells #[.int .i64 st.owner, .int .i64 st.mark, .slice (some ⟨wi.heap.size + 1, 0, none⟩) 1 1] 79)))
                    have HB9 := Lib.hid (HBL.out.alloc hsw (.cells #[.int .i64 st.owner, .int .i64 st.mark, .slice (some ⟨wi.heap.size + 1, 0, none⟩) 1 1] 79))
                    have H9 := Lib.hid (heap_alloc_new wl (.cells #[.int .i64 st.owner, .int .i64 st.mark, .slice (some ⟨wi.heap.size + 1, 0, none⟩) 1 1] 79))
                    clear hos
                    go_wp2_with ((at_builtin); (refine wpList_app3 elem_st rfl _ _ rfl wo.heap.size _ ss.length (scells ss) rfl (m_st HM9.out) wl.heap.size 1 (.int .i64 st.owner) (.int .i64 st.mark) (.slice (some ⟨wi.heap.size + 1, 0, none⟩) 1 1) rfl H9.out rfl rfl rfl (by omega) (by omega) (by simp; omega) ?_); (intro v12 w12 ho12 hg12 ha12); (have hlt12 := m_lt HM9.out); (have hx12 := (hg12.block wo.heap.size hlt12.2.1 (fun e => (hlt12.2.2.2.2.2.2.2.2 _ e.symm).2.2 rfl)).trans (m_ob HM9.out)); (obtain ⟨c20, c21⟩ := cells_of hx12 0); (have HO12 := Lib.hid ho12); (have HG12 := Lib.hid hg12); (have HA12 := Lib.hid ha12); (obtain ⟨A12, c12, rfl, -, -, -⟩ := own_form ho12); (clear ho12 hg12 ha12 hlt12 hx12))
                    have hlt12 := m_lt HM9.out
                    have HB13 := Lib.hid ((HB9.out.grown HG12.out HB9.out.size fun k hk => (hlt12.2.2.2.2.2.2.2.2 k hk).1).setCell (p := ⟨wo.heap.size, 0, none⟩) (Nat.le_refl _) (.slice A12 (ss.length + 1) c12))
                    have HM13 := Lib.hid (MRow.shut HML.out hsw HG12.out HO12.out HA12.out)
                    clear hlt12
                    exact ⟨⟨g + 1, .slice A12 (ss.length + 1) c12, ss ++ [⟨.slice (some ⟨wi.heap.size + 1, 0, none⟩) 1 1, st.owner, st.mark, [(⟨.slice (some ⟨wi.heap.size, 0, none⟩) 1 1, ⟨0, 1⟩, [⟨(g : Int), ⟨1, 1⟩⟩]⟩ : CO)]⟩], by omega, by go_num, HB13.out, HM13, by simp; omega, Lib.hid (by rw [HEQ.out, HSTEP.out, HGR.out, HOM', List.map_append]; rfl)⟩, by simp [intOf]; omega⟩
                  · by_cases h8 : 8 < cs.length
                    · have HNO := Lib.hid (merge_none HVT.out (show mergeR m = none by rw [HEQ.out, HSTEP.out, group_many HLF.out (by rw [List.length_map]; exact h8)]))
                      have hbr9 := (HBI.out.block (w.heap.size + 1) (by have := HA.out.pblt; have := HA.out.pbn; omega)).trans HA.out.br
                      obtain ⟨p0, p1⟩ := cells_of hbr9 0
                      have HBF := Lib.hid (HA.out.below.trans (HBI.out.mono hwo))
                      have HPQ := Lib.hid (And.intro p0 p1)
                      clear hbr9
                      go_wp2_with fail
                      have e0 := World.cell?_setCell_same wi ⟨w.heap.size + 1, 0, none⟩ (.slice none 0 0) HPQ.out.1
                      refine bodyPost_ret (v := .tuple #[.agg #[.slice none 0 0], .slice none 0 0, .int .i64 3]) (by simp [results, Tryz.results60, go_sem, e0]) rfl ⟨_, _, by rw [HNO.out.2.2], HBF.out.setCell (p := ⟨w.heap.size + 1, 0, none⟩) (by show w.heap.size ≤ w.heap.size + 1; omega) _, by rw [HNO.out.1]; exact Sl.nil _ _ _, by rw [HNO.out.2.1]; exact Sl.nil _ _ _⟩
                    · have HGR := Lib.hid (group_some (g := g) HLF.out (by rw [List.length_map]; exact h0) (by rw [List.length_map]; exact h8))
                      have HOM' : stAt m (e.en.1.getD 0 0) = st := HOM.out
                      clear x0 x1 x2 x2f
                      have q0 := (cells_of (m_ob HMI.out) 0).1
                      have x0 := (cells_of (m_x HMI.out) 0).1
                      have x1 := (cells_of (m_x HMI.out) 1).1
                      have x2 := (cells_of (m_x HMI.out) 2).1
                      have hsw := HBI.out.size
                      have hos := m_st HMI.out
                      obtain ⟨VA, vc, rfl, -, -, -⟩ := own_form hos
                      have HM9 := Lib.hid (Sep.below HMI.out ((Below.refl _ _).alloc (Nat.le_refl _) (.cells #[.int .i64 st.owner, .int .i64 st.mark, .slice XA cs.length xc] 79)))
                      have HB9 := Lib.hid (HBI.out.alloc hsw (.cells #[.int .i64 st.owner, .int .i64 st.mark, .slice XA cs.length xc] 79))
                      have H9 := Lib.hid (heap_alloc_new wi (.cells #[.int .i64 st.owner, .int .i64 st.mark, .slice XA cs.length xc] 79))
                      clear hos
                      go_wp2_with ((at_builtin); (refine wpList_app3 elem_st rfl _ _ rfl wo.heap.size _ ss.length (scells ss) rfl (m_st HM9.out) wi.heap.size 1 (.int .i64 st.owner) (.int .i64 st.mark) (.slice XA cs.length xc) rfl H9.out rfl rfl rfl (by omega) (by omega) (by simp; omega) ?_); (intro v12 w12 ho12 hg12 ha12); (have hlt12 := m_lt HM9.out); (have hx12 := (hg12.block wo.heap.size hlt12.2.1 (fun e => (hlt12.2.2.2.2.2.2.2.2 _ e.symm).2.2 rfl)).trans (m_ob HM9.out)); (obtain ⟨c20, c21⟩ := cells_of hx12 0); (have HO12 := Lib.hid ho12); (have HG12 := Lib.hid hg12); (have HA12 := Lib.hid ha12); (obtain ⟨A12, c12, rfl, -, -, -⟩ := own_form ho12); (clear ho12 hg12 ha12 hlt12 hx12))
                      have hlt12 := m_lt HM9.out
                      have HB13 := Lib.hid ((HB9.out.grown HG12.out HB9.out.size fun k hk => (hlt12.2.2.2.2.2.2.2.2 k hk).1).setCell (p := ⟨wo.heap.size, 0, none⟩) (Nat.le_refl _) (.slice A12 (ss.length + 1) c12))
                      have HM13 := Lib.hid (MRow.shut HMI.out hsw HG12.out HO12.out HA12.out)
                      clear hlt12
                      exact ⟨⟨g + 1, .slice A12 (ss.length + 1) c12, ss ++ [⟨.slice XA cs.length xc, st.owner, st.mark, cs⟩], by omega, by go_num, HB13.out, HM13, by simp; omega, Lib.hid (by rw [HEQ.out, HSTEP.out, HGR.out, HOM', List.map_append]; rfl)⟩, by simp [intOf]; omega⟩
          · obtain rfl : g = es.length := by omega
            have HRS := Lib.hid (merge_some HVT.out (show mergeR m = some (ss.map SO.st) by
              rw [HEQ.out, List.drop_of_length_le (by rw [List.length_zipIdx, List.length_map]; exact Nat.le_refl _)]; rfl))
            have HPP := Lib.hid (show (plTo (foundOf m) m.length m.length).1 = pl by rw [← HE.out])
            have hos := HMO.out.get (c := stRow wo.heap.size sv ss) (List.mem_cons_of_mem _ (List.mem_cons_of_mem _ (List.mem_cons_self ..)))
            obtain ⟨VA, vc, rfl, v1, v2, -⟩ := own_form hos
            have q0 := (cells_of HMO.out.cell 0).1
            have hbr9 := (HBW.out.block (w.heap.size + 1) (by have := HA.out.pblt; have := HA.out.pbn; omega)).trans HA.out.br
            obtain ⟨p0, p1⟩ := cells_of hbr9 0
            have HPQ := Lib.hid (And.intro p0 p1)
            have hpb := HA.out.pblt
            have HPL := Lib.hid ((HBW.out.block pb hpb).trans HA.out.place)
            have HBF := Lib.hid (HA.out.below.trans (HBW.out.mono hwo))
            have HMOD := Lib.hid (MOut.model HMO.out)
            have hpbn := HA.out.pbn
            clear hos hbr9 hlg
            go_wp2_with fail
            have e0 := World.cell?_setCell_same w5 ⟨w.heap.size + 1, 0, none⟩ (.slice VA ss.length vc) HPQ.out.1
            refine bodyPost_ret (v := .tuple #[.agg #[.slice VA ss.length vc], .slice (some ⟨pb, 0, none⟩) m.length m.length, .int .i64 0]) (by simp [results, Tryz.results60, go_sem, e0]) rfl ⟨_, _, by rw [HRS.out.2.2], HBF.out.setCell (p := ⟨w.heap.size + 1, 0, none⟩) (by show w.heap.size ≤ w.heap.size + 1; omega) _, ?_, ?_⟩
            · rw [HRS.out.1]
              have hs : Go.Proofs.YtoffbdlgmnpblaaGreat.Same (DB wo.heap.size w5) w5 (w5.setCell ⟨w.heap.size + 1, 0, none⟩ (.slice VA ss.length vc)) := fun k hk => Below.heap_setCell _ _ _ _ (by have := hk.1; show k ≠ w.heap.size + 1; omega)
              exact (HMOD.out.same hs).mono fun k hk => ⟨by have := hk.1; omega, by have := hk.2.1; simp [World.setCell]; omega, hk.2.2.same (hs k hk)⟩
            · rw [HRS.out.2.1, HPP.out]
              have hb := (Below.heap_setCell w5 ⟨w.heap.size + 1, 0, none⟩ (.slice VA ss.length vc) pb (show pb ≠ w.heap.size + 1 by omega)).trans HPL.out
              exact ints_of_block pl hb ⟨by omega, (Array.getElem?_eq_some_iff.1 hb).1, soft_of_block hb⟩ hpll (by unfold maxLen; omega) (by simp)

end Go.Proofs.YtoffbdlgmnpblaaGreat
