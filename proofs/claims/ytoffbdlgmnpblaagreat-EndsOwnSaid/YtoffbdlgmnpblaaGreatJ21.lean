/- Part 21: Spm Rcp Own En1 En5. -/
import Derived.Test.YtoffbdlgmnpblaaGreatJ20
import Derived.Test.YtoffbdlgmnpblaaGreatJ18

/- Reference: Spoil. -/
namespace Go.Proofs.YtoffbdlgmnpblaaGreat
open Go.RowKit
set_option maxHeartbeats 4000000
set_option maxRecDepth 100000

theorem Spoil_calls (m : List St) (v : Value) (D : Nat → Prop) (w : World) (hD : Lo D w) (h : ModelC w D v m) (hs : ∀ k, D k → Soft w k) :
    Calls Tryz.prog 44 #[v] w fun e w' => e = .returned (.tuple #[]) ∧ ∃ ob, Turned D (w.alloc ob) w' := by
  obtain ⟨u, rfl, h⟩ := h
  obtain ⟨A, c, rfl, h1, h2, -⟩ := h.form
  unfold maxLen at h2
  have hB0 := (Below.refl w.heap.size w).alloc (Nat.le_refl _) (.cells #[.slice A m.length c] 24)
  have H := Lib.hid (h.same (hD.same hB0))
  have HSF := Lib.hid (show ∀ k, D k → Soft (w.alloc (.cells #[.slice A m.length c] 24)) k from fun k hk => (hs k hk).same (hB0.block k (hD k hk)))
  have HBX := Lib.hid (heap_alloc_new w (.cells #[.slice A m.length c] 24))
  have HND := Lib.hid (show ¬ D w.heap.size from fun e => Nat.lt_irrefl _ (hD _ e))
  clear h hs
  go_enter Tryz.func44, Tryz.ntmps44
  go_wp2
  generalize hW0 : w.alloc (.cells #[.slice A m.length c] 24) = W0 at *
  have HW0 := Lib.hid hW0
  clear hW0
  have ebox : ∀ W, Turned D W0 W → W.cell? ⟨w.heap.size, 0, none⟩ = some (.slice A m.length c) := fun W ht => (cells_of ((ht.out _ HND.out).trans HBX.out) 0).1
  have EB := Lib.hid ebox
  clear ebox
  go_loopw [8] (fun k W => ∃ (i : Nat), i ≤ m.length ∧ k = .int .i64 (i : Int) ∧ Hid (Turned D W0 W)) (fun k _ => m.length - (intOf k).toNat)
  case atStart => exact ⟨0, Nat.zero_le _, rfl, Turned.refl _ _⟩
  case round =>
    obtain ⟨i, hi, rfl, HT⟩ := hrel
    by_cases hlt : i < m.length
    · obtain ⟨m', hm, hml⟩ := H.out.firm st_firm HT.out
      rw [← hml] at hlt
      obtain ⟨s, hs⟩ : ∃ s, m'[i]? = some s := ⟨_, List.getElem?_eq_getElem hlt⟩
      rw [hml] at hlt
      obtain ⟨ad, B, p, d, rfl, hda, q0, q1, q2, hsc⟩ := hm.st_at i s hs
      obtain ⟨rfl, hp1, hp2⟩ := hsc.len
      unfold maxLen at hp2
      have b0 := EB.out wr HT.out
      have hdb : D (ad.add (i * 3)).block := by rw [block_of_add]; exact hda
      have fz : wr.frozen? ⟨(ad.add (i * 3)).block, (ad.add (i * 3)).off + 1, none⟩ = false := Soft.at (HT.out.soft (HSF.out _ hdb))
      have HQ1 := Lib.hid q1
      have HQ2 := Lib.hid q2
      have HSC := Lib.hid hsc
      clear hm hml hs hsc
      go_upto_region 5 with fail
      generalize hW : wr.setCell _ _ = W2
      have ht2 : Turned D wr W2 := hW ▸ Turned.set (p := ⟨(ad.add (i * 3)).block, (ad.add (i * 3)).off + 1, none⟩) HQ1.out hdb _
      have HT2 := Lib.hid ht2
      have b2 := EB.out W2 (HT.out.trans ht2)
      have q22 := slice_turn ht2 HQ2.out
      have HQ22 := Lib.hid q22
      clear hW ht2 b0 q0 q1 q2 fz
      go_wp2
      go_loopw [27] (fun k W => ∃ (j : Nat), j ≤ s.chs.length ∧ k = .int .i64 (j : Int) ∧ Hid (Turned D W2 W)) (fun k _ => s.chs.length - (intOf k).toNat)
      case atStart => exact ⟨0, Nat.zero_le _, rfl, Turned.refl _ _⟩
      case round =>
        obtain ⟨j, hj, rfl, HT3⟩ := hrel
        have HTW := Lib.hid ((HT.out.trans HT2.out).trans HT3.out)
        clear b2 q22
        by_cases hlt2 : j < s.chs.length
        · obtain ⟨chs', hch, hchl⟩ := HSC.out.firm ch_firm (HT2.out.trans HT3.out)
          rw [← hchl] at hlt2
          obtain ⟨x, hx⟩ : ∃ x, chs'[j]? = some x := ⟨_, List.getElem?_eq_getElem hlt2⟩
          rw [hchl] at hlt2
          obtain ⟨ad2, B2, p2, d2, rfl, hda2, r0, r1, r2, hbr⟩ := hch.ch_at j x hx
          obtain ⟨rfl, hb1, hb2⟩ := hbr.len
          unfold maxLen at hb2
          have b3 := EB.out wr HTW.out
          have q3 := slice_turn HT3.out HQ22.out
          have hdb2 : D (ad2.add (j * 3)).block := by rw [block_of_add]; exact hda2
          have fz2 : wr.frozen? (ad2.add (j * 3)) = false := Soft.at (HTW.out.soft (HSF.out _ hdb2))
          have HR0 := Lib.hid r0
          have HR2 := Lib.hid r2
          have HBR := Lib.hid hbr
          have HQ3 := Lib.hid q3
          clear hch hchl hx hbr r1 r2
          go_upto_region 9 with fail
          generalize hW3 : wr.setCell _ _ = W3
          have ht4 : Turned D wr W3 := hW3 ▸ Turned.set HR0.out hdb2 _
          have HT4 := Lib.hid ht4
          have b4 := EB.out W3 (HTW.out.trans ht4)
          have q4 := slice_turn ht4 HQ3.out
          have r4 := slice_turn ht4 HR2.out
          have HQ4 := Lib.hid q4
          have HR4 := Lib.hid r4
          clear hW3 ht4 b3 q3 r0 fz2
          go_wp2
          go_loopw [56] (fun k W => ∃ (q : Nat), q ≤ x.brs.length ∧ k = .int .i64 (q : Int) ∧ Hid (Turned D W3 W)) (fun k _ => x.brs.length - (intOf k).toNat)
          case atStart => exact ⟨0, Nat.zero_le _, rfl, Turned.refl _ _⟩
          case round =>
            obtain ⟨q, hq, rfl, HT5⟩ := hrel
            have HTX := Lib.hid ((HTW.out.trans HT4.out).trans HT5.out)
            clear b4 q4 r4
            by_cases hlt3 : q < x.brs.length
            · obtain ⟨brs', hbs, hbsl⟩ := HBR.out.firm br_firm (HT4.out.trans HT5.out)
              rw [← hbsl] at hlt3
              obtain ⟨b, hb⟩ : ∃ b, brs'[q]? = some b := ⟨_, List.getElem?_eq_getElem hlt3⟩
              rw [hbsl] at hlt3
              obtain ⟨ad3, rfl, hda3, t0, t1, t2⟩ := hbs.br_at q b hb
              have b5 := EB.out wr HTX.out
              have q5 := slice_turn HT5.out HQ4.out
              have r5 := slice_turn HT5.out HR4.out
              have hdb3 : D (ad3.add (q * 3)).block := by rw [block_of_add]; exact hda3
              have fz3 : wr.frozen? (ad3.add (q * 3)) = false := Soft.at (HTX.out.soft (HSF.out _ hdb3))
              have HT0 := Lib.hid t0
              clear hbs hbsl hb t1 t2
              go_wp2
              exact ⟨⟨q + 1, by omega, by go_num, HT5.out.trans (Turned.set HT0.out hdb3 _)⟩, by simp [intOf]; omega⟩
            · obtain rfl : q = x.brs.length := by omega
              clear hlt3
              go_wp2
              exact ⟨⟨j + 1, by omega, by go_num, (HT3.out.trans HT4.out).trans HT5.out⟩, by simp [intOf]; omega⟩
        · obtain rfl : j = s.chs.length := by omega
          clear hlt2
          go_wp2
          exact ⟨⟨i + 1, by omega, by go_num, (HT.out.trans HT2.out).trans HT3.out⟩, by simp [intOf]; omega⟩
    · obtain rfl : i = m.length := by omega
      clear hlt
      go_wp2
      exact ⟨rfl, .tuple #[], by simp [results, Tryz.results44, go_sem], rfl, .cells #[.slice A m.length c] 24, by rw [HW0.out]; exact HT.out⟩

end Go.Proofs.YtoffbdlgmnpblaaGreat

/- Reference: Copy. -/
namespace Go.Proofs.YtoffbdlgmnpblaaGreat
open Go.RowKit
set_option maxHeartbeats 4000000
set_option maxRecDepth 100000

/-- append of branches that are read onto an own row, as a step of a region that draws -/
theorem step_appBr {w : World} {ops : Array Oper} {o : Oper} {a : Act} {K : Act → World → Prop} {Q : Exit → Act → World → Prop} {F : Prop} {D : Nat → Prop}
    (hgd : o.guard = none) (s x : Operand) (ho : o.op = .call { callee := .builtin .append, args := #[s, x], argTypes := #[95, 95] })
    (base : Nat) (v : Value) (l0 brs : List Br) (hs : a.eval s = v) (hown : w.ownsRow base 103 3 v l0.length (bcells l0)) (u : Value) (hx : a.eval x = u) (hu : Sl Kind.br w D u brs)
    (hl : l0.length + brs.length ≤ 1000000) (hbase : base ≤ w.heap.size)
    (h : ∀ v' w', w'.ownsRow base 103 3 v' (l0 ++ brs).length (bcells (l0 ++ brs)) → w.grownBy w' v.ownBlock → (v'.ownBlock = v.ownBlock ∨ v'.ownBlock = some w.heap.size) → K (a.put o.dst v') w') :
    if Region.wanted o (yielded ops a.tmps) = true then Oper.wp Tryz.prog o a w K Q else F := by
  have hw : Region.wanted o (yielded ops a.tmps) = true := by simp [Region.wanted, hgd]
  rw [if_pos hw]
  obtain ⟨i, hi, hz, hsz, hby⟩ := elem_br.hi
  obtain ⟨A, c, rfl, h1, h2, h3⟩ := hu.form
  rcases A with _ | ad
  · have hxs : brs = [] := by
      cases brs with
      | nil => rfl
      | cons b l => obtain ⟨ad, e', _⟩ := h3 (by simp); cases e'
    subst hxs
    have hr := run_append_none (P := Tryz.prog) (w := w) base 95 o.type 103 i 3 elem_br.ht hi v l0.length (bcells l0) hown c
    unfold Oper.wp execOp
    simp only [List.length_nil] at hx
    simp only [ho, resolve, invoke, builtin, Sem.run_bind, Sem.run_pure, Result.andThen_ok, List.map_toArray, List.map_cons, List.map_nil, hs, hx, hr]
    exact h v w (by rw [List.append_nil]; exact hown) (World.grownBy.refl _ _) (.inl rfl)
  · obtain ⟨v', w', hr, r2, r3, _, r5⟩ := run_append_own_at (P := Tryz.prog) w base 95 o.type 103 i _ 3 24 elem_br.ht hi hz hsz hby elem_br.hz (by decide) v l0.length (bcells l0) hown ad brs.length c (bcells brs) (bcells_len brs) hu.br_cells bcells_one (by simp only [maxLen]; omega) (by omega) hbase
    unfold Oper.wp execOp
    simp only [ho, resolve, invoke, builtin, Sem.run_bind, Sem.run_pure, Result.andThen_ok, List.map_toArray, List.map_cons, List.map_nil, hs, hx, hr]
    exact h v' w' (by rw [List.length_append, show bcells (l0 ++ brs) = bcells l0 ++ bcells brs from by simp [bcells]]; exact r2) r3 r5

theorem RCopy_calls (m : List St) (v : Value) (D : Nat → Prop) (w : World) (hD : Lo D w) (h : ModelC w D v m)
    (hl : m.length ≤ 1000000 ∧ ∀ s ∈ m, s.chs.length ≤ 1000000 ∧ ∀ c ∈ s.chs, c.brs.length ≤ 1000000) :
    Calls Tryz.prog 41 #[v] w fun e w' => ∃ sv ss, e = .returned (.agg #[sv]) ∧ Sep w.heap.size w' (stRow w.heap.size sv ss :: stParts w.heap.size ss) ∧ ss.map SO.st = m ∧ Below w.heap.size w w' := by
  obtain ⟨u, rfl, h⟩ := h
  obtain ⟨A, c, rfl, h1, h2, -⟩ := h.form
  unfold maxLen at h2
  obtain ⟨hl1, hl2⟩ := hl
  have H := Lib.hid h
  have HL := Lib.hid hl2
  clear h hl2
  obtain ⟨keep, hkeep⟩ : ∃ keep : Nat → Nat → Bool, keep = fun _ _ => true := ⟨_, rfl⟩
  have HKEEP := Lib.hid hkeep
  clear hkeep
  go_enter Tryz.func41, Tryz.ntmps41
  go_wp2
  have hB0 := (((Below.refl w.heap.size w).alloc (Nat.le_refl _) (.cells #[.slice A m.length c] 24)).alloc (by simp) (.cells #[.slice none 0 0] 24)).alloc (by simp; omega) (.cells #[.slice none 0 0] 24)
  go_loopw [13] (fun k W => ∃ (j : Nat) (sv : Value) (ss : List SO), j ≤ m.length ∧ k = .int .i64 (j : Int) ∧ Below w.heap.size w W ∧ Hid (ss.map SO.st = keptM keep (m.take j)) ∧ KOut w W (w.heap.size + 1) (w.heap.size + 1 + 1) sv ss) (fun k _ => m.length - (intOf k).toNat)
  case atStart => exact ⟨0, _, [], Nat.zero_le _, rfl, hB0, rfl, KOut.start w _ _ _ rfl rfl _⟩
  case round =>
    obtain ⟨j, sv, ss, hj, rfl, hBW, HE, HK⟩ := hrel
    obtain ⟨wo, rfl⟩ : ∃ wo : World, wo = wr := ⟨_, rfl⟩
    by_cases hlt : j < m.length
    · obtain ⟨s, hs⟩ : ∃ s, m[j]? = some s := ⟨_, List.getElem?_eq_getElem hlt⟩
      obtain ⟨ad, B, p, d, rfl, hDa, q0, q1, q2, hsc⟩ := H.out.st_up hD hBW j s hs
      obtain ⟨rfl, hp1, hp2⟩ := hsc.len
      unfold maxLen at hp2
      obtain ⟨hls, hlb⟩ := HL.out s (List.mem_of_getElem? hs)
      have HS := Lib.hid hs
      have HCS := Lib.hid hsc
      have HLB := Lib.hid hlb
      have HO := Lib.hid (KOut.open HK hBW.size s.owner s.mark (.slice B s.chs.length d) _ rfl)
      have hBW1 : Below w.heap.size w ((wo.alloc (.cells #[.int .i64 s.owner, .int .i64 s.mark, .slice B s.chs.length d] 79)).alloc (.cells #[.int .i64 s.owner, .int .i64 s.mark, .slice none 0 0] 79)) := (hBW.alloc hBW.size _).alloc (by have := hBW.size; simp; omega) _
      clear hs hsc hlb HK
      go_wp2
      go_loopw [25] (fun k W => ∃ (i : Nat) (xv : Value) (cs : List CO), i ≤ s.chs.length ∧ k = .int .i64 (i : Int) ∧ Below w.heap.size w W ∧ Hid (cs.map CO.ch = keptTo keep j s.chs i) ∧ KRow w W (w.heap.size + 1) (w.heap.size + 1 + 1) (wo.heap.size + 1) s.owner s.mark xv cs (boxC wo.heap.size #[.int .i64 s.owner, .int .i64 s.mark, .slice B s.chs.length d] 79) sv ss) (fun k _ => s.chs.length - (intOf k).toNat)
      case atStart => exact ⟨0, _, [], Nat.zero_le _, rfl, hBW1, rfl, HO.out⟩
      case round =>
        obtain ⟨i, xv, cs, hi, rfl, hBW2, HE2, HK⟩ := hrel
        by_cases hlt2 : i < s.chs.length
        · obtain ⟨x, hx⟩ : ∃ x, s.chs[i]? = some x := ⟨_, List.getElem?_eq_getElem hlt2⟩
          have HX := Lib.hid hx
          obtain ⟨ad2, B2, p2, d2, rfl, hDa2, r0, r1, r2, hxc⟩ := HCS.out.ch_up hD hBW2 i x hx
          have hBW3 : Below w.heap.size w (wr.alloc (.cells #[.int .i64 x.rw.top, .int .i64 x.rw.low, .slice B2 p2 d2] 97)) := hBW2.alloc hBW2.size _
          have HXC := Lib.hid hxc
          have HK3 := Lib.hid (HK.below ((Below.refl _ wr).alloc (Nat.le_refl _) (.cells #[.int .i64 x.rw.top, .int .i64 x.rw.low, .slice B2 p2 d2] 97)))
          have HX3 : Held3 wr.heap.size (.int .i64 x.rw.top) (.int .i64 x.rw.low) (.slice B2 p2 d2) (wr.alloc (.cells #[.int .i64 x.rw.top, .int .i64 x.rw.low, .slice B2 p2 d2] 97)) := ⟨(box_cells wr _ rfl _ _ 0).1, (box_cells wr _ rfl _ _ 1).1, (box_cells wr _ rfl _ _ 2).1, by simp⟩
          have HX3 := Lib.hid HX3
          have hlx := HLB.out x (List.mem_of_getElem? hx)
          clear hx hxc HK
          have hk : keep j i = true := by rw [HKEEP.out]
          obtain ⟨w2, hw2e⟩ : ∃ w2, w2 = wr.alloc (.cells #[.int .i64 x.rw.top, .int .i64 x.rw.low, .slice B2 p2 d2] 97) := ⟨_, rfl⟩
          have hb2' := Below.refl w2.heap.size w2
          have hb2'' : Below w.heap.size w w2 := by rw [hw2e]; exact hBW3
          have HE3 := Lib.hid (show (cs.map CO.ch) ++ [x] = _ from (congrArg (· ++ [x]) HE2.out).trans (keptTo_yes HX.out hk).symm)
          rw [← hw2e] at HK3 HX3
          have HK4 := HK3
          have HX4 := HX3
          have hlo := k_lt HK4.out
          have HB2 := Lib.hid hb2''
          have hlc : cs.length ≤ 1000000 := by have h1 := keptTo_len keep j s.chs i; rw [← HE2.out, List.length_map] at h1; omega
          obtain ⟨q01, q02, q03, q04, q05, q06⟩ := hlo
          have hw2 : w.heap.size ≤ w2.heap.size := HB2.out.size
          have Q5 := Lib.hid q05
          have hch := k_ch HK4.out
          have HCH := Lib.hid hch
          obtain ⟨A3, c3', rfl, -, -, -⟩ := own_form hch
          have HXX := Lib.hid (k_x HK4.out)
          have HBR := Lib.hid ((HXC.out.same (hD.same HB2.out)).same (w' := (w2.drew).alloc (.cells #[] 103)) ((hD.up hw2).same ((Below.refl w2.heap.size w2).drew.alloc (Nat.le_refl _) _)))
          clear hk hb2'' hb2' hch q05 q06
          go_wp2_with fail
          rw [← hw2e]
          obtain ⟨t0, t1, t2, t3⟩ : Held3 (wo.heap.size + 1) (.int .i64 s.owner) (.int .i64 s.mark) (.slice A3 cs.length c3') w2 := held_box HXX.out q04
          obtain ⟨c0, c1, c2, c3⟩ : Held3 wr.heap.size (.int .i64 x.rw.top) (.int .i64 x.rw.low) (.slice B2 p2 d2) w2 := HX4.out
          obtain ⟨t0', t1', t2', t3'⟩ : Held3 (wo.heap.size + 1) (.int .i64 s.owner) (.int .i64 s.mark) (.slice A3 cs.length c3') w2.drew := (held_box HXX.out q04 : Held3 (wo.heap.size + 1) (.int .i64 s.owner) (.int .i64 s.mark) (.slice A3 cs.length c3') w2)
          obtain ⟨c0', c1', c2', c3''⟩ : Held3 wr.heap.size (.int .i64 x.rw.top) (.int .i64 x.rw.low) (.slice B2 p2 d2) w2.drew := HX4.out
          clear hBW3 r0 r1 r2 q0 q1 q2 hBW1 hB0 HO HK3 HX3 hw2e
          go_region_law (first
            | (refine step_app3 elem_ch rfl _ _ rfl w.heap.size (.slice A3 cs.length c3') cs.length (ccells cs) rfl HO6.out w4.heap.size _ _ _ _ rfl (heap_alloc_new _ _) rfl rfl rfl (by omega) (by omega) hw6 ?_; intro v5 w5 ho5 hg5 ha5; have HO5 := Lib.hid ho5; have HG5 := Lib.hid hg5; have HA5 := Lib.hid ha5; obtain ⟨A5, c5, rfl, -, -, -⟩ := own_form ho5; have g5 : w5.heap[wo.heap.size + 1]? = some (.cells #[.int .i64 s.owner, .int .i64 s.mark, .slice A3 cs.length c3'] 79 (0, 0)) := (hg5.block (wo.heap.size + 1) (by simp; omega) (fun e => (Q5.out _ e.symm).2.1 rfl)).trans ((heap_alloc_old _ _ (by omega)).trans HX6.out); have g6 := (cells_of g5 2).1; have g7 := (cells_of g5 2).2; clear ho5 hg5 ha5 g5)
            | (refine step_appBr (D := D) rfl _ _ rfl w2.heap.size _ [] x.brs rfl (own_empty w2.drew w2.heap.size (Nat.le_refl _) 103 3) _ rfl HBR.out (by simpa using hlx) (by simp) ?_; intro v4 w4 ho4 hg4 ha4; have ho4 : w4.ownsRow w2.heap.size 103 3 v4 x.brs.length (bcells x.brs) := ho4; have hb4 : Below w2.heap.size w2 w4 := (((Below.refl w2.heap.size w2).drew).alloc (Nat.le_refl _) (.cells #[] 103)).grown hg4 (by simp) (fun k hk => by cases hk; exact Nat.le_refl _); have hs4 := hb4.size; obtain ⟨d0, d1, d2', d3⟩ := HX4.out.below hb4; have HX6 := Lib.hid ((hb4.block _ q04).trans (k_x HK4.out)); obtain ⟨A4, c4, rfl, -, -, -⟩ := own_form ho4; have HO4 := Lib.hid ho4; have HB4 := Lib.hid hb4; have HO6 := Lib.hid (own_kept HCH.out fun k hk => (heap_alloc_old w4 (.cells #[.int .i64 x.rw.top, .int .i64 x.rw.low, .slice A4 x.brs.length c4] 97) (Nat.lt_of_lt_of_le (HCH.out.lt k hk).2 hs4)).trans (hb4.block k (HCH.out.lt k hk).2)); have hw6 : w.heap.size ≤ (w4.alloc (.cells #[.int .i64 x.rw.top, .int .i64 x.rw.low, .slice A4 x.brs.length c4] 97)).heap.size := (by simp; omega); have s4 := (cells_of HX6.out 2).1; have s5 := (cells_of ((heap_alloc_old w4 (.cells #[.int .i64 x.rw.top, .int .i64 x.rw.low, .slice A4 x.brs.length c4] 97) (show wo.heap.size + 1 < w4.heap.size by omega)).trans HX6.out) 2).1; clear ho4 hb4 hg4 ha4))
          all_goals
            go_wp2
            have HK5 := Sep.addChoice (rw' := x.rw) (brs := x.brs) HK4.out hw2 HB4.out HO4.out HG5.out HO5.out HA5.out
            have hB4 := HB2.out.trans (HB4.out.mono hw2)
            have hB5 := (((hB4.alloc hB4.size _).grown HG5.out (by have := hB4.size; simp; omega) (fun k hk => (Q5.out k hk).1)).setCell (p := ⟨wo.heap.size + 1, 2, none⟩) q03 (.slice A5 (cs.length + 1) c5))
            exact ⟨⟨i + 1, _, cs ++ [⟨.slice A4 x.brs.length c4, x.rw, x.brs⟩], by omega, by go_num, hB5, by rw [List.map_append]; exact HE3.out, HK5⟩, by simp [intOf]; omega⟩
        · obtain rfl : i = s.chs.length := by omega
          have hlo := k_lt HK
          obtain ⟨q01, q02, q03, q04, q05, q06⟩ := hlo
          have Q5 := Lib.hid q05
          have Q6 := Lib.hid q06
          have hst := k_st HK
          have hch := k_ch HK
          have hsl : ss.length ≤ 1000000 := by have h1 := congrArg List.length HE.out; simp [keptM, List.length_take] at h1; omega
          have HE3 := Lib.hid (show (ss ++ [(⟨xv, s.owner, s.mark, cs⟩ : SO)]).map SO.st = keptM keep (m.take (j + 1)) by
            rw [keptM_snoc HS.out, ← HE.out, List.map_append]
            show _ ++ [SO.st ⟨xv, s.owner, s.mark, cs⟩] = _
            unfold SO.st keptSt
            rw [HE2.out])
          have HK3 := Lib.hid HK
          obtain ⟨t0, t1, t2, -⟩ := held_box (k_x HK) q04
          have o0 := (cells_of (k_ob HK) 0).1
          have f0 := (cells_of (k_ob HK) 0).2
          have hbx := Lib.hid (k_ob HK)
          have HST := Lib.hid hst
          obtain ⟨A3, c3, rfl, -, -, -⟩ := own_form hch
          obtain ⟨A6, c6, rfl, -, -, -⟩ := own_form hst
          clear hlt2 HK hst hch q05 q06
          go_wp2_with (at_builtin; refine wpList_app3 elem_st rfl _ _ rfl w.heap.size (.slice A6 ss.length c6) ss.length (scells ss) rfl (own_kept HST.out fun k hk => heap_alloc_old _ _ (HST.out.lt k hk).2) wr.heap.size _ _ _ _ rfl (heap_alloc_new _ _) rfl rfl rfl (by omega) (by omega) (by have := hBW2.size; simp; omega) ?_; intro v5 w5 ho5 hg5 ha5; have HO5 := Lib.hid ho5; have HG5 := Lib.hid hg5; have HA5 := Lib.hid ha5; obtain ⟨A5, c5, rfl, -, -, -⟩ := own_form ho5; have g5 : w5.heap[w.heap.size + 1 + 1]? = _ := (hg5.block (w.heap.size + 1 + 1) (by simp; omega) (fun e => (Q6.out _ e.symm).2.2 rfl)).trans ((heap_alloc_old _ _ q02).trans hbx.out); have g6 := (cells_of g5 0).1; have g7 := (cells_of g5 0).2; clear ho5 hg5 ha5 g5)
          go_wp2
          have HK5 := Sep.addState HK3.out hBW2.size HG5.out HO5.out HA5.out
          have hB5 := (((hBW2.alloc hBW2.size _).grown HG5.out (by have := hBW2.size; simp; omega) (fun k hk => (Q6.out k hk).1)).setCell (p := ⟨w.heap.size + 1 + 1, 0, none⟩) q01 (.slice A5 (ss.length + 1) c5))
          exact ⟨⟨j + 1, _, ss ++ [⟨.slice A3 cs.length c3, s.owner, s.mark, cs⟩], by omega, by go_num, hB5, HE3, HK5⟩, by simp [intOf]; omega⟩
    · obtain rfl : j = m.length := by omega
      have HE3 := Lib.hid (show ss.map SO.st = m by rw [HE.out, List.take_length, HKEEP.out, keptM_all])
      clear hlt
      have hbo : wo.heap[w.heap.size + 1 + 1]? = some (.cells #[sv] 24 (0, 0)) := HK.get (List.mem_cons_self ..)
      have hbr : wo.heap[w.heap.size + 1]? = some (.cells #[.slice none 0 0] 24 (0, 0)) := HK.get (c := boxC (w.heap.size + 1) #[.slice none 0 0] 24) (List.mem_cons_of_mem _ (List.mem_cons_self ..))
      have o0 := (cells_of hbo 0).1
      have r0 := (cells_of hbr 0).1
      have f0 := (cells_of hbr 0).2
      have HBR := Lib.hid hbr
      have hst : wo.ownsRow w.heap.size 79 3 sv ss.length (scells ss) := HK.get (c := stRow w.heap.size sv ss) (List.mem_cons_of_mem _ (List.mem_cons_of_mem _ (List.mem_cons_self ..)))
      have HK3 := Lib.hid HK
      obtain ⟨A6, c6, rfl, -, -, -⟩ := own_form hst
      clear hbo hbr HK hst
      go_wp2
      have e0 : (wo.setCell ⟨w.heap.size + 1, 0, none⟩ (.slice A6 ss.length c6)).cell? ⟨w.heap.size + 1, 0, none⟩ = some (.slice A6 ss.length c6) := (cells_of (set_of HBR.out 0 (.slice A6 ss.length c6)) 0).1
      refine bodyPost_ret (v := .agg #[.slice A6 ss.length c6]) (by simp [results, Tryz.results41, go_sem, e0]) rfl ⟨_, ss, rfl, ?_, HE3.out, hBW.setCell (Nat.le_succ _) _⟩
      have h1 : Sep w.heap.size wo (boxC (w.heap.size + 1) #[.slice none 0 0] 24 :: boxC (w.heap.size + 1 + 1) #[.slice A6 ss.length c6] 24 :: stRow w.heap.size (.slice A6 ss.length c6) ss :: stParts w.heap.size ss) := HK3.out.perm (List.Perm.swap _ _ _)
      have h2 := h1.upd (c' := boxC (w.heap.size + 1) #[.slice A6 ss.length c6] 24) (grown_set wo (w.heap.size + 1) 0 (.slice A6 ss.length c6)) (set_of HBR.out 0 _) (.inl rfl) hBW.size
      exact h2.sub ((List.sublist_cons_self _ _).trans (List.sublist_cons_self _ _))

end Go.Proofs.YtoffbdlgmnpblaaGreat

/- Results that lie in blocks of their own call; the blocks that are spoilt and those that are not. -/
namespace Go.Proofs.YtoffbdlgmnpblaaGreat
open Go.RowKit
set_option maxHeartbeats 1000000

section
variable {B B' : Nat} {W W' : World} {k : Nat}
theorem DB.next (h : DB B W k) (hb : Below W.heap.size W W') : DB B W' k := ⟨h.1, Nat.lt_of_lt_of_le h.2.1 hb.size, h.2.2.same (hb.block k h.2.1)⟩
theorem DB.low (h : DB B' W k) (hB : B ≤ B') : DB B W k := ⟨Nat.le_trans hB h.1, h.2⟩
theorem DB.lo : Lo (DB B W) W := fun _ h => h.2.1
theorem DB.same (hb : Below W.heap.size W W') : Same (DB B W) W W' := fun k hk => hb.block k hk.2.1
theorem Sl.carry {α : Type} {K : Kind α} {v : Value} {xs : List α} (h : Sl K W (DB B W) v xs) (hb : Below W.heap.size W W') : Sl K W' (DB B W') v xs := (h.same (DB.same hb)).mono fun _ hk => DB.next hk hb
theorem Sl.born {α : Type} {K : Kind α} {w : World} {v : Value} {xs : List α} (h : Sl K W (nws w W) v xs) (hB : B ≤ w.heap.size) : Sl K W (DB B W) v xs := h.mono fun _ hk => DB.low hk hB
theorem Sl.sunk {α : Type} {K : Kind α} {v : Value} {xs : List α} (h : Sl K W (DB B' W) v xs) (hB : B ≤ B') : Sl K W (DB B W) v xs := h.mono fun _ hk => DB.low hk hB
end

/-- a row of rows of numbers from its cells -/
theorem rows_of_cells {W : World} {D : Nat → Prop} {b n : Nat} {us : List Value} {xss : List (List Int)} (hl : us.length = xss.length) (hn : xss.length = n) (hm : n ≤ maxLen) (hD : D b)
    (hc : ∀ (j : Nat) u, us[j]? = some u → W.cell? ⟨b, j, none⟩ = some u) (h : ∀ (j : Nat) u xs, us[j]? = some u → xss[j]? = some xs → Sl (Kind.int .i64) W D u xs) : Rows2 W D (.slice (some ⟨b, 0, none⟩) n n) xss := by
  subst hn
  refine ⟨some ⟨b, 0, none⟩, xss.length, rfl, Nat.le_refl _, hm, fun i xs hx => ?_⟩
  have hi : i < us.length := by have := (List.getElem?_eq_some_iff.1 hx).1; omega
  refine ⟨⟨b, 0, none⟩, [us[i]], rfl, hD, ⟨us[i], rfl, h i _ xs (List.getElem?_eq_getElem hi) hx⟩, fun j u hj => ?_⟩
  cases j with
  | zero =>
    simp at hj
    subst hj
    have := hc i us[i] (List.getElem?_eq_getElem hi)
    by_cases h0 : i = 0 <;> simpa [Addr.add, Kind.slice, h0] using this
  | succ j => simp at hj

theorem five {α : Type} {p : Nat → α → Prop} {a b c d e : α} (h0 : p 0 a) (h1 : p 1 b) (h2 : p 2 c) (h3 : p 3 d) (h4 : p 4 e) : ∀ (j : Nat) u, [a, b, c, d, e][j]? = some u → p j u := fun j u hj => by
  match j, hj with
  | 0, hj => simp at hj; subst hj; exact h0
  | 1, hj => simp at hj; subst hj; exact h1
  | 2, hj => simp at hj; subst hj; exact h2
  | 3, hj => simp at hj; subst hj; exact h3
  | 4, hj => simp at hj; subst hj; exact h4
  | j + 5, hj => simp at hj

/-- the block of a new array may be written -/
theorem soft_new (w : World) (cs : Array Value) (t : TypeId) : Soft (w.alloc (.cells cs t)) w.heap.size := fun o => by
  have := (cells_of (heap_alloc_new w (.cells cs t)) o).2
  exact this
theorem DB.new {B : Nat} {w : World} (cs : Array Value) (t : TypeId) (hB : B ≤ w.heap.size) : DB B (w.alloc (.cells cs t)) w.heap.size := ⟨hB, by simp, soft_new w cs t⟩

theorem soft_of_block {W : World} {b : Nat} {cs : Array Value} {t : TypeId} (h : W.heap[b]? = some (.cells cs t (0, 0))) : Soft W b := fun o => (cells_of h o).2

/-- several new blocks -/
def allocs (w : World) (os : List Obj) : World := os.foldl World.alloc w
theorem allocs_size : ∀ (os : List Obj) (w : World), (allocs w os).heap.size = w.heap.size + os.length
  | [], _ => rfl
  | o :: os, w => by
    have := allocs_size os (w.alloc o)
    show (allocs (w.alloc o) os).heap.size = _
    rw [this]; simp; omega
theorem allocs_below : ∀ (os : List Obj) (w : World), Below w.heap.size w (allocs w os)
  | [], w => Below.refl _ w
  | o :: os, w => by
    have h1 := (Below.refl w.heap.size w).alloc (Nat.le_refl _) o
    exact h1.trans ((allocs_below os (w.alloc o)).mono (by simp))
theorem allocs_at : ∀ (os : List Obj) (w : World) (i : Nat) (o : Obj), os[i]? = some o → (allocs w os).heap[w.heap.size + i]? = some o
  | [], _, _, _, h => by simp at h
  | o :: os, w, 0, o', h => by
    have e : o = o' := by simpa using h
    subst e
    have h1 := (allocs_below os (w.alloc o)).block w.heap.size (by simp)
    exact h1.trans (heap_alloc_new w o)
  | o :: os, w, i + 1, o', h => by
    have h1 := allocs_at os (w.alloc o) i o' (by simpa using h)
    have h2 : (w.alloc o).heap.size + i = w.heap.size + (i + 1) := by simp; omega
    rw [h2] at h1
    exact h1

/-- numbers from their block -/
theorem ints_of_block {W : World} {D : Nat → Prop} {b n : Nat} {cs : Array Value} {t : TypeId} {fr : Nat × Nat} (xs : List Int) (hb : W.heap[b]? = some (.cells cs t fr)) (hD : D b) (hn : xs.length = n) (hm : n ≤ maxLen) (hcs : cs.toList = ints xs) :
    Sl (Kind.int .i64) W D (.slice (some ⟨b, 0, none⟩) n n) xs := by
  subst hn
  refine Sl.of_ints (Nat.le_refl _) hm fun _ => ⟨⟨b, 0, none⟩, rfl, hD, fun i hi => ?_⟩
  have e : (⟨b, 0, none⟩ : Addr).add i = ⟨b, i, none⟩ := by unfold Addr.add; split <;> simp_all
  rw [e]
  simp only [World.cell?, hb]
  rw [← Array.getElem?_toList, hcs]
  simp [ints, Dig.gd, hi]
/-- rows of numbers from their block -/
theorem rows_of_block {W : World} {D : Nat → Prop} {b n : Nat} {cs : Array Value} {t : TypeId} {fr : Nat × Nat} (us : List Value) (xss : List (List Int)) (hb : W.heap[b]? = some (.cells cs t fr)) (hD : D b) (hl : us.length = xss.length) (hn : xss.length = n) (hm : n ≤ maxLen) (hcs : cs.toList = us)
    (h : ∀ (j : Nat) u xs, us[j]? = some u → xss[j]? = some xs → Sl (Kind.int .i64) W D u xs) : Rows2 W D (.slice (some ⟨b, 0, none⟩) n n) xss :=
  rows_of_cells hl hn hm hD (fun j u hu => by
    simp only [World.cell?, hb]
    rw [← Array.getElem?_toList, hcs]; exact hu) h

end Go.Proofs.YtoffbdlgmnpblaaGreat

/- Package ends: within. -/
namespace Go.Proofs.YtoffbdlgmnpblaaGreat
open Go.RowKit
set_option maxHeartbeats 4000000
set_option maxRecDepth 100000

/-- a slice of branches that are read -/
theorem IndexFuncB_calls (K : Nat) (is : Br → Bool) (cs : Array Value) (bs : List Br) (v : Value) (D : Nat → Prop) (w : World) (eg : ∀ args w, (callFunc K args).run Tryz.prog w = .ok (.enter K args) w) (hD : Lo D w) (hl : Sl Kind.br w D v bs)
    (hc : ∀ (W : World) (b : Br), Below w.heap.size w W → b ∈ bs → Calls Tryz.prog K (#[.agg #[.int .i64 b.to, .int .i64 b.ch.top, .int .i64 b.ch.low]] ++ cs) W fun e w' => e = .returned (.bool (is b)) ∧ Below W.heap.size W w') :
    Calls Tryz.prog 173 #[v, .func (.func K) #[] cs] w fun e w' => e = .returned (.int .i64 (idxI is bs)) ∧ Below w.heap.size w w' := by
  obtain ⟨A, c, rfl, h1, h2, -⟩ := hl.form
  unfold maxLen at h2
  have HL := Lib.hid hl
  have HC := Lib.hid hc
  have HD := Lib.hid hD
  clear hl hc hD
  go_enter Tryz.func173, Tryz.ntmps173
  go_wp2
  go_loopw [8] (fun k W => ∃ (j : Nat), j ≤ bs.length ∧ k = .int .i64 (j : Int) ∧ Below w.heap.size w W ∧ Hid (∀ y ∈ bs.take j, is y = false)) (fun k _ => bs.length - (intOf k).toNat)
  case atStart => exact ⟨0, Nat.zero_le _, rfl, Below.refl _ _, (by intro y hy; simp at hy : ∀ y ∈ bs.take 0, is y = false)⟩
  case round =>
    obtain ⟨j, hj, rfl, hBW, HN⟩ := hrel
    by_cases hlt : j < bs.length
    · obtain ⟨x, hx⟩ : ∃ x, bs[j]? = some x := ⟨_, List.getElem?_eq_getElem hlt⟩
      obtain ⟨ad, rfl, -, q0, q1, q2⟩ := (HL.out.same (HD.out.same hBW)).br_at j x hx
      have HX := Lib.hid hx
      clear hx
      go_wp2_with fail
      refine (HC.out wr x hBW (List.mem_of_getElem? HX.out)).mono ?_
      rintro e w2 ⟨rfl, hb2⟩
      have hB2 := hBW.trans (hb2.mono hBW.size)
      clear q0 q1 q2
      cases hi : is x with
      | false =>
        have HS := Lib.hid (take_false HX.out HN.out hi)
        clear hi
        go_wp2
        exact ⟨⟨j + 1, by omega, by go_num, hB2, HS⟩, by simp [intOf]; omega⟩
      | true =>
        have HS := Lib.hid (idxI_at HX.out HN.out hi)
        clear hi
        go_wp2
        go_ret
        exact ⟨ret_int HS.out.symm, hB2⟩
    · obtain rfl : j = bs.length := by omega
      have HS := Lib.hid (idxI_none (is := is) (xs := bs) (by have := HN.out; rwa [List.take_length] at this))
      clear hlt
      go_wp2
      go_ret
      exact ⟨ret_int HS.out.symm, hBW⟩

theorem ContainsFuncB_calls (K : Nat) (is : Br → Bool) (cs : Array Value) (bs : List Br) (v : Value) (D : Nat → Prop) (w : World) (eg : ∀ args w, (callFunc K args).run Tryz.prog w = .ok (.enter K args) w) (hD : Lo D w) (hl : Sl Kind.br w D v bs)
    (hc : ∀ (W : World) (b : Br), Below w.heap.size w W → b ∈ bs → Calls Tryz.prog K (#[.agg #[.int .i64 b.to, .int .i64 b.ch.top, .int .i64 b.ch.low]] ++ cs) W fun e w' => e = .returned (.bool (is b)) ∧ Below W.heap.size W w') :
    Calls Tryz.prog 142 #[v, .func (.func K) #[] cs] w fun e w' => e = .returned (.bool (bs.any is)) ∧ Below w.heap.size w w' := by
  have HC := Lib.hid hc
  have HL := Lib.hid hl
  have HD := Lib.hid hD
  have HE := Lib.hid (idxI_nonneg is bs)
  clear hl hc hD
  go_enter Tryz.func142, Tryz.ntmps142
  go_wp2_with fail
  refine (IndexFuncB_calls K is cs bs v D w eg HD.out HL.out HC.out).mono ?_
  rintro e w2 ⟨rfl, hb2⟩
  go_wp2
  go_ret
  exact ⟨ret_bool (by rw [← HE.out]), hb2⟩

theorem enter_within : ∀ args w, (callFunc 143 args).run Tryz.prog w = .ok (.enter 143 args) w := enter_of Tryz.func143 (by kernel_rfl) (by kernel_rfl)

theorem within1_calls (l : List Int) (b : Br) (u : Value) (p : Nat) (D : Nat → Prop) (w : World) (hD : Lo D w) (hl : Sl (Kind.int .i64) w D u l) (hp : w.cell? ⟨p, 0, none⟩ = some u) :
    Calls Tryz.prog 143 #[.agg #[.int .i64 b.to, .int .i64 b.ch.top, .int .i64 b.ch.low], .pointer (some ⟨p, 0, none⟩)] w fun e w' => e = .returned (.bool (!l.contains b.to)) ∧ Below w.heap.size w w' := by
  have hb := (Below.refl w.heap.size w).alloc (Nat.le_refl _) (.cells #[.int .i64 b.to, .int .i64 b.ch.top, .int .i64 b.ch.low] 103)
  have HL := Lib.hid (hl.same (hD.same hb))
  obtain ⟨A, c, rfl, -, -, -⟩ := hl.form
  have hpl := lt_of_cell hp
  have e0 := (cells_of (heap_alloc_new w (.cells #[.int .i64 b.to, .int .i64 b.ch.top, .int .i64 b.ch.low] 103)) 0).1
  clear hl hD
  go_enter Tryz.func143, Tryz.ntmps143
  go_wp2_with fail
  refine (Contains_calls l b.to _ D _ HL.out).mono ?_
  rintro e w' ⟨rfl, rfl⟩
  go_wp2
  go_ret
  exact ⟨ret_bool (by simp), hb⟩

/-- all branches lead into the set -/
def withinB (l : List Int) (c : Ch) : Bool := !(c.brs.any fun b => !l.contains b.to)

theorem within_calls (l : List Int) (c : Ch) (bv u : Value) (D : Nat → Prop) (w : World) (hD : Lo D w) (hb : Sl Kind.br w D bv c.brs) (hl : Sl (Kind.int .i64) w D u l) :
    Calls Tryz.prog 105 #[.agg #[.int .i64 c.rw.top, .int .i64 c.rw.low, bv], u] w fun e w' => e = .returned (.bool (withinB l c)) ∧ Below w.heap.size w w' := by
  obtain ⟨A, n, k, rfl⟩ : ∃ A n k, bv = .slice A n k := by obtain ⟨A, k, e, -⟩ := hb; exact ⟨A, _, k, e⟩
  obtain ⟨B, d, rfl, -, -, -⟩ := hl.form
  have hB1 := ((Below.refl w.heap.size w).alloc (Nat.le_refl _) (.cells #[.int .i64 c.rw.top, .int .i64 c.rw.low, .slice A n k] 97)).alloc (by simp) (.cells #[.slice B l.length d] 31)
  have HB1 := Lib.hid hB1
  have HBR := Lib.hid (hb.same (hD.same hB1))
  have HL := Lib.hid (hl.same (hD.same hB1))
  have HD := Lib.hid (hD.up hB1.size)
  have hbx := cell_new1 (w.alloc (.cells #[.int .i64 c.rw.top, .int .i64 c.rw.low, .slice A n k] 97)) (.slice B l.length d) 31
  rw [World.size_alloc] at hbx
  have HBX := Lib.hid hbx
  have hmf : ∀ (fn : Fn) (first cap : Array Value) (w : World), (Instr.makeFunc fn first cap).run Tryz.prog w = .ok (.func fn first cap) w := fun _ _ _ _ => rfl
  clear hb hl hD hB1 hbx
  go_enter Tryz.func105, Tryz.ntmps105
  go_wp2_with fail
  refine (ContainsFuncB_calls 143 (fun b => !l.contains b.to) #[.pointer (some ⟨w.heap.size + 1, 0, none⟩)] c.brs _ D _ enter_within HD.out HBR.out ?_).mono ?_
  · intro W b hbW hmem
    have hlt : w.heap.size + 1 < ((w.alloc (.cells #[.int .i64 c.rw.top, .int .i64 c.rw.low, .slice A n k] 97)).alloc (.cells #[.slice B l.length d] 31)).heap.size := by simp
    exact within1_calls l b _ _ D W (HD.out.up hbW.size) (HL.out.same (HD.out.same hbW)) ((hbW.cell (p := ⟨w.heap.size + 1, 0, none⟩) hlt).trans HBX.out)
  rintro e w2 ⟨rfl, hb2⟩
  go_wp2
  go_ret
  exact ⟨ret_bool (by simp [withinB]), HB1.out.trans (hb2.mono HB1.out.size)⟩

end Go.Proofs.YtoffbdlgmnpblaaGreat

/- Package ends: the closure of parts. -/
namespace Go.Proofs.YtoffbdlgmnpblaaGreat
open Go.RowKit
set_option maxHeartbeats 4000000
set_option maxRecDepth 100000

theorem parts1_calls (l p : List Int) (x : Int) (pv u : Value) (g : Nat) (D D' : Nat → Prop) (w : World) (hl : Sl (Kind.int .i64) w D u l) (hp : Sl (Kind.int .i64) w D' pv p) (hx : p[0]? = some x) (hg : w.cell? ⟨g, 0, none⟩ = some u) :
    Calls Tryz.prog 174 #[pv, .pointer (some ⟨g, 0, none⟩)] w fun e w' => e = .returned (.bool (!l.contains x)) ∧ Below w.heap.size w w' := by
  have HL := Lib.hid hl
  obtain ⟨A, c, rfl, -, -, -⟩ := hl.form
  obtain ⟨B, d, rfl, k1, k2, h3⟩ := hp.ints
  have hlt := (List.getElem?_eq_some_iff.1 hx).1
  obtain ⟨ad, rfl, -, hc⟩ := h3 hlt
  have r0 := hc 0 hlt
  rw [Dig.gd_of hx] at r0
  have r1 : w.cell? ad = some (.int .i64 x) := by simpa [Addr.add] using r0
  have HCA : Hid (∀ n, Calls Tryz.prog 78 #[.slice A l.length c, .int .i64 x] (w.drewN n) fun e w'' => e = .returned (.bool (l.contains x)) ∧ ∃ m, w'' = w.drewN m) := Lib.hid fun n => (Contains_calls l x _ D (w.drewN n) (HL.out.same fun _ _ => rfl)).mono fun e w'' h => ⟨h.1, n, h.2.symm⟩
  unfold maxLen at k2
  clear hl hp hc h3 hx
  go_enter Tryz.func174, Tryz.ntmps174
  go_wp2_with fail
  go_quiet ((go_at_call 78; exact HCA.out _))
  go_wp2
  go_ret
  exact ⟨ret_bool (by simp), ⟨rfl, rfl, rfl, Nat.le_refl _, fun _ _ => rfl⟩⟩

end Go.Proofs.YtoffbdlgmnpblaaGreat
