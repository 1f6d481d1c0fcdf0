/- Part 40: Per Bnd Trm Own Aw0. -/
import Derived.Test.YtoffbdlgmnpblaaGreatJ36
import Derived.Test.YtoffbdlgmnpblaaGreatJ39
import Derived.Test.YtoffbdlgmnpblaaGreatJ37
import Derived.KernelRfl

/- Package graph: Period. -/
namespace Go.Proofs.YtoffbdlgmnpblaaGreat
open Go.RowKit
set_option maxHeartbeats 4000000
set_option maxRecDepth 100000

def innerRow (xss : List (List Int)) (l : List Int) (s : Int) : List Int := (Bfs.row xss s).filter fun t => !(!l.contains t)
def innerTo (xss : List (List Int)) (l : List Int) (j : Nat) : List (List Int) := (l.take j).foldl (fun o s => o.set s.toNat (innerRow xss l s)) (List.replicate xss.length [])
def inner (xss : List (List Int)) (l : List Int) : List (List Int) := innerTo xss l l.length
def perStep (d : List Int) (s g t : Int) : Int := (Int.gcd g (Bfs.at' d s + 1 - Bfs.at' d t) : Int)
def perRow (inn : List (List Int)) (d : List Int) (g s : Int) : Int := (Bfs.row inn s).foldl (perStep d s) g
def perOf (xss : List (List Int)) (l : List Int) : Int := l.foldl (perRow (inner xss l) (Bfs.depths (inner xss l) (l.take 1))) 0
def periodsOf (m : List St) : List Int := if validB m then (partsOf (m.map nextOf)).map (perOf (m.map nextOf)) else []

theorem fold_take {α β : Type} (f : β → α → β) (b : β) {l : List α} {j : Nat} {x : α} (h : l[j]? = some x) : (l.take (j + 1)).foldl f b = f ((l.take j).foldl f b) x := by
  rw [List.take_add_one, h, List.foldl_append]; rfl
theorem innerTo_len (xss : List (List Int)) (l : List Int) (j : Nat) : (innerTo xss l j).length = xss.length := by
  have : ∀ (l' : List Int) (o : List (List Int)), (l'.foldl (fun o s => o.set s.toNat (innerRow xss l s)) o).length = o.length := by
    intro l'
    induction l' with
    | nil => intro o; rfl
    | cons a l' ih => intro o; rw [List.foldl_cons, ih]; simp
  unfold innerTo; rw [this]; simp
theorem innerTo_mem (xss : List (List Int)) (l : List Int) (j : Nat) : ∀ x ∈ innerTo xss l j, x = [] ∨ ∃ s, x = innerRow xss l s := by
  have : ∀ (l' : List Int) (o : List (List Int)), (∀ x ∈ o, x = [] ∨ ∃ s, x = innerRow xss l s) → ∀ x ∈ l'.foldl (fun o s => o.set s.toNat (innerRow xss l s)) o, x = [] ∨ ∃ s, x = innerRow xss l s := by
    intro l'
    induction l' with
    | nil => intro o h; exact h
    | cons a l' ih =>
      intro o h
      refine ih _ fun x hx => ?_
      rcases List.mem_or_eq_of_mem_set hx with hx | rfl
      · exact h x hx
      · exact .inr ⟨a, rfl⟩
  exact this _ _ fun x hx => .inl (List.eq_of_mem_replicate hx)
theorem row_mem_or {xss : List (List Int)} (s : Int) : Bfs.row xss s = [] ∨ Bfs.row xss s ∈ xss := by
  unfold Bfs.row
  rw [List.getD_eq_getElem?_getD]
  cases h : xss[s.toNat]? with
  | none => exact .inl rfl
  | some y => exact .inr (List.mem_of_getElem? h)
theorem inner_edges {xss : List (List Int)} (he : Edges xss) (l : List Int) (j : Nat) : Edges (innerTo xss l j) := by
  refine ⟨by rw [innerTo_len]; exact he.len, fun x hx => ?_, fun x hx t ht => ?_⟩
  · rcases innerTo_mem xss l j x hx with rfl | ⟨s, rfl⟩
    · simp
    · have h1 : (innerRow xss l s).length ≤ (Bfs.row xss s).length := List.length_filter_le _ _
      rcases row_mem_or (xss := xss) s with h2 | h2
      · rw [h2] at h1; simp only [List.length_nil] at h1; omega
      · have := he.row _ h2; omega
  · rw [innerTo_len]
    rcases innerTo_mem xss l j x hx with rfl | ⟨s, rfl⟩
    · cases ht
    · have h1 := (List.mem_filter.1 ht).1
      rcases row_mem_or (xss := xss) s with h2 | h2
      · rw [h2] at h1; cases h1
      · exact he.ins _ h2 t h1
theorem perStep_bd {d : List Int} {s g t : Int} (h1 : -1 ≤ Bfs.at' d s ∧ Bfs.at' d s ≤ 50) (h2 : -1 ≤ Bfs.at' d t ∧ Bfs.at' d t ≤ 50) (hg : 0 ≤ g ∧ g ≤ 100) : 0 ≤ perStep d s g t ∧ perStep d s g t ≤ 100 := by
  unfold perStep
  refine ⟨by omega, ?_⟩
  by_cases e : g = 0
  · subst e
    rw [Int.gcd_zero_left]
    omega
  · have h3 : Int.gcd g (Bfs.at' d s + 1 - Bfs.at' d t) ∣ g.natAbs := Int.gcd_dvd_natAbs_left _ _
    have h4 := Nat.le_of_dvd (by omega) h3
    omega

theorem Per1_calls (l : List Int) (u : Value) (t : Int) (p : Nat) (D : Nat → Prop) (w : World) (hl : Sl (Kind.int .i64) w D u l) (hp : w.cell? ⟨p, 0, none⟩ = some u) :
    Calls Tryz.prog 77 #[.int .i64 t, .pointer (some ⟨p, 0, none⟩)] w fun e w' => e = .returned (.bool (!l.contains t)) ∧ w = w' := by
  have HL := Lib.hid hl
  obtain ⟨A, c, rfl, -, -, -⟩ := hl.form
  clear hl
  go_enter Tryz.func77, Tryz.ntmps77
  go_wp2_with fail
  refine (Contains_calls l t _ D w HL.out).mono ?_
  rintro e w' ⟨rfl, rfl⟩
  go_wp2
  go_ret
  exact ⟨ret_bool (by simp), rfl⟩
theorem enter_per : ∀ args w, (callFunc 77 args).run Tryz.prog w = .ok (.enter 77 args) w := enter_of Tryz.func77 (by kernel_rfl) (by kernel_rfl)

theorem Period_calls (m : List St) (v : Value) (D : Nat → Prop) (w : World) (hD : Lo D w) (h : ModelC w D v m) :
    Calls Tryz.prog 20 #[v] w fun e w' => ∃ v', e = .returned (.tuple #[v', .int .i64 (err (validB m))]) ∧ Below w.heap.size w w' ∧ Sl (Kind.int .i64) w' (nws w w') v' (periodsOf m) := by
  obtain ⟨mv, rfl, hmm⟩ := h
  have HM : Hid (ModelC w D (.agg #[mv]) m) := ⟨mv, rfl, hmm⟩
  obtain ⟨A, c, rfl, h1, h2, -⟩ := hmm.form
  clear hmm
  go_enter Tryz.func20, Tryz.ntmps20
  go_wp2_with fail
  have hB0 := (Below.refl w.heap.size w).alloc (Nat.le_refl _) (.cells #[.slice A m.length c] 24)
  refine (Valid_calls m _ D _ (hD.up hB0.size) (HM.out.same (hD.same hB0))).mono ?_
  rintro e w1 ⟨rfl, hb1⟩
  have hB1 := hB0.trans (hb1.mono hB0.size)
  obtain ⟨hc1, hf1⟩ := bcell hb1
  have hz1 : w.heap.size < w1.heap.size := by have := hb1.size; simp at this; omega
  cases hv : validB m with
  | false =>
    have HER := Lib.hid (show (1 : Int) = err (validB m) by rw [hv]; rfl)
    have HV := Lib.hid (show periodsOf m = [] by unfold periodsOf; rw [hv]; rfl)
    clear hv
    go_wp2_with fail
    go_ret2
    refine ⟨_, ret_vi HER.out, hB1, ?_⟩
    rw [HV.out]; exact Sl.nil _ _ _
  | true =>
    have HER := Lib.hid (show (0 : Int) = err (validB m) by rw [hv]; rfl)
    have hf := Fine.of_valid hv
    have hp := validB.pos hv
    have HP := Lib.hid (show 0 < (m.map nextOf).length by rw [List.length_map]; exact hp)
    have HV := Lib.hid (show periodsOf m = (partsOf (m.map nextOf)).map (perOf (m.map nextOf)) by unfold periodsOf; rw [hv]; rfl)
    have HE := Lib.hid (Edges.of_fine hf)
    have HLN := Lib.hid (show (m.map nextOf).length = m.length from List.length_map _)
    have HFI := Lib.hid (found_in (b := 2400) (fun xs hxs => by have := nextOf_len hf xs hxs; omega) (Edges.of_fine hf).ins)
    have hlen := hf.len
    have HA := Lib.hid hf
    clear hv hp hf
    go_wp2_with fail
    refine (Next_calls m _ D _ (hD.up hB1.size) (HM.out.same (hD.same hB1)) HA.out).mono ?_
    rintro e w2 ⟨nv, rfl, hb2, hn⟩
    have hB2 := hB1.trans (hb2.mono hB1.size)
    have HN := Lib.hid hn
    clear hn
    go_wp2_with fail
    refine (Parts_calls (m.map nextOf) _ _ _ (fun k hk => hk.2.1) HN.out HE.out (fun xs hxs => by have := nextOf_len HA.out xs hxs; omega) HP.out).mono ?_
    rintro e w3 ⟨v3, ps, rfl, hb3, hr3, hps⟩
    have hB3 := hB2.trans (hb3.mono hB2.size)
    have hn3 := HN.out.same (Lo.same (show Lo (nws w1 w2) w2 from fun k hk => hk.2.1) hb3)
    obtain ⟨nA, nc, rfl, n1, n2, -⟩ := hn3.form
    rw [HLN.out] at n1
    unfold maxLen at n2
    have hr2 := hr3.sl
    obtain ⟨pA, pc, rfl, m1, m2, -⟩ := hr3.own |> own_form
    unfold maxLen at m2
    have hpl : ps.length ≤ 1000000 := by
      have h1 : (ps.map (·.2)).length = (Tar.found (m.map nextOf)).length := by rw [hps]; exact (Lex.lsort_perm _).length_eq
      have h2 := (Tar.upTo_rest (b := 2400) (fun xs hxs => by have := nextOf_len HA.out xs hxs; omega) (Bfs.row_in HE.out.ins) (m.map nextOf).length (Nat.le_refl _)).bd.u
      rw [List.length_map] at h1
      have h3 : (Tar.found (m.map nextOf)).length = (Tar.upTo (m.map nextOf) (m.map nextOf).length).out.length := rfl
      have h4 := HLN.out
      omega
    rw [List.length_map] at hn3
    have HN3 := Lib.hid hn3
    have HR3 := Lib.hid hr3
    have HPS := Lib.hid hps
    have hz3 : w.heap.size ≤ w3.heap.size := hB3.size
    have hz23 : w2.heap.size ≤ w3.heap.size := hb3.size
    have hmf : ∀ (fn : Fn) (first cap : Array Value) (w : World), (Instr.makeFunc fn first cap).run Tryz.prog w = .ok (.func fn first cap) w := fun _ _ _ _ => rfl
    clear hn3 hr3 hps hr2 hB0 hB1 hB2 hb1 hb2 hb3 hc1 hf1 hz1 HN HM HA HP
    go_wp2_with fail
    go_loopw [5, 25] (fun ov k W => ∃ (j : Nat) (L : List Int), j ≤ ps.length ∧ k = .int .i64 (j : Int) ∧ Below w3.heap.size w3 W ∧ W.ownsRow w3.heap.size 3 1 ov L.length (ints L) ∧ L.length = j ∧ Hid (L = (ps.take j).map fun p => perOf (m.map nextOf) p.2)) (fun _ k _ => ps.length - (intOf k).toNat)
    case atStart => exact ⟨0, [], Nat.zero_le _, rfl, Below.refl _ _, World.ownsRow_nil _ _ _ _, rfl, rfl⟩
    case round =>
      obtain ⟨j, L, hj, rfl, hBW, hO, hL, HLS⟩ := hrel
      obtain ⟨wo, rfl⟩ : ∃ wo : World, wo = wr := ⟨_, rfl⟩
      have hzW := hBW.size
      by_cases hlt : j < ps.length
      · obtain ⟨pr, hpr⟩ : ∃ pr, ps[j]? = some pr := ⟨_, List.getElem?_eq_getElem hlt⟩
        obtain ⟨lv, l⟩ := pr
        have hlin := HFI.out l (by rw [← HPS.out]; exact List.mem_map.2 ⟨(lv, l), List.mem_of_getElem? hpr, rfl⟩)
        rw [HLN.out] at hlin
        obtain ⟨hlne, hls, hll⟩ := hlin
        have hrw := (HR3.out.below hBW).row (lv, l) (List.mem_of_getElem? hpr)
        simp only at hrw
        obtain ⟨ad, rfl, hq0⟩ : ∃ ad, pA = some ad ∧ wo.cell? (ad.add j) = some lv := by
          obtain ⟨A', c', e, -, -, h3⟩ := own_form (HR3.out.below hBW).own
          injection e with e1 e2 e3
          subst e1
          obtain ⟨ad, e, -, -, -, hat⟩ := h3 (by omega)
          exact ⟨ad, e, hat j lv (by rw [List.getElem?_map, hpr]; rfl)⟩
        have hls1 := (own_ints hrw.1).2
        obtain ⟨lA, lc, rfl, l1, l2, -⟩ := hls1.form
        have hlp : 0 < l.length := List.length_pos_iff.2 hlne
        unfold maxLen at l2
        -- the box of l
        have hb4 := (Below.refl wo.heap.size wo).alloc (Nat.le_refl _) (.cells #[.slice lA l.length lc] 31)
        have hls4 := hls1.same (fun k hk => hb4.block k hk.2)
        have hnx4 := HN3.out.same fun k hk => (hb4.block k (by have := hk.2.1; omega)).trans (hBW.block k (by have := hk.2.1; omega))
        have hbox4 := cell_new1 wo (.slice lA l.length lc) 31
        have hO4 := hO.alloc (.cells #[.slice lA l.length lc] 31)
        have hz4 : (wo.alloc (.cells #[.slice lA l.length lc] 31)).heap.size = wo.heap.size + 1 := by simp
        have HB4 := Lib.hid hb4
        have HLS4 := Lib.hid hls4
        have HNX4 := Lib.hid hnx4
        have HBOX4 := Lib.hid hbox4
        have HO4 := Lib.hid hO4
        have HLI := Lib.hid hls
        have HPR := Lib.hid hpr
        have HBW := Lib.hid hBW
        clear hb4 hls4 hnx4 hO4 hls hpr hls1 hrw hO hBW hlne
        go_wp2_with (refine wpList_mk1 elem_row rfl _ _ rfl (by intro cs h; cases h) (wo.heap.size + 1) _ _ (m.length : Int) (m.length : Int) rfl rfl (by omega) (by omega) (by omega) (by omega) (by simp) ?_; intro w5 hown5 hb5 hz5 hcells5; have hbx5 : w5.cell? ⟨wo.heap.size, 0, none⟩ = some (.slice lA l.length lc) := (hb5.cell (p := ⟨wo.heap.size, 0, none⟩) (by show wo.heap.size < _; rw [hz4]; exact Nat.lt_succ_self _)).trans HBOX4.out)
        generalize hW4 : wo.alloc (.cells #[.slice lA l.length lc] 31) = W4 at *
        rw [hz4] at hown5 hb5 hz5 hcells5
        have hor : OwnRows w5 (wo.heap.size + 1) (wo.heap.size + 1) (List.replicate m.length (.slice none 0 0)) (innerTo (m.map nextOf) l 0) := by
          have := OwnRows.new (n := m.length) (B := wo.heap.size + 1) (by simpa using hcells5) (Nat.le_refl _)
          rw [show innerTo (m.map nextOf) l 0 = List.replicate m.length [] by simp [innerTo]]
          exact this
        have HZ4 := Lib.hid hz4
        have HLL := Lib.hid hL
        clear hW4 hown5 hcells5 hq0 hz4 hL hbox4
        go_loopw [34] (fun k W => ∃ (j2 : Nat) (vs : List Value), j2 ≤ l.length ∧ k = .int .i64 (j2 : Int) ∧ Below (wo.heap.size + 1) W4 W ∧ OwnRows W (wo.heap.size + 1) (wo.heap.size + 1) vs (innerTo (m.map nextOf) l j2)) (fun k _ => l.length - (intOf k).toNat)
        case atStart => exact ⟨0, _, Nat.zero_le _, rfl, hb5, hor⟩
        case round =>
          clear hor hb5 hz5 hbx5
          obtain ⟨j2, vs, hj2, rfl, hB5, hor⟩ := hrel
          have hzr := hB5.size
          rw [HZ4.out] at hzr
          have hW4r : ∀ k, k < wo.heap.size + 1 → wr.heap[k]? = W4.heap[k]? := fun k hk => hB5.block k hk
          have hboxr : wr.cell? ⟨wo.heap.size, 0, none⟩ = some (.slice lA l.length lc) := (hB5.cell (p := ⟨wo.heap.size, 0, none⟩) (Nat.lt_succ_self _)).trans HBOX4.out
          have hlsr := HLS4.out.same (fun k hk => hW4r k (by have := hk.2; omega))
          have hnxr := HNX4.out.same (fun k hk => hW4r k (by have := hk.2.1; omega))
          have HLSR := Lib.hid hlsr
          have HB5 := Lib.hid hB5
          by_cases hlt2 : j2 < l.length
          · obtain ⟨s, hs⟩ : ∃ s, l[j2]? = some s := ⟨_, List.getElem?_eq_getElem hlt2⟩
            obtain ⟨s1, s2⟩ := HLI.out s (List.mem_of_getElem? hs)
            obtain ⟨_, _, e, -, -, k3⟩ := hlsr.ints
            injection e with e1 e2 e3
            clear e2 e3
            subst e1
            obtain ⟨bd, rfl, hDb, hcs⟩ := k3 (by omega)
            have q1 := hcs j2 hlt2
            rw [Dig.gd_of hs] at q1
            obtain ⟨xs, hxs⟩ : ∃ xs, (m.map nextOf)[s.toNat]? = some xs := ⟨_, List.getElem?_eq_getElem (by rw [HLN.out]; omega)⟩
            obtain ⟨_, _, e, -, -, n3⟩ := hnxr
            injection e with e1 e2 e3
            clear e2 e3
            subst e1
            obtain ⟨nad, rcs, ena, -, ⟨rv, erc, hrv⟩, hat⟩ := n3 s.toNat xs hxs
            subst ena; subst erc
            have q0 := hat 0 rv rfl
            rw [add_of_add, show s.toNat * (Kind.slice (Kind.int .i64)).sz + 0 = s.toNat from by show s.toNat * 1 + 0 = s.toNat; omega] at q0
            obtain ⟨xo, hxo⟩ : ∃ xo, (innerTo (m.map nextOf) l j2)[s.toNat]? = some xo := ⟨_, List.getElem?_eq_getElem (by rw [innerTo_len, HLN.out]; omega)⟩
            obtain ⟨vo, hvo, -, -⟩ := hor.get hxo
            have h64 := HE.out.row xs (List.mem_of_getElem? hxs)
            have HOR := Lib.hid hor
            have HRV := Lib.hid hrv
            have HXS := Lib.hid hxs
            have HXO := Lib.hid (And.intro hxo hvo)
            have HS := Lib.hid hs
            clear hcs n3 hat hrv hxs hs hor hxo hvo k3 hlsr hboxr hW4r hB5
            go_wp2_with fail
            refine (Clone_calls xs rv _ wr HRV.out (by omega)).mono ?_
            rintro e w6 ⟨v6, rfl, ho6, hb6⟩
            have HO6 := Lib.hid ho6
            have HB6 := Lib.hid hb6
            clear ho6 hb6
            go_wp2_with fail
            refine (DeleteFunc_calls 77 (fun t => !l.contains t) #[.pointer (some ⟨wo.heap.size, 0, none⟩)] xs v6 wr.heap.size w6 enter_per HO6.out (by omega) (fun V t hV ht => ?_)).mono ?_
            · have old : ∀ k, k < wr.heap.size → V.heap[k]? = wr.heap[k]? := fun k hk => (hV.block k (Nat.lt_of_lt_of_le hk HB6.out.size) (fun e => by have := (HO6.out.lt k e.symm).1; omega)).trans (HB6.out.block k hk)
              refine (Per1_calls l _ t wo.heap.size _ V (HLSR.out.same fun k hk => old k (by have := hk.2; omega)) ?_).mono ?_
              · exact (World.cell?_of_block (w := wr) (a := ⟨wo.heap.size, 0, none⟩) (old _ (by show wo.heap.size < _; omega))).trans ((HB5.out.cell (p := ⟨wo.heap.size, 0, none⟩) (Nat.lt_succ_self _)).trans HBOX4.out)
              · rintro e w' ⟨rfl, rfl⟩
                exact ⟨rfl, Below.refl _ _⟩
            · rintro e w7 ⟨v7, rfl, hv7, ho7', hg7⟩
              obtain ⟨ys, hys, ho7⟩ : ∃ ys : List Int, ys = innerRow (m.map nextOf) l s ∧ w7.ownsRow wr.heap.size 3 1 v7 ys.length (ints ys) := ⟨_, by unfold innerRow Bfs.row; rw [List.getD_eq_getElem?_getD, HXS.out]; rfl, ho7'⟩
              have HYS := Lib.hid hys
              clear hys ho7'
              have hb7 : Below wr.heap.size wr w7 := HB6.out.grown hg7 HB6.out.size fun k hk => (HO6.out.lt k hk).1
              have hor7 := HOR.out.kept fun k hk _ _ => hb7.block k hk
              obtain ⟨c7, f7⟩ := hor7.cell HXO.out.2
              have hnew := HOR.out.put HXO.out.1 HXO.out.2 (below_grown' hb7 _) (own_lower ho7 (by omega)) (.inr fun k hk => by rw [hv7] at hk; exact (HO6.out.lt k hk).1)
              obtain ⟨A7, c7', rfl, -, -, -⟩ := own_form ho7
              have HNEW := Lib.hid hnew
              have HB7 := Lib.hid hb7
              clear hor7 hnew ho7 hg7 hb7 hv7
              go_wp2
              refine ⟨⟨j2 + 1, vs.set s.toNat (.slice A7 ys.length c7'), by omega, by go_num, (HB5.out.trans (HB7.out.mono (by omega))).setCell (Nat.le_refl _) _, ?_⟩, by simp [intOf]; omega⟩
              have e1 : innerTo (m.map nextOf) l (j2 + 1) = (innerTo (m.map nextOf) l j2).set s.toNat (innerRow (m.map nextOf) l s) := fold_take _ _ HS.out
              rw [e1, ← HYS.out]
              exact HNEW.out
          · obtain rfl : j2 = l.length := by omega
            have hor' : OwnRows wr (wo.heap.size + 1) (wo.heap.size + 1) vs (inner (m.map nextOf) l) := hor
            have hil : (inner (m.map nextOf) l).length = m.length := by unfold inner; rw [innerTo_len, HLN.out]
            have hie : Edges (inner (m.map nextOf) l) := inner_edges HE.out l l.length
            have hsl := hor'.sl (by rw [hil]; simp only [maxLen]; omega) m.length hil.symm
            have htk : (l.take 1).length = 1 := by rw [List.length_take]; omega
            have hlt1 : Sl (Kind.int .i64) wr (fun b => w2.heap.size ≤ b ∧ b < wo.heap.size) (.slice lA 1 lc) (l.take 1) := hlsr.take (by omega)
            have hlst : ∀ s ∈ l.take 1, 0 ≤ s ∧ s < ((inner (m.map nextOf) l).length : Int) := fun s hs => by rw [hil]; exact HLI.out s (List.mem_of_mem_take hs)
            have HDS := Lib.hid (Bfs.depths_spec (next := inner (m.map nextOf) l) (l := l.take 1) hlst (Bfs.row_in hie.ins))
            have HDC := Lib.hid (Depths_calls (inner (m.map nextOf) l) (l.take 1) _ _ (fun k => k < wr.heap.size) wr (fun k hk => hk) (hsl.mono fun k hk => hk.2.1) (hlt1.mono fun k hk => by have := hk.2; show k < _; omega) hie hlst (by rw [htk]; decide))
            have HDLE := Lib.hid (Bfs.depths_len (inner (m.map nextOf) l) (l.take 1))
            have HPE := Lib.hid (show perOf (m.map nextOf) l = l.foldl (perRow (inner (m.map nextOf) l) (Bfs.depths (inner (m.map nextOf) l) (l.take 1))) 0 from rfl)
            generalize Bfs.depths (inner (m.map nextOf) l) (l.take 1) = d at *
            have HIL := Lib.hid hil
            have HIE := Lib.hid hie
            have HORR := Lib.hid hor'
            generalize inner (m.map nextOf) l = inn at *
            clear hlt2 hor hor' hil hie hsl htk hlt1 hlst hlsr hnxr hW4r hB5
            go_wp2_with fail
            refine HDC.out.mono ?_
            rintro e w6 ⟨dv, rfl, hb6, hd6⟩
            have hbox6 : w6.cell? ⟨wo.heap.size, 0, none⟩ = some (.slice lA l.length lc) := (hb6.cell (p := ⟨wo.heap.size, 0, none⟩) (by show wo.heap.size < _; omega)).trans hboxr
            have hor6 := HORR.out.below hb6
            have hls6 := HLSR.out.same (fun k hk => hb6.block k (by have := hk.2; omega))
            have hb46 : Below (wo.heap.size + 1) W4 w6 := HB5.out.trans (hb6.mono hzr)
            obtain ⟨dA, dc, rfl, d1, d2, -⟩ := hd6.form
            have hdl : d.length = m.length := by rw [HDLE.out, HIL.out]
            have hd50 : ∀ x, 0 ≤ x → x < (m.length : Int) → -1 ≤ Bfs.at' d x ∧ Bfs.at' d x ≤ 50 := fun x a b => by
              have := HDS.out.low x a (by rw [HIL.out]; exact b)
              have := HIL.out
              omega
            unfold maxLen at d2
            have HOR6 := Lib.hid hor6
            have HLS6 := Lib.hid hls6
            have HB46 := Lib.hid hb46
            have HD6 := Lib.hid hd6
            have HDL := Lib.hid hdl
            have HD50 := Lib.hid hd50
            have HHB6 := Lib.hid hb6
            clear HDC HDS HDLE hboxr HORR HLSR HB5 hor6 hls6 hb46 hd6 hdl hd50 hb6
            go_wp2_with fail
            go_loopw [12, 55] (fun gv k W => ∃ (j3 : Nat) (g : Int), j3 ≤ l.length ∧ k = .int .i64 (j3 : Int) ∧ gv = .int .i64 g ∧ 0 ≤ g ∧ g ≤ 100 ∧ Drawn w6 W ∧ Hid (g = (l.take j3).foldl (perRow inn d) 0)) (fun _ k _ => l.length - (intOf k).toNat)
            case atStart => exact ⟨0, 0, Nat.zero_le _, rfl, rfl, Int.le_refl _, by omega, Drawn.refl _, rfl⟩
            case round =>
              obtain ⟨j3, g, hj3, rfl, rfl, g0, g1, ⟨nd, rfl⟩, HG⟩ := hrel
              by_cases hlt3 : j3 < l.length
              · obtain ⟨s, hs⟩ : ∃ s, l[j3]? = some s := ⟨_, List.getElem?_eq_getElem hlt3⟩
                obtain ⟨s1, s2⟩ := HLI.out s (List.mem_of_getElem? hs)
                obtain ⟨_, _, e, -, -, k3⟩ := HLS6.out.ints
                injection e with e1 e2 e3
                clear e2 e3
                subst e1
                obtain ⟨bd, rfl, hDb, hcs⟩ := k3 (by omega)
                have q1 := hcs j3 hlt3
                rw [Dig.gd_of hs] at q1
                obtain ⟨xs, hxs⟩ : ∃ xs, inn[s.toNat]? = some xs := ⟨_, List.getElem?_eq_getElem (by rw [HIL.out]; omega)⟩
                obtain ⟨rv, hrv, hro, -⟩ := HOR6.out.get hxs
                obtain ⟨c6, -⟩ := HOR6.out.cell hrv
                have hxs1 := (own_ints hro).2
                obtain ⟨rA, rc, rfl, r1, r2, r3⟩ := hxs1.ints
                have h64 := HIE.out.row xs (List.mem_of_getElem? hxs)
                have hxin := HIE.out.ins xs (List.mem_of_getElem? hxs)
                rw [HIL.out] at hxin
                have HXIN := Lib.hid hxin
                have hrow : Bfs.row inn s = xs := by unfold Bfs.row; rw [List.getD_eq_getElem?_getD, hxs]; rfl
                have HSTEP := Lib.hid (show (l.take (j3 + 1)).foldl (perRow inn d) 0 = xs.foldl (perStep d s) g by rw [fold_take _ _ hs, ← HG.out]; unfold perRow; rw [hrow])
                obtain ⟨dd, rfl, -, p1⟩ := at_cell HD6.out s1 (by rw [HDL.out]; exact s2)
                obtain ⟨b1, b2⟩ := HD50.out s s1 s2
                have hsd : s < (d.length : Int) := by rw [HDL.out]; exact s2
                have R3 := Lib.hid r3
                unfold maxLen at r2
                clear hcs k3 hs hxs hrv hro hxs1 hxin hrow r3 hDb
                go_wp2_with fail
                go_loopw [12, 64] (fun gv k W => ∃ (j4 : Nat) (g' : Int), j4 ≤ xs.length ∧ k = .int .i64 (j4 : Int) ∧ gv = .int .i64 g' ∧ 0 ≤ g' ∧ g' ≤ 100 ∧ Drawn w6 W ∧ Hid (g' = (xs.take j4).foldl (perStep d s) g)) (fun _ k _ => xs.length - (intOf k).toNat)
                case atStart => exact ⟨0, g, Nat.zero_le _, rfl, rfl, g0, g1, ⟨nd, rfl⟩, rfl⟩
                case round =>
                  obtain ⟨j4, g', hj4, rfl, rfl, g2, g3, ⟨ne, rfl⟩, HG2⟩ := hrel
                  by_cases hlt4 : j4 < xs.length
                  · obtain ⟨t, ht⟩ : ∃ t, xs[j4]? = some t := ⟨_, List.getElem?_eq_getElem hlt4⟩
                    obtain ⟨t1, t2⟩ := HXIN.out t (List.mem_of_getElem? ht)
                    obtain ⟨rd, rfl, -, hrc⟩ := R3.out (by omega)
                    have q2 := hrc j4 hlt4
                    rw [Dig.gd_of ht] at q2
                    obtain ⟨dd', e, -, p2⟩ := at_cell HD6.out t1 (by rw [HDL.out]; exact t2)
                    injection e with e
                    subst e
                    obtain ⟨b3, b4⟩ := HD50.out t t1 t2
                    have htd : t < (d.length : Int) := by rw [HDL.out]; exact t2
                    have hbd := perStep_bd (d := d) (s := s) (g := g') (t := t) ⟨b1, b2⟩ ⟨b3, b4⟩ ⟨g2, g3⟩
                    have HBD := Lib.hid hbd
                    have hgc : ∀ n, Calls Tryz.prog 80 #[.int .i64 g', .int .i64 (Bfs.at' d s + 1 - Bfs.at' d t)] (w6.drewN (ne + n)) fun e w' => e = .returned (.int .i64 (perStep d s g' t)) ∧ ∃ m, w' = w6.drewN (ne + m) := fun n =>
                      (gcd_calls g' (Bfs.at' d s + 1 - Bfs.at' d t) (w6.drewN (ne + n)) (by omega) (by omega) (by omega) (by omega)).mono fun _ _ ⟨he, m, hm⟩ => ⟨he, n + m, by rw [hm, World.drewN_drewN, Nat.add_assoc]⟩
                    have HGC := Lib.hid hgc
                    have HS2 := Lib.hid (show perStep d s g' t = (xs.take (j4 + 1)).foldl (perStep d s) g by rw [fold_take _ _ ht, ← HG2.out])
                    generalize perStep d s g' t = g4 at *
                    have hw1 : IntKind.i64.wrap (Bfs.at' d s + 1) = Bfs.at' d s + 1 := IntWalk.i64_in _ (by omega)
                    have hw2 : IntKind.i64.wrap (Bfs.at' d s + 1 - Bfs.at' d t) = Bfs.at' d s + 1 - Bfs.at' d t := IntWalk.i64_in _ (by omega)
                    clear hrc ht hbd hgc
                    go_wp2_with fail
                    go_quiet ((go_at_call 80; exact HGC.out _))
                    clear hw1 hw2
                    go_wp2
                    exact ⟨⟨j4 + 1, g4, by omega, by go_num, rfl, HBD.out.1, HBD.out.2, ⟨_, rfl⟩, HS2⟩, by simp [intOf]; omega⟩
                  · obtain rfl : j4 = xs.length := by omega
                    have HS3 := Lib.hid (show g' = (l.take (j3 + 1)).foldl (perRow inn d) 0 by rw [HSTEP.out, HG2.out, List.take_length])
                    clear hlt4
                    go_wp2
                    exact ⟨⟨j3 + 1, g', by omega, by go_num, rfl, g2, g3, ⟨ne, rfl⟩, HS3⟩, by simp [intOf]; omega⟩
              · obtain rfl : j3 = l.length := by omega
                clear hlt3
                have hb6n : Below wo.heap.size wo (w6.drewN nd) := below_drewN (HB4.out.trans (HB46.out.mono (Nat.le_succ _))) nd
                have hO6 : (w6.drewN nd).ownsRow w3.heap.size 3 1 u5 L.length (ints L) := own_kept HO4.out fun k hk => by
                  have h1 := HO4.out.lt k hk
                  have h2 := HZ4.out
                  exact (below_drewN HB46.out nd).block k (by omega)
                have hz6 : wo.heap.size ≤ w6.heap.size := hb6n.size
                have HB6N := Lib.hid hb6n
                have HGG := Lib.hid (show L ++ [g] = (ps.take (j + 1)).map fun p => perOf (m.map nextOf) p.2 by
                  rw [List.take_add_one, HPR.out, Option.toList_some, List.map_append, ← HLS.out, List.map_singleton, HPE.out, HG.out, List.take_length])
                have hLj := HLL.out
                go_wp2_with (at_builtin; refine wpList_app1 elem_i64 rfl _ _ rfl w3.heap.size _ L.length (ints L) rfl (hO6.alloc _) ⟨_, 0, none⟩ 1 _ rfl (cell_new1 _ _ _) rfl (by omega) (by omega) (by simp; omega) ?_; intro v8 w8 ho8 hg8 ha8)
                refine ⟨⟨j + 1, L ++ [g], by omega, by go_num, ?_, by simpa [ints] using ho8, by simp; omega, HGG⟩, by simp [intOf]; omega⟩
                exact below_app (HBW.out.trans (HB6N.out.mono hzW)) (show w3.heap.size ≤ w6.heap.size by omega) hO6 hg8
      · obtain rfl : j = ps.length := by omega
        have HFIN := Lib.hid (show L = periodsOf m by rw [HV.out, HLS.out, List.take_length, ← HPS.out, List.map_map]; rfl)
        clear hlt
        go_wp2_with fail
        go_ret2
        refine ⟨_, ret_vi HER.out, hB3.trans (hBW.mono hz3), ?_⟩
        rw [← HFIN.out]
        exact (own_intsS hO).mono fun k hk => ⟨by have := hk.1; omega, hk.2⟩

end Go.Proofs.YtoffbdlgmnpblaaGreat

/- The lengths of the results. -/
namespace Go.Proofs.YtoffbdlgmnpblaaGreat
open Go.RowKit
set_option maxHeartbeats 1000000

theorem parts_bd {m : List St} (hv : validB m = true) : (partsOf (m.map nextOf)).length ≤ 100000 ∧ ∀ xs ∈ partsOf (m.map nextOf), xs.length ≤ 100000 := by
  have hf := Fine.of_valid hv
  have hlen := hf.len
  have he := Edges.of_fine hf
  refine ⟨?_, fun xs hxs => ?_⟩
  · have h1 : (partsOf (m.map nextOf)).length = (Tar.found (m.map nextOf)).length := (Lex.lsort_perm _).length_eq
    have h2 := (Tar.upTo_rest (b := 64) (fun xs hxs => nextOf_len hf xs hxs) (Bfs.row_in he.ins) (m.map nextOf).length (Nat.le_refl _)).bd.u
    rw [List.length_map] at h2
    have h3 : (Tar.found (m.map nextOf)).length = (Tar.upTo (m.map nextOf) (m.map nextOf).length).out.length := rfl
    rw [List.length_map] at h3
    omega
  · have h := (found_in (b := 64) (fun xs hxs => nextOf_len hf xs hxs) he.ins xs hxs).2.2
    rw [List.length_map] at h
    omega
theorem comps_bd (m : List St) : (compsOf m).length ≤ 100000 ∧ ∀ xs ∈ compsOf m, xs.length ≤ 100000 := by
  unfold compsOf
  split
  · rename_i hv; exact parts_bd hv
  · exact ⟨by simp, fun xs hxs => (List.not_mem_nil hxs).elim⟩
theorem bot_bd (m : List St) : (botOf m).length ≤ 100000 ∧ ∀ xs ∈ botOf m, xs.length ≤ 100000 := by
  unfold botOf bottomsOf'
  split
  · rename_i hv
    obtain ⟨h1, h2⟩ := parts_bd hv
    exact ⟨Nat.le_trans (List.length_filter_le _ _) h1, fun xs hxs => h2 xs (List.mem_filter.1 hxs).1⟩
  · exact ⟨by simp, fun xs hxs => (List.not_mem_nil hxs).elim⟩
theorem periods_bd (m : List St) : (periodsOf m).length ≤ 100000 := by
  unfold periodsOf
  split
  · rename_i hv; rw [List.length_map]; exact (parts_bd hv).1
  · simp
end Go.Proofs.YtoffbdlgmnpblaaGreat

/- Models whose numbers have turned still read as models. -/
namespace Go.Proofs.YtoffbdlgmnpblaaGreat
open Go.RowKit
set_option maxHeartbeats 4000000
set_option maxRecDepth 100000

/-- a kind that still reads after numbers have turned -/
def Kind.Firm {α : Type} (K : Kind α) : Prop := ∀ {w w' : World} {D D' : Nat → Prop} {cs : List Value} {x : α} {ad : Addr}, Turned D' w w' → At w ad cs → K.R w D cs x → ∃ cs' x', At w' ad cs' ∧ K.R w' D cs' x'
theorem Sl.firm {α : Type} {K : Kind α} (hK : K.Firm) {w w' : World} {D D' : Nat → Prop} {v : Value} {xs : List α} (h : Sl K w D v xs) (ht : Turned D' w w') : ∃ xs' : List α, Sl K w' D v xs' ∧ xs'.length = xs.length := by
  obtain ⟨A, c, rfl, h1, h2, h3⟩ := h
  have hrow : ∀ i : Nat, i < xs.length → ∃ x' : α, ∃ ad cs, A = some ad ∧ D ad.block ∧ K.R w' D cs x' ∧ At w' (ad.add (i * K.sz)) cs := by
    intro i hi
    obtain ⟨ad, cs, e, hd, hr, hat⟩ := h3 i xs[i] (List.getElem?_eq_getElem hi)
    obtain ⟨cs', x', h4, h5⟩ := hK ht hat hr
    exact ⟨x', ad, cs', e, hd, h5, h4⟩
  have hne : ∀ i : Nat, i < xs.length → Nonempty α := fun i hi => ⟨xs[i]⟩
  refine ⟨(List.finRange xs.length).map fun i => Classical.choose (hrow i.1 i.2), ⟨A, c, by simp, by simpa using h1, h2, fun i y hy => ?_⟩, by simp⟩
  rw [List.getElem?_map] at hy
  obtain ⟨z, hz, rfl⟩ := Option.map_eq_some_iff.1 hy
  have hi : i < xs.length := by have := (List.getElem?_eq_some_iff.1 hz).1; simpa using this
  have hzi : z = ⟨i, hi⟩ := by
    obtain ⟨hh, rfl⟩ := List.getElem?_eq_some_iff.1 hz
    simp
  subst hzi
  exact Classical.choose_spec (hrow i hi)
end Go.Proofs.YtoffbdlgmnpblaaGreat

/- Results that lie in blocks of their own call; the blocks that are spoilt and those that are not. -/
namespace Go.Proofs.YtoffbdlgmnpblaaGreat
open Go.RowKit
set_option maxHeartbeats 1000000

section
variable {B B' : Nat} {W W' : World} {k : Nat}
theorem DB.next (h : DB B W k) (hb : Below W.heap.size W W') : DB B W' k := ⟨h.1, Nat.lt_of_lt_of_le h.2.1 hb.size, h.2.2.same (hb.block k h.2.1)⟩
theorem DB.low (h : DB B' W k) (hB : B ≤ B') : DB B W k := ⟨Nat.le_trans hB h.1, h.2⟩
theorem DB.lo : Lo (DB B W) W := fun _ h => h.2.1
theorem DB.same (hb : Below W.heap.size W W') : Same (DB B W) W W' := fun k hk => hb.block k hk.2.1
end

/-- a row of rows of numbers from its cells -/
theorem rows_of_cells {W : World} {D : Nat → Prop} {b n : Nat} {us : List Value} {xss : List (List Int)} (hl : us.length = xss.length) (hn : xss.length = n) (hm : n ≤ maxLen) (hD : D b)
    (hc : ∀ (j : Nat) u, us[j]? = some u → W.cell? ⟨b, j, none⟩ = some u) (h : ∀ (j : Nat) u xs, us[j]? = some u → xss[j]? = some xs → Sl (Kind.int .i64) W D u xs) : Rows2 W D (.slice (some ⟨b, 0, none⟩) n n) xss := by
  subst hn
  refine ⟨some ⟨b, 0, none⟩, xss.length, rfl, Nat.le_refl _, hm, fun i xs hx => ?_⟩
  have hi : i < us.length := by have := (List.getElem?_eq_some_iff.1 hx).1; omega
  refine ⟨⟨b, 0, none⟩, [us[i]], rfl, hD, ⟨us[i], rfl, h i _ xs (List.getElem?_eq_getElem hi) hx⟩, fun j u hj => ?_⟩
  cases j with
  | zero =>
    simp at hj
    subst hj
    have := hc i us[i] (List.getElem?_eq_getElem hi)
    by_cases h0 : i = 0 <;> simpa [Addr.add, Kind.slice, h0] using this
  | succ j => simp at hj

/-- the block of a new array may be written -/
theorem soft_new (w : World) (cs : Array Value) (t : TypeId) : Soft (w.alloc (.cells cs t)) w.heap.size := fun o => by
  have := (cells_of (heap_alloc_new w (.cells cs t)) o).2
  exact this
theorem DB.new {B : Nat} {w : World} (cs : Array Value) (t : TypeId) (hB : B ≤ w.heap.size) : DB B (w.alloc (.cells cs t)) w.heap.size := ⟨hB, by simp, soft_new w cs t⟩

theorem soft_of_block {W : World} {b : Nat} {cs : Array Value} {t : TypeId} (h : W.heap[b]? = some (.cells cs t (0, 0))) : Soft W b := fun o => (cells_of h o).2

/-- several new blocks -/
def allocs (w : World) (os : List Obj) : World := os.foldl World.alloc w
theorem allocs_below : ∀ (os : List Obj) (w : World), Below w.heap.size w (allocs w os)
  | [], w => Below.refl _ w
  | o :: os, w => by
    have h1 := (Below.refl w.heap.size w).alloc (Nat.le_refl _) o
    exact h1.trans ((allocs_below os (w.alloc o)).mono (by simp))
theorem allocs_at : ∀ (os : List Obj) (w : World) (i : Nat) (o : Obj), os[i]? = some o → (allocs w os).heap[w.heap.size + i]? = some o
  | [], _, _, _, h => by simp at h
  | o :: os, w, 0, o', h => by
    have e : o = o' := by simpa using h
    subst e
    have h1 := (allocs_below os (w.alloc o)).block w.heap.size (by simp)
    exact h1.trans (heap_alloc_new w o)
  | o :: os, w, i + 1, o', h => by
    have h1 := allocs_at os (w.alloc o) i o' (by simpa using h)
    have h2 : (w.alloc o).heap.size + i = w.heap.size + (i + 1) := by simp; omega
    rw [h2] at h1
    exact h1

/-- numbers from their block -/
theorem ints_of_block {W : World} {D : Nat → Prop} {b n : Nat} {cs : Array Value} {t : TypeId} {fr : Nat × Nat} (xs : List Int) (hb : W.heap[b]? = some (.cells cs t fr)) (hD : D b) (hn : xs.length = n) (hm : n ≤ maxLen) (hcs : cs.toList = ints xs) :
    Sl (Kind.int .i64) W D (.slice (some ⟨b, 0, none⟩) n n) xs := by
  subst hn
  refine Sl.of_ints (Nat.le_refl _) hm fun _ => ⟨⟨b, 0, none⟩, rfl, hD, fun i hi => ?_⟩
  have e : (⟨b, 0, none⟩ : Addr).add i = ⟨b, i, none⟩ := by unfold Addr.add; split <;> simp_all
  rw [e]
  simp only [World.cell?, hb]
  rw [← Array.getElem?_toList, hcs]
  simp [ints, Dig.gd, hi]
/-- rows of numbers from their block -/
theorem rows_of_block {W : World} {D : Nat → Prop} {b n : Nat} {cs : Array Value} {t : TypeId} {fr : Nat × Nat} (us : List Value) (xss : List (List Int)) (hb : W.heap[b]? = some (.cells cs t fr)) (hD : D b) (hl : us.length = xss.length) (hn : xss.length = n) (hm : n ≤ maxLen) (hcs : cs.toList = us)
    (h : ∀ (j : Nat) u xs, us[j]? = some u → xss[j]? = some xs → Sl (Kind.int .i64) W D u xs) : Rows2 W D (.slice (some ⟨b, 0, none⟩) n n) xss :=
  rows_of_cells hl hn hm hD (fun j u hu => by
    simp only [World.cell?, hb]
    rw [← Array.getElem?_toList, hcs]; exact hu) h

end Go.Proofs.YtoffbdlgmnpblaaGreat

/- What the example of the chapter answers. -/
namespace Go.Proofs.YtoffbdlgmnpblaaGreat
open Go.RowKit
set_option maxRecDepth 100000

def one : Num := ⟨0, 1⟩
def diceM : List St :=
  [⟨0, 0, [⟨one, [⟨1, ⟨2, 3⟩⟩, ⟨2, ⟨1, 3⟩⟩]⟩, ⟨one, [⟨0, ⟨1, 2⟩⟩, ⟨1, ⟨1, 4⟩⟩, ⟨2, ⟨1, 4⟩⟩]⟩]⟩, ⟨0, 0, [⟨one, [⟨1, ⟨1, 1⟩⟩]⟩]⟩, ⟨0, 1, [⟨one, [⟨2, ⟨1, 1⟩⟩]⟩]⟩]

theorem found3 : Tar.found [[0, 1, 2], [1], [2]] = [[1], [2], [0]] := by
  have h : Tar.found [[0, 1, 2], [1], [2]] = [Tar.isort [1], Tar.isort [2], Tar.isort [0]] := by kernel_rfl
  rw [h]
  simp [Tar.isort, List.mergeSort_singleton]
theorem parts3 : partsOf [[0, 1, 2], [1], [2]] = [[0], [1], [2]] := by
  unfold partsOf
  rw [found3]
  exact (Lex.lsort_of (by decide) (by decide)).symm
theorem sort3 : isort ([1, 2, 0] : List Int) = [0, 1, 2] := by
  unfold isort
  refine (List.Perm.eq_of_pairwise (le := fun a b => decide (a ≤ b) = true) (fun a b _ _ h k => ?_) (l₁ := [0, 1, 2]) (by decide) ?_ ((by decide : ([0, 1, 2] : List Int).Perm [1, 2, 0]).trans (List.mergeSort_perm _ _).symm)).symm
  · simp at h k; omega
  · exact List.pairwise_mergeSort (fun a b c h k => by simp at *; omega) (fun a b => by simp; omega) _
theorem dice_next : diceM.map nextOf = [[0, 1, 2], [1], [2]] := by
  have h : diceM.map nextOf = [isort [1, 2, 0], isort [1], isort [2]] := by kernel_rfl
  rw [h, sort3]
  simp [isort, List.mergeSort_singleton]
theorem dice_valid : validB diceM = true := by decide +kernel
theorem dice_comps : compsOf diceM = [[0], [1], [2]] := by
  unfold compsOf; rw [if_pos dice_valid, dice_next, parts3]
theorem dice_bot : botOf diceM = [[1], [2]] := by
  unfold botOf bottomsOf'; rw [if_pos dice_valid, dice_next, parts3]; decide
theorem dice_periods : periodsOf diceM = [1, 1, 1] := by
  unfold periodsOf; rw [if_pos dice_valid, dice_next, parts3]; kernel_rfl
end Go.Proofs.YtoffbdlgmnpblaaGreat
