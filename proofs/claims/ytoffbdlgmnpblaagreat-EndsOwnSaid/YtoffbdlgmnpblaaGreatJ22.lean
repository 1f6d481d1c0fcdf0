/- Part 22: En2 En4. -/
import Derived.Test.YtoffbdlgmnpblaaGreatJ21
import Derived.Test.YtoffbdlgmnpblaaGreatJ20

/- Package ends: staying. -/
namespace Go.Proofs.YtoffbdlgmnpblaaGreat
open Go.RowKit
set_option maxHeartbeats 4000000
set_option maxRecDepth 100000

/-- the numbers of the first q choices that stay in the set -/
def staysTo (l : List Int) (chs : List Ch) : Nat → List Int
  | 0 => []
  | q + 1 => if withinB l (chs.getD q ⟨⟨0, 0⟩, []⟩) then staysTo l chs q ++ [(q : Int)] else staysTo l chs q
def staysOf (m : List St) (l : List Int) (s : Int) : List Int := staysTo l (m.getD s.toNat ⟨0, 0, []⟩).chs (m.getD s.toNat ⟨0, 0, []⟩).chs.length
theorem staysTo_len (l : List Int) (chs : List Ch) : ∀ q, (staysTo l chs q).length ≤ q
  | 0 => Nat.le_refl _
  | q + 1 => by
    have := staysTo_len l chs q
    unfold staysTo
    split <;> simp <;> omega

theorem RowsC.low {W : World} {B B' : Nat} {v : Value} {ps : List (Value × List Int)} (h : RowsC W B v ps) (hb : B' ≤ B) : RowsC W B' v ps := ⟨own_base h.own hb, fun p hp => ⟨own_base (h.row p hp).1 hb, (h.row p hp).2⟩⟩

theorem staying_calls (m : List St) (l : List Int) (v u : Value) (D : Nat → Prop) (w : World) (hD : Lo D w) (h : ModelC w D v m) (hl : Sl (Kind.int .i64) w D u l) (hn : l.length ≤ 1000) (hm : m.length ≤ 1000 ∧ ∀ s ∈ m, s.chs.length ≤ 1000) (hin : ∀ s ∈ l, 0 ≤ s ∧ s < (m.length : Int)) :
    Calls Tryz.prog 116 #[v, u] w fun e w' => ∃ v' ps, e = .returned v' ∧ RowsC w' w.heap.size v' ps ∧ ps.map (·.2) = l.map (staysOf m l) ∧ Below w.heap.size w w' := by
  obtain ⟨mv, rfl, hmm⟩ := h
  have H : Hid (Sl Kind.st w D mv m) := Lib.hid hmm
  obtain ⟨A, c, rfl, h1, h2, -⟩ := hmm.form
  obtain ⟨LA, lc, rfl, k1, k2, -⟩ := hl.ints
  obtain ⟨hm1, hm2⟩ := hm
  have HL := Lib.hid hl
  have HM2 := Lib.hid hm2
  have HIN := Lib.hid hin
  have HD := Lib.hid hD
  unfold maxLen at h2 k2
  have hB0 := (Below.refl w.heap.size w).alloc (Nat.le_refl _) (.cells #[.slice A m.length c] 24)
  have hz0 : (w.alloc (.cells #[.slice A m.length c] 24)).heap.size = w.heap.size + 1 := by simp
  have HBX := Lib.hid (cell_new1 w (.slice A m.length c) 24)
  have HB0 := Lib.hid hB0
  clear hmm hl hm2 hin hD hB0
  go_enter Tryz.func116, Tryz.ntmps116
  go_wp2
  go_loopw [5, 13] (fun v k W => ∃ (i : Nat) (ps : List (Value × List Int)), i ≤ l.length ∧ k = .int .i64 (i : Int) ∧ Hid (Below (w.heap.size + 1) (w.alloc (.cells #[.slice A m.length c] 24)) W) ∧ Hid (RowsC W (w.heap.size + 1) v ps) ∧ Hid (ps.map (·.2) = (l.take i).map (staysOf m l))) (fun _ k _ => l.length - (intOf k).toNat)
  case atStart => exact ⟨0, [], Nat.zero_le _, rfl, Below.refl _ _, ⟨World.ownsRow_nil _ _ _ _, fun p hp => (List.not_mem_nil hp).elim⟩, rfl⟩
  case round =>
    obtain ⟨i, ps, hi, rfl, HBW0, HR, HP⟩ := hrel
    obtain ⟨wo, rfl⟩ : ∃ wo : World, wo = wr := ⟨_, rfl⟩
    have hBW : Below w.heap.size w wo := HB0.out.trans (HBW0.out.mono (by omega))
    have hpl : ps.length ≤ 1000 := by have := congrArg List.length HP.out; rw [List.length_map, List.length_map, List.length_take] at this; omega
    have hown := HR.out.own
    obtain ⟨A3, c3, rfl, -, -, -⟩ := own_form hown
    have hsz : w.heap.size + 1 ≤ wo.heap.size := by have := HBW0.out.size; omega
    by_cases hlt : i < l.length
    · obtain ⟨s, hs⟩ : ∃ s, l[i]? = some s := ⟨_, List.getElem?_eq_getElem hlt⟩
      obtain ⟨hs0, hs1⟩ := HIN.out s (List.mem_of_getElem? hs)
      obtain ⟨ad, rfl, hDl, hcl⟩ : ∃ ad, LA = some ad ∧ D ad.block ∧ w.cell? (ad.add i) = some (.int .i64 s) := by
        obtain ⟨A', c', e, -, -, h3⟩ := HL.out.ints
        injection e with e1 e2 e3
        subst e1
        obtain ⟨ad, ea, hd, hc⟩ := h3 (by omega)
        have := hc i hlt
        rw [Dig.gd_of hs] at this
        exact ⟨ad, ea, hd, this⟩
      have r0 := (hBW.cell (p := ad.add i) (by rw [block_of_add]; exact HD.out _ hDl)).trans hcl
      have b0 : wo.cell? ⟨w.heap.size, 0, none⟩ = some (.slice A m.length c) := (HBW0.out.cell (p := ⟨w.heap.size, 0, none⟩) (by show w.heap.size < _; omega)).trans HBX.out
      have HS := Lib.hid hs
      obtain ⟨j, rfl⟩ : ∃ j : Nat, s = (j : Int) := ⟨s.toNat, by omega⟩
      have hjm : j < m.length := by omega
      obtain ⟨st, hst⟩ : ∃ st, m[j]? = some st := ⟨_, List.getElem?_eq_getElem hjm⟩
      obtain ⟨ad2, B, p, d, rfl, hDa, q0, q1, q2, hsc⟩ := H.out.st_up HD.out hBW j st hst
      obtain ⟨rfl, hp1, hp2⟩ := hsc.len
      unfold maxLen at hp2
      have hcl2 := HM2.out st (List.mem_of_getElem? hst)
      have HSC := Lib.hid hsc
      have HSTY := Lib.hid (show staysOf m l (j : Int) = staysTo l st.chs st.chs.length by unfold staysOf; rw [Int.toNat_natCast, List.getD_eq_getElem?_getD, hst]; rfl)
      have HOWN := Lib.hid hown
      have HBWo := Lib.hid hBW
      clear hcl hs hst hsc hown hs0 hs1 q0 q1
      go_wp2_with fail
      go_loopw [8, 24] (fun v8 k W => ∃ (q : Nat) (L : List Int), q ≤ st.chs.length ∧ k = .int .i64 (q : Int) ∧ Hid (Below wo.heap.size wo W) ∧ Hid (W.ownsRow wo.heap.size 3 1 v8 L.length (ints L)) ∧ L.length ≤ q ∧ Hid (L = staysTo l st.chs q)) (fun _ k _ => st.chs.length - (intOf k).toNat)
      case atStart => exact ⟨0, [], Nat.zero_le _, rfl, Below.refl _ _, World.ownsRow_nil _ _ _ _, Nat.le_refl _, rfl⟩
      case round =>
        obtain ⟨q, L, hq, rfl, HBI, HO, hLq, HE⟩ := hrel
        have hBWr : Below w.heap.size w wr := HBWo.out.trans (HBI.out.mono (by omega))
        have hzr := HBI.out.size
        have hown8 := HO.out
        obtain ⟨A8, c8, rfl, -, -, -⟩ := own_form hown8
        clear hown8
        by_cases hlt2 : q < st.chs.length
        · obtain ⟨x, hx⟩ : ∃ x, st.chs[q]? = some x := ⟨_, List.getElem?_eq_getElem hlt2⟩
          obtain ⟨ad3, B3, p3, d3, rfl, hDa3, t0, t1, t2, hxc⟩ := HSC.out.ch_up HD.out hBWr q x hx
          have hb4 := (Below.refl wr.heap.size wr).alloc (Nat.le_refl _) (.cells #[.int .i64 x.rw.top, .int .i64 x.rw.low, .slice B3 p3 d3] 97)
          have hBW4 := hBWr.trans (hb4.mono hBWr.size)
          have HXC := Lib.hid (hxc.same (HD.out.same hBW4))
          have HL4 := Lib.hid (HL.out.same (HD.out.same hBW4))
          have HB4 := Lib.hid hb4
          have HDW := Lib.hid (HD.out.up hBW4.size)
          have hwx : withinB l (st.chs.getD q ⟨⟨0, 0⟩, []⟩) = withinB l x := by rw [List.getD_eq_getElem?_getD, hx]; rfl
          have HSN := Lib.hid (show staysTo l st.chs (q + 1) = if withinB l x then staysTo l st.chs q ++ [(q : Int)] else staysTo l st.chs q by rw [← hwx]; rfl)
          clear hx hxc hb4 hBW4 hwx b0 q2 r0
          go_wp2_with fail
          refine (within_calls l x _ _ D _ HDW.out HXC.out HL4.out).mono ?_
          rintro e w5 ⟨rfl, hb5⟩
          have hB5 := HB4.out.trans (hb5.mono HB4.out.size)
          have hz5 := hB5.size
          have HB5 := Lib.hid hB5
          have HO5 := Lib.hid (own_below HO.out hB5)
          have HBI5 := Lib.hid (HBI.out.trans (hB5.mono hzr))
          clear hb5 hB5 t0 t1 t2
          cases hw : withinB l x with
          | true =>
            have HE5 := Lib.hid (show L ++ [(q : Int)] = staysTo l st.chs (q + 1) by rw [HSN.out, hw, if_pos rfl, HE.out])
            clear hw
            go_wp2_with ((at_builtin); (refine wpList_app1 elem_i64 rfl _ _ rfl wo.heap.size _ L.length (ints L) rfl (HO5.out.alloc _) ⟨_, 0, none⟩ 1 _ rfl (cell_new1 _ _ _) rfl (by omega) (by omega) (by simp; omega) ?_); (intro v6 w6 ho6 hg6 ha6); (have HO6 := Lib.hid ho6); (have HG6 := Lib.hid hg6); (obtain ⟨A6, c6, rfl, -, -, -⟩ := own_form ho6); (clear ho6 hg6 ha6))
            have hb6 := (HBI5.out.alloc (by omega) (.cells #[.int .i64 (q : Int)] 3)).grown HG6.out (by simp; omega) (fun k hk => (HO5.out.lt k hk).1)
            exact ⟨⟨q + 1, L ++ [(q : Int)], by omega, by go_num, hb6, Lib.hid (by simpa [ints] using HO6.out), by simp; omega, HE5.out⟩, by simp [intOf]; omega⟩
          | false =>
            have HE5 := Lib.hid (show L = staysTo l st.chs (q + 1) by rw [HSN.out, hw, if_neg (by decide), HE.out])
            clear hw
            go_wp2
            exact ⟨⟨q + 1, L, by omega, by go_num, HBI5.out, HO5.out, by omega, HE5.out⟩, by simp [intOf]; omega⟩
        · obtain rfl : q = st.chs.length := by omega
          clear hlt2 b0 q2 r0
          go_wp2_with ((at_builtin); (refine wpList_app1 elem_row rfl _ _ rfl (w.heap.size + 1) _ ps.length (ps.map (·.1)) rfl (own_kept HOWN.out fun k hk => (heap_alloc_old _ _ (Nat.lt_of_lt_of_le (HOWN.out.lt k hk).2 hzr)).trans (HBI.out.block k (HOWN.out.lt k hk).2)) ⟨_, 0, none⟩ 1 _ rfl (cell_new1 _ _ _) rfl (by omega) (by omega) (by simp; omega) ?_); (intro v6 w6 ho6 hg6 ha6); (have HO6 := Lib.hid ho6); (have HG6 := Lib.hid hg6); (have HA6 := Lib.hid ha6); (obtain ⟨A6, c6, rfl, -, -, -⟩ := own_form ho6); (clear ho6 hg6 ha6))
          have HR5 := Lib.hid (RowsC.snoc HR.out (by omega) HBI.out (own_base HO.out (by omega)) (fun k hk => (HO.out.lt k hk).1) HG6.out HO6.out HA6.out)
          have hb6 := ((HBW0.out.trans (HBI.out.mono (by omega))).alloc (by omega) (.cells #[.slice A8 L.length c8] 31)).grown HG6.out (by simp; omega) (fun k hk => (HOWN.out.lt k hk).1)
          exact ⟨⟨i + 1, ps ++ [(_, L)], by omega, by go_num, hb6, HR5.out, Lib.hid (by rw [List.map_append, HP.out, List.take_add_one, HS.out, HE.out, ← HSTY.out]; simp)⟩, by simp [intOf]; omega⟩
    · obtain rfl : i = l.length := by omega
      have HE3 := Lib.hid (show ps.map (·.2) = l.map (staysOf m l) by rw [HP.out, List.take_length])
      clear hlt hown
      go_wp2
      go_ret
      exact ⟨_, ps, rfl, HR.out.low (by omega), HE3.out, hBW⟩

end Go.Proofs.YtoffbdlgmnpblaaGreat

/- Package ends: edges. -/
namespace Go.Proofs.YtoffbdlgmnpblaaGreat
open Go.RowKit
set_option maxHeartbeats 4000000
set_option maxRecDepth 100000

/-- pairs (target, state) laid into rows -/
def pl (n : Nat) (ps : List (Int × Int)) : List (List Int) := ps.foldl (fun o p => Bfs.push o p.1 p.2) (List.replicate n [])
theorem pl_snoc (n : Nat) (ps : List (Int × Int)) (p : Int × Int) : pl n (ps ++ [p]) = Bfs.push (pl n ps) p.1 p.2 := by unfold pl; rw [List.foldl_append]; rfl
theorem pl_len (n : Nat) (ps : List (Int × Int)) : (pl n ps).length = n := by
  unfold pl
  have : ∀ (ps : List (Int × Int)) (o : List (List Int)), (ps.foldl (fun o p => Bfs.push o p.1 p.2) o).length = o.length := by
    intro ps
    induction ps with
    | nil => intro o; rfl
    | cons p ps ih => intro o; rw [List.foldl_cons, ih]; simp [Bfs.push]
  rw [this]; simp
def chsOf (m : List St) (s : Int) : List Ch := (m.getD s.toNat ⟨0, 0, []⟩).chs
def kPairs (chs : List Ch) (s k : Int) : List (Int × Int) := (tos (chs.getD k.toNat ⟨⟨0, 0⟩, []⟩)).map fun t => (t, s)
def ePairs (m : List St) (p : Int × List Int) : List (Int × Int) := p.2.flatMap (kPairs (chsOf m p.1) p.1)
def edgesE (m : List St) (es : List (Int × List Int)) : List (List Int) := pl m.length (es.flatMap (ePairs m))

theorem pl_row (n : Nat) : ∀ (ps : List (Int × Int)) (o : List (List Int)) (b : Nat), (∀ L ∈ o, L.length ≤ b) → ∀ L ∈ ps.foldl (fun o p => Bfs.push o p.1 p.2) o, L.length ≤ b + ps.length
  | [], o, b, h => fun L hL => h L hL
  | p :: ps, o, b, h => fun L hL => by
    have := pl_row n ps (Bfs.push o p.1 p.2) (b + 1) (fun L hL => by
      rcases List.mem_or_eq_of_mem_set hL with hL | rfl
      · have := h L hL; omega
      · rw [List.length_append, List.getD_eq_getElem?_getD]
        cases hh : o[p.2.toNat]? with
        | none => simp
        | some y => have := h y (List.mem_of_getElem? hh); simp; omega) L hL
    simp; omega
theorem kPairs_len {m : List St} (hm : ∀ s ∈ m, s.chs.length ≤ 1000 ∧ ∀ c ∈ s.chs, c.brs.length ≤ 1000) (s' s k : Int) : (kPairs (chsOf m s') s k).length ≤ 1000 := by
  unfold kPairs tos
  rw [List.length_map, List.length_map, List.getD_eq_getElem?_getD]
  cases hh : (chsOf m s')[k.toNat]? with
  | none => simp
  | some c =>
    have hc := List.mem_of_getElem? hh
    unfold chsOf at hc
    rw [List.getD_eq_getElem?_getD] at hc
    cases h2 : m[s'.toNat]? with
    | none => rw [h2] at hc; cases hc
    | some st => rw [h2] at hc; exact (hm st (List.mem_of_getElem? h2)).2 c hc
theorem flat_len {α β : Type} (f : α → List β) (b : Nat) : ∀ (l : List α), (∀ x ∈ l, (f x).length ≤ b) → (l.flatMap f).length ≤ b * l.length
  | [], _ => by simp
  | a :: l, h => by
    have h1 := flat_len f b l fun x hx => h x (List.mem_cons_of_mem _ hx)
    have h2 := h a (List.mem_cons_self ..)
    rw [List.flatMap_cons, List.length_append, List.length_cons, Nat.mul_succ]
    omega
theorem pairs_len {m : List St} (hm : ∀ s ∈ m, s.chs.length ≤ 1000 ∧ ∀ c ∈ s.chs, c.brs.length ≤ 1000) (s' s : Int) (ks : List Int) (h : ks.length ≤ 1000) : (ks.flatMap (kPairs (chsOf m s') s)).length ≤ 1000000 := by
  have := flat_len (kPairs (chsOf m s') s) 1000 ks fun k _ => kPairs_len hm s' s k
  omega

/-- what holds while the edges are laid -/
structure EdC (w W : World) (bm be : Obj) (vs : List Value) (xss : List (List Int)) : Prop where
  below : Below w.heap.size w W
  bm : W.heap[w.heap.size]? = some bm
  be : W.heap[w.heap.size + 1]? = some be
  rows : OwnRows W (w.heap.size + 2) (w.heap.size + 2) vs xss
  size : w.heap.size + 3 ≤ W.heap.size
theorem EdC.next {w W W' : World} {bm be : Obj} {vs vs' : List Value} {xss xss' : List (List Int)} (h : EdC w W bm be vs xss) (hb : Below (w.heap.size + 2) W W') (hr : OwnRows W' (w.heap.size + 2) (w.heap.size + 2) vs' xss') : EdC w W' bm be vs' xss' :=
  ⟨h.below.trans (hb.mono (by omega)), (hb.block _ (by omega)).trans h.bm, (hb.block _ (by omega)).trans h.be, hr, Nat.le_trans h.size hb.size⟩

theorem eedges_calls (m : List St) (ss : List Int) (kss : List (List Int)) (v su ku : Value) (D : Nat → Prop) (w : World) (hD : Lo D w) (h : ModelC w D v m) (hs : Sl (Kind.int .i64) w D su ss) (hk : Rows2 w D ku kss)
    (hlen : ss.length = kss.length) (hn : ss.length ≤ 1000) (hm : m.length ≤ 1000 ∧ ∀ s ∈ m, s.chs.length ≤ 1000 ∧ ∀ c ∈ s.chs, c.brs.length ≤ 1000) (hkl : ∀ ks ∈ kss, ks.length ≤ 1000)
    (hin : ∀ p ∈ ss.zip kss, 0 ≤ p.1 ∧ p.1 < (m.length : Int) ∧ ∀ k ∈ p.2, 0 ≤ k ∧ k < ((chsOf m p.1).length : Int)) :
    Calls Tryz.prog 107 #[v, .agg #[su, ku]] w fun e w' => ∃ vs, e = .returned (.slice (some ⟨w.heap.size + 2, 0, none⟩) m.length m.length) ∧ Below w.heap.size w w' ∧ OwnRows w' (w.heap.size + 2) (w.heap.size + 2) vs (edgesE m (ss.zip kss)) := by
  obtain ⟨mv, rfl, hmm⟩ := h
  have H : Hid (Sl Kind.st w D mv m) := Lib.hid hmm
  obtain ⟨A, c, rfl, h1, h2, -⟩ := hmm.form
  obtain ⟨SA, sc, rfl, k1, k2, -⟩ := hs.ints
  obtain ⟨KA, kc, rfl, q1, q2, -⟩ := hk.form
  obtain ⟨hm1, hm2⟩ := hm
  have HS := Lib.hid hs
  have HK := Lib.hid hk
  have HM2 := Lib.hid hm2
  have HIN := Lib.hid hin
  have HD := Lib.hid hD
  have HKL := Lib.hid hkl
  have HLEN := Lib.hid hlen
  unfold maxLen at h2 k2 q2
  have hB0 := ((Below.refl w.heap.size w).alloc (Nat.le_refl _) (.cells #[.slice A m.length c] 24)).alloc (by simp) (.cells #[.slice SA ss.length sc, .slice KA kss.length kc] 53)
  have hbm := (((Below.refl (w.heap.size + 1) (w.alloc (.cells #[.slice A m.length c] 24))).alloc (by simp) (.cells #[.slice SA ss.length sc, .slice KA kss.length kc] 53)).block w.heap.size (by omega)).trans (heap_alloc_new w (.cells #[.slice A m.length c] 24))
  have hbe := heap_alloc_new (w.alloc (.cells #[.slice A m.length c] 24)) (.cells #[.slice SA ss.length sc, .slice KA kss.length kc] 53)
  rw [World.size_alloc] at hbe
  have hz0 : ((w.alloc (.cells #[.slice A m.length c] 24)).alloc (.cells #[.slice SA ss.length sc, .slice KA kss.length kc] 53)).heap.size = w.heap.size + 2 := by simp
  have HB0 := Lib.hid hB0
  have HBM := Lib.hid hbm
  have HBE := Lib.hid hbe
  clear hmm hs hk hm2 hin hD hB0 hbm hbe hkl hlen
  go_enter Tryz.func107, Tryz.ntmps107
  go_wp2_with (refine wpList_mk1 elem_row rfl _ _ rfl (by intro cs h; cases h) (w.heap.size + 2) _ _ (m.length : Int) (m.length : Int) rfl rfl (by omega) (by omega) (by omega) (by omega) (by simp) ?_; intro w5 hown5 hb5 hz5 hcells5; have HB5 := Lib.hid hb5; have HC5 := Lib.hid hcells5; have e1 := (cells_of ((hb5.block (w.heap.size + 1) (by simp)).trans HBE.out) 0).1; clear hown5 hb5 hcells5)
  have HE0 : Hid (EdC w w5 (.cells #[.slice A m.length c] 24) (.cells #[.slice SA ss.length sc, .slice KA kss.length kc] 53) (List.replicate m.length (.slice none 0 0)) (pl m.length [])) := by
    have hb5 := HB5.out
    rw [hz0] at hb5
    have hc5 := HC5.out
    rw [hz0] at hc5
    refine ⟨HB0.out.trans (HB5.out.mono HB0.out.size), (hb5.block _ (by omega)).trans HBM.out, (hb5.block _ (by omega)).trans HBE.out, OwnRows.new (by simpa using hc5) (Nat.le_refl _), by omega⟩
  have HES : Hid (edgesE m (ss.zip kss) = pl m.length ((ss.zip kss).flatMap (ePairs m))) := rfl
  clear HB5 HC5 HBM HBE HB0 e1 hz0 hz5
  go_loopw [19] (fun k W => ∃ (i : Nat) (vs : List Value), i ≤ ss.length ∧ k = .int .i64 (i : Int) ∧ Hid (EdC w W (.cells #[.slice A m.length c] 24) (.cells #[.slice SA ss.length sc, .slice KA kss.length kc] 53) vs (pl m.length (((ss.zip kss).take i).flatMap (ePairs m))))) (fun k _ => ss.length - (intOf k).toNat)
  case atStart => exact ⟨0, _, Nat.zero_le _, rfl, HE0.out⟩
  case round =>
    obtain ⟨i, vs, hi, rfl, HE⟩ := hrel
    have e0 := (cells_of HE.out.be 0).1
    have e1 := (cells_of HE.out.be 1).1
    by_cases hlt : i < ss.length
    · obtain ⟨sx, hs⟩ : ∃ x, ss[i]? = some x := ⟨_, List.getElem?_eq_getElem hlt⟩
      obtain ⟨ks, hks⟩ : ∃ x, kss[i]? = some x := ⟨_, List.getElem?_eq_getElem (by have := HLEN.out; omega)⟩
      have hz : (ss.zip kss)[i]? = some (sx, ks) := by rw [List.getElem?_zip_eq_some]; exact ⟨hs, hks⟩
      obtain ⟨s0, s1, hkin⟩ := HIN.out _ (List.mem_of_getElem? hz)
      have hbW := HE.out.below
      obtain ⟨ad, rfl, r0⟩ : ∃ ad, SA = some ad ∧ wr.cell? (ad.add i) = some (.int .i64 sx) := by
        obtain ⟨A', c', e, -, -, h3⟩ := (HS.out.same (HD.out.same hbW)).ints
        injection e with e1 e2 e3
        subst e1
        obtain ⟨ad, ea, hd, hc⟩ := h3 (by omega)
        have := hc i hlt
        rw [Dig.gd_of hs] at this
        exact ⟨ad, ea, this⟩
      obtain ⟨ad2, ku, rfl, -, r1, hku⟩ := Rows2.at' (HK.out.same (HD.out.same hbW)) i ks hks
      obtain ⟨KB, kd, rfl, -, -, -⟩ := hku.ints
      have hkl := HKL.out ks (List.mem_of_getElem? hks)
      have hik : i < kss.length := by have := HLEN.out; omega
      have HKU := Lib.hid hku
      have HZ := Lib.hid (show ((ss.zip kss).take (i + 1)).flatMap (ePairs m) = ((ss.zip kss).take i).flatMap (ePairs m) ++ ePairs m (sx, ks) by rw [List.take_add_one, hz, List.flatMap_append]; simp)
      obtain ⟨j, rfl⟩ : ∃ j : Nat, sx = (j : Int) := ⟨sx.toNat, by omega⟩
      have hjm : j < m.length := by omega
      obtain ⟨st, hst⟩ : ∃ st, m[j]? = some st := ⟨_, List.getElem?_eq_getElem hjm⟩
      have HCH := Lib.hid (show chsOf m (j : Int) = st.chs by unfold chsOf; rw [Int.toNat_natCast, List.getD_eq_getElem?_getD, hst]; rfl)
      have HKI := Lib.hid (show ∀ k ∈ ks, 0 ≤ k ∧ k < (st.chs.length : Int) by rw [← HCH.out]; exact hkin)
      obtain ⟨hst1, hst2⟩ := HM2.out st (List.mem_of_getElem? hst)
      have HST := Lib.hid hst
      have HST2 := Lib.hid hst2
      have HP := Lib.hid (show ePairs m ((j : Int), ks) = ks.flatMap (kPairs st.chs j) by unfold ePairs; rw [HCH.out])
      have hPl : (((ss.zip kss).take i).flatMap (ePairs m)).length ≤ 1000000000 := by
        have := flat_len (ePairs m) 1000000 ((ss.zip kss).take i) fun p hp => pairs_len HM2.out p.1 p.1 p.2 (HKL.out p.2 (List.of_mem_zip (List.mem_of_mem_take hp)).2)
        have h9 : ((ss.zip kss).take i).length ≤ 1000 := by rw [List.length_take]; omega
        omega
      obtain ⟨P, hP⟩ : ∃ P, P = ((ss.zip kss).take i).flatMap (ePairs m) := ⟨_, rfl⟩
      rw [← hP] at HE HZ hPl
      have HPL := Lib.hid hPl
      have HKQ := Lib.hid (show ∀ q, ((ks.take q).flatMap (kPairs st.chs j)).length ≤ 1000000 from fun q => by rw [← HCH.out]; exact pairs_len HM2.out _ _ _ (by rw [List.length_take]; omega))
      clear hPl
      obtain ⟨wo, rfl⟩ : ∃ wo : World, wo = wr := ⟨_, rfl⟩
      have hbWo := Lib.hid hbW
      clear hs hks hz s0 s1 hkin hku hst hst2 hP hbW
      go_wp2_with fail
      go_loopw [30] (fun k W => ∃ (q : Nat) (vs : List Value), q ≤ ks.length ∧ k = .int .i64 (q : Int) ∧ Hid (Below (w.heap.size + 2) wo W) ∧ Hid (EdC w W (.cells #[.slice A m.length c] 24) (.cells #[.slice (some ad) ss.length sc, .slice (some ad2) kss.length kc] 53) vs (pl m.length (P ++ (ks.take q).flatMap (kPairs st.chs j))))) (fun k _ => ks.length - (intOf k).toNat)
      case atStart => exact ⟨0, vs, Nat.zero_le _, rfl, Below.refl _ _, Lib.hid (by simpa using HE.out)⟩
      case round =>
        obtain ⟨q, vs2, hq, rfl, HBI, HE2⟩ := hrel
        by_cases hlt2 : q < ks.length
        · have hbW := HE2.out.below
          obtain ⟨kx, hkx⟩ : ∃ x, ks[q]? = some x := ⟨_, List.getElem?_eq_getElem hlt2⟩
          obtain ⟨k0, k1'⟩ := HKI.out kx (List.mem_of_getElem? hkx)
          obtain ⟨ad4, rfl, r3⟩ : ∃ ad4, KB = some ad4 ∧ wr.cell? (ad4.add q) = some (.int .i64 kx) := by
            obtain ⟨A', c', e, -, -, h3⟩ := (HKU.out.same (fun k hk => (HBI.out.block k (by have := HD.out k hk; have := HE.out.size; omega) : wr.heap[k]? = wo.heap[k]?))).ints
            injection e with e1 e2 e3
            subst e1
            obtain ⟨ad, ea, hd, hc⟩ := h3 (by omega)
            have := hc q hlt2
            rw [Dig.gd_of hkx] at this
            exact ⟨ad, ea, this⟩
          obtain ⟨t, rfl⟩ : ∃ t : Nat, kx = (t : Int) := ⟨kx.toNat, by omega⟩
          have htl : t < st.chs.length := by omega
          obtain ⟨ch, hch⟩ : ∃ ch, st.chs[t]? = some ch := ⟨_, List.getElem?_eq_getElem htl⟩
          have b0 := (cells_of HE2.out.bm 0).1
          obtain ⟨ad3, C, p, d, rfl, hDa, -, -, u2, hsc⟩ := H.out.st_up HD.out hbW j st HST.out
          obtain ⟨rfl, hp1, hp2⟩ := hsc.len
          unfold maxLen at hp2
          obtain ⟨ad5, F, p5, d5, rfl, hDa5, -, -, t2, hxc⟩ := hsc.ch_up HD.out hbW t ch hch
          obtain ⟨rfl, hf1, hf2⟩ := hxc.len
          unfold maxLen at hf2
          have hbl := HST2.out ch (List.mem_of_getElem? hch)
          have HXC := Lib.hid hxc
          have HQ := Lib.hid (show (ks.take (q + 1)).flatMap (kPairs st.chs j) = (ks.take q).flatMap (kPairs st.chs j) ++ ch.brs.map (fun b => (b.to, (j : Int))) by
            rw [List.take_add_one, hkx, List.flatMap_append]
            simp [kPairs, List.getD_eq_getElem?_getD, hch, tos, Function.comp_def])
          obtain ⟨Q2, hQ2⟩ : ∃ Q2, Q2 = P ++ (ks.take q).flatMap (kPairs st.chs j) := ⟨_, rfl⟩
          have HQ2 := Lib.hid hQ2
          have HQL := Lib.hid (show Q2.length ≤ 1001000000 by rw [hQ2, List.length_append]; have := HPL.out; have := HKQ.out q; omega)
          rw [← hQ2] at HE2
          obtain ⟨wi, rfl⟩ : ∃ wi : World, wi = wr := ⟨_, rfl⟩
          have HBWi := Lib.hid hbW
          clear hkx hch hsc hxc hQ2 k0 k1' hbW e0 e1 r0 r1
          go_wp2_with fail
          go_loopw [45] (fun k W => ∃ (r : Nat) (vs : List Value), r ≤ ch.brs.length ∧ k = .int .i64 (r : Int) ∧ Hid (Below (w.heap.size + 2) wi W) ∧ Hid (EdC w W (.cells #[.slice (some ad3) m.length c] 24) (.cells #[.slice (some ad) ss.length sc, .slice (some ad2) kss.length kc] 53) vs (pl m.length (Q2 ++ (ch.brs.take r).map (fun b => (b.to, (j : Int))))))) (fun k _ => ch.brs.length - (intOf k).toNat)
          case atStart => exact ⟨0, vs2, Nat.zero_le _, rfl, Below.refl _ _, Lib.hid (by simpa using HE2.out)⟩
          case round =>
            obtain ⟨r, vs3, hr, rfl, HBJ, HE3⟩ := hrel
            by_cases hlt3 : r < ch.brs.length
            · obtain ⟨b, hb⟩ : ∃ b, ch.brs[r]? = some b := ⟨_, List.getElem?_eq_getElem hlt3⟩
              have hbW3 := HE3.out.below
              obtain ⟨ad6, rfl, -, v0, v1, v2⟩ := (HXC.out.same (HD.out.same hbW3)).br_at r b hb
              have HT := Lib.hid (show (ch.brs.take (r + 1)).map (fun b => (b.to, (j : Int))) = (ch.brs.take r).map (fun b => (b.to, (j : Int))) ++ [(b.to, (j : Int))] by rw [List.take_add_one, hb, List.map_append]; rfl)
              have hpll := pl_len m.length (Q2 ++ (ch.brs.take r).map (fun b => (b.to, (j : Int))))
              have hPS := Lib.hid (pl_snoc m.length (Q2 ++ (ch.brs.take r).map (fun b => (b.to, (j : Int)))) (b.to, (j : Int)))
              have hrowb : ∀ L ∈ pl m.length (Q2 ++ (ch.brs.take r).map (fun b => (b.to, (j : Int)))), L.length ≤ 1001001000 := fun L hL => by
                have h8 := pl_row m.length _ _ 0 (fun L hL => by rw [List.eq_of_mem_replicate hL]; exact Nat.le_refl _) L hL
                rw [List.length_append, List.length_map, List.length_take] at h8
                have := HQL.out
                omega
              have HRB := Lib.hid hrowb
              clear hrowb
              generalize pl m.length (Q2 ++ (ch.brs.take r).map (fun b => (b.to, (j : Int)))) = xss at *
              obtain ⟨L, hL⟩ : ∃ L, xss[j]? = some L := ⟨_, List.getElem?_eq_getElem (by omega)⟩
              have HPU := Lib.hid (show Bfs.push xss b.to (j : Int) = xss.set j (L ++ [b.to]) by unfold Bfs.push; rw [Int.toNat_natCast, List.getD_eq_getElem?_getD, hL]; rfl)
              have hsz := HE3.out.size
              have hal := (Below.refl wr.heap.size wr).alloc (Nat.le_refl _) (.cells #[.int .i64 b.to, .int .i64 b.ch.top, .int .i64 b.ch.low] 103)
              have hR2 := (HE3.out.rows.below hal).drew
              have hbj := ((HBJ.out.alloc (by omega) (.cells #[.int .i64 b.to, .int .i64 b.ch.top, .int .i64 b.ch.low] 103)).drew)
              have hbk := (((Below.refl (w.heap.size + 2) wr).alloc (by omega) (.cells #[.int .i64 b.to, .int .i64 b.ch.top, .int .i64 b.ch.low] 103)).drew)
              have hbx := (cells_of (heap_alloc_new wr (.cells #[.int .i64 b.to, .int .i64 b.ch.top, .int .i64 b.ch.low] 103)) 0).1
              have hzz : (wr.alloc (.cells #[.int .i64 b.to, .int .i64 b.ch.top, .int .i64 b.ch.low] 103)).heap.size = wr.heap.size + 1 := by simp
              obtain ⟨v, hv, hrow, hne⟩ := hR2.get hL
              have k1' : (wr.alloc (.cells #[.int .i64 b.to, .int .i64 b.ch.top, .int .i64 b.ch.low] 103)).cell? ⟨w.heap.size + 2, j, none⟩ = some v := (hR2.cell hv).1
              have k2' : (wr.alloc (.cells #[.int .i64 b.to, .int .i64 b.ch.top, .int .i64 b.ch.low] 103)).frozen? ⟨w.heap.size + 2, j, none⟩ = false := (hR2.cell hv).2
              have HBX := Lib.hid hbx
              have K1 := Lib.hid k1'
              have K2 := Lib.hid k2'
              clear hb hbW3 hal hbx k1' k2' b0 r3 u2 t2
              go_upto_region 11 with fail
              obtain ⟨bb, hbb⟩ : ∃ n : Nat, n = wr.heap.size := ⟨_, rfl⟩
              obtain ⟨w2, hw2⟩ : ∃ W : World, W = wr.alloc (.cells #[.int .i64 b.to, .int .i64 b.ch.top, .int .i64 b.ch.low] 103) := ⟨_, rfl⟩
              rw [← hw2] at hR2 hbj hbk hrow HBX K1 K2 hzz
              rw [← hbb] at HBX hzz
              rw [← hw2, ← hbb]
              have k1 := K1.out
              have k2 := K2.out
              have k3 := HBX.out
              have hz3 : w.heap.size + 2 < w2.heap.size := by omega
              have hz4 : bb < w2.heap.size := by omega
              have hLl : L.length ≤ 1001001000 := HRB.out L (List.mem_of_getElem? hL)
              clear hbb hw2 v0 v1 v2 hzz
              go_region_law ((refine step_app1 elem_i64 rfl _ _ rfl (w.heap.size + 2) v L.length (ints L) rfl (hrow.alloc _) ⟨_, 0, none⟩ 1 _ rfl (cell_new1 _ _ _) rfl (by omega) (by omega) (by simp; omega) ?_); (intro v3 w3 ho3 hg3 ha3); (have hg3 : (w2.drew.alloc (.cells #[.int .i64 b.to] 3)).grownBy w3 v.ownBlock := hg3); (have ha3 : v3.ownBlock = v.ownBlock ∨ v3.ownBlock = some (w2.drew.alloc (.cells #[.int .i64 b.to] 3)).heap.size := ha3); (obtain ⟨m1, m2⟩ := hR2.app_cell hL hv hg3); (obtain ⟨A3, c3, rfl, _, _, _⟩ := own_form ho3))
              all_goals
                go_wp2
                have hr9 := hR2.app hL hv hg3 ho3 ha3
                have hb9 := hR2.app_below hL hv hg3 hbj (by show w.heap.size + 2 ≤ w2.heap.size; omega) (.slice A3 (L.length + 1) c3)
                have hb8 := hR2.app_below hL hv hg3 hbk (by show w.heap.size + 2 ≤ w2.heap.size; omega) (.slice A3 (L.length + 1) c3)
                exact ⟨⟨r + 1, vs3.set j (.slice A3 (L.length + 1) c3), by omega, by go_num, hb9, Lib.hid (by rw [HT.out, ← List.append_assoc, hPS.out, HPU.out]; exact HE3.out.next hb8 hr9)⟩, by simp [intOf]; omega⟩
            · obtain rfl : r = ch.brs.length := by omega
              clear hlt3
              go_wp2
              exact ⟨⟨q + 1, vs3, by omega, by go_num, HBI.out.trans HBJ.out, Lib.hid (by rw [HQ.out]; have := HE3.out; rw [List.take_length, HQ2.out, List.append_assoc] at this; exact this)⟩, by simp [intOf]; omega⟩
        · obtain rfl : q = ks.length := by omega
          clear hlt2
          go_wp2
          exact ⟨⟨i + 1, vs2, by omega, by go_num, Lib.hid (by rw [HZ.out, HP.out]; have := HE2.out; rwa [List.take_length] at this)⟩, by simp [intOf]; omega⟩
    · obtain rfl : i = ss.length := by omega
      have HF := Lib.hid (show pl m.length (((ss.zip kss).take ss.length).flatMap (ePairs m)) = edgesE m (ss.zip kss) by rw [HES.out, List.take_of_length_le (by rw [List.length_zip]; omega)])
      clear hlt
      go_wp2
      go_ret
      exact ⟨vs, by simp, HE.out.below, by rw [← HF.out]; exact HE.out.rows⟩

end Go.Proofs.YtoffbdlgmnpblaaGreat
