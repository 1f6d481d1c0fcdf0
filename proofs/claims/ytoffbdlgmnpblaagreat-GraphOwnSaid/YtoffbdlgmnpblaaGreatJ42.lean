/- Part 42 of 55: Kpt. -/
import Derived.Test.YtoffbdlgmnpblaaGreatJ41
import Derived.Deep.RegionLaw

/- Package model: Kept, Copy. -/
namespace Go.Proofs.YtoffbdlgmnpblaaGreat
open Go.RowKit
set_option maxHeartbeats 4000000
set_option maxRecDepth 100000

/-- the first choices of a state that are kept -/
def keptTo (keep : Nat → Nat → Bool) (i : Nat) (chs : List Ch) (k : Nat) : List Ch := ((chs.take k).zipIdx.filter fun p => keep i p.2).map (·.1)
def keptSt (keep : Nat → Nat → Bool) (i : Nat) (s : St) : St := ⟨s.owner, s.mark, keptTo keep i s.chs s.chs.length⟩
def keptM (keep : Nat → Nat → Bool) (m : List St) : List St := m.zipIdx.map fun p => keptSt keep p.2 p.1
theorem keptTo_zero (keep : Nat → Nat → Bool) (i : Nat) (chs : List Ch) : keptTo keep i chs 0 = [] := rfl
theorem keptTo_yes {keep : Nat → Nat → Bool} {i : Nat} {chs : List Ch} {k : Nat} {x : Ch} (h : chs[k]? = some x) (hk : keep i k = true) : keptTo keep i chs (k + 1) = keptTo keep i chs k ++ [x] := by
  obtain ⟨hlt, e⟩ := List.getElem?_eq_some_iff.1 h
  unfold keptTo
  rw [List.take_add_one, h, List.zipIdx_append, List.filter_append, List.map_append]
  simp [List.length_take, Nat.min_eq_left (Nat.le_of_lt hlt), hk]
theorem keptTo_no {keep : Nat → Nat → Bool} {i : Nat} {chs : List Ch} {k : Nat} {x : Ch} (h : chs[k]? = some x) (hk : keep i k = false) : keptTo keep i chs (k + 1) = keptTo keep i chs k := by
  obtain ⟨hlt, e⟩ := List.getElem?_eq_some_iff.1 h
  unfold keptTo
  rw [List.take_add_one, h, List.zipIdx_append, List.filter_append, List.map_append]
  simp [List.length_take, Nat.min_eq_left (Nat.le_of_lt hlt), hk]
theorem keptM_snoc {keep : Nat → Nat → Bool} {m : List St} {j : Nat} {s : St} (h : m[j]? = some s) : keptM keep (m.take (j + 1)) = keptM keep (m.take j) ++ [keptSt keep j s] := by
  obtain ⟨hlt, e⟩ := List.getElem?_eq_some_iff.1 h
  unfold keptM
  rw [List.take_add_one, h, List.zipIdx_append, List.map_append]
  simp [List.length_take, Nat.min_eq_left (Nat.le_of_lt hlt)]
theorem keptTo_all (i : Nat) (chs : List Ch) (k : Nat) : keptTo (fun _ _ => true) i chs k = chs.take k := by
  unfold keptTo
  rw [List.filter_eq_self.2 (fun _ _ => rfl), List.zipIdx_map_fst]
theorem keptM_all (m : List St) : keptM (fun _ _ => true) m = m := by
  unfold keptM
  have e : ∀ p : St × Nat, keptSt (fun _ _ => true) p.2 p.1 = p.1 := fun p => by
    unfold keptSt
    rw [keptTo_all, List.take_length]
  rw [show (fun p : St × Nat => keptSt (fun _ _ => true) p.2 p.1) = Prod.fst from funext e, List.zipIdx_map_fst]

/-- what the choices' loop holds -/
abbrev KRow (w W : World) (rb ob xb : Nat) (o m : Int) (xv : Value) (cs : List CO) (sx : Cmp) (sv : Value) (ss : List SO) : Prop :=
  Sep w.heap.size W (boxC xb #[.int .i64 o, .int .i64 m, xv] 79 :: chRow w.heap.size ⟨xv, o, m, cs⟩ :: (cs.map (brRow w.heap.size) ++ (sx :: boxC ob #[sv] 24 :: boxC rb #[.slice none 0 0] 24 :: stRow w.heap.size sv ss :: stParts w.heap.size ss)))
/-- what the states' loop holds -/
abbrev KOut (w W : World) (rb ob : Nat) (sv : Value) (ss : List SO) : Prop :=
  Sep w.heap.size W (boxC ob #[sv] 24 :: boxC rb #[.slice none 0 0] 24 :: stRow w.heap.size sv ss :: stParts w.heap.size ss)
theorem KOut.start (w : World) (a b c : Value) (hb : b = .slice none 0 0) (hc : c = .slice none 0 0) (t : TypeId) : KOut w (((w.alloc (.cells #[a] t)).alloc (.cells #[b] 24)).alloc (.cells #[c] 24)) (w.heap.size + 1) (w.heap.size + 1 + 1) (.slice none 0 0) [] := by
  subst hb hc
  have h0 : Sep w.heap.size w [stRow w.heap.size (.slice none 0 0) []] := (Sep.nil _ _).add (c := stRow w.heap.size (.slice none 0 0) []) (Below.refl _ _) (World.ownsRow_nil _ _ _ _) (fun k hk => by cases hk) (Nat.le_refl _)
  have h1 := h0.below ((Below.refl w.heap.size w).alloc (Nat.le_refl _) (.cells #[a] t))
  have h2 := h1.add (c := boxC (w.heap.size + 1) #[.slice none 0 0] 24) ((Below.refl _ (w.alloc (.cells #[a] t))).alloc (Nat.le_refl _) (.cells #[.slice none 0 0] 24)) (by
    have := heap_alloc_new (w.alloc (.cells #[a] t)) (.cells #[.slice none 0 0] 24)
    rwa [World.size_alloc] at this) (fun k hk => by cases hk; simp) (by simp)
  exact h2.add (c := boxC (w.heap.size + 1 + 1) #[.slice none 0 0] 24) ((Below.refl _ _).alloc (Nat.le_refl _) (.cells #[.slice none 0 0] 24)) (by
    have := heap_alloc_new ((w.alloc (.cells #[a] t)).alloc (.cells #[.slice none 0 0] 24)) (.cells #[.slice none 0 0] 24)
    rwa [World.size_alloc, World.size_alloc] at this) (fun k hk => by cases hk; simp) (by simp; omega)
/-- a state is opened -/
theorem KOut.open {w W : World} {rb ob : Nat} {sv : Value} {ss : List SO} (h : KOut w W rb ob sv ss) (hB : w.heap.size ≤ W.heap.size) (o m : Int) (u z : Value) (hz : z = .slice none 0 0) :
    KRow w ((W.alloc (.cells #[.int .i64 o, .int .i64 m, u] 79)).alloc (.cells #[.int .i64 o, .int .i64 m, z] 79)) rb ob (W.heap.size + 1) o m (.slice none 0 0) [] (boxC W.heap.size #[.int .i64 o, .int .i64 m, u] 79) sv ss := by
  subst hz
  have h1 := Sep.add h (c := boxC W.heap.size #[.int .i64 o, .int .i64 m, u] 79) ((Below.refl _ W).alloc (Nat.le_refl _) (.cells #[.int .i64 o, .int .i64 m, u] 79)) (heap_alloc_new _ _) (fun k hk => by cases hk; simp) hB
  have hB1 : w.heap.size ≤ (W.alloc (.cells #[.int .i64 o, .int .i64 m, u] 79)).heap.size := by simp; omega
  have h2 := h1.add (c := chRow w.heap.size ⟨.slice none 0 0, o, m, []⟩) (Below.refl _ _) (World.ownsRow_nil _ _ _ _) (fun k hk => by cases hk) hB1
  exact h2.add (c := boxC (W.heap.size + 1) #[.int .i64 o, .int .i64 m, .slice none 0 0] 79) ((Below.refl _ _).alloc (Nat.le_refl _) (.cells #[.int .i64 o, .int .i64 m, .slice none 0 0] 79)) (by
    have := heap_alloc_new (W.alloc (.cells #[.int .i64 o, .int .i64 m, u] 79)) (.cells #[.int .i64 o, .int .i64 m, .slice none 0 0] 79)
    rwa [World.size_alloc] at this) (fun k hk => by cases hk; simp) hB1

section
variable {w W : World} {rb ob xb : Nat} {o m : Int} {xv sv : Value} {cs : List CO} {sx : Cmp} {ss : List SO}
theorem k_x (h : KRow w W rb ob xb o m xv cs sx sv ss) : W.heap[xb]? = some (.cells #[.int .i64 o, .int .i64 m, xv] 79 (0, 0)) := h.get (List.mem_cons_self ..)
theorem k_ch (h : KRow w W rb ob xb o m xv cs sx sv ss) : W.ownsRow w.heap.size 97 3 xv cs.length (ccells cs) := h.get (c := chRow w.heap.size ⟨xv, o, m, cs⟩) (List.mem_cons_of_mem _ (List.mem_cons_self ..))
theorem k_ob (h : KRow w W rb ob xb o m xv cs sx sv ss) : W.heap[ob]? = some (.cells #[sv] 24 (0, 0)) := h.get (c := boxC ob #[sv] 24) (List.mem_cons_of_mem _ (List.mem_cons_of_mem _ (List.mem_append_right _ (List.mem_cons_of_mem _ (List.mem_cons_self ..)))))
theorem k_st (h : KRow w W rb ob xb o m xv cs sx sv ss) : W.ownsRow w.heap.size 79 3 sv ss.length (scells ss) := h.get (c := stRow w.heap.size sv ss) (List.mem_cons_of_mem _ (List.mem_cons_of_mem _ (List.mem_append_right _ (List.mem_cons_of_mem _ (List.mem_cons_of_mem _ (List.mem_cons_of_mem _ (List.mem_cons_self ..)))))))
theorem k_lt (h : KRow w W rb ob xb o m xv cs sx sv ss) : w.heap.size ≤ ob ∧ ob < W.heap.size ∧ w.heap.size ≤ xb ∧ xb < W.heap.size ∧ (∀ k, xv.ownBlock = some k → w.heap.size ≤ k ∧ k ≠ xb ∧ k ≠ ob) ∧ (∀ k, sv.ownBlock = some k → w.heap.size ≤ k ∧ k ≠ xb ∧ k ≠ ob) := by
  have mo : boxC ob #[sv] 24 ∈ (boxC xb #[.int .i64 o, .int .i64 m, xv] 79 :: chRow w.heap.size ⟨xv, o, m, cs⟩ :: (cs.map (brRow w.heap.size) ++ (sx :: boxC ob #[sv] 24 :: boxC rb #[.slice none 0 0] 24 :: stRow w.heap.size sv ss :: stParts w.heap.size ss))) := List.mem_cons_of_mem _ (List.mem_cons_of_mem _ (List.mem_append_right _ (List.mem_cons_of_mem _ (List.mem_cons_self ..))))
  have h1 := Sep.lt h mo (k := ob) rfl
  have h2 := Sep.lt h (List.mem_cons_self ..) (k := xb) rfl
  have ap := h.apart
  obtain ⟨a1, ap2⟩ := List.pairwise_cons.1 ap
  obtain ⟨a2, ap3⟩ := List.pairwise_cons.1 ap2
  have ap4 := (List.pairwise_append.1 ap3).2.1
  obtain ⟨-, ap5⟩ := List.pairwise_cons.1 ap4
  obtain ⟨a4, -⟩ := List.pairwise_cons.1 ap5
  refine ⟨h1.1, h1.2, h2.1, h2.2, fun k hk => ⟨(h.lt (c := chRow w.heap.size ⟨xv, o, m, cs⟩) (List.mem_cons_of_mem _ (List.mem_cons_self ..)) hk).1, fun e => ?_, fun e => ?_⟩, fun k hk => ⟨(h.lt (c := stRow w.heap.size sv ss) (List.mem_cons_of_mem _ (List.mem_cons_of_mem _ (List.mem_append_right _ (List.mem_cons_of_mem _ (List.mem_cons_of_mem _ (List.mem_cons_of_mem _ (List.mem_cons_self ..))))))) hk).1, fun e => ?_, fun e => ?_⟩⟩
  · subst e; exact a1 (chRow w.heap.size ⟨xv, o, m, cs⟩) (List.mem_cons_self ..) k rfl hk
  · subst e; exact a2 (boxC k #[sv] 24) (List.mem_append_right _ (List.mem_cons_of_mem _ (List.mem_cons_self ..))) k hk rfl
  · subst e; exact a1 (stRow w.heap.size sv ss) (List.mem_cons_of_mem _ (List.mem_append_right _ (List.mem_cons_of_mem _ (List.mem_cons_of_mem _ (List.mem_cons_of_mem _ (List.mem_cons_self ..)))))) k rfl hk
  · subst e; exact a4 (stRow w.heap.size sv ss) (List.mem_cons_of_mem _ (List.mem_cons_self ..)) k rfl hk
end
theorem keptTo_len (keep : Nat → Nat → Bool) (i : Nat) (chs : List Ch) (k : Nat) : (keptTo keep i chs k).length ≤ chs.length := by
  unfold keptTo
  rw [List.length_map]
  refine Nat.le_trans (List.length_filter_le _ _) ?_
  rw [List.length_zipIdx, List.length_take]
  omega
/-- three cells of a box -/
theorem held_box {W : World} {b : Nat} {x y z : Value} {t : TypeId} (h : W.heap[b]? = some (.cells #[x, y, z] t (0, 0))) (hb : b < W.heap.size) : Held3 b x y z W :=
  ⟨(cells_of h 0).1, (cells_of h 1).1, (cells_of h 2).1, hb⟩

theorem Kept_calls (K : Nat) (keep : Nat → Nat → Bool) (caps : Array Value) (m : List St) (v : Value) (D : Nat → Prop) (w : World) (eg : ∀ args w, (callFunc K args).run Tryz.prog w = .ok (.enter K args) w) (hD : Lo D w) (h : ModelC w D v m)
    (hl : m.length ≤ 1000000 ∧ ∀ s ∈ m, s.chs.length ≤ 1000000 ∧ ∀ c ∈ s.chs, c.brs.length ≤ 1000000)
    (hc : ∀ (W : World) (i k : Nat), Below w.heap.size w W → Calls Tryz.prog K (#[.int .i64 (i : Int), .int .i64 (k : Int)] ++ caps) W fun e w' => e = .returned (.bool (keep i k)) ∧ Below W.heap.size W w') :
    Calls Tryz.prog 139 #[v, .func (.func K) #[] caps] w fun e w' => ∃ sv ss, e = .returned (.agg #[sv]) ∧ Sep w.heap.size w' (stRow w.heap.size sv ss :: stParts w.heap.size ss) ∧ ss.map SO.st = keptM keep m ∧ Below w.heap.size w w' := by
  obtain ⟨u, rfl, h⟩ := h
  obtain ⟨A, c, rfl, h1, h2, -⟩ := h.form
  unfold maxLen at h2
  obtain ⟨hl1, hl2⟩ := hl
  have H := Lib.hid h
  have HC := Lib.hid hc
  have HL := Lib.hid hl2
  clear h hc hl2
  go_enter Tryz.func139, Tryz.ntmps139
  go_wp2
  have hB0 := (((Below.refl w.heap.size w).alloc (Nat.le_refl _) (.cells #[.slice A m.length c] 24)).alloc (by simp) (.cells #[.slice none 0 0] 24)).alloc (by simp; omega) (.cells #[.slice none 0 0] 24)
  go_loopw [14] (fun k W => ∃ (j : Nat) (sv : Value) (ss : List SO), j ≤ m.length ∧ k = .int .i64 (j : Int) ∧ Below w.heap.size w W ∧ Hid (ss.map SO.st = keptM keep (m.take j)) ∧ KOut w W (w.heap.size + 1) (w.heap.size + 1 + 1) sv ss) (fun k _ => m.length - (intOf k).toNat)
  case atStart => exact ⟨0, _, [], Nat.zero_le _, rfl, hB0, rfl, KOut.start w _ _ _ rfl rfl _⟩
  case round =>
    obtain ⟨j, sv, ss, hj, rfl, hBW, HE, HK⟩ := hrel
    obtain ⟨wo, rfl⟩ : ∃ wo : World, wo = wr := ⟨_, rfl⟩
    by_cases hlt : j < m.length
    · obtain ⟨s, hs⟩ : ∃ s, m[j]? = some s := ⟨_, List.getElem?_eq_getElem hlt⟩
      obtain ⟨ad, B, p, d, rfl, hDa, q0, q1, q2, hsc⟩ := H.out.st_up hD hBW j s hs
      obtain ⟨rfl, hp1, hp2⟩ := hsc.len
      unfold maxLen at hp2
      obtain ⟨hls, hlb⟩ := HL.out s (List.mem_of_getElem? hs)
      have HS := Lib.hid hs
      have HCS := Lib.hid hsc
      have HLB := Lib.hid hlb
      have HO := Lib.hid (KOut.open HK hBW.size s.owner s.mark (.slice B s.chs.length d) _ rfl)
      have hBW1 : Below w.heap.size w ((wo.alloc (.cells #[.int .i64 s.owner, .int .i64 s.mark, .slice B s.chs.length d] 79)).alloc (.cells #[.int .i64 s.owner, .int .i64 s.mark, .slice none 0 0] 79)) := (hBW.alloc hBW.size _).alloc (by have := hBW.size; simp; omega) _
      clear hs hsc hlb HK
      go_wp2
      go_loopw [27] (fun k W => ∃ (i : Nat) (xv : Value) (cs : List CO), i ≤ s.chs.length ∧ k = .int .i64 (i : Int) ∧ Below w.heap.size w W ∧ Hid (cs.map CO.ch = keptTo keep j s.chs i) ∧ KRow w W (w.heap.size + 1) (w.heap.size + 1 + 1) (wo.heap.size + 1) s.owner s.mark xv cs (boxC wo.heap.size #[.int .i64 s.owner, .int .i64 s.mark, .slice B s.chs.length d] 79) sv ss) (fun k _ => s.chs.length - (intOf k).toNat)
      case atStart => exact ⟨0, _, [], Nat.zero_le _, rfl, hBW1, rfl, HO.out⟩
      case round =>
        obtain ⟨i, xv, cs, hi, rfl, hBW2, HE2, HK⟩ := hrel
        by_cases hlt2 : i < s.chs.length
        · obtain ⟨x, hx⟩ : ∃ x, s.chs[i]? = some x := ⟨_, List.getElem?_eq_getElem hlt2⟩
          have HX := Lib.hid hx
          obtain ⟨ad2, B2, p2, d2, rfl, hDa2, r0, r1, r2, hxc⟩ := HCS.out.ch_up hD hBW2 i x hx
          have hBW3 : Below w.heap.size w (wr.alloc (.cells #[.int .i64 x.rw.top, .int .i64 x.rw.low, .slice B2 p2 d2] 97)) := hBW2.alloc hBW2.size _
          have HXC := Lib.hid hxc
          have HK3 := Lib.hid (HK.below ((Below.refl _ wr).alloc (Nat.le_refl _) (.cells #[.int .i64 x.rw.top, .int .i64 x.rw.low, .slice B2 p2 d2] 97)))
          have HX3 : Held3 wr.heap.size (.int .i64 x.rw.top) (.int .i64 x.rw.low) (.slice B2 p2 d2) (wr.alloc (.cells #[.int .i64 x.rw.top, .int .i64 x.rw.low, .slice B2 p2 d2] 97)) := ⟨(box_cells wr _ rfl _ _ 0).1, (box_cells wr _ rfl _ _ 1).1, (box_cells wr _ rfl _ _ 2).1, by simp⟩
          have HX3 := Lib.hid HX3
          have hlx := HLB.out x (List.mem_of_getElem? hx)
          clear hx hxc HK
          go_wp2_with fail
          refine (HC.out _ j i hBW3).mono ?_
          rintro e w2 ⟨rfl, hb2⟩
          have hb2' := hb2
          have hB2 := hBW3.trans (hb2.mono hBW3.size)
          cases hk : keep j i with
          | false =>
            have HE3 := Lib.hid (HE2.out.trans (keptTo_no HX.out hk).symm)
            have HK4 := Lib.hid (Sep.below HK3.out hb2)
            clear hk
            go_wp2
            exact ⟨⟨i + 1, xv, cs, by omega, by go_num, hB2, HE3, HK4.out⟩, by simp [intOf]; omega⟩
          | true =>
            have HE3 := Lib.hid (show (cs.map CO.ch) ++ [x] = _ from (congrArg (· ++ [x]) HE2.out).trans (keptTo_yes HX.out hk).symm)
            have HK4 := Lib.hid (Sep.below HK3.out hb2)
            have HX4 := Lib.hid (HX3.out.below hb2)
            clear hk hb2 hB2
            have hlo := k_lt HK4.out
            have HB2 := Lib.hid (hBW3.trans (hb2'.mono hBW3.size))
            have hlc : cs.length ≤ 1000000 := by have h1 := keptTo_len keep j s.chs i; rw [← HE2.out, List.length_map] at h1; omega
            obtain ⟨q01, q02, q03, q04, q05, q06⟩ := hlo
            have hw2 : w.heap.size ≤ w2.heap.size := HB2.out.size
            have Q5 := Lib.hid q05
            obtain ⟨t0, t1, t2, t3⟩ : Held3 (wo.heap.size + 1) (.int .i64 s.owner) (.int .i64 s.mark) xv w2.drew := (held_box (k_x HK4.out) q04 : Held3 (wo.heap.size + 1) (.int .i64 s.owner) (.int .i64 s.mark) xv w2)
            obtain ⟨c0, c1, c2, c3⟩ : Held3 wr.heap.size (.int .i64 x.rw.top) (.int .i64 x.rw.low) (.slice B2 p2 d2) w2.drew := HX4.out
            have hch := k_ch HK4.out
            have HCH := Lib.hid hch
            have HBR := Lib.hid (HXC.out.same (hD.same HB2.out))
            have HDr := Lib.hid (show Lo D w2.drew from hD.up hw2)
            obtain ⟨A3, c3', rfl, -, -, -⟩ := own_form hch
            clear hch q05 q06 hb2' hBW3 r0 r1 r2 q0 q1 q2 hBW1 hB0 HO HK3 HX3
            go_wp2_with fail
            go_region_law (first
              | (refine step_app3 elem_ch rfl _ _ rfl w.heap.size (.slice A3 cs.length c3') cs.length (ccells cs) rfl HO6.out w4.heap.size _ _ _ _ rfl (heap_alloc_new _ _) rfl rfl rfl (by omega) (by omega) hw6 ?_; intro v5 w5 ho5 hg5 ha5; have HO5 := Lib.hid ho5; have HG5 := Lib.hid hg5; have HA5 := Lib.hid ha5; obtain ⟨A5, c5, rfl, -, -, -⟩ := own_form ho5; have g5 : w5.heap[wo.heap.size + 1]? = some (.cells #[.int .i64 s.owner, .int .i64 s.mark, .slice A3 cs.length c3'] 79 (0, 0)) := (hg5.block (wo.heap.size + 1) (by simp; omega) (fun e => (Q5.out _ e.symm).2.1 rfl)).trans ((heap_alloc_old _ _ (by omega)).trans HX6.out); have g6 := (cells_of g5 2).1; have g7 := (cells_of g5 2).2; clear ho5 hg5 ha5 g5)
              | (go_simp; go_at_call 172; refine (Own_calls x B2 p2 d2 D w2.drew HDr.out (HBR.out.same fun _ _ => rfl) hlx).mono ?_; rintro e w4 ⟨v4, rfl, ho4, hb4⟩; have hb4 : Below w2.heap.size w2 w4 := ⟨hb4.os, hb4.tape, hb4.output, hb4.size, hb4.block⟩; have ho4 : w4.ownsRow w2.heap.size 103 3 v4 x.brs.length (bcells x.brs) := ho4; have hs4 := hb4.size; have HX6 := Lib.hid ((hb4.block _ q04).trans (k_x HK4.out)); obtain ⟨A4, c4, rfl, -, -, -⟩ := own_form ho4; have HO4 := Lib.hid ho4; have HB4 := Lib.hid hb4; have HO6 := Lib.hid (own_kept HCH.out fun k hk => (heap_alloc_old w4 (.cells #[.int .i64 x.rw.top, .int .i64 x.rw.low, .slice A4 x.brs.length c4] 97) (Nat.lt_of_lt_of_le (HCH.out.lt k hk).2 hs4)).trans (hb4.block k (HCH.out.lt k hk).2)); have hw6 : w.heap.size ≤ (w4.alloc (.cells #[.int .i64 x.rw.top, .int .i64 x.rw.low, .slice A4 x.brs.length c4] 97)).heap.size := (by simp; omega); have s4 := (cells_of HX6.out 2).1; have s5 := (cells_of ((heap_alloc_old w4 (.cells #[.int .i64 x.rw.top, .int .i64 x.rw.low, .slice A4 x.brs.length c4] 97) (show wo.heap.size + 1 < w4.heap.size by omega)).trans HX6.out) 2).1; clear ho4 hb4))
            all_goals
              go_wp2
              have HK5 := Sep.addChoice (rw' := x.rw) (brs := x.brs) HK4.out hw2 HB4.out HO4.out HG5.out HO5.out HA5.out
              have hB4 := HB2.out.trans (HB4.out.mono hw2)
              have hB5 := (((hB4.alloc hB4.size _).grown HG5.out (by have := hB4.size; simp; omega) (fun k hk => (Q5.out k hk).1)).setCell (p := ⟨wo.heap.size + 1, 2, none⟩) q03 (.slice A5 (cs.length + 1) c5))
              exact ⟨⟨i + 1, _, cs ++ [⟨.slice A4 x.brs.length c4, x.rw, x.brs⟩], by omega, by go_num, hB5, by rw [List.map_append]; exact HE3.out, HK5⟩, by simp [intOf]; omega⟩
        · obtain rfl : i = s.chs.length := by omega
          have hlo := k_lt HK
          obtain ⟨q01, q02, q03, q04, q05, q06⟩ := hlo
          have Q5 := Lib.hid q05
          have Q6 := Lib.hid q06
          have hst := k_st HK
          have hch := k_ch HK
          have hsl : ss.length ≤ 1000000 := by have h1 := congrArg List.length HE.out; simp [keptM, List.length_take] at h1; omega
          have HE3 := Lib.hid (show (ss ++ [(⟨xv, s.owner, s.mark, cs⟩ : SO)]).map SO.st = keptM keep (m.take (j + 1)) by
            rw [keptM_snoc HS.out, ← HE.out, List.map_append]
            show _ ++ [SO.st ⟨xv, s.owner, s.mark, cs⟩] = _
            unfold SO.st keptSt
            rw [HE2.out])
          have HK3 := Lib.hid HK
          obtain ⟨t0, t1, t2, -⟩ := held_box (k_x HK) q04
          have o0 := (cells_of (k_ob HK) 0).1
          have f0 := (cells_of (k_ob HK) 0).2
          have hbx := Lib.hid (k_ob HK)
          have HST := Lib.hid hst
          obtain ⟨A3, c3, rfl, -, -, -⟩ := own_form hch
          obtain ⟨A6, c6, rfl, -, -, -⟩ := own_form hst
          clear hlt2 HK hst hch q05 q06
          go_wp2_with (at_builtin; refine wpList_app3 elem_st rfl _ _ rfl w.heap.size (.slice A6 ss.length c6) ss.length (scells ss) rfl (own_kept HST.out fun k hk => heap_alloc_old _ _ (HST.out.lt k hk).2) wr.heap.size _ _ _ _ rfl (heap_alloc_new _ _) rfl rfl rfl (by omega) (by omega) (by have := hBW2.size; simp; omega) ?_; intro v5 w5 ho5 hg5 ha5; have HO5 := Lib.hid ho5; have HG5 := Lib.hid hg5; have HA5 := Lib.hid ha5; obtain ⟨A5, c5, rfl, -, -, -⟩ := own_form ho5; have g5 : w5.heap[w.heap.size + 1 + 1]? = _ := (hg5.block (w.heap.size + 1 + 1) (by simp; omega) (fun e => (Q6.out _ e.symm).2.2 rfl)).trans ((heap_alloc_old _ _ q02).trans hbx.out); have g6 := (cells_of g5 0).1; have g7 := (cells_of g5 0).2; clear ho5 hg5 ha5 g5)
          go_wp2
          have HK5 := Sep.addState HK3.out hBW2.size HG5.out HO5.out HA5.out
          have hB5 := (((hBW2.alloc hBW2.size _).grown HG5.out (by have := hBW2.size; simp; omega) (fun k hk => (Q6.out k hk).1)).setCell (p := ⟨w.heap.size + 1 + 1, 0, none⟩) q01 (.slice A5 (ss.length + 1) c5))
          exact ⟨⟨j + 1, _, ss ++ [⟨.slice A3 cs.length c3, s.owner, s.mark, cs⟩], by omega, by go_num, hB5, HE3, HK5⟩, by simp [intOf]; omega⟩
    · obtain rfl : j = m.length := by omega
      have HE3 := Lib.hid (show ss.map SO.st = keptM keep m by rw [HE.out, List.take_length])
      clear hlt
      have hbo : wo.heap[w.heap.size + 1 + 1]? = some (.cells #[sv] 24 (0, 0)) := HK.get (List.mem_cons_self ..)
      have hbr : wo.heap[w.heap.size + 1]? = some (.cells #[.slice none 0 0] 24 (0, 0)) := HK.get (c := boxC (w.heap.size + 1) #[.slice none 0 0] 24) (List.mem_cons_of_mem _ (List.mem_cons_self ..))
      have o0 := (cells_of hbo 0).1
      have r0 := (cells_of hbr 0).1
      have f0 := (cells_of hbr 0).2
      have HBR := Lib.hid hbr
      have hst : wo.ownsRow w.heap.size 79 3 sv ss.length (scells ss) := HK.get (c := stRow w.heap.size sv ss) (List.mem_cons_of_mem _ (List.mem_cons_of_mem _ (List.mem_cons_self ..)))
      have HK3 := Lib.hid HK
      obtain ⟨A6, c6, rfl, -, -, -⟩ := own_form hst
      clear hbo hbr HK hst
      go_wp2
      have e0 : (wo.setCell ⟨w.heap.size + 1, 0, none⟩ (.slice A6 ss.length c6)).cell? ⟨w.heap.size + 1, 0, none⟩ = some (.slice A6 ss.length c6) := (cells_of (set_of HBR.out 0 (.slice A6 ss.length c6)) 0).1
      refine bodyPost_ret (v := .agg #[.slice A6 ss.length c6]) (by simp [results, Tryz.results139, go_sem, e0]) rfl ⟨_, ss, rfl, ?_, HE3.out, hBW.setCell (Nat.le_succ _) _⟩
      have h1 : Sep w.heap.size wo (boxC (w.heap.size + 1) #[.slice none 0 0] 24 :: boxC (w.heap.size + 1 + 1) #[.slice A6 ss.length c6] 24 :: stRow w.heap.size (.slice A6 ss.length c6) ss :: stParts w.heap.size ss) := HK3.out.perm (List.Perm.swap _ _ _)
      have h2 := h1.upd (c' := boxC (w.heap.size + 1) #[.slice A6 ss.length c6] 24) (grown_set wo (w.heap.size + 1) 0 (.slice A6 ss.length c6)) (set_of HBR.out 0 _) (.inl rfl) hBW.size
      exact h2.sub ((List.sublist_cons_self _ _).trans (List.sublist_cons_self _ _))

end Go.Proofs.YtoffbdlgmnpblaaGreat
