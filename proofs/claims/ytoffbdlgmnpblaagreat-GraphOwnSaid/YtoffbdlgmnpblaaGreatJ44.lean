/- Part 44 of 55: Cut. -/
import Derived.Test.YtoffbdlgmnpblaaGreatJ43

/- Package graph: Cut. -/
namespace Go.Proofs.YtoffbdlgmnpblaaGreat
open Go.RowKit
set_option maxHeartbeats 4000000
set_option maxRecDepth 100000

def cutErr (m : List St) (l : List Int) : Int := if askedB m l then (if l.length = 0 then 5 else if l.length < (reachOf (m.map nextOf) l).length then 7 else 0) else 1
def cutOf (m : List St) (l : List Int) : List St := if cutErr m l = 0 then l.map (fun s => cutSt l (m.getD s.toNat ⟨0, 0, []⟩)) else []
theorem Sep.one {B : Nat} {W : World} {c : Cmp} (hP : c.P W) (hk : ∀ k, c.blk = some k → B ≤ k ∧ k < W.heap.size) : Sep B W [c] :=
  ⟨fun d hd => by rw [List.mem_singleton] at hd; subst hd; exact ⟨hP, hk⟩, List.pairwise_singleton _ _⟩
theorem Sep.none {B : Nat} {W : World} : Sep B W (stRow B (.slice none 0 0) [] :: stParts B []) := Sep.one (World.ownsRow_nil _ _ _ _) (fun k hk => by cases hk)
theorem Sep.joinM {B B' : Nat} {W : World} {sv : Value} {ss : List SO} {l1 : List Cmp} (h1 : Sep B W l1) (hlt : ∀ c ∈ l1, ∀ k, c.blk = some k → k < B') (h2 : Sep B' W (stRow B' sv ss :: stParts B' ss)) (hB : B ≤ B') : Sep B W (l1 ++ (stRow B sv ss :: stParts B ss)) := by
  have h3 := h2.lowerM hB
  refine ⟨fun c hc => ?_, List.pairwise_append.2 ⟨h1.apart, h3.apart, fun c hc d hd k hk e => ?_⟩⟩
  · rcases List.mem_append.1 hc with hc | hc
    · exact h1.all c hc
    · exact h3.all c hc
  · rw [← stItems_map] at hd h2
    obtain ⟨t, ht, rfl⟩ := List.mem_map.1 hd
    have := (h2.all _ (List.mem_map_of_mem ht)).2 k e
    have := hlt c hc k hk
    omega

/-- what the picking loop holds -/
abbrev CutL (w W : World) (rb hb ob : Nat) (ov : Value) (ps : List SO) (sv : Value) (ss : List SO) : Prop :=
  Sep w.heap.size W (boxC ob #[ov] 24 :: stRow w.heap.size ov ps :: boxC rb #[.slice none 0 0] 24 :: boxC hb #[sv] 24 :: stRow w.heap.size sv ss :: stParts w.heap.size ss)
theorem CutL.start {w w4 : World} {rb : Nat} {sv : Value} {ss : List SO} {B' : Nat} (hr : w4.heap[rb]? = some (.cells #[.slice none 0 0] 24 (0, 0))) (h0 : w.heap.size ≤ rb) (h1 : rb < B') (h2 : Sep B' w4 (stRow B' sv ss :: stParts B' ss)) (hB : w.heap.size ≤ B') (hB' : B' ≤ w4.heap.size) (z : Value) (hz : z = .slice none 0 0) :
    CutL w ((w4.alloc (.cells #[sv] 24)).alloc (.cells #[z] 24)) rb w4.heap.size (w4.heap.size + 1) (.slice none 0 0) [] sv ss := by
  subst hz
  have a1 : Sep w.heap.size w4 [boxC rb #[.slice none 0 0] 24] := Sep.one hr (fun k hk => by cases hk; omega)
  have a2 := a1.joinM (fun c hc k hk => by rw [List.mem_singleton] at hc; subst hc; cases hk; exact h1) h2 hB
  have a3 := a2.add (c := boxC w4.heap.size #[sv] 24) ((Below.refl _ w4).alloc (Nat.le_refl _) (.cells #[sv] 24)) (heap_alloc_new _ _) (fun k hk => by cases hk; simp) (by omega)
  have a4 := a3.perm (List.Perm.swap _ _ _)
  have hB1 : w.heap.size ≤ (w4.alloc (.cells #[sv] 24)).heap.size := by simp; omega
  have a5 := a4.add (c := stRow w.heap.size (.slice none 0 0) []) (Below.refl _ _) (World.ownsRow_nil _ _ _ _) (fun k hk => by cases hk) hB1
  exact a5.add (c := boxC (w4.heap.size + 1) #[.slice none 0 0] 24) ((Below.refl _ _).alloc (Nat.le_refl _) (.cells #[.slice none 0 0] 24)) (by
    have := heap_alloc_new (w4.alloc (.cells #[sv] 24)) (.cells #[.slice none 0 0] 24)
    rwa [World.size_alloc] at this) (fun k hk => by cases hk; simp) hB1

section
variable {w W : World} {rb hb ob : Nat} {ov sv : Value} {ps ss : List SO}
theorem cl_ob (h : CutL w W rb hb ob ov ps sv ss) : W.heap[ob]? = some (.cells #[ov] 24 (0, 0)) := h.get (List.mem_cons_self ..)
theorem cl_hb (h : CutL w W rb hb ob ov ps sv ss) : W.heap[hb]? = some (.cells #[sv] 24 (0, 0)) := h.get (c := boxC hb #[sv] 24) (List.mem_cons_of_mem _ (List.mem_cons_of_mem _ (List.mem_cons_of_mem _ (List.mem_cons_self ..))))
theorem cl_rb (h : CutL w W rb hb ob ov ps sv ss) : W.heap[rb]? = some (.cells #[.slice none 0 0] 24 (0, 0)) := h.get (c := boxC rb #[.slice none 0 0] 24) (List.mem_cons_of_mem _ (List.mem_cons_of_mem _ (List.mem_cons_self ..)))
theorem cl_ps (h : CutL w W rb hb ob ov ps sv ss) : W.ownsRow w.heap.size 79 3 ov ps.length (scells ps) := h.get (c := stRow w.heap.size ov ps) (List.mem_cons_of_mem _ (List.mem_cons_self ..))
theorem cl_ss (h : CutL w W rb hb ob ov ps sv ss) : W.ownsRow w.heap.size 79 3 sv ss.length (scells ss) := h.get (c := stRow w.heap.size sv ss) (List.mem_cons_of_mem _ (List.mem_cons_of_mem _ (List.mem_cons_of_mem _ (List.mem_cons_of_mem _ (List.mem_cons_self ..)))))
theorem cl_lt (h : CutL w W rb hb ob ov ps sv ss) : w.heap.size ≤ ob ∧ ob < W.heap.size ∧ ∀ k, ov.ownBlock = some k → w.heap.size ≤ k ∧ k ≠ ob := by
  have h2 := Sep.lt h (List.mem_cons_self ..) (k := ob) rfl
  obtain ⟨a1, -⟩ := List.pairwise_cons.1 h.apart
  refine ⟨h2.1, h2.2, fun k hk => ⟨(Sep.lt h (c := stRow w.heap.size ov ps) (List.mem_cons_of_mem _ (List.mem_cons_self ..)) hk).1, fun e => ?_⟩⟩
  subst e
  exact a1 (stRow w.heap.size ov ps) (List.mem_cons_self ..) k rfl hk
end
def SO.zero : SO := ⟨.slice none 0 0, 0, 0, []⟩
def picks (l : List Int) (ss : List SO) (j : Nat) : List SO := (l.take j).map fun s => ss.getD s.toNat SO.zero
theorem picks_snoc {l : List Int} {ss : List SO} {j : Nat} {i : Nat} {s : SO} (h : l[j]? = some (i : Int)) (hs : ss[i]? = some s) : picks l ss (j + 1) = picks l ss j ++ [s] := by
  unfold picks
  rw [List.take_add_one, h, List.map_append]
  simp [List.getD, hs]

/-- what the turning loops hold -/
abbrev CutF (w W : World) (l : List Int) (rb ob : Nat) (ov : Value) (ps : List SO) (l1 l2 : List CO) : Prop :=
  Sep w.heap.size W ((boxC ob #[ov] 24 :: stRow w.heap.size ov ps :: boxC rb #[.slice none 0 0] 24 :: ps.map (chRow w.heap.size)) ++ ((l1.map (cutCO l)).map (brRow w.heap.size) ++ l2.map (brRow w.heap.size)))
abbrev CutG (w W : World) (l : List Int) (rb ob : Nat) (ov : Value) (ps : List SO) (l1 : List CO) (c : CO) (q : Nat) (l2 : List CO) : Prop :=
  Sep w.heap.size W ((boxC ob #[ov] 24 :: stRow w.heap.size ov ps :: boxC rb #[.slice none 0 0] 24 :: ps.map (chRow w.heap.size)) ++ ((l1.map (cutCO l)).map (brRow w.heap.size) ++ brRow w.heap.size (cutTo l q c) :: l2.map (brRow w.heap.size)))
theorem CutG.of {w W : World} {l : List Int} {rb ob : Nat} {ov : Value} {ps : List SO} {l1 l2 : List CO} {c : CO} (h : CutF w W l rb ob ov ps l1 (c :: l2)) : CutG w W l rb ob ov ps l1 c 0 l2 := h
theorem CutG.all {w W : World} {l : List Int} {rb ob : Nat} {ov : Value} {ps : List SO} {l1 l2 : List CO} {c : CO} (h : CutG w W l rb ob ov ps l1 c c.brs.length l2) : CutF w W l rb ob ov ps (l1 ++ [c]) l2 := by
  unfold CutF
  unfold CutG at h
  rw [cutTo_all] at h
  rw [List.map_append, List.map_append, List.append_assoc]
  exact h
theorem CutF.of {w W : World} {l : List Int} {rb hb ob : Nat} {ov sv : Value} {ps ss : List SO} (h : CutL w W rb hb ob ov ps sv ss) (hs : ps.Sublist ss) : CutF w W l rb ob ov ps [] (ps.flatMap (·.chs)) := by
  have h1 : Sep w.heap.size W (boxC ob #[ov] 24 :: stRow w.heap.size ov ps :: boxC rb #[.slice none 0 0] 24 :: stParts w.heap.size ps) := Sep.sub h (((((flat_sub _ hs).cons _).cons _).cons_cons _).cons_cons _ |>.cons_cons _)
  exact h1.perm (((stParts_perm _ ps).cons _).cons _ |>.cons _)
theorem CutF.done {w W : World} {l : List Int} {rb ob : Nat} {ov : Value} {ps : List SO} (h : CutF w W l rb ob ov ps (ps.flatMap (·.chs)) []) : Sep w.heap.size W (boxC ob #[ov] 24 :: stRow w.heap.size ov (ps.map (cutSO l)) :: boxC rb #[.slice none 0 0] 24 :: stParts w.heap.size (ps.map (cutSO l))) := by
  refine Sep.perm h ?_
  rw [stRow_cut]
  refine List.Perm.cons _ (List.Perm.cons _ (List.Perm.cons _ ?_))
  rw [List.map_nil, List.append_nil]
  exact (stParts_cut _ l ps).symm
theorem flat_split (ps : List SO) (i : Nat) (s : SO) (h : ps[i]? = some s) : (ps.drop i).flatMap (·.chs) = s.chs ++ (ps.drop (i + 1)).flatMap (·.chs) ∧ (ps.take (i + 1)).flatMap (·.chs) = (ps.take i).flatMap (·.chs) ++ s.chs := by
  obtain ⟨hlt, rfl⟩ := List.getElem?_eq_some_iff.1 h
  constructor
  · rw [List.drop_eq_getElem_cons hlt, List.flatMap_cons]
  · rw [List.take_add_one, h, List.flatMap_append]
    simp
theorem picks_sub {l : List Int} {ss : List SO} (h : rising ss.length (-1) l = true) : (picks l ss l.length).Sublist ss := by
  unfold picks
  rw [List.take_length]
  exact pick_sub ss SO.zero l (-1) (by omega) h

theorem Cut_calls (m : List St) (l : List Int) (v u : Value) (D : Nat → Prop) (w : World) (hD : Lo D w) (h : ModelC w D v m) (hl : Sl (Kind.int .i64) w D u l) :
    Calls Tryz.prog 39 #[v, u] w fun e w' => ∃ sv ss, e = .returned (.tuple #[.agg #[sv], .int .i64 (cutErr m l)]) ∧ Sep w.heap.size w' (stRow w.heap.size sv ss :: stParts w.heap.size ss) ∧ ss.map SO.st = cutOf m l ∧ Below w.heap.size w w' := by
  obtain ⟨mv, rfl, hmm⟩ := h
  have HM : Hid (ModelC w D (.agg #[mv]) m) := ⟨mv, rfl, hmm⟩
  obtain ⟨A, c, rfl, h1, h2, -⟩ := hmm.form
  obtain ⟨B, d, rfl, l1, l2, -⟩ := hl.ints
  unfold maxLen at h2 l2
  have HL := Lib.hid hl
  clear hmm hl
  have hB0 := ((Below.refl w.heap.size w).alloc (Nat.le_refl _) (.cells #[.slice A m.length c] 24)).alloc (by simp) (.cells #[.slice none 0 0] 24)
  have z0 : w.heap.size + 2 = ((w.alloc (.cells #[.slice A m.length c] 24)).alloc (.cells #[.slice none 0 0] 24)).heap.size := by simp
  have hm0 : ((w.alloc (.cells #[.slice A m.length c] 24)).alloc (.cells #[.slice none 0 0] 24)).heap[w.heap.size]? = some (.cells #[.slice A m.length c] 24 (0, 0)) := (heap_alloc_old _ _ (by simp)).trans (heap_alloc_new _ _)
  have hr0 : ((w.alloc (.cells #[.slice A m.length c] 24)).alloc (.cells #[.slice none 0 0] 24)).heap[w.heap.size + 1]? = some (.cells #[.slice none 0 0] 24 (0, 0)) := by
    have := heap_alloc_new (w.alloc (.cells #[.slice A m.length c] 24)) (.cells #[.slice none 0 0] 24)
    rwa [World.size_alloc] at this
  go_enter Tryz.func39, Tryz.ntmps39
  go_wp2_with fail
  generalize (w.alloc (.cells #[.slice A m.length c] 24)).alloc (.cells #[.slice none 0 0] 24) = W0 at *
  refine (asked_calls m l _ _ D _ (hD.up hB0.size) (HM.out.same (hD.same hB0)) (HL.out.same (hD.same hB0))).mono ?_
  rintro e w1 ⟨rfl, hb1⟩
  have HB1 := Lib.hid (hB0.trans (hb1.mono hB0.size))
  have HM1 := Lib.hid ((hb1.block w.heap.size (by omega)).trans hm0)
  have HR1 := Lib.hid ((hb1.block (w.heap.size + 1) (by omega)).trans hr0)
  have z1 : w.heap.size + 2 ≤ w1.heap.size := by have := hb1.size; omega
  clear hm0 hr0 hB0 hb1 z0
  have m1 := (cells_of HM1.out 0).1
  have r1 := (cells_of HR1.out 0).1
  have f1 := (cells_of HR1.out 0).2
  have hBs : w.heap.size ≤ w.heap.size + 1 := Nat.le_succ _
  cases hv : askedB m l with
  | false =>
    have HER := Lib.hid (show (1 : Int) = cutErr m l by unfold cutErr; rw [hv]; rfl)
    have HV := Lib.hid (show cutOf m l = [] by unfold cutOf; rw [← HER.out]; rfl)
    clear hv
    go_wp2
    have e0 := (cells_of (set_of HR1.out 0 (.slice none 0 0)) 0).1
    exact bodyPost_ret (v := .tuple #[.agg #[.slice none 0 0], .int .i64 1]) (by simp [results, Tryz.results39, go_sem, e0]) rfl ⟨_, [], by rw [HER.out], Sep.none, HV.out.symm, HB1.out.setCell hBs _⟩
  | true =>
    obtain ⟨a1, a2, a3⟩ := askedB.spec hv
    have HA := Lib.hid (And.intro a1 a2)
    have HSET := Lib.hid (show rising m.length (-1) l = true by unfold askedB at hv; rw [Bool.and_eq_true] at hv; exact hv.2)
    by_cases hl0 : l.length = 0
    · have HER := Lib.hid (show (5 : Int) = cutErr m l by unfold cutErr; rw [hv, if_pos hl0]; rfl)
      have HV := Lib.hid (show cutOf m l = [] by unfold cutOf; rw [← HER.out]; rfl)
      have hbz : (((l.length : Nat) : Int) == 0) = true := by rw [hl0]; rfl
      clear hv a1 a2 hl0
      go_wp2
      have e0 := (cells_of (set_of HR1.out 0 (.slice none 0 0)) 0).1
      exact bodyPost_ret (v := .tuple #[.agg #[.slice none 0 0], .int .i64 5]) (by simp [results, Tryz.results39, go_sem, e0]) rfl ⟨_, [], by rw [HER.out], Sep.none, HV.out.symm, HB1.out.setCell hBs _⟩
    · have hbz : (((l.length : Nat) : Int) == 0) = false := by rw [beq_eq_false_iff_ne]; omega
      have HER0 := Lib.hid (show cutErr m l = if l.length < (reachOf (m.map nextOf) l).length then 7 else 0 by unfold cutErr; rw [hv, if_neg hl0]; rfl)
      clear hv a1 a2
      go_wp2_with fail
      refine (Forward_calls m l _ _ D _ (hD.up HB1.out.size) (HM.out.same (hD.same HB1.out)) (HL.out.same (hD.same HB1.out)) HA.out.1 HA.out.2 (by omega)).mono ?_
      rintro e w2 ⟨v', rfl, hb2, hr⟩
      obtain ⟨A', c', rfl, p1, p2, -⟩ := hr.form
      generalize (reachOf (m.map nextOf) l).length = rn at *
      unfold maxLen at p2
      have HB2 := Lib.hid (HB1.out.trans (hb2.mono HB1.out.size))
      have HM2 := Lib.hid ((hb2.block w.heap.size (by omega)).trans HM1.out)
      have HR2 := Lib.hid ((hb2.block (w.heap.size + 1) (by omega)).trans HR1.out)
      have z2 : w.heap.size + 2 ≤ w2.heap.size := by have := hb2.size; omega
      clear hb2 hr m1 r1 f1 HM1 HR1
      have m2 := (cells_of HM2.out 0).1
      have r2 := (cells_of HR2.out 0).1
      have f2 := (cells_of HR2.out 0).2
      by_cases hgt : l.length < rn
      · have HER := Lib.hid (show (7 : Int) = cutErr m l by rw [HER0.out, if_pos hgt])
        have HV := Lib.hid (show cutOf m l = [] by unfold cutOf; rw [← HER.out]; rfl)
        go_wp2
        have e0 := (cells_of (set_of HR2.out 0 (.slice none 0 0)) 0).1
        exact bodyPost_ret (v := .tuple #[.agg #[.slice none 0 0], .int .i64 7]) (by simp [results, Tryz.results39, go_sem, e0]) rfl ⟨_, [], by rw [HER.out], Sep.none, HV.out.symm, HB2.out.setCell hBs _⟩
      · have HER := Lib.hid (show (0 : Int) = cutErr m l by rw [HER0.out, if_neg hgt])
        have HV := Lib.hid (show cutOf m l = l.map (fun s => cutSt l (m.getD s.toNat ⟨0, 0, []⟩)) by unfold cutOf; rw [← HER.out]; rfl)
        have HF := Lib.hid HA.out.1
        have hml := HF.out.len
        go_wp2_with fail
        refine (Copy_calls m _ D _ (hD.up HB2.out.size) (HM.out.same (hD.same HB2.out)) ⟨by omega, fun s hs => ⟨by have := HF.out.chs s hs; omega, fun c hc => by have := HF.out.brs s hs c hc; omega⟩⟩).mono ?_
        rintro e w4 ⟨sv, ss, rfl, hS, he, hb4⟩
        have HB4 := Lib.hid (HB2.out.trans (hb4.mono HB2.out.size))
        have HR4 := Lib.hid ((hb4.block (w.heap.size + 1) (by omega)).trans HR2.out)
        have z4 : w.heap.size + 2 ≤ w4.heap.size := by have := hb4.size; omega
        have HE := Lib.hid he
        have HC0 := Lib.hid (CutL.start (w := w) HR4.out (by omega) (by omega) hS HB2.out.size hb4.size _ rfl)
        have hst : w4.ownsRow _ 79 3 sv ss.length (scells ss) := hS.get (c := stRow _ sv ss) (List.mem_cons_self ..)
        have hssl : ss.length = m.length := by rw [← he, List.length_map]
        have HSL := Lib.hid hssl
        obtain ⟨A6, c6, rfl, q1, q2, -⟩ := own_form hst
        have hsl : ss.length ≤ 40 := by omega
        clear hS he hst hssl hb4 m2 r2 f2 HM2 HR2
        have HU := Lib.hid (Ints.up HL.out hD)
        go_wp2
        go_loopw [39] (fun k W => ∃ (j : Nat) (ov : Value) (ps : List SO), j ≤ l.length ∧ k = .int .i64 (j : Int) ∧ Below w.heap.size w W ∧ Hid (ps = picks l ss j) ∧ Hid (CutL w W (w.heap.size + 1) w4.heap.size (w4.heap.size + 1) ov ps (.slice A6 ss.length c6) ss)) (fun k _ => l.length - (intOf k).toNat)
        case atStart => exact ⟨0, _, [], Nat.zero_le _, rfl, (HB4.out.alloc HB4.out.size _).alloc (by simp; omega) _, rfl, HC0.out⟩
        case round =>
          obtain ⟨j, ov, ps, hj, rfl, hBW, HP, HK⟩ := hrel
          by_cases hlt : j < l.length
          · obtain ⟨t, ht⟩ : ∃ t, l[j]? = some t := ⟨_, List.getElem?_eq_getElem hlt⟩
            obtain ⟨t0, t1⟩ := HA.out.2 t (List.mem_of_getElem? ht)
            obtain ⟨i, rfl⟩ : ∃ i : Nat, t = (i : Int) := ⟨t.toNat, by omega⟩
            have hi : i < ss.length := by have := HSL.out; omega
            obtain ⟨s, hs⟩ : ∃ s, ss[i]? = some s := ⟨_, List.getElem?_eq_getElem hi⟩
            obtain ⟨bd, rfl, hDb, hcs⟩ := HU.out (by omega)
            have b0 := hcs _ hBW j _ ht
            have HT := Lib.hid ht
            have HS := Lib.hid (picks_snoc ht hs)
            have hpl : ps.length ≤ 40 := by rw [HP.out]; unfold picks; rw [List.length_map, List.length_take]; omega
            obtain ⟨g, c7, e7, g1, g2, g3, g4, hcell⟩ := own_form0 (cl_ss HK.out) (by omega)
            injection e7 with e7 e8 e9
            subst e7 e9
            clear e8
            obtain ⟨e0, e1, e2⟩ := flat3_at (fun s : SO => Value.int .i64 s.owner) (fun s => .int .i64 s.mark) (fun s => s.v) ss i s hs
            have s0 := (hcell _ _ e0).1
            have s1 := (hcell _ _ e1).1
            have s2 := (hcell _ _ e2).1
            obtain ⟨xv, so, sm, schs⟩ := s
            have hch : wr.ownsRow w.heap.size 97 3 xv schs.length (ccells schs) := HK.out.get (c := chRow w.heap.size ⟨xv, so, sm, schs⟩) (List.mem_cons_of_mem _ (List.mem_cons_of_mem _ (List.mem_cons_of_mem _ (List.mem_cons_of_mem _ (List.mem_cons_of_mem _ (List.mem_flatMap.2 ⟨_, List.mem_of_getElem? hs, List.mem_cons_self ..⟩))))))
            obtain ⟨A8, c8, rfl, -, -, -⟩ := own_form hch
            simp only at s0 s1 s2
            clear hch
            obtain ⟨q01, q02, q03⟩ := cl_lt HK.out
            have Q3 := Lib.hid q03
            have hps := cl_ps HK.out
            have HPS := Lib.hid hps
            have o0 : wr.drew.cell? ⟨w4.heap.size + 1, 0, none⟩ = some ov := (cells_of (cl_ob HK.out) 0).1
            have h0 : wr.drew.cell? ⟨w4.heap.size, 0, none⟩ = some (.slice (some ⟨g, 0, none⟩) ss.length c6) := (cells_of (cl_hb HK.out) 0).1
            have o1 := (cells_of (cl_ob HK.out) 0).1
            have h1' := (cells_of (cl_hb HK.out) 0).1
            have HOB := Lib.hid (cl_ob HK.out)
            obtain ⟨A3, c3, rfl, -, -, -⟩ := own_form hps
            clear ht hs hcs hps q03 hcell e0 e1 e2
            go_wp2_with fail
            go_region_law (first
              | (refine step_app3 elem_st rfl _ _ rfl w.heap.size (.slice A3 ps.length c3) ps.length (scells ps) rfl (own_kept HPS.out fun k hk => heap_alloc_old wr.drew _ (HPS.out.lt k hk).2) wr.heap.size _ _ _ _ rfl (heap_alloc_new _ _) rfl rfl rfl (by omega) (by omega) (by have := hBW.size; simp; omega) ?_; intro v5 w5 ho5 hg5 ha5; have HO5 := Lib.hid ho5; have HG5 := Lib.hid hg5; have HA5 := Lib.hid ha5; obtain ⟨A5, c5, rfl, -, -, -⟩ := own_form ho5; have g5 : w5.heap[w4.heap.size + 1]? = _ := (hg5.block (w4.heap.size + 1) (by simp; omega) (fun e => (Q3.out _ e.symm).2 rfl)).trans ((heap_alloc_old _ _ q02).trans HOB.out); have g6 := (cells_of g5 0).1; have g7 := (cells_of g5 0).2; clear ho5 hg5 ha5 g5))
            all_goals
              go_wp2
              have HKd : CutL w wr.drew (w.heap.size + 1) w4.heap.size (w4.heap.size + 1) (.slice A3 ps.length c3) ps (.slice (some ⟨g, 0, none⟩) ss.length c6) ss := HK.out.kept (W' := wr.drew) (fun _ _ _ => rfl) (Nat.le_refl _)
              have HK5 := Sep.pick (chs := schs) HKd hBW.size HG5.out HO5.out HA5.out
              have hB5 := (((hBW.drew.alloc hBW.size _).grown HG5.out (by have := hBW.size; simp; omega) (fun k hk => (Q3.out k hk).1)).setCell (p := ⟨w4.heap.size + 1, 0, none⟩) q01 (.slice A5 (ps.length + 1) c5))
              exact ⟨⟨j + 1, _, ps ++ [⟨.slice A8 schs.length c8, so, sm, schs⟩], by omega, by go_num, hB5, (HS.out.trans (by rw [HP.out])).symm, Lib.hid HK5⟩, by simp [intOf]; omega⟩
          · obtain rfl : j = l.length := by omega
            clear hlt
            have HF0 := Lib.hid (CutF.of (l := l) HK.out (by rw [HP.out]; exact picks_sub (by rw [HSL.out]; exact HSET.out)))
            have HPO := Lib.hid (cl_ps HK.out)
            have o1 := (cells_of (cl_ob HK.out) 0).1
            have HRB := Lib.hid (cl_rb HK.out)
            have hpl : ps.length ≤ 40 := by rw [HP.out]; unfold picks; rw [List.length_map, List.length_take]; omega
            obtain ⟨A3, c3, rfl, v1, v2, -⟩ := own_form HPO.out
            unfold maxLen at v2
            obtain ⟨wa, rfl⟩ : ∃ wa : World, wa = wr := ⟨_, rfl⟩
            go_wp2
            go_loopw [57] (fun k W => ∃ (i : Nat), i ≤ ps.length ∧ k = .int .i64 (i : Int) ∧ Below w.heap.size w W ∧ Hid (CutF w W l (w.heap.size + 1) (w4.heap.size + 1) (.slice A3 ps.length c3) ps ((ps.take i).flatMap (·.chs)) ((ps.drop i).flatMap (·.chs)))) (fun k _ => ps.length - (intOf k).toNat)
            case atStart => exact ⟨0, Nat.zero_le _, rfl, hBW, HF0.out⟩
            case round =>
              obtain ⟨i, hi, rfl, hBW2, HF2⟩ := hrel
              obtain ⟨wi, rfl⟩ : ∃ wi : World, wi = wr := ⟨_, rfl⟩
              by_cases hlt : i < ps.length
              · obtain ⟨s, hs⟩ : ∃ s, ps[i]? = some s := ⟨_, List.getElem?_eq_getElem hlt⟩
                have HFS := Lib.hid (flat_split ps i s hs)
                obtain ⟨g, c7, e7, g1, g2, g3, g4, hcell⟩ := own_form0 (show wi.ownsRow w.heap.size 79 3 (.slice A3 ps.length c3) ps.length (scells ps) from HF2.out.get (c := stRow w.heap.size (.slice A3 ps.length c3) ps) (List.mem_append_left _ (List.mem_cons_of_mem _ (List.mem_cons_self ..)))) (by omega)
                injection e7 with e7 e8 e9
                subst e7 e9
                clear e8
                obtain ⟨e0, e1, e2⟩ := flat3_at (fun s : SO => Value.int .i64 s.owner) (fun s => .int .i64 s.mark) (fun s => s.v) ps i s hs
                have s0 := (hcell _ _ e0).1
                have s1 := (hcell _ _ e1).1
                have s2 := (hcell _ _ e2).1
                obtain ⟨xv, so, sm, schs⟩ := s
                have mch : chRow w.heap.size ⟨xv, so, sm, schs⟩ ∈ (boxC (w4.heap.size + 1) #[.slice (some ⟨g, 0, none⟩) ps.length c3] 24 :: stRow w.heap.size (.slice (some ⟨g, 0, none⟩) ps.length c3) ps :: boxC (w.heap.size + 1) #[.slice none 0 0] 24 :: ps.map (chRow w.heap.size)) := List.mem_cons_of_mem _ (List.mem_cons_of_mem _ (List.mem_cons_of_mem _ (List.mem_map.2 ⟨_, List.mem_of_getElem? hs, rfl⟩)))
                have hch : wi.ownsRow w.heap.size 97 3 xv schs.length (ccells schs) := HF2.out.get (c := chRow w.heap.size ⟨xv, so, sm, schs⟩) (List.mem_append_left _ mch)
                have HMC := Lib.hid mch
                obtain ⟨A8, c8, rfl, u1, u2, -⟩ := own_form hch
                unfold maxLen at u2
                have hB3 : Below w.heap.size w (wi.alloc (.cells #[.int .i64 so, .int .i64 sm, .slice A8 schs.length c8] 79)) := hBW2.alloc hBW2.size _
                have HF3 := Lib.hid (show CutF w (wi.alloc (.cells #[.int .i64 so, .int .i64 sm, .slice A8 schs.length c8] 79)) l (w.heap.size + 1) (w4.heap.size + 1) (.slice (some ⟨g, 0, none⟩) ps.length c3) ps ((ps.take i).flatMap (·.chs) ++ []) (schs ++ (ps.drop (i + 1)).flatMap (·.chs)) from by
                  rw [List.append_nil]
                  have := HF2.out
                  rw [HFS.out.1] at this
                  exact Sep.below this ((Below.refl _ wi).alloc (Nat.le_refl _) _))
                simp only at s0 s1 s2
                clear hs hcell e0 e1 e2 mch hch
                go_wp2
                go_loopw [64] (fun k W => ∃ (j : Nat), j ≤ schs.length ∧ k = .int .i64 (j : Int) ∧ Below w.heap.size w W ∧ Hid (CutF w W l (w.heap.size + 1) (w4.heap.size + 1) (.slice (some ⟨g, 0, none⟩) ps.length c3) ps ((ps.take i).flatMap (·.chs) ++ schs.take j) (schs.drop j ++ (ps.drop (i + 1)).flatMap (·.chs)))) (fun k _ => schs.length - (intOf k).toNat)
                case atStart => exact ⟨0, Nat.zero_le _, rfl, hB3, HF3.out⟩
                case round =>
                  obtain ⟨j, hj, rfl, hBW3, HF4⟩ := hrel
                  obtain ⟨wj, rfl⟩ : ∃ wj : World, wj = wr := ⟨_, rfl⟩
                  clear hB3 HF3 s0 s1 s2
                  by_cases hlt2 : j < schs.length
                  · obtain ⟨c0, hc⟩ : ∃ c0, schs[j]? = some c0 := ⟨_, List.getElem?_eq_getElem hlt2⟩
                    have hdr : schs.drop j = c0 :: schs.drop (j + 1) := by
                      obtain ⟨hh, rfl⟩ := List.getElem?_eq_some_iff.1 hc
                      exact List.drop_eq_getElem_cons hh
                    have HTK := Lib.hid (show schs.take (j + 1) = schs.take j ++ [c0] by rw [List.take_add_one, hc]; rfl)
                    obtain ⟨g8, c9, e7, -, -, -, -, hcell⟩ := own_form0 (show wj.ownsRow w.heap.size 97 3 (.slice A8 schs.length c8) schs.length (ccells schs) from HF4.out.get (c := chRow w.heap.size ⟨.slice A8 schs.length c8, so, sm, schs⟩) (List.mem_append_left _ HMC.out)) (by omega)
                    injection e7 with e7 e8 e9
                    subst e7 e9
                    clear e8
                    obtain ⟨e0, e1, e2⟩ := flat3_at (fun s : CO => Value.int .i64 s.rw.top) (fun s => .int .i64 s.rw.low) (fun s => s.v) schs j c0 hc
                    have s0 := (hcell _ _ e0).1
                    have s1 := (hcell _ _ e1).1
                    have s2 := (hcell _ _ e2).1
                    have hF5 := HF4.out
                    rw [hdr] at hF5
                    obtain ⟨cv, crw, cbrs⟩ := c0
                    have hbr : wj.ownsRow w.heap.size 103 3 cv cbrs.length (bcells cbrs) := hF5.get (c := brRow w.heap.size ⟨cv, crw, cbrs⟩) (List.mem_append_right _ (List.mem_append_right _ (List.mem_cons_self ..)))
                    obtain ⟨A9, c9, rfl, y1, y2, -⟩ := own_form hbr
                    unfold maxLen at y2
                    simp only at s0 s1 s2 y1
                    have hB4 : Below w.heap.size w (wj.alloc (.cells #[.int .i64 crw.top, .int .i64 crw.low, .slice A9 cbrs.length c9] 97)) := hBW3.alloc hBW3.size _
                    have HG5 := Lib.hid (CutG.of (Sep.below hF5 ((Below.refl _ wj).alloc (Nat.le_refl _) (.cells #[.int .i64 crw.top, .int .i64 crw.low, .slice A9 cbrs.length c9] 97))))
                    have hH : Held3 wj.heap.size (.int .i64 crw.top) (.int .i64 crw.low) (.slice A9 cbrs.length c9) (wj.alloc (.cells #[.int .i64 crw.top, .int .i64 crw.low, .slice A9 cbrs.length c9] 97)) := ⟨(box_cells wj _ rfl _ _ 0).1, (box_cells wj _ rfl _ _ 1).1, (box_cells wj _ rfl _ _ 2).1, by simp⟩
                    have HH := Lib.hid hH
                    have HLT := Lib.hid (show ∀ k, (Value.slice A9 cbrs.length c9).ownBlock = some k → w.heap.size ≤ k ∧ k < wj.heap.size from fun k hk => hbr.lt k hk)
                    clear hc hdr hcell e0 e1 e2 hF5 hbr hH
                    go_wp2
                    go_loopw [71] (fun k W => ∃ (q : Nat), q ≤ cbrs.length ∧ k = .int .i64 (q : Int) ∧ Below w.heap.size w W ∧ Hid (CutG w W l (w.heap.size + 1) (w4.heap.size + 1) (.slice (some ⟨g, 0, none⟩) ps.length c3) ps ((ps.take i).flatMap (·.chs) ++ schs.take j) ⟨.slice A9 cbrs.length c9, crw, cbrs⟩ q (schs.drop (j + 1) ++ (ps.drop (i + 1)).flatMap (·.chs))) ∧ Hid (Held3 wj.heap.size (.int .i64 crw.top) (.int .i64 crw.low) (.slice A9 cbrs.length c9) W)) (fun k _ => cbrs.length - (intOf k).toNat)
                    case atStart => exact ⟨0, Nat.zero_le _, rfl, hB4, HG5.out, HH.out⟩
                    case round =>
                      obtain ⟨q, hq, rfl, hBW4, HG6, HH6⟩ := hrel
                      clear hB4 HG5 HH s0 s1 s2
                      by_cases hlt3 : q < cbrs.length
                      · obtain ⟨b, hb⟩ : ∃ b, cbrs[q]? = some b := ⟨_, List.getElem?_eq_getElem hlt3⟩
                        have hrow : wr.ownsRow w.heap.size 103 3 (.slice A9 cbrs.length c9) cbrs.length (bcells (cutTo l q ⟨.slice A9 cbrs.length c9, crw, cbrs⟩).brs) := by
                          have h3 := HG6.out.get (c := brRow w.heap.size (cutTo l q ⟨.slice A9 cbrs.length c9, crw, cbrs⟩)) (List.mem_append_right _ (List.mem_append_right _ (List.mem_cons_self ..)))
                          have h4 : wr.ownsRow w.heap.size 103 3 (.slice A9 cbrs.length c9) (cutTo l q ⟨.slice A9 cbrs.length c9, crw, cbrs⟩).brs.length (bcells (cutTo l q ⟨.slice A9 cbrs.length c9, crw, cbrs⟩).brs) := h3
                          rwa [brs_cut_len] at h4
                        obtain ⟨g9, c10, e7, x1, -, -, -, hcell⟩ := own_form0 hrow (by omega)
                        injection e7 with e7 e8 e9
                        subst e7 e9
                        clear e8
                        obtain ⟨d0, d1⟩ := hcell _ _ (bcells_at3 (brs_cut_at l q ⟨.slice (some ⟨g9, 0, none⟩) cbrs.length c9, crw, cbrs⟩ b hb))
                        have HBQ := Lib.hid hb
                        have hne : g9 ≠ wj.heap.size := Nat.ne_of_lt (HLT.out g9 rfl).2
                        obtain ⟨p0, p1', p2', p3⟩ := HH6.out
                        have d0' : wr.drew.cell? ⟨g9, q * 3, none⟩ = some (.int .i64 b.to) := d0
                        have d1' : wr.drew.frozen? ⟨g9, q * 3, none⟩ = false := d1
                        have p2'' : wr.drew.cell? ⟨wj.heap.size, 2, none⟩ = some (.slice (some ⟨g9, 0, none⟩) cbrs.length c9) := p2'
                        have HLd := Lib.hid (HL.out.same (hD.same hBW4))
                        clear hrow hcell hb
                        go_wp2_with fail
                        go_region_law (go_simp; go_at_call 96; refine (Index_calls l b.to _ D wr.drew (HLd.out.same fun _ _ => rfl) (by omega)).mono ?_; rintro e w5 ⟨rfl, rfl⟩)
                        all_goals
                          go_wp2
                          have hGd : CutG w wr.drew l (w.heap.size + 1) (w4.heap.size + 1) (.slice (some ⟨g, 0, none⟩) ps.length c3) ps ((ps.take i).flatMap (·.chs) ++ schs.take j) ⟨.slice (some ⟨g9, 0, none⟩) cbrs.length c9, crw, cbrs⟩ q (schs.drop (j + 1) ++ (ps.drop (i + 1)).flatMap (·.chs)) := HG6.out.kept (W' := wr.drew) (fun _ _ _ => rfl) (Nat.le_refl _)
                          have hG7 := Lib.hid (Sep.cut1 hGd hBW4.size HBQ.out rfl rfl)
                          have hB7 := hBW4.drew.setCell (p := ⟨g9, q * 3, none⟩) x1 (.int .i64 (placeOf l b.to))
                          have hH7 := Lib.hid (held3_set (V := wr.drew) (p := ⟨g9, q * 3, none⟩) hne (show Held3 wj.heap.size (.int .i64 crw.top) (.int .i64 crw.low) (.slice (some ⟨g9, 0, none⟩) cbrs.length c9) wr.drew from HH6.out) (.int .i64 (placeOf l b.to)))
                          exact ⟨⟨q + 1, by omega, by go_num, hB7, hG7, hH7⟩, by simp [intOf]; omega⟩
                      · obtain rfl : q = cbrs.length := by omega
                        have HF7 := Lib.hid (CutG.all HG6.out)
                        have HF8 := Lib.hid (show CutF w wr l (w.heap.size + 1) (w4.heap.size + 1) (.slice (some ⟨g, 0, none⟩) ps.length c3) ps ((ps.take i).flatMap (·.chs) ++ schs.take (j + 1)) (schs.drop (j + 1) ++ (ps.drop (i + 1)).flatMap (·.chs)) from by
                          rw [HTK.out, ← List.append_assoc]
                          exact HF7.out)
                        clear hlt3 HF7
                        go_wp2
                        exact ⟨⟨j + 1, by omega, by go_num, hBW4, HF8⟩, by simp [intOf]; omega⟩
                  · obtain rfl : j = schs.length := by omega
                    have HF8 := Lib.hid (show CutF w wj l (w.heap.size + 1) (w4.heap.size + 1) (.slice (some ⟨g, 0, none⟩) ps.length c3) ps ((ps.take (i + 1)).flatMap (·.chs)) ((ps.drop (i + 1)).flatMap (·.chs)) from by
                      rw [HFS.out.2]
                      have := HF4.out
                      rw [List.take_length, List.drop_length, List.nil_append] at this
                      exact this)
                    clear hlt2
                    go_wp2
                    exact ⟨⟨i + 1, by omega, by go_num, hBW3, HF8⟩, by simp [intOf]; omega⟩
              · obtain rfl : i = ps.length := by omega
                have HF8 := Lib.hid (CutF.done (l := l) (ps := ps) (by
                  have := HF2.out
                  rw [List.take_length, List.drop_length] at this
                  exact this))
                have ob0 : wi.heap[w4.heap.size + 1]? = some (.cells #[.slice A3 ps.length c3] 24 (0, 0)) := HF8.out.get (List.mem_cons_self ..)
                have rb0 : wi.heap[w.heap.size + 1]? = some (.cells #[.slice none 0 0] 24 (0, 0)) := HF8.out.get (c := boxC (w.heap.size + 1) #[.slice none 0 0] 24) (List.mem_cons_of_mem _ (List.mem_cons_of_mem _ (List.mem_cons_self ..)))
                have o9 := (cells_of ob0 0).1
                have r9 := (cells_of rb0 0).1
                have f9 := (cells_of rb0 0).2
                have HRB9 := Lib.hid rb0
                have HST := Lib.hid (show (ps.map (cutSO l)).map SO.st = cutOf m l from by
                  rw [HV.out, HP.out]
                  unfold picks
                  rw [List.take_length, List.map_map, List.map_map]
                  refine List.map_congr_left fun t ht => ?_
                  obtain ⟨k0, k1⟩ := HA.out.2 t ht
                  show (cutSO l (ss.getD t.toNat SO.zero)).st = _
                  rw [cutSO_st]
                  congr 1
                  have hlt : t.toNat < ss.length := by have := HSL.out; omega
                  have hlt' : t.toNat < m.length := by have := HSL.out; omega
                  have h9 : m[t.toNat]? = some ss[t.toNat].st := by rw [← HE.out, List.getElem?_map, List.getElem?_eq_getElem hlt]; rfl
                  rw [List.getD, List.getD, h9, List.getElem?_eq_getElem hlt]
                  rfl)
                clear hlt ob0 rb0
                go_wp2
                have e0 : (wi.setCell ⟨w.heap.size + 1, 0, none⟩ (.slice A3 ps.length c3)).cell? ⟨w.heap.size + 1, 0, none⟩ = some (.slice A3 ps.length c3) := (cells_of (set_of HRB9.out 0 (.slice A3 ps.length c3)) 0).1
                have h5 : Sep w.heap.size wi (boxC (w.heap.size + 1) #[.slice none 0 0] 24 :: boxC (w4.heap.size + 1) #[.slice A3 ps.length c3] 24 :: stRow w.heap.size (.slice A3 ps.length c3) (ps.map (cutSO l)) :: stParts w.heap.size (ps.map (cutSO l))) := HF8.out.perm (List.perm_middle (l₁ := [boxC (w4.heap.size + 1) #[.slice A3 ps.length c3] 24, stRow w.heap.size (.slice A3 ps.length c3) (ps.map (cutSO l))]))
                have h6 := h5.upd (c' := boxC (w.heap.size + 1) #[.slice A3 ps.length c3] 24) (grown_set wi (w.heap.size + 1) 0 (.slice A3 ps.length c3)) (set_of HRB9.out 0 _) (.inl rfl) hBW2.size
                have h7 := h6.sub ((List.sublist_cons_self _ _).trans (List.sublist_cons_self _ _))
                exact bodyPost_ret (v := .tuple #[.agg #[.slice A3 ps.length c3], .int .i64 0]) (by simp [results, Tryz.results39, go_sem, e0]) rfl ⟨_, by rw [← HER.out], ps.map (cutSO l), h7, HST.out, hBW2.setCell hBs _⟩

end Go.Proofs.YtoffbdlgmnpblaaGreat
