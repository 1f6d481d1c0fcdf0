/- Part 44: Rf32. -/
import Derived.Test.YtoffbdlgmnpblaaGreatJ43
import Derived.BigQuiet

/- The reference's period of a component: the walk. -/
namespace Go.Proofs.YtoffbdlgmnpblaaGreat
open Go.RowKit
set_option maxHeartbeats 8000000
set_option maxRecDepth 100000

theorem take_fold {α β : Type} (f : β → α → β) (b : β) {l : List α} {j : Nat} {x : α} (h : l[j]? = some x) : (l.take (j + 1)).foldl f b = f ((l.take j).foldl f b) x := by
  rw [List.take_add_one, h, List.foldl_append]; rfl
/-- the period as the reference reckons it -/
def perRef (next : List (List Int)) (l : List Int) : Int := Per.gAll next (Bfs.fl (Bfs.flags next.length l)) (Per.qTo next (Bfs.fl (Bfs.flags next.length l)) l (Dig.gd l 0) l.length) l

theorem Rperiod_calls (m : List St) (l : List Int) (v u : Value) (D : Nat → Prop) (w : World) (hD : Lo D w) (h : ModelC w D v m) (hl : Sl (Kind.int .i64) w D u l) (hf : Fine m) (hm : ∀ s ∈ l, 0 ≤ s ∧ s < (m.length : Int)) (hne : 0 < l.length) (hll : l.length ≤ 1000) :
    Calls Tryz.prog 70 #[v, u] w fun e w' => e = .returned (.int .i64 (perRef (m.map nextOf) l)) ∧ Below w.heap.size w w' := by
  obtain ⟨mv, rfl, hmm⟩ := h
  have HM : Hid (ModelC w D (.agg #[mv]) m) := ⟨mv, rfl, hmm⟩
  obtain ⟨A, c, rfl, h1, h2, -⟩ := hmm.form
  have HL := Lib.hid hl
  obtain ⟨B, b, rfl, l1, l2, -⟩ := hl.form
  have HU := Ints.up hl hD
  unfold maxLen at h2 l2
  have HLEN := hf.len
  have HF := Lib.hid hf
  have HI := Lib.hid hm
  obtain ⟨next, hnx⟩ : ∃ next, next = m.map nextOf := ⟨_, rfl⟩
  have hnl : next.length = m.length := by rw [hnx, List.length_map]
  have HIN := Lib.hid (show ∀ xs ∈ next, ∀ t ∈ xs, 0 ≤ t ∧ t < (next.length : Int) by rw [hnx]; exact (Edges.of_fine hf).ins)
  rw [← hnx]
  have HNX := Lib.hid hnx
  have HNL := Lib.hid hnl
  obtain ⟨R, hR⟩ : ∃ R, R = perRef next l := ⟨_, rfl⟩
  rw [← hR]
  have HR := Lib.hid hR
  obtain ⟨root, hroot⟩ : ∃ root, root = Dig.gd l 0 := ⟨_, rfl⟩
  have hl0 : l[0]? = some root := by rw [hroot]; exact Dig.gd_lt hne
  obtain ⟨r0, r1⟩ := hm root (List.mem_of_getElem? hl0)
  have HL0 := Lib.hid hl0
  have HROOT := Lib.hid hroot
  clear hmm hf hl hm hnx hnl hR hl0 hroot
  have HX0 := Lib.hid (heap_alloc_new w (.cells #[.slice A m.length c] 24))
  have HB0 := Lib.hid ((Below.refl w.heap.size w).alloc (Nat.le_refl _) (.cells #[.slice A m.length c] 24))
  go_enter Tryz.func70, Tryz.ntmps70
  go_wp2_with fail
  refine (RFlags_calls m.length l _ D _ (hD.up HB0.out.size) (HL.out.same (hD.same HB0.out)) HI.out (by omega) (by omega)).mono ?_
  rintro e w1 ⟨rfl, hb1, ho1⟩
  rw [World.size_alloc] at ho1 ⊢
  have HB1 := Lib.hid (HB0.out.trans (hb1.mono HB0.out.size))
  have HX1 := Lib.hid ((hb1.block w.heap.size (by simp)).trans HX0.out)
  have hz1 : w.heap.size + 2 ≤ w1.heap.size := by have := ho1.lt.2; omega
  have HO1 := Lib.hid ho1
  clear hb1 ho1 HB0 HX0
  obtain ⟨c0, -⟩ := blk_at HX1.out 0
  go_upto_region 3 with (refine wpList_mk1 elem_i64 rfl _ _ rfl (by intro cs h; cases h) w1.heap.size _ _ (m.length : Int) (m.length : Int) rfl rfl (by omega) (by omega) (by omega) (by omega) (by simp) ?_; intro w2 hown hb2 hz2 hcells)
  have hown' : OwnInts w2 w1.heap.size w1.heap.size m.length (List.replicate m.length 0) := by simpa [OwnInts, ints] using hown
  have HB2 := Lib.hid (HB1.out.trans (hb2.mono HB1.out.size))
  have HX2 := Lib.hid ((hb2.block w.heap.size (by omega)).trans HX1.out)
  have HO2 := Lib.hid (HO1.out.below hb2)
  have hzz2 : w1.heap.size < w2.heap.size := by omega
  clear hown hcells hb2 hz2 HB1 HX1 HO1 c0
  obtain ⟨g2, hg2⟩ : ∃ g2, g2 = w1.heap.size := ⟨_, rfl⟩
  rw [← hg2] at hown' hzz2 hz1 ⊢
  clear hg2
  go_wp2_with fail
  go_loopw [28] (fun k W => ∃ (j : Nat) (d : List Int), j ≤ m.length ∧ k = .int .i64 (j : Int) ∧ Hid (w2.grownBy W (some g2)) ∧ OwnInts W g2 g2 m.length d ∧ Hid (d = List.replicate j (-1) ++ List.replicate (m.length - j) 0)) (fun k _ => m.length - (intOf k).toNat)
  case atStart => exact ⟨0, _, Nat.zero_le _, rfl, Lib.hid (World.grownBy.refl _ _), hown', Lib.hid (by simp : List.replicate m.length (0 : Int) = List.replicate 0 (-1) ++ List.replicate (m.length - 0) 0)⟩
  case round =>
    obtain ⟨j, d, hj, rfl, HG, hO, HDD⟩ := hrel
    clear hown'
    by_cases hlt : j < m.length
    · obtain ⟨k1, k2⟩ := hO.cell (i := j) (x := 0) (by rw [HDD.out, List.getElem?_append_right (by simp), List.length_replicate, Nat.sub_self, List.getElem?_replicate, if_pos (by omega)])
      go_wp2
      refine ⟨⟨j + 1, d.set j (-1), by omega, by go_num, Lib.hid (grown_trans HG.out (grown_set wr g2 j _)), hO.set hlt _, Lib.hid ?_⟩, by simp [intOf]; omega⟩
      rw [HDD.out, List.set_append_right _ _ (by simp)]
      have e : m.length - j = (m.length - (j + 1)) + 1 := by omega
      rw [e, List.replicate_succ (n := m.length - (j + 1)), List.length_replicate, Nat.sub_self, List.set_cons_zero, List.replicate_succ' (n := j)]
      simp
    · obtain rfl : j = m.length := by omega
      have hd : d = List.replicate m.length (-1) := by rw [HDD.out]; simp
      subst hd
      clear hlt HDD
      have HBW := Lib.hid (HB2.out.grown HG.out (by omega) (fun k hk => by injection hk with hk; omega))
      have HXW := Lib.hid ((HG.out.block w.heap.size (by omega) (fun e => by injection e with e; omega)).trans HX2.out)
      have HOW := Lib.hid (HO2.out.kept (HG.out.block (w.heap.size + 1) (by omega) (fun e => by injection e with e; omega)))
      have hsz : w2.heap.size ≤ wr.heap.size := HG.out.size
      obtain ⟨bd, rfl, hDb, hcs⟩ := HU.out hne
      have q1 : wr.cell? bd = some (.int .i64 root) := by simpa [Addr.add] using hcs _ HBW.out 0 _ HL0.out
      obtain ⟨k1, k2⟩ := hO.cellAt r0 r1
      have HCS := Lib.hid hcs
      have HT0 := Lib.hid (show (List.replicate m.length (-1)).set root.toNat 0 = Per.qTo next (Bfs.fl (Bfs.flags m.length l)) l root 0 by rw [← HNL.out]; rfl)
      have HOS := Lib.hid (hO.set (i := root.toNat) (by omega) 0)
      have HB3 := Lib.hid (HBW.out.setCell (p := ⟨g2, root.toNat, none⟩) (by show w.heap.size ≤ g2; omega) (.int .i64 0))
      have HX3 := Lib.hid ((Below.heap_setCell wr ⟨g2, root.toNat, none⟩ (.int .i64 0) w.heap.size (by show w.heap.size ≠ g2; omega)).trans HXW.out)
      have HO3 := Lib.hid (HOW.out.kept (W' := wr.setCell ⟨g2, root.toNat, none⟩ (.int .i64 0)) (Below.heap_setCell wr ⟨g2, root.toNat, none⟩ (.int .i64 0) (w.heap.size + 1) (by show w.heap.size + 1 ≠ g2; omega)))
      clear hcs hO
      have hs3 : g2 + 1 ≤ (wr.setCell ⟨g2, root.toNat, none⟩ (.int .i64 0)).heap.size := by simp [World.setCell]; omega
      clear HBW HXW HOW HG
      go_wp2
      clear q1 k1 k2
      go_loopw [42] (fun k W => ∃ (K : Nat) (d : List Int), K ≤ l.length ∧ k = .int .i64 (K : Int) ∧ Hid (Below w.heap.size w W) ∧ g2 + 1 ≤ W.heap.size ∧ Hid (W.heap[w.heap.size]? = some (.cells #[.slice A m.length c] 24 (0, 0))) ∧ Hid (OwnFl W (w.heap.size + 1) (w.heap.size + 1) m.length (Bfs.flags m.length l)) ∧ OwnInts W g2 g2 m.length d ∧ Hid (d = Per.qTo next (Bfs.fl (Bfs.flags m.length l)) l root K)) (fun k _ => l.length - (intOf k).toNat)
      case atStart => exact ⟨0, _, Nat.zero_le _, rfl, HB3.out, hs3, HX3.out, HO3.out, HOS.out, HT0.out⟩
      case round =>
        clear HB3 hs3 HX3 HO3 HOS HT0 HB2 HX2 HO2 hsz hzz2
        obtain ⟨K, d, hK, rfl, HBW, hsW, HXW, HOF, hO, HDD⟩ := hrel
        by_cases hlt : K < l.length
        · have hD0 : Hid (d = (l.take 0).foldl (Per.qRow next (Bfs.fl (Bfs.flags m.length l))) (Per.qTo next (Bfs.fl (Bfs.flags m.length l)) l root K)) := HDD
          clear HDD
          go_wp2
          go_loopw [46] (fun k W => ∃ (i : Nat) (d : List Int), i ≤ l.length ∧ k = .int .i64 (i : Int) ∧ Hid (Below w.heap.size w W) ∧ g2 + 1 ≤ W.heap.size ∧ Hid (W.heap[w.heap.size]? = some (.cells #[.slice A m.length c] 24 (0, 0))) ∧ Hid (OwnFl W (w.heap.size + 1) (w.heap.size + 1) m.length (Bfs.flags m.length l)) ∧ OwnInts W g2 g2 m.length d ∧ Hid (d = (l.take i).foldl (Per.qRow next (Bfs.fl (Bfs.flags m.length l))) (Per.qTo next (Bfs.fl (Bfs.flags m.length l)) l root K))) (fun k _ => l.length - (intOf k).toNat)
          case atStart => exact ⟨0, _, Nat.zero_le _, rfl, HBW.out, hsW, HXW.out, HOF.out, hO, hD0.out⟩
          case round =>
            clear hD0 HBW hsW HXW HOF hO
            obtain ⟨i, d, hi, rfl, HBW, hsW, HXW, HOF, hO, HDD⟩ := hrel
            by_cases hlj : i < l.length
            · obtain ⟨s, hs⟩ : ∃ s, l[i]? = some s := ⟨_, List.getElem?_eq_getElem hlj⟩
              obtain ⟨s0, s1⟩ := HI.out s (List.mem_of_getElem? hs)
              have q1 := HCS.out _ HBW.out i _ hs
              obtain ⟨st, hst⟩ : ∃ st, m[s.toNat]? = some st := ⟨_, List.getElem?_eq_getElem (by omega)⟩
              have HS := Lib.hid hs
              have HST := Lib.hid hst
              have hqb : QB m.length d := by
                have h1 := QB.to HIN.out (p := (Bfs.fl (Bfs.flags m.length l))) (l := l) (root := root) (by rw [HNL.out]; exact ⟨r0, r1⟩) (by rw [HNL.out]; exact HI.out) K
                have h2 := QB.rows HIN.out (p := (Bfs.fl (Bfs.flags m.length l))) (l.take i) h1 (fun s hs => by rw [HNL.out]; exact HI.out s (List.mem_of_mem_take hs))
                rw [← HDD.out, HNL.out] at h2
                exact h2
              have HQB := Lib.hid hqb
              obtain ⟨c0, -⟩ := blk_at HXW.out 0
              clear hs hst hqb
              have HO := Lib.hid hO
              clear hO
              go_wp2_with fail
              refine (RNext_calls m s st _ D wr (hD.up HBW.out.size) (HM.out.same (hD.same HBW.out)) HF.out s0 s1 HST.out).mono ?_
              rintro e w3 ⟨v3, rfl, hb3, hn3⟩
              obtain ⟨fs, hfs⟩ : ∃ fs, fs = Bfs.flags m.length (targets st) := ⟨_, rfl⟩
              have hfl : fs.length = m.length := by rw [hfs, Bfs.flags_len]
              rw [← hfs] at hn3
              have HFS := Lib.hid hfs
              obtain ⟨N3, d3, rfl, n1, n2, -⟩ := hn3.form
              unfold maxLen at n2
              rw [hfl] at hn3 n1 ⊢
              have HFL := Lib.hid hfl
              have HN3 := Lib.hid (hn3.mono (D' := fun k => wr.heap.size ≤ k ∧ k < w3.heap.size) fun k hk => ⟨hk.1, hk.2.1⟩)
              have HB3 := Lib.hid (HBW.out.trans (hb3.mono HBW.out.size))
              have HX3 := Lib.hid ((hb3.block w.heap.size (by omega)).trans HXW.out)
              have HOF3 := Lib.hid (HOF.out.below hb3)
              have hO3 := HO.out.below hb3
              have hs3 : g2 + 1 ≤ w3.heap.size := Nat.le_trans hsW hb3.size
              have HROW := Lib.hid (show Per.qRow next (Bfs.fl (Bfs.flags m.length l)) d s = qPart fs (Bfs.fl (Bfs.flags m.length l)) s d m.length by
                rw [qPart_row, HFS.out, row_fold HF.out HST.out, ← HNX.out]; rfl)
              have HQP := Lib.hid fun i h => QB.part (fs := fs) (p := (Bfs.fl (Bfs.flags m.length l))) ⟨s0, s1⟩ HQB.out i h
              clear hb3 hn3 hfs hfl c0 q1 HBW HXW HOF HO HQB
              go_wp2_with fail
              go_loopw [54] (fun k W => ∃ (t : Nat) (d' : List Int), t ≤ m.length ∧ k = .int .i64 (t : Int) ∧ Hid (w3.grownBy W (some g2)) ∧ OwnInts W g2 g2 m.length d' ∧ Hid (d' = qPart fs (Bfs.fl (Bfs.flags m.length l)) s d t)) (fun k _ => m.length - (intOf k).toNat)
              case atStart => exact ⟨0, _, Nat.zero_le _, rfl, World.grownBy.refl _ _, hO3, Lib.hid rfl⟩
              case round =>
                clear hO3
                obtain ⟨t, d', ht, rfl, HG, hO, HD4⟩ := hrel
                by_cases hlt4 : t < m.length
                · obtain ⟨bf, rfl, r1⟩ := Fls.at (HN3.out.same fun k hk => HG.out.block k hk.2 (fun e => by injection e with e; omega)) t _ (fl_some (by rw [HFL.out]; exact hlt4))
                  obtain ⟨k1, -⟩ := (HOF3.out.kept (HG.out.block (w.heap.size + 1) (by omega) (fun e => by injection e with e; omega))).cellAt (t := (t : Int)) (by omega) (by omega)
                  obtain ⟨k3, k4⟩ := hO.cellAt s0 s1
                  obtain ⟨k5, k6⟩ := hO.cellAt (t := (t : Int)) (by omega) (by omega)
                  rw [Int.toNat_natCast] at k1 k5 k6
                  have HQ4 := Lib.hid (HQP.out t ht)
                  obtain ⟨a1, a2⟩ := HQ4.out.at' s0 s1
                  rw [← HD4.out] at a1 a2
                  have HP4 := Lib.hid (show qPart fs (Bfs.fl (Bfs.flags m.length l)) s d (t + 1) = if Bfs.fl fs (t : Int) then (if (Bfs.fl (Bfs.flags m.length l)) (t : Int) = true ∧ 0 ≤ Bfs.at' d' s ∧ Bfs.at' d' (t : Int) < 0 then d'.set t (Bfs.at' d' s + 1) else d') else d' by
                    rw [qPart, ← HD4.out]; unfold Per.qVisit; rw [Int.toNat_natCast])
                  have HOO := Lib.hid hO
                  have HOS := Lib.hid (hO.set (i := t) hlt4 (Bfs.at' d' s + 1))
                  have HGS := Lib.hid (grown_trans HG.out (grown_set wr g2 t (.int .i64 (Bfs.at' d' s + 1))))
                  obtain ⟨x, hx⟩ : ∃ x, x = Bfs.fl fs (t : Int) := ⟨_, rfl⟩
                  obtain ⟨y, hy⟩ : ∃ y, y = (Bfs.fl (Bfs.flags m.length l)) (t : Int) := ⟨_, rfl⟩
                  obtain ⟨a, ha⟩ : ∃ a, a = Bfs.at' d' s := ⟨_, rfl⟩
                  obtain ⟨b', hb'⟩ : ∃ b', b' = Bfs.at' d' (t : Int) := ⟨_, rfl⟩
                  rw [← hx] at r1 HP4
                  rw [← hy] at k1 HP4
                  rw [← ha] at k3 HP4 a1 a2 HOS HGS
                  rw [← hb'] at k5 HP4
                  clear hx hy ha hb' hO HD4 HQ4
                  cases x with
                  | false =>
                    have HE := Lib.hid (show d' = qPart fs (Bfs.fl (Bfs.flags m.length l)) s d (t + 1) by rw [HP4.out]; rfl)
                    clear HP4
                    go_wp2
                    exact ⟨⟨t + 1, d', by omega, by go_num, HG, HOO.out, HE⟩, by simp [intOf]; omega⟩
                  | true =>
                    cases y with
                    | false =>
                      have HE := Lib.hid (show d' = qPart fs (Bfs.fl (Bfs.flags m.length l)) s d (t + 1) by rw [HP4.out, if_pos rfl, if_neg (fun h => by cases h.1)])
                      clear HP4
                      go_wp2
                      exact ⟨⟨t + 1, d', by omega, by go_num, HG, HOO.out, HE⟩, by simp [intOf]; omega⟩
                    | true =>
                      by_cases ha : 0 ≤ a
                      · by_cases hb : b' < 0
                        · have HE := Lib.hid (show d'.set t (a + 1) = qPart fs (Bfs.fl (Bfs.flags m.length l)) s d (t + 1) by rw [HP4.out, if_pos rfl, if_pos ⟨rfl, ha, hb⟩])
                          clear HP4
                          go_wp2
                          exact ⟨⟨t + 1, _, by omega, by go_num, HGS, HOS.out, HE⟩, by simp [intOf]; omega⟩
                        · have HE := Lib.hid (show d' = qPart fs (Bfs.fl (Bfs.flags m.length l)) s d (t + 1) by rw [HP4.out, if_pos rfl, if_neg (fun h => hb h.2.2)])
                          clear HP4
                          go_wp2
                          exact ⟨⟨t + 1, d', by omega, by go_num, HG, HOO.out, HE⟩, by simp [intOf]; omega⟩
                      · have HE := Lib.hid (show d' = qPart fs (Bfs.fl (Bfs.flags m.length l)) s d (t + 1) by rw [HP4.out, if_pos rfl, if_neg (fun h => ha h.2.1)])
                        clear HP4
                        go_wp2
                        exact ⟨⟨t + 1, d', by omega, by go_num, HG, HOO.out, HE⟩, by simp [intOf]; omega⟩
                · obtain rfl : t = m.length := by omega
                  have HE := Lib.hid (show d' = (l.take (i + 1)).foldl (Per.qRow next (Bfs.fl (Bfs.flags m.length l))) (Per.qTo next (Bfs.fl (Bfs.flags m.length l)) l root K) by
                    rw [take_fold _ _ HS.out, ← HDD.out, HROW.out, HD4.out])
                  have HB4 := Lib.hid (HB3.out.grown HG.out (by omega) (fun k hk => by injection hk with hk; omega))
                  have HX4 := Lib.hid ((HG.out.block w.heap.size (by omega) (fun e => by injection e with e; omega)).trans HX3.out)
                  have HOF4 := Lib.hid (HOF3.out.kept (HG.out.block (w.heap.size + 1) (by omega) (fun e => by injection e with e; omega)))
                  have hs4 : g2 + 1 ≤ wr.heap.size := Nat.le_trans hs3 HG.out.size
                  clear hlt4 HD4
                  go_wp2
                  exact ⟨⟨i + 1, d', by omega, by go_num, HB4, hs4, HX4, HOF4, hO, HE⟩, by simp [intOf]; omega⟩
            · obtain rfl : i = l.length := by omega
              have HE := Lib.hid (show d = Per.qTo next (Bfs.fl (Bfs.flags m.length l)) l root (K + 1) by rw [HDD.out, List.take_length]; rfl)
              clear hlj HDD
              go_wp2
              exact ⟨⟨K + 1, d, by omega, by go_num, HBW, hsW, HXW, HOF, hO, HE⟩, by simp [intOf]; omega⟩
        · obtain rfl : K = l.length := by omega
          clear hlt
          have hqb : QB m.length d := by
            have h1 := QB.to HIN.out (p := (Bfs.fl (Bfs.flags m.length l))) (l := l) (root := root) (by rw [HNL.out]; exact ⟨r0, r1⟩) (by rw [HNL.out]; exact HI.out) l.length
            rw [← HDD.out, HNL.out] at h1
            exact h1
          have HQB := Lib.hid hqb
          have HRD := Lib.hid (show R = l.foldl (Per.gRow next (Bfs.fl (Bfs.flags m.length l)) d) 0 by
            rw [HR.out, HDD.out, HROOT.out]; unfold perRef Per.gAll; rw [HNL.out])
          have HO := Lib.hid hO
          clear hqb HDD hO
          obtain ⟨wo, rfl⟩ : ∃ wo : World, wo = wr := ⟨_, rfl⟩
          go_wp2
          go_loopw [12, 93] (fun v12 k W => ∃ (i : Nat) (g : Int), i ≤ l.length ∧ k = .int .i64 (i : Int) ∧ v12 = .int .i64 g ∧ 0 ≤ g ∧ g ≤ 100 ∧ Hid (Below w.heap.size w W) ∧ Hid (Below wo.heap.size wo W) ∧ Hid (g = (l.take i).foldl (Per.gRow next (Bfs.fl (Bfs.flags m.length l)) d) 0)) (fun _ k _ => l.length - (intOf k).toNat)
          case atStart => exact ⟨0, 0, Nat.zero_le _, rfl, rfl, by omega, by omega, HBW.out, Lib.hid (Below.refl _ _), Lib.hid rfl⟩
          case round =>
            obtain ⟨i, g, hi, rfl, rfl, g0, g1, HBI, HBO, HGG⟩ := hrel
            by_cases hlj : i < l.length
            · obtain ⟨s, hs⟩ : ∃ s, l[i]? = some s := ⟨_, List.getElem?_eq_getElem hlj⟩
              obtain ⟨s0, s1⟩ := HI.out s (List.mem_of_getElem? hs)
              have q1 := HCS.out _ HBI.out i _ hs
              obtain ⟨st, hst⟩ : ∃ st, m[s.toNat]? = some st := ⟨_, List.getElem?_eq_getElem (by omega)⟩
              have HS := Lib.hid hs
              have HST := Lib.hid hst
              have HXI := Lib.hid ((HBO.out.block w.heap.size (by omega)).trans HXW.out)
              obtain ⟨c0, -⟩ := blk_at HXI.out 0
              clear hs hst
              go_wp2_with fail
              refine (RNext_calls m s st _ D wr (hD.up HBI.out.size) (HM.out.same (hD.same HBI.out)) HF.out s0 s1 HST.out).mono ?_
              rintro e w3 ⟨v3, rfl, hb3, hn3⟩
              obtain ⟨fs, hfs⟩ : ∃ fs, fs = Bfs.flags m.length (targets st) := ⟨_, rfl⟩
              have hfl : fs.length = m.length := by rw [hfs, Bfs.flags_len]
              rw [← hfs] at hn3
              have HFS := Lib.hid hfs
              obtain ⟨N3, d3, rfl, n1, n2, -⟩ := hn3.form
              unfold maxLen at n2
              rw [hfl] at hn3 n1 ⊢
              have HFL := Lib.hid hfl
              have HN3 := Lib.hid hn3
              have HB3 := Lib.hid (HBI.out.trans (hb3.mono HBI.out.size))
              have HBO3 := Lib.hid (HBO.out.trans (hb3.mono HBO.out.size))
              have HO3 := Lib.hid (HO.out.below HBO3.out)
              have HOF3 := Lib.hid (HOF.out.below HBO3.out)
              have HROW := Lib.hid (show Per.gRow next (Bfs.fl (Bfs.flags m.length l)) d g s = gPart fs (Bfs.fl (Bfs.flags m.length l)) d s g m.length by
                rw [gPart_row, HFS.out, row_fold HF.out HST.out, ← HNX.out]; rfl)
              clear hb3 hn3 hfs hfl c0 q1 HBI HBO HXI
              go_wp2_with fail
              go_loopw [12, 101] (fun v12 k W => ∃ (t : Nat) (g' : Int), t ≤ m.length ∧ k = .int .i64 (t : Int) ∧ v12 = .int .i64 g' ∧ 0 ≤ g' ∧ g' ≤ 100 ∧ Hid (Drawn w3 W) ∧ Hid (g' = gPart fs (Bfs.fl (Bfs.flags m.length l)) d s g t)) (fun _ k _ => m.length - (intOf k).toNat)
              case atStart => exact ⟨0, g, Nat.zero_le _, rfl, rfl, g0, g1, Lib.hid (Drawn.refl _), Lib.hid rfl⟩
              case round =>
                obtain ⟨t, g', ht, rfl, rfl, g2', g3, HDR, HG4⟩ := hrel
                obtain ⟨nd, hnd⟩ := HDR.out
                subst hnd
                clear HDR
                by_cases hlt4 : t < m.length
                · obtain ⟨bf, rfl, r1⟩ := Fls.at HN3.out t _ (fl_some (by rw [HFL.out]; exact hlt4))
                  have r1' : (w3.drewN nd).cell? (bf.add t) = some (.bool (Bfs.fl fs (t : Int))) := r1
                  obtain ⟨k1, -⟩ := HOF3.out.cellAt (t := (t : Int)) (by omega) (by omega)
                  obtain ⟨k3, -⟩ := HO3.out.cellAt s0 s1
                  obtain ⟨k5, -⟩ := HO3.out.cellAt (t := (t : Int)) (by omega) (by omega)
                  rw [Int.toNat_natCast] at k1 k5
                  obtain ⟨a1, a2⟩ := HQB.out.at' s0 s1
                  obtain ⟨b1, b2⟩ := HQB.out.at' (t := (t : Int)) (by omega) (by omega)
                  have hbd := gStep_bd (p := (Bfs.fl (Bfs.flags m.length l))) HQB.out HLEN ⟨s0, s1⟩ (t := (t : Int)) (by omega) (g := g') ⟨g2', g3⟩
                  have HP4 := Lib.hid (show gPart fs (Bfs.fl (Bfs.flags m.length l)) d s g (t + 1) = if Bfs.fl fs (t : Int) then Per.gStep (Bfs.fl (Bfs.flags m.length l)) d s g' (t : Int) else g' by
                    rw [gPart, ← HG4.out])
                  have HBD := Lib.hid hbd
                  obtain ⟨G2, hG2⟩ : ∃ G2, G2 = Per.gStep (Bfs.fl (Bfs.flags m.length l)) d s g' (t : Int) := ⟨_, rfl⟩
                  have HGS := Lib.hid (show G2 = if (Bfs.fl (Bfs.flags m.length l)) (t : Int) = true then (Int.gcd g' (Bfs.at' d s + 1 - Bfs.at' d (t : Int)) : Int) else g' by rw [hG2]; rfl)
                  rw [← hG2] at HP4 HBD
                  clear hbd hG2
                  obtain ⟨x, hx⟩ : ∃ x, x = Bfs.fl fs (t : Int) := ⟨_, rfl⟩
                  obtain ⟨y, hy⟩ : ∃ y, y = (Bfs.fl (Bfs.flags m.length l)) (t : Int) := ⟨_, rfl⟩
                  obtain ⟨a, ha⟩ : ∃ a, a = Bfs.at' d s := ⟨_, rfl⟩
                  obtain ⟨b', hb'⟩ : ∃ b', b' = Bfs.at' d (t : Int) := ⟨_, rfl⟩
                  rw [← hx] at r1 r1' HP4
                  rw [← hy] at k1 HGS
                  rw [← ha] at k3 HGS a1 a2
                  rw [← hb'] at k5 HGS b1 b2
                  have k1' : (w3.drewN nd).cell? ⟨w.heap.size + 1, t, none⟩ = some (.bool y) := k1
                  have k3' : (w3.drewN nd).cell? ⟨g2, s.toNat, none⟩ = some (.int .i64 a) := k3
                  have k5' : (w3.drewN nd).cell? ⟨g2, t, none⟩ = some (.int .i64 b') := k5
                  clear hx hy ha hb'
                  cases x with
                  | false =>
                    have HE := Lib.hid (show g' = gPart fs (Bfs.fl (Bfs.flags m.length l)) d s g (t + 1) by rw [HP4.out]; rfl)
                    clear HP4
                    go_wp2
                    exact ⟨⟨t + 1, g', by omega, by go_num, rfl, g2', g3, Lib.hid ⟨nd, rfl⟩, HE⟩, by simp [intOf]; omega⟩
                  | true =>
                    cases y with
                    | false =>
                      have HE := Lib.hid (show g' = gPart fs (Bfs.fl (Bfs.flags m.length l)) d s g (t + 1) by rw [HP4.out, if_pos rfl, HGS.out, if_neg (by decide)])
                      clear HP4
                      go_wp2
                      exact ⟨⟨t + 1, g', by omega, by go_num, rfl, g2', g3, Lib.hid ⟨nd, rfl⟩, HE⟩, by simp [intOf]; omega⟩
                    | true =>
                      have HE := Lib.hid (show G2 = gPart fs (Bfs.fl (Bfs.flags m.length l)) d s g (t + 1) by rw [HP4.out, if_pos rfl])
                      have hgc : ∀ n, Calls Tryz.prog 122 #[.int .i64 g', .int .i64 (max (a + 1 - b') (b' - a - 1))] (w3.drewN (nd + n)) fun e w' => e = .returned (.int .i64 G2) ∧ ∃ m, w' = w3.drewN (nd + m) := fun n =>
                        (Rgcd5_calls g' (max (a + 1 - b') (b' - a - 1)) (w3.drewN (nd + n)) (by omega) (by omega) (by omega) (by omega)).mono fun _ _ ⟨he, k, hk⟩ => ⟨by rw [he, HGS.out, if_pos rfl, show b' - a - 1 = -(a + 1 - b') by omega, gcd_max], n + k, by rw [hk, World.drewN_drewN, Nat.add_assoc]⟩
                      have HGC := Lib.hid hgc
                      have hw1 : IntKind.i64.wrap (a + 1) = a + 1 := IntWalk.i64_in _ (by omega)
                      have hw2 : IntKind.i64.wrap (a + 1 - b') = a + 1 - b' := IntWalk.i64_in _ (by omega)
                      have hw3 : IntKind.i64.wrap (b' - a) = b' - a := IntWalk.i64_in _ (by omega)
                      have hw4 : IntKind.i64.wrap (b' - a - 1) = b' - a - 1 := IntWalk.i64_in _ (by omega)
                      clear HP4 hgc
                      go_wp2_with fail
                      go_quiet ((go_at_call 122; exact HGC.out _))
                      clear hw1 hw2 hw3 hw4
                      go_wp2
                      exact ⟨⟨t + 1, G2, by omega, by go_num, rfl, HBD.out.1, HBD.out.2, Lib.hid ⟨_, rfl⟩, HE⟩, by simp [intOf]; omega⟩
                · obtain rfl : t = m.length := by omega
                  have HE := Lib.hid (show g' = (l.take (i + 1)).foldl (Per.gRow next (Bfs.fl (Bfs.flags m.length l)) d) 0 by
                    rw [take_fold _ _ HS.out, ← HGG.out, HROW.out, HG4.out])
                  have HB4 := Lib.hid (below_drewN HB3.out nd)
                  have HBO4 := Lib.hid (below_drewN HBO3.out nd)
                  clear hlt4 HG4
                  go_wp2
                  exact ⟨⟨i + 1, g', by omega, by go_num, rfl, g2', g3, HB4, HBO4, HE⟩, by simp [intOf]; omega⟩
            · obtain rfl : i = l.length := by omega
              have HE := Lib.hid (show g = R by rw [HRD.out, HGG.out, List.take_length])
              clear hlj HGG
              go_wp2
              go_ret
              exact ⟨ret_int HE.out, HBI.out⟩
end Go.Proofs.YtoffbdlgmnpblaaGreat
