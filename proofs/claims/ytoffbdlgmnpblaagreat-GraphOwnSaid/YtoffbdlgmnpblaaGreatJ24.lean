/- Part 24 of 55: Gr5. -/
import Derived.Test.YtoffbdlgmnpblaaGreatJ23
import Derived.Deep.LoopGhost

/- Package graph: lengths of shortest paths. -/
namespace Go.Proofs.YtoffbdlgmnpblaaGreat
open Go.RowKit
set_option maxHeartbeats 4000000
set_option maxRecDepth 100000

/-- the call's own list of n numbers -/
def OwnInts (W : World) (B g n : Nat) (d : List Int) : Prop := W.ownsRow B 3 1 (.slice (some ⟨g, 0, none⟩) n n) n (ints d)
theorem ints_set (d : List Int) (i : Nat) (y : Int) : (ints d).set i (.int .i64 y) = ints (d.set i y) := by simp [ints, List.map_set]
section
variable {W W' : World} {B g n : Nat} {d : List Int}
theorem OwnInts.len (h : OwnInts W B g n d) : d.length = n := by have := h.1; simpa using this
theorem OwnInts.cell (h : OwnInts W B g n d) {i : Nat} {x : Int} (hx : d[i]? = some x) : W.cell? ⟨g, i, none⟩ = some (.int .i64 x) ∧ W.frozen? ⟨g, i, none⟩ = false := own_cell h i _ (by simp [hx])
theorem OwnInts.cellAt (h : OwnInts W B g n d) {t : Int} (h0 : 0 ≤ t) (h1 : t < (n : Int)) : W.cell? ⟨g, t.toNat, none⟩ = some (.int .i64 (Bfs.at' d t)) ∧ W.frozen? ⟨g, t.toNat, none⟩ = false := h.cell (Bfs.at_get h0 (by rw [h.len]; exact h1))
theorem OwnInts.set (h : OwnInts W B g n d) {i : Nat} (hi : i < n) (y : Int) : OwnInts (W.setCell ⟨g, i, none⟩ (.int .i64 y)) B g n (d.set i y) := by
  have := own_set h i hi (.int .i64 y)
  rw [ints_set] at this
  exact this
theorem OwnInts.lt (h : OwnInts W B g n d) : B ≤ g ∧ g < W.heap.size := World.ownsRow.lt h g rfl
theorem OwnInts.kept (h : OwnInts W B g n d) (hb : W'.heap[g]? = W.heap[g]?) : OwnInts W' B g n d := by
  obtain ⟨h1, h2⟩ := h
  refine ⟨h1, ?_⟩
  rcases h2 with h2 | ⟨k, cap, cur, hvk, hbk, hck, h5⟩
  · exact .inl h2
  · cases hvk
    exact .inr ⟨g, _, cur, rfl, hbk, hb.trans hck, h5⟩
theorem OwnInts.below (h : OwnInts W B g n d) (hb : Below W.heap.size W W') : OwnInts W' B g n d := h.kept (hb.block g h.lt.2)
theorem OwnInts.grown {row : Option Nat} (h : OwnInts W B g n d) (hg : W.grownBy W' row) (hne : some g ≠ row) : OwnInts W' B g n d := h.kept (hg.block g h.lt.2 hne)
end
theorem QOwn.set {W : World} {B : Nat} {v : Value} {q : List Int} (h : QOwn W B v q) {p : Addr} (hp : p.block < B) (u : Value) : QOwn (W.setCell p u) B v q := h.kept fun k hk => Below.heap_setCell W p u k (by have := (h.lt k hk).1; omega)
theorem QOwn.grown {W W' : World} {B : Nat} {v : Value} {q : List Int} (h : QOwn W B v q) (hb : Below W.heap.size W W') : QOwn W' B v q := h.below hb
theorem QOwn.mono {W : World} {B B' : Nat} {v : Value} {q : List Int} (h : QOwn W B v q) (hB : B' ≤ B) : QOwn W B' v q := by
  rcases h with h | ⟨g, off, cap, cur, e, hb, h4⟩
  · exact .inl h
  · exact .inr ⟨g, off, cap, cur, e, by omega, h4⟩

theorem QOwn.nil_form {W : World} {B : Nat} {v : Value} (h : QOwn W B v []) : ∃ A cap, v = .slice A 0 cap := by
  rcases h with ⟨rfl, -⟩ | ⟨g, off, cap, cur, rfl, -⟩
  · exact ⟨_, _, rfl⟩
  · exact ⟨_, _, rfl⟩
theorem OwnInts.sl {W : World} {B g n : Nat} {d : List Int} (h : OwnInts W B g n d) : Sl (Kind.int .i64) W (fun b => B ≤ b ∧ b < W.heap.size ∧ Soft W b) (.slice (some ⟨g, 0, none⟩) n n) d := by
  have hl := h.len
  subst hl
  exact own_intsS h
theorem fold_take_succ {xs : List Int} {i : Nat} {t : Int} (ht : xs[i]? = some t) (s : Int) (p : List Int × List Int) : (xs.take (i + 1)).foldl (Bfs.visit s) p = Bfs.visit s ((xs.take i).foldl (Bfs.visit s) p) t := by
  rw [List.take_add_one, ht, List.foldl_append]; rfl

/-- numbers that came in, in each later world -/
theorem Ints.up {w : World} {D : Nat → Prop} {A : Option Addr} {n c : Nat} {xs : List Int} (h : Sl (Kind.int .i64) w D (.slice A n c) xs) (hD : Lo D w) :
    Hid (0 < xs.length → ∃ bd, A = some bd ∧ D bd.block ∧ ∀ W, Below w.heap.size w W → ∀ j x, xs[j]? = some x → W.cell? (bd.add j) = some (.int .i64 x)) := by
  have : 0 < xs.length → ∃ bd, A = some bd ∧ D bd.block ∧ ∀ W, Below w.heap.size w W → ∀ j x, xs[j]? = some x → W.cell? (bd.add j) = some (.int .i64 x) := by
    intro hp
    obtain ⟨A', c', e, k1, k2, k3⟩ := h.ints
    injection e with e1 e2 e3
    subst e1
    obtain ⟨bd, e1, hbd, hc⟩ := k3 hp
    refine ⟨bd, e1, hbd, fun W hb j x hj => ?_⟩
    have := hc j (List.getElem?_eq_some_iff.1 hj).1
    rw [Dig.gd_of hj] at this
    exact (hb.cell (p := bd.add j) (by rw [block_of_add]; exact hD _ hbd)).trans this
  exact this

theorem Depths_calls (xss : List (List Int)) (l : List Int) (v u : Value) (D : Nat → Prop) (w : World) (hD : Lo D w) (h : Rows2 w D v xss) (hl : Sl (Kind.int .i64) w D u l) (he : Edges xss) (hm : ∀ s ∈ l, 0 ≤ s ∧ s < (xss.length : Int)) (hll : l.length ≤ 100) :
    Calls Tryz.prog 79 #[v, u] w fun e w' => ∃ v', e = .returned v' ∧ Below w.heap.size w w' ∧ Sl (Kind.int .i64) w' (nws w w') v' (Bfs.depths xss l) := by
  obtain ⟨A, c, rfl, h1, h2, -⟩ := h.form
  obtain ⟨B, b, rfl, l1, l2, -⟩ := hl.form
  have hlen := he.len
  unfold maxLen at h2 l2
  have HU := Ints.up hl hD
  have H := Lib.hid h
  have HL := Lib.hid hl
  have HE := Lib.hid he
  have HM := Lib.hid hm
  clear h he hl hm
  go_enter Tryz.func79, Tryz.ntmps79
  go_wp2_with (refine wpList_mk1 elem_i64 rfl _ _ rfl (by intro cs h; cases h) w.heap.size _ _ (xss.length : Int) (xss.length : Int) rfl rfl (by omega) (by omega) (by omega) (by omega) (by simp) ?_; intro w1 hown hb1 hz1 hcells)
  have hown' : OwnInts w1 w.heap.size w.heap.size xss.length (List.replicate xss.length 0) := by simpa [OwnInts, ints] using hown
  clear hown hcells
  go_loopw [18] (fun k W => ∃ (j : Nat) (d : List Int), j ≤ xss.length ∧ k = .int .i64 (j : Int) ∧ Below w.heap.size w W ∧ w.heap.size + 1 ≤ W.heap.size ∧ OwnInts W w.heap.size w.heap.size xss.length d ∧ Hid (d = List.replicate j (-1) ++ List.replicate (xss.length - j) 0)) (fun k _ => xss.length - (intOf k).toNat)
  case atStart => exact ⟨0, _, Nat.zero_le _, rfl, hb1, by omega, hown', (by simp : List.replicate xss.length (0 : Int) = List.replicate 0 (-1) ++ List.replicate (xss.length - 0) 0)⟩
  case round =>
    obtain ⟨j, d, hj, rfl, hBW, hsW, hO, HDD⟩ := hrel
    clear hown' hb1 hz1
    by_cases hlt : j < xss.length
    · obtain ⟨k1, k2⟩ := hO.cell (i := j) (x := 0) (by rw [HDD.out, List.getElem?_append_right (by simp), List.length_replicate, Nat.sub_self, List.getElem?_replicate, if_pos (by omega)])
      go_wp2
      refine ⟨⟨j + 1, d.set j (-1), by omega, by go_num, hBW.setCell (by simp) _, by simpa [World.setCell] using hsW, hO.set hlt _, ?_⟩, by simp [intOf]; omega⟩
      have : d.set j (-1) = List.replicate (j + 1) (-1) ++ List.replicate (xss.length - (j + 1)) 0 := by
        rw [HDD.out, List.set_append_right _ _ (by simp)]
        have e : xss.length - j = (xss.length - (j + 1)) + 1 := by omega
        rw [e, List.replicate_succ (n := xss.length - (j + 1)), List.length_replicate, Nat.sub_self, List.set_cons_zero, List.replicate_succ' (n := j)]
        simp
      exact this
    · obtain rfl : j = xss.length := by omega
      have hd : d = List.replicate xss.length (-1) := by rw [HDD.out]; simp
      subst hd
      clear hlt HDD
      have hul := HL.out.same (hD.same hBW)
      have HUL := Lib.hid hul
      clear hul
      go_wp2_with fail
      refine (Clone_calls l _ D _ HUL.out (by omega)).mono ?_
      rintro e w2 ⟨qv, rfl, hq, hb2⟩
      have hQ : QOwn w2 (w.heap.size + 1) qv l := (QOwn.of_own hq).mono (by omega)
      have hO := hO.below hb2
      have hBW := hBW.trans (hb2.mono hBW.size)
      have hsW := Nat.le_trans hsW hb2.size
      clear hq hb2
      have hM0 := Lib.hid (show List.replicate xss.length (-1) = Bfs.marked xss.length (l.take 0) by simp [Bfs.marked])
      go_wp2
      go_loopw [29] (fun k W => ∃ (j : Nat) (d : List Int), j ≤ l.length ∧ k = .int .i64 (j : Int) ∧ Below w.heap.size w W ∧ w.heap.size + 1 ≤ W.heap.size ∧ OwnInts W w.heap.size w.heap.size xss.length d ∧ QOwn W (w.heap.size + 1) qv l ∧ Hid (d = Bfs.marked xss.length (l.take j))) (fun k _ => l.length - (intOf k).toNat)
      case atStart => exact ⟨0, _, Nat.zero_le _, rfl, hBW, hsW, hO, hQ, hM0.out⟩
      case round =>
        clear hBW hsW hO hQ hM0
        obtain ⟨j, d, hj, rfl, hBW, hsW, hO, hQ, HDD⟩ := hrel
        by_cases hlt : j < l.length
        · obtain ⟨t, ht⟩ : ∃ t, l[j]? = some t := ⟨_, List.getElem?_eq_getElem hlt⟩
          obtain ⟨t1, t2⟩ := HM.out t (List.mem_of_getElem? ht)
          obtain ⟨bd, rfl, hDb, hcs⟩ := HU.out (by omega)
          have q1 := hcs _ hBW j _ ht
          obtain ⟨k1, k2⟩ := hO.cellAt t1 t2
          have hTT := Lib.hid ht
          clear hcs ht
          go_wp2
          refine ⟨⟨j + 1, d.set t.toNat 0, by omega, by go_num, hBW.setCell (by simp) _, by simpa [World.setCell] using hsW, hO.set (by omega) _, hQ.set (by simp) _, ?_⟩, by simp [intOf]; omega⟩
          have : d.set t.toNat 0 = Bfs.marked xss.length (l.take (j + 1)) := by
            rw [List.take_add_one, hTT.out, Option.toList_some, Bfs.marked_snoc, ← HDD.out]
          exact this
        · obtain rfl : j = l.length := by omega
          have hdm : d = Bfs.marked xss.length l := by rw [HDD.out, List.take_length]
          subst hdm
          clear hlt HDD
          have hinv := Bfs.marked_inv xss.length l HM.out
          go_wp2
          go_loopg [7] (l.length + Bfs.neg (Bfs.marked xss.length l)) (fun k qv W => ∃ (d q : List Int), k ≤ 140 ∧ Hid (k = q.length + Bfs.neg d) ∧ Below w.heap.size w W ∧ w.heap.size + 1 ≤ W.heap.size ∧ OwnInts W w.heap.size w.heap.size xss.length d ∧ QOwn W (w.heap.size + 1) qv q ∧ Bfs.Inv xss.length d q ∧ Hid (Bfs.depths xss l = Bfs.run xss d q))
          case atStart => exact ⟨_, _, by have : Bfs.neg (Bfs.marked xss.length l) ≤ (Bfs.marked xss.length l).length := List.countP_le_length; rw [Bfs.marked_len] at this; omega, rfl, hBW, hsW, hO, hQ, hinv, rfl⟩
          case round =>
            clear hBW hsW hO hQ hinv
            obtain ⟨d, q, hk140, HK, hBW, hsW, hO, hQ, hinv, HR⟩ := hrel
            cases q with
            | nil =>
              obtain ⟨qA, qc, rfl⟩ := hQ.nil_form
              have HD := Lib.hid (show d = Bfs.depths xss l by rw [HR.out, Bfs.run_nil])
              go_wp2
              go_ret
              refine ⟨_, rfl, hBW, ?_⟩
              rw [← HD.out]
              exact hO.sl
            | cons s q =>
              obtain ⟨g, off, cap, rfl, hc1, hc2⟩ := hQ.form
              obtain ⟨s1, s2, s3⟩ := hinv.que s (List.mem_cons_self ..)
              obtain ⟨xs, hx⟩ : ∃ xs, xss[s.toNat]? = some xs := ⟨_, List.getElem?_eq_getElem (by omega)⟩
              obtain ⟨ad, C, e, rfl, hDa, Q0, hd1, hd2, HC⟩ := H.out.row_up hD s.toNat xs hx
              have q0 := Q0.out _ hBW
              have hxm : xs ∈ xss := List.mem_of_getElem? hx
              have h64 := HE.out.row xs hxm
              have HT := Lib.hid (HE.out.ins xs hxm)
              have hrow : Bfs.row xss s = xs := by unfold Bfs.row; rw [List.getD_eq_getElem?_getD, hx]; rfl
              have HR2 := Lib.hid (show Bfs.depths xss l = Bfs.run xss (xs.foldl (Bfs.visit s) (d, q)).1 (xs.foldl (Bfs.visit s) (d, q)).2 by
                rw [HR.out, Bfs.run_cons hinv (by rw [hrow]; exact HT.out), hrow])
              have hq : Bfs.Inv xss.length d q := ⟨hinv.len, hinv.bnd, fun u hu => hinv.que u (List.mem_cons_of_mem _ hu)⟩
              have HKK := Lib.hid (show gk = (q.length + Bfs.neg d) + 1 by rw [HK.out]; simp; omega)
              have hhead := hQ.head
              unfold maxLen at hd2 hc2
              have hcap : cap = 1 ∨ 2 ≤ cap := by omega
              have hqv : ∃ qv', QOwn wr (w.heap.size + 1) qv' q ∧ qv' = (if cap = 1 then .slice (some ⟨g, off, none⟩) q.length 0 else .slice (some ⟨g, off + 1, none⟩) q.length (cap - 1)) := by
                refine ⟨_, ?_, rfl⟩
                split
                · rename_i e1; subst e1; exact hQ.tail1.2
                · exact hQ.tail
              obtain ⟨qv', hQ', hqv⟩ := hqv
              clear hx hrow hinv HR HK hQ
              rcases hcap with rfl | hcap
              all_goals
                first | rw [if_pos rfl] at hqv | rw [if_neg (by omega)] at hqv
                have HQV := Lib.hid hqv
                clear hqv
                go_wp2
                rw [← HQV.out]
                go_loopw [7, 50] (fun qv k W => ∃ (i : Nat) (d' q' : List Int), i ≤ xs.length ∧ k = .int .i64 (i : Int) ∧ Below w.heap.size w W ∧ w.heap.size + 1 ≤ W.heap.size ∧ OwnInts W w.heap.size w.heap.size xss.length d' ∧ QOwn W (w.heap.size + 1) qv q' ∧ Bfs.Inv xss.length d' q' ∧ 0 ≤ Bfs.at' d' s ∧ Hid (q'.length + Bfs.neg d' = q.length + Bfs.neg d) ∧ Hid ((d', q') = (xs.take i).foldl (Bfs.visit s) (d, q))) (fun _ k _ => xs.length - (intOf k).toNat)
                case atStart => exact ⟨0, _, _, Nat.zero_le _, rfl, hBW, hsW, hO, hQ', hq, s3, rfl, rfl⟩
                case round =>
                  clear hBW hsW hO hQ' hq s3 q0 hhead
                  obtain ⟨i, d', q', hi, rfl, hBW, hsW, hO, hQ, hq, s3, hql, HF⟩ := hrel
                  by_cases hlt : i < xs.length
                  · obtain ⟨t, ht⟩ : ∃ t, xs[i]? = some t := ⟨_, List.getElem?_eq_getElem hlt⟩
                    obtain ⟨t1, t2⟩ := HT.out t (List.mem_of_getElem? ht)
                    obtain ⟨bd, rfl, hDb, hcs⟩ := HC.out (by omega)
                    have q1 := hcs _ hBW i _ ht
                    obtain ⟨k1, k2⟩ := hO.cellAt t1 t2
                    obtain ⟨j1, j2⟩ := hO.cellAt s1 s2
                    have hTT := Lib.hid ht
                    have hq140 : q'.length ≤ 140 := by have := hql.out; have := HKK.out; omega
                    have hstep := Lib.hid (fold_take_succ ht s (d, q))
                    have hbn := hq.bnd _ (Bfs.at_mem (d := d') s1 (by rw [hq.len]; exact s2))
                    obtain ⟨b1, b2⟩ := hbn
                    have hV := Bfs.visit_inv hq ⟨s1, s2, s3⟩ ⟨t1, t2⟩
                    have HV := Lib.hid hV
                    clear hcs ht hV
                    by_cases hneg : Bfs.at' d' t < 0
                    · have HVI := Lib.hid (show Bfs.visit s (d', q') t = (d'.set t.toNat (Bfs.at' d' s + 1), q' ++ [t]) by unfold Bfs.visit; rw [if_pos hneg])
                      have hO2 := hO.set (i := t.toNat) (by omega) (Bfs.at' d' s + 1)
                      have hQ2 := hQ.set (p := ⟨w.heap.size, t.toNat, none⟩) (by simp) (.int .i64 (Bfs.at' d' s + 1))
                      have hB2 := hBW.setCell (p := ⟨w.heap.size, t.toNat, none⟩) (by simp) (.int .i64 (Bfs.at' d' s + 1))
                      have hs2 : w.heap.size + 1 ≤ (wr.setCell ⟨w.heap.size, t.toNat, none⟩ (.int .i64 (Bfs.at' d' s + 1))).heap.size := by simpa [World.setCell] using hsW
                      have HN := Lib.hid (box_cells (wr.setCell ⟨w.heap.size, t.toNat, none⟩ (.int .i64 (Bfs.at' d' s + 1))) wr.heap.size (by simp) #[.int .i64 t] 3 0).1
                      go_wp2_with (at_builtin; refine wpList_qapp rfl _ _ rfl (w.heap.size + 1) _ q' rfl (hQ2.below ((Below.refl _ _).alloc (Nat.le_refl _) _)) ⟨_, 0, none⟩ 1 t rfl HN.out (by omega) (Nat.le_trans hs2 (by simp)) ?_; intro qv3 w3 hQ3 hg3 ha3)
                      have hV := HV.out
                      rw [HVI.out] at hV
                      obtain ⟨v1, v2, v3⟩ := hV
                      refine ⟨⟨i + 1, d'.set t.toNat (Bfs.at' d' s + 1), q' ++ [t], by omega, by go_num, (hB2.alloc (by omega) _).grown hg3 (by simp only [World.size_alloc]; omega) ?_, ?_, ?_, hQ3, v1, v3 s s1 s3, v2.trans hql.out, (by rw [hstep.out, ← HF.out, HVI.out] : (d'.set t.toNat (Bfs.at' d' s + 1), q' ++ [t]) = (xs.take (i + 1)).foldl (Bfs.visit s) (d, q))⟩, by simp [intOf]; omega⟩
                      · intro k hk
                        have := (hQ2.lt k hk).1
                        omega
                      · have := hg3.size
                        simp only [World.size_alloc] at this
                        omega
                      · refine (hO2.below ((Below.refl _ _).alloc (Nat.le_refl _) _)).grown hg3 ?_
                        intro e
                        have := (hQ2.lt _ e.symm).1
                        omega
                    · have HVI := Lib.hid (show Bfs.visit s (d', q') t = (d', q') by unfold Bfs.visit; rw [if_neg hneg])
                      have hneg' : 0 ≤ Bfs.at' d' t := by omega
                      clear hneg
                      go_wp2
                      exact ⟨⟨i + 1, d', q', by omega, by go_num, hBW, hsW, hO, hQ, hq, s3, hql, (by rw [hstep.out, ← HF.out, HVI.out] : (d', q') = (xs.take (i + 1)).foldl (Bfs.visit s) (d, q))⟩, by simp [intOf]; omega⟩
                  · obtain rfl : i = xs.length := by omega
                    clear hlt
                    have hfin : (d', q') = xs.foldl (Bfs.visit s) (d, q) := by rw [HF.out, List.take_length]
                    have HFI := Lib.hid hfin
                    clear hfin
                    go_wp2
                    go_roundg (q'.length + Bfs.neg d')
                    case measure => have := hql.out; have := HKK.out; omega
                    case rel => exact ⟨d', q', by have := hql.out; have := HKK.out; omega, rfl, hBW, hsW, hO, hQ, hq, (by rw [HR2.out, ← HFI.out] : Bfs.depths xss l = Bfs.run xss d' q')⟩

end Go.Proofs.YtoffbdlgmnpblaaGreat
