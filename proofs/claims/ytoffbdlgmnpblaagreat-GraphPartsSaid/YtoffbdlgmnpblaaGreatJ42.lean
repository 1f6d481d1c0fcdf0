/- Part 42: Rf28 Rf29 Rf30. -/
import Derived.Test.YtoffbdlgmnpblaaGreatJ39
import Derived.Test.YtoffbdlgmnpblaaGreatJ41
import Derived.Test.YtoffbdlgmnpblaaGreatJ22

/- The reference's components. -/
namespace Go.Proofs.YtoffbdlgmnpblaaGreat
open Go.RowKit
set_option maxHeartbeats 4000000
set_option maxRecDepth 100000

section
variable {o : Oper} {ρ : Operand → Value} {w : World} {R : Value → World → Prop}
theorem rt_loadM {x : Operand} {b : Nat} {u : Value} (ho : o.op = .load 24 x) (hx : ρ x = .pointer (some ⟨b, 0, none⟩)) (hc : w.cell? ⟨b, 0, none⟩ = some u) (h : R (.agg #[u]) w) : StepR Tryz.prog o ρ w R := by
  have hr : (Instr.loadAt 24 (.pointer (some ⟨b, 0, none⟩))).run Tryz.prog w = .ok (.agg #[u]) w := by
    go_simp
  unfold StepR execOp
  simp only [ho, hx, Sem.run_bind, hr, Sem.run_pure, Result.andThen_ok]
  exact h
theorem rt_one {x : Operand} {i : Int} (ho : o.op = .buildSlice 31 1 #[(0, x)]) (hx : ρ x = .int .i64 i) (h : R (.slice (some ⟨w.heap.size, 0, none⟩) 1 1) (w.alloc (.cells #[.int .i64 i] 3))) : StepR Tryz.prog o ρ w R := by
  unfold StepR execOp
  simp only [ho, hx, List.map_toArray, List.map_cons, List.map_nil]
  go_simp
  exact h
end
theorem enter_rReached : ∀ args w, (callFunc 82 args).run Tryz.prog w = .ok (.enter 82 args) w := enter_of Tryz.func82 (by kernel_rfl) (by kernel_rfl)
theorem enter_rBack : ∀ args w, (callFunc 83 args).run Tryz.prog w = .ok (.enter 83 args) w := enter_of Tryz.func83 (by kernel_rfl) (by kernel_rfl)
/-- a list of one number in a block of its own -/
def OneAt (B : Nat) (W : World) (v : Value) (s : Int) : Prop := ∃ b, v = .slice (some ⟨b, 0, none⟩) 1 1 ∧ B ≤ b ∧ W.heap[b]? = some (.cells #[.int .i64 s] 3 (0, 0))
theorem OneAt.sl {B : Nat} {W : World} {v : Value} {s : Int} (h : OneAt B W v s) : Sl (Kind.int .i64) W (fun k => B ≤ k ∧ k < W.heap.size) v [s] := by
  obtain ⟨b, rfl, hb, hc⟩ := h
  refine Sl.of_ints (xs := [s]) (Nat.le_refl _) (by decide) fun _ => ⟨⟨b, 0, none⟩, rfl, ⟨hb, (Array.getElem?_eq_some_iff.1 hc).1⟩, fun i hi => ?_⟩
  have e : i = 0 := by simpa using hi
  subst e
  have := (blk_at hc 0).1
  simpa [Addr.add, Dig.gd] using this
/-- what the region of a component leaves -/
def PhiC (B : Nat) (mv : Value) (next : List (List Int)) (s : Int) : Nat → Value → World → Prop
  | 0, v, _ => v = .agg #[mv]
  | 1, v, _ => v = .int .i64 s
  | 2, v, W => OneAt B W v s
  | 3, v, W => Sl Kind.bool W (fun k => B ≤ k ∧ k < W.heap.size) v (Bfs.reached next [s])
  | 4, v, _ => v = .agg #[mv]
  | 5, v, _ => v = .int .i64 s
  | 6, v, W => OneAt B W v s
  | 7, v, W => Sl Kind.bool W (fun k => B ≤ k ∧ k < W.heap.size) v ((Bfs.ways next [s]).map fun x => decide (0 ≤ x))
  | 8, v, W => Sl Kind.bool W (fun k => B ≤ k ∧ k < W.heap.size) v (Bfs.reached next [s])
  | 9, v, W => Sl Kind.bool W (fun k => B ≤ k ∧ k < W.heap.size) v ((Bfs.ways next [s]).map fun x => decide (0 ≤ x))
  | _, _, _ => True
theorem PhiC.firm (B : Nat) (mv : Value) (next : List (List Int)) (s : Int) : FirmB B [] (PhiC B mv next s) := by
  intro j v W W' h hs hs2 hk
  have hk : ∀ k, k < W.heap.size → W'.heap[k]? = W.heap[k]? := fun k h => hk k h fun x hx => by cases hx
  have hone : OneAt B W v s → OneAt B W' v s := fun ⟨b, e, hb, hc⟩ => ⟨b, e, hb, (hk b (Array.getElem?_eq_some_iff.1 hc).1).trans hc⟩
  have hfl : ∀ {f : List Bool}, Sl Kind.bool W (fun k => B ≤ k ∧ k < W.heap.size) v f → Sl Kind.bool W' (fun k => B ≤ k ∧ k < W'.heap.size) v f := fun h => (h.same fun k hk2 => hk k hk2.2).mono fun k hk2 => ⟨hk2.1, Nat.lt_of_lt_of_le hk2.2 hs2⟩
  match j, h with
  | 0, h => exact h
  | 1, h => exact h
  | 2, h => exact hone h
  | 3, h => exact hfl h
  | 4, h => exact h
  | 5, h => exact h
  | 6, h => exact hone h
  | 7, h => exact hfl h
  | 8, h => exact hfl h
  | 9, h => exact hfl h
  | j + 10, _ => trivial
/-- a row is appended that lies elsewhere -/
theorem RowsC.snoc2 {w3 w5 : World} {B : Nat} {v v3 v5 : Value} {ps : List (Value × List Int)} {xs : List Int} {ob : Obj} (h : RowsC w3 B v ps)
    (ho3 : w3.ownsRow B 3 1 v3 xs.length (ints xs)) (hk3 : ∀ k, v3.ownBlock = some k → v.ownBlock ≠ some k)
    (hg5 : (w3.alloc ob).grownBy w5 v.ownBlock) (ho5 : w5.ownsRow B 31 1 v5 (ps.length + 1) (ps.map (·.1) ++ [v3])) (ha5 : v5.ownBlock = v.ownBlock ∨ v5.ownBlock = some (w3.alloc ob).heap.size) :
    RowsC w5 B v5 (ps ++ [(v3, xs)]) := by
  have hz : (w3.alloc ob).heap.size = w3.heap.size + 1 := by simp
  refine ⟨by rw [List.length_append, List.map_append]; exact ho5, fun p hp => ?_⟩
  have key : ∀ (u : Value) (ys : List Int), w3.ownsRow B 3 1 u ys.length (ints ys) → (∀ k, u.ownBlock = some k → v.ownBlock ≠ some k) → w5.ownsRow B 3 1 u ys.length (ints ys) ∧ ∀ k, u.ownBlock = some k → v5.ownBlock ≠ some k := by
    intro u ys h1 h2
    refine ⟨own_kept h1 fun k hk => ?_, fun k hk e => ?_⟩
    · have hlt := (h1.lt k hk).2
      rw [hg5.block k (by omega) (fun e => h2 k hk e.symm), heap_alloc_old _ _ (by omega)]
    · have hlt := (h1.lt k hk).2
      rcases ha5 with ha | ha
      · exact h2 k hk (ha ▸ e)
      · rw [ha] at e; injection e with e; omega
  rcases List.mem_append.1 hp with hp | hp
  · obtain ⟨h1, h2⟩ := h.row p hp
    exact key _ _ h1 h2
  · rw [List.mem_singleton] at hp
    subst hp
    exact key _ _ ho3 hk3
end Go.Proofs.YtoffbdlgmnpblaaGreat

/- The reference's components: the walk. -/
namespace Go.Proofs.YtoffbdlgmnpblaaGreat
open Go.RowKit
set_option maxHeartbeats 8000000
set_option maxRecDepth 100000

theorem Fls.at {W : World} {D : Nat → Prop} {A : Option Addr} {n c : Nat} {f : List Bool} (h : Sl Kind.bool W D (.slice A n c) f) (i : Nat) (x : Bool) (hx : f[i]? = some x) : ∃ bd, A = some bd ∧ W.cell? (bd.add i) = some (.bool x) := by
  obtain ⟨A', c', e, h1, h2, h3⟩ := h
  injection e with e1 e2 e3
  subst e1 e3
  obtain ⟨ad, cs, ea, hd, hr, ha⟩ := h3 i x hx
  have hr : cs = [.bool x] := hr
  subst hr
  have := ha 0 (.bool x) rfl
  rw [add_of_add] at this
  have e : ad.add (i * Kind.bool.sz + 0) = ad.add i := by show ad.add (i * 1 + 0) = _; rw [Nat.mul_one, Nat.add_zero]
  rw [e] at this
  exact ⟨ad, ea, this⟩
theorem fl_some {f : List Bool} {i : Nat} (h : i < f.length) : f[i]? = some (Bfs.fl f (i : Int)) := by
  have := Bfs.fl_get (f := f) (t := (i : Int)) (by omega) (by omega)
  rwa [Int.toNat_natCast] at this
/-- whether a state is in the component of s -/
def cnd (next : List (List Int)) (s t : Int) : Bool := Bfs.fl (Bfs.reached next [s]) t && Bfs.fl ((Bfs.ways next [s]).map fun x => decide (0 ≤ x)) t
theorem markedBy_cnd {next : List (List Int)} {s : Int} : markedBy next.length (cnd next s) = Tar.partAt next s := by
  unfold Tar.partAt
  rw [markedBy_states]
  refine List.filter_congr fun x hx => ?_
  have := Tar.mem_states.1 hx
  unfold cnd
  rw [fl_map_ways this.1 (by rw [Bfs.ways_len]; exact this.2)]
def setAll (l : List Int) (f : List Bool) : List Bool := l.foldl (fun f t => f.set t.toNat true) f
theorem setAll_snoc (l : List Int) (t : Int) (f : List Bool) : setAll (l ++ [t]) f = (setAll l f).set t.toNat true := by unfold setAll; rw [List.foldl_append]; rfl

theorem RParts_calls (m : List St) (v : Value) (D : Nat → Prop) (w : World) (hD : Lo D w) (h : ModelC w D v m) (hf : Fine m) :
    Calls Tryz.prog 69 #[v] w fun e w' => ∃ v' ps, e = .returned v' ∧ Below w.heap.size w w' ∧ RowsC w' (w.heap.size + 2) v' ps ∧ ps.map (·.2) = Tar.parts (m.map nextOf) := by
  obtain ⟨mv, rfl, hmm⟩ := h
  have HM : Hid (ModelC w D (.agg #[mv]) m) := ⟨mv, rfl, hmm⟩
  obtain ⟨A, c, rfl, h1, h2, -⟩ := hmm.form
  unfold maxLen at h2
  have HLEN := hf.len
  have HF := Lib.hid hf
  have HD := Lib.hid hD
  obtain ⟨next, hnx⟩ : ∃ next, next = m.map nextOf := ⟨_, rfl⟩
  have hnl : next.length = m.length := by rw [hnx, List.length_map]
  rw [← hnx]
  have HNX := Lib.hid hnx
  have HNL := Lib.hid hnl
  clear hmm hf hnx hnl hD
  have HX0 := Lib.hid (heap_alloc_new w (.cells #[.slice A m.length c] 24))
  have HB0 := Lib.hid ((Below.refl w.heap.size w).alloc (Nat.le_refl _) (.cells #[.slice A m.length c] 24))
  go_enter Tryz.func69, Tryz.ntmps69
  go_upto_region 2 with (refine wpList_mk1 elem_bool rfl _ _ rfl (by intro cs h; cases h) (w.heap.size + 1) _ _ (m.length : Int) (m.length : Int) rfl rfl (by omega) (by omega) (by omega) (by omega) (by simp) ?_; intro w1 hown hb1 hz1 hcells)
  have hown' : OwnFl w1 (w.heap.size + 1) (w.heap.size + 1) m.length (List.replicate m.length false) := by simpa [OwnFl, bls] using hown
  have HB1 := Lib.hid (HB0.out.trans (hb1.mono (by simp)))
  have hz2 : w.heap.size + 2 ≤ w1.heap.size := by rw [hz1]; simp
  have HX1 := Lib.hid ((hb1.block w.heap.size (by simp)).trans HX0.out)
  have HP0 := Lib.hid (show Tar.pTo next 0 = (List.replicate m.length false, []) by rw [← HNL.out]; rfl)
  clear hown hcells hb1 hz1 HB0 HX0
  obtain ⟨c0, -⟩ := blk_at HX1.out 0
  go_wp2_with fail
  clear c0
  go_loopw [4, 17] (fun v4 k W => ∃ (j : Nat) (ps : List (Value × List Int)) (f : List Bool), j ≤ m.length ∧ k = .int .i64 (j : Int) ∧ Hid (Below w.heap.size w W) ∧ w.heap.size + 2 ≤ W.heap.size ∧ Hid (W.heap[w.heap.size]? = some (.cells #[.slice A m.length c] 24 (0, 0))) ∧ OwnFl W (w.heap.size + 1) (w.heap.size + 1) m.length f ∧ Hid (RowsC W (w.heap.size + 2) v4 ps) ∧ ps.length ≤ j ∧ Hid (Tar.pTo next j = (f, ps.map (·.2)))) (fun _ k _ => m.length - (intOf k).toNat)
  case atStart => exact ⟨0, [], _, Nat.zero_le _, rfl, HB1.out, hz2, HX1.out, hown', ⟨World.ownsRow_nil _ _ _ _, fun p hp => (List.not_mem_nil hp).elim⟩, Nat.zero_le _, HP0.out⟩
  case round =>
    clear HB1 hz2 HX1 hown' HP0
    obtain ⟨j, ps, f, hj, rfl, HBW, hsW, HXW, hO, HR, hpl, HP⟩ := hrel
    have hown := HR.out.own
    obtain ⟨A3, c3, rfl, -, -, -⟩ := own_form hown
    have HOWN := Lib.hid hown
    clear hown
    by_cases hlt : j < m.length
    · obtain ⟨k1, k2⟩ := hO.cellAt (t := (j : Int)) (by omega) (by omega)
      rw [Int.toNat_natCast] at k1 k2
      have HO := Lib.hid hO
      cases hfl : Bfs.fl f (j : Int) with
      | true =>
        rw [hfl] at k1
        have HP2 := Lib.hid (show Tar.pTo next (j + 1) = (f, ps.map (·.2)) by
          show Tar.pStep next (Tar.pTo next j) j = _
          rw [HP.out]; unfold Tar.pStep; rw [if_pos hfl])
        clear hO hfl
        go_wp2
        exact ⟨⟨j + 1, ps, f, by omega, by go_num, HBW, hsW, HXW, HO.out, HR, by omega, HP2⟩, by simp [intOf]; omega⟩
      | false =>
        rw [hfl] at k1
        have HP2 := Lib.hid (show Tar.pTo next (j + 1) = (setAll (Tar.partAt next j) f, ps.map (·.2) ++ [Tar.partAt next j]) by
          show Tar.pStep next (Tar.pTo next j) j = _
          rw [HP.out]; unfold Tar.pStep; rw [hfl, if_neg (by decide)]; rfl)
        clear hO hfl HP
        go_upto_region 7 with fail
        clear k1 k2
        go_cut [6, 7, 17] from 17 to 60 (fun v6 v7 k wx => k = .int .i64 (j : Int) ∧ Hid (Below wr.heap.size wr wx) ∧ Hid (Sl Kind.bool wx (fun k => wr.heap.size ≤ k ∧ k < wx.heap.size) v6 (Bfs.reached next [(j : Int)])) ∧ Hid (Sl Kind.bool wx (fun k => wr.heap.size ≤ k ∧ k < wx.heap.size) v7 ((Bfs.ways next [(j : Int)]).map fun x => decide (0 ≤ x))))
        case first =>
          have HFI := Lib.hid (PhiC.firm wr.heap.size (.slice A m.length c) next (j : Int))
          have HSB : ∀ x ∈ ([] : List (Nat × Nat × Nat)), x.1 < wr.heap.size := fun x hx => by cases hx
          have HIN : ∀ x ∈ [(j : Int)], 0 ≤ x ∧ x < (m.length : Int) := fun x hx => by rw [List.mem_singleton] at hx; omega
          refine inv_region3 (J := Jb wr wr wr.heap.size 3 [] (PhiC wr.heap.size (.slice A m.length c) next (j : Int))) [some 24, some 25, some 26, some 27, some 28, some 29, some 30, some 31, some 6, some 7] [[], [], [1], [0, 2], [], [], [5], [4, 6], [3], [7]] (by kernel_rfl) (by kernel_rfl) (by kernel_rfl) ?_ ?_ ?_
          · intro d sl hd
            refine Jb.start (Below.refl _ _) (Nat.le_refl _) (fun x hx => by cases hx) (fun x hx => by cases hx) fun k hk => ?_
            by_cases hk10 : k < 10
            · rw [hd k hk10] at hk; cases hk
            · obtain ⟨i, rfl⟩ : ∃ i, k = i + 10 := ⟨k - 10, by omega⟩
              trivial
          · intro i o ho d sl V ρ hJ hd hdep hs hold hfun hcon
            have hi : i < 10 := (Array.getElem?_eq_some_iff.1 ho).1
            have HBR := Lib.hid (Below.refl V.heap.size V)
            have HBV := Lib.hid (HBW.out.trans (hJ.low.mono HBW.out.size))
            have HMV := Lib.hid ((HM.out.same (HD.out.same HBV.out)).mono (D' := fun k => D k ∨ (wr.heap.size ≤ k ∧ k < V.heap.size)) fun _ h => .inl h)
            have HLV : Hid (Lo (fun k => D k ∨ (wr.heap.size ≤ k ∧ k < V.heap.size)) V) := Lib.hid fun k hk => hk.elim (fun h => Nat.lt_of_lt_of_le (HD.out k h) HBV.out.size) (·.2)
            have hXV := (hJ.keep w.heap.size (by omega) fun x hx => by cases hx).trans HXW.out
            have hnst : ∀ x ∈ ([] : List (Nat × Nat × Nat)), x.2.1 ≠ i := fun x hx => by cases hx
            rcases (show i = 0 ∨ i = 1 ∨ i = 2 ∨ i = 3 ∨ i = 4 ∨ i = 5 ∨ i = 6 ∨ i = 7 ∨ i = 8 ∨ i = 9 by omega) with rfl | rfl | rfl | rfl | rfl | rfl | rfl | rfl | rfl | rfl
            · cases ho
              exact rt_loadM rfl ((hold 1 rfl).trans rfl) (blk_at hXV 0).1 (hJ.step HFI.out HSB hd hnst HBR.out rfl)
            · cases ho
              exact rt_move (.inl rfl) (hJ.step HFI.out HSB hd hnst HBR.out ((hold 5 rfl).trans rfl))
            · cases ho
              have h0 : sl 1 = .int .i64 (j : Int) := hJ.ok 1 (hdep 1 (by decide))
              exact rt_one rfl ((hs 1 25 rfl).trans h0) (hJ.step HFI.out HSB hd hnst ((Below.refl _ _).alloc (Nat.le_refl _) _) ⟨V.heap.size, rfl, hJ.size, heap_alloc_new _ _⟩)
            · cases ho
              have h0 : sl 0 = .agg #[.slice A m.length c] := hJ.ok 0 (hdep 0 (by decide))
              have h1 : OneAt wr.heap.size V (sl 2) (j : Int) := hJ.ok 2 (hdep 2 (by decide))
              refine rt_call2 rfl enter_rReached ((hs 0 24 rfl).trans h0) (hs 2 26 rfl) (hfun _) ((RReached_calls m [(j : Int)] _ _ _ V HLV.out HMV.out (h1.sl.mono fun _ h => .inr h) HF.out HIN (by simp)).mono ?_)
              rintro e V' ⟨v', rfl, hb, hr⟩
              rw [← HNX.out] at hr
              have h9 := hr.mono (D' := fun k => wr.heap.size ≤ k ∧ k < V'.heap.size) fun k hk => ⟨Nat.le_trans hJ.size hk.1, hk.2.1⟩
              exact ⟨_, rfl, hJ.step HFI.out HSB hd hnst hb h9⟩
            · cases ho
              exact rt_loadM rfl ((hold 1 rfl).trans rfl) (blk_at hXV 0).1 (hJ.step HFI.out HSB hd hnst HBR.out rfl)
            · cases ho
              exact rt_move (.inl rfl) (hJ.step HFI.out HSB hd hnst HBR.out ((hold 5 rfl).trans rfl))
            · cases ho
              have h0 : sl 5 = .int .i64 (j : Int) := hJ.ok 5 (hdep 5 (by decide))
              exact rt_one rfl ((hs 5 29 rfl).trans h0) (hJ.step HFI.out HSB hd hnst ((Below.refl _ _).alloc (Nat.le_refl _) _) ⟨V.heap.size, rfl, hJ.size, heap_alloc_new _ _⟩)
            · cases ho
              have h0 : sl 4 = .agg #[.slice A m.length c] := hJ.ok 4 (hdep 4 (by decide))
              have h1 : OneAt wr.heap.size V (sl 6) (j : Int) := hJ.ok 6 (hdep 6 (by decide))
              refine rt_call2 rfl enter_rBack ((hs 4 28 rfl).trans h0) (hs 6 30 rfl) (hfun _) ((RBack_calls m [(j : Int)] _ _ _ V HLV.out HMV.out (h1.sl.mono fun _ h => .inr h) HF.out HIN (by simp)).mono ?_)
              rintro e V' ⟨v', rfl, hb, hr⟩
              rw [← HNX.out] at hr
              have h9 := hr.mono (D' := fun k => wr.heap.size ≤ k ∧ k < V'.heap.size) fun k hk => ⟨Nat.le_trans hJ.size hk.1, hk.2.1⟩
              exact ⟨_, rfl, hJ.step HFI.out HSB hd hnst hb h9⟩
            · cases ho
              have h0 : Sl Kind.bool V (fun k => wr.heap.size ≤ k ∧ k < V.heap.size) (sl 3) (Bfs.reached next [(j : Int)]) := hJ.ok 3 (hdep 3 (by decide))
              exact rt_move (.inr rfl) (hJ.step HFI.out HSB hd hnst HBR.out (by rw [hs 3 27 rfl]; exact h0))
            · cases ho
              have h0 : Sl Kind.bool V (fun k => wr.heap.size ≤ k ∧ k < V.heap.size) (sl 7) ((Bfs.ways next [(j : Int)]).map fun x => decide (0 ≤ x)) := hJ.ok 7 (hdep 7 (by decide))
              exact rt_move (.inr rfl) (hJ.step HFI.out HSB hd hnst HBR.out (by rw [hs 7 31 rfl]; exact h0))
          · intro d sl wq hJ hd
            have HA := Lib.hid (show Sl Kind.bool wq (fun k => wr.heap.size ≤ k ∧ k < wq.heap.size) (sl 8) (Bfs.reached next [(j : Int)]) from hJ.ok 8 (hd 8 (by decide)))
            have HC := Lib.hid (show Sl Kind.bool wq (fun k => wr.heap.size ≤ k ∧ k < wq.heap.size) (sl 9) ((Bfs.ways next [(j : Int)]).map fun x => decide (0 ≤ x)) from hJ.ok 9 (hd 9 (by decide)))
            have HL := Lib.hid hJ.low
            simp only [putL, Act.put, List.setIfInBounds_toArray, List.set_cons_succ, List.set_cons_zero, Nat.reduceAdd, Nat.zero_add]
            clear hJ hd HFI HSB HIN
            generalize sl 0 = z0
            generalize sl 1 = z1
            generalize sl 2 = z2
            generalize sl 3 = z3
            generalize sl 4 = z4
            generalize sl 5 = z5
            generalize sl 6 = z6
            generalize sl 7 = z7
            generalize sl 8 = z8 at *
            generalize sl 9 = z9 at *
            go_wp2_with fail
            go_meet
            exact ⟨rfl, HL, HA, HC⟩
        case rest =>
          obtain ⟨rfl, HBC, HA, HC⟩ := hcut
          obtain ⟨FA, fc, rfl, f1, f2, -⟩ := HA.out.form
          obtain ⟨TA, tc, rfl, t1, t2, -⟩ := HC.out.form
          unfold maxLen at f2 t2
          obtain ⟨fr, hfr⟩ : ∃ fr, fr = Bfs.reached next [(j : Int)] := ⟨_, rfl⟩
          obtain ⟨ft, hft⟩ : ∃ ft, ft = (Bfs.ways next [(j : Int)]).map fun x => decide (0 ≤ x) := ⟨_, rfl⟩
          have hfrl : fr.length = m.length := by rw [hfr, Bfs.reached_len, HNL.out]
          have hftl : ft.length = m.length := by rw [hft, List.length_map, Bfs.ways_len, HNL.out]
          have HCND := Lib.hid (show ∀ t, cnd next j t = (Bfs.fl fr t && Bfs.fl ft t) from fun t => by rw [hfr, hft]; rfl)
          rw [← hfr] at HA f1 ⊢
          rw [← hft] at HC t1 ⊢
          rw [hfrl] at HA f1 ⊢
          rw [hftl] at HC t1 ⊢
          have HFRL := Lib.hid hfrl
          have HFTL := Lib.hid hftl
          clear hfr hft hfrl hftl
          have HBc := Lib.hid (HBW.out.trans (HBC.out.mono HBW.out.size))
          have hsc : wr.heap.size ≤ wc.heap.size := HBC.out.size
          have HXC := Lib.hid ((HBC.out.block w.heap.size (by omega)).trans HXW.out)
          have HOC := Lib.hid (HO.out.below HBC.out)
          have HRC := Lib.hid (HR.out.below HBC.out)
          obtain ⟨c0, -⟩ := blk_at HXC.out 0
          go_wp2_with fail
          clear c0
          go_loopw [8, 35] (fun v8 k W => ∃ (i : Nat) (L : List Int), i ≤ m.length ∧ k = .int .i64 (i : Int) ∧ Hid (Below w.heap.size w W) ∧ wc.heap.size ≤ W.heap.size ∧ Hid (Same (fun k => k < wc.heap.size ∧ k ≠ w.heap.size + 1) wc W) ∧ Hid (OwnFl W (w.heap.size + 1) (w.heap.size + 1) m.length (setAll L f)) ∧ W.ownsRow wc.heap.size 3 1 v8 L.length (ints L) ∧ L.length ≤ i ∧ Hid (L = markedBy i (cnd next j))) (fun _ k _ => m.length - (intOf k).toNat)
          case atStart => exact ⟨0, [], Nat.zero_le _, rfl, HBc.out, Nat.le_refl _, Lib.hid (fun _ _ => rfl), HOC.out, World.ownsRow_nil _ _ _ _, Nat.le_refl _, Lib.hid rfl⟩
          case round =>
            obtain ⟨i, L, hi, rfl, HBI, hsI, HSM, HOI, hO8, hL, HLM⟩ := hrel
            obtain ⟨A8, c8, rfl, -, -, -⟩ := own_form hO8
            by_cases hli : i < m.length
            · obtain ⟨bf, rfl, r1⟩ := Fls.at (HA.out.same fun k hk => HSM.out k ⟨hk.2, by omega⟩) i _ (fl_some (by rw [HFRL.out]; exact hli))
              obtain ⟨bt, rfl, r2⟩ := Fls.at (HC.out.same fun k hk => HSM.out k ⟨hk.2, by omega⟩) i _ (fl_some (by rw [HFTL.out]; exact hli))
              obtain ⟨k1, k2⟩ := HOI.out.cellAt (t := (i : Int)) (by omega) (by omega)
              rw [Int.toNat_natCast] at k1 k2
              have HC1 := Lib.hid (HCND.out (i : Int))
              have HMS := Lib.hid (markedBy_succ i (cnd next j))
              obtain ⟨a, ha⟩ : ∃ a, a = Bfs.fl fr (i : Int) := ⟨_, rfl⟩
              obtain ⟨b, hb⟩ : ∃ b, b = Bfs.fl ft (i : Int) := ⟨_, rfl⟩
              rw [← ha] at r1 HC1
              rw [← hb] at r2 HC1
              clear ha hb
              have HO8 := Lib.hid hO8
              clear hO8
              cases a with
              | false =>
                have HS := Lib.hid (show L = markedBy (i + 1) (cnd next j) by rw [HMS.out, HC1.out, HLM.out]; rfl)
                clear k1 k2
                go_wp2
                exact ⟨⟨i + 1, L, by omega, by go_num, HBI, hsI, HSM, HOI, HO8.out, by omega, HS⟩, by simp [intOf]; omega⟩
              | true =>
                cases b with
                | false =>
                  have HS := Lib.hid (show L = markedBy (i + 1) (cnd next j) by rw [HMS.out, HC1.out, HLM.out]; rfl)
                  clear k1 k2
                  go_wp2
                  exact ⟨⟨i + 1, L, by omega, by go_num, HBI, hsI, HSM, HOI, HO8.out, by omega, HS⟩, by simp [intOf]; omega⟩
                | true =>
                  have HS := Lib.hid (show L ++ [(i : Int)] = markedBy (i + 1) (cnd next j) by rw [HMS.out, HC1.out, HLM.out]; rfl)
                  clear k1 k2
                  go_wp2_with ((at_builtin); (refine wpList_app1 elem_i64 rfl _ _ rfl wc.heap.size _ L.length (ints L) rfl (HO8.out.alloc _) ⟨_, 0, none⟩ 1 _ rfl (cell_new1 _ _ _) rfl (by omega) (by omega) (by simp; omega) ?_); (intro v6 w6 ho6 hg6 ha6); (have HO6 := Lib.hid ho6); (have HG6 := Lib.hid hg6); (obtain ⟨A6, c6, rfl, -, -, -⟩ := own_form ho6); (have HF6 := Lib.hid (HOI.out.kept ((HG6.out.block (w.heap.size + 1) (by simp; omega) (fun e => by have := (HO8.out.lt _ e.symm).1; omega)).trans (heap_alloc_old _ _ (by omega))))); (obtain ⟨k1, k2⟩ := HF6.out.cellAt (t := (i : Int)) (by omega) (by omega)); (rw [Int.toNat_natCast] at k1 k2); (clear ho6 hg6 ha6))
                  have hs6 := HG6.out.size
                  rw [World.size_alloc] at hs6
                  have hb6 := (HBI.out.alloc (by omega) (.cells #[.int .i64 (i : Int)] 3)).grown HG6.out (by simp; omega) (fun k hk => by have := (HO8.out.lt k hk).1; omega)
                  have hsm6 : Same (fun k => k < wc.heap.size ∧ k ≠ w.heap.size + 1) wc w6 := fun k hk => (HG6.out.block k (by simp; omega) (fun e => by have := (HO8.out.lt k e.symm).1; omega)).trans ((heap_alloc_old _ _ (by omega)).trans (HSM.out k hk))
                  have hof := HF6.out.set (i := i) hli true
                  exact ⟨⟨i + 1, L ++ [(i : Int)], by omega, by go_num, Lib.hid (hb6.setCell (by simp) _), by simp [World.setCell]; omega, Lib.hid (fun k hk => (Below.heap_setCell _ _ _ _ (by simpa using hk.2)).trans (hsm6 k hk)), Lib.hid (by rw [setAll_snoc, Int.toNat_natCast]; exact hof), own_kept (by simpa [ints] using HO6.out) (fun k hk => Below.heap_setCell _ _ _ _ (by have := (HO6.out.lt k hk).1; simp; omega)), by simp; omega, HS⟩, by simp [intOf]; omega⟩
            · obtain rfl : i = m.length := by omega
              have HLP := Lib.hid (show L = Tar.partAt next j by rw [HLM.out, ← HNL.out]; exact markedBy_cnd)
              have HR2 := Lib.hid (HRC.out.kept fun k h1 h2 => HSM.out k ⟨h2, by omega⟩)
              have HOWN2 := Lib.hid HR2.out.own
              have HO8 := Lib.hid hO8
              have HXI := Lib.hid ((HSM.out w.heap.size ⟨by omega, by omega⟩).trans HXC.out)
              have HLT := Lib.hid fun k hk => (HRC.out.own.lt k hk)
              clear hli hO8 HLM
              go_wp2_with ((at_builtin); (refine wpList_app1 elem_row rfl _ _ rfl (w.heap.size + 2) _ ps.length (ps.map (·.1)) rfl (HOWN2.out.alloc _) ⟨_, 0, none⟩ 1 _ rfl (cell_new1 _ _ _) rfl (by omega) (by omega) (by simp; omega) ?_); (intro v6 w6 ho6 hg6 ha6); (have HO6 := Lib.hid ho6); (have HG6 := Lib.hid hg6); (have HA6 := Lib.hid ha6); (obtain ⟨A6, c6, rfl, -, -, -⟩ := own_form ho6); (clear ho6 hg6 ha6))
              have hs6 := HG6.out.size
              rw [World.size_alloc] at hs6
              have HR5 := Lib.hid (RowsC.snoc2 HR2.out (own_base HO8.out (by omega)) (fun k hk e => by have h1 := (HO8.out.lt k hk).1; have h2 := (HLT.out k e).2; omega) HG6.out HO6.out HA6.out)
              have hb6 := (HBI.out.alloc (by omega) (.cells #[.slice A8 L.length c8] 31)).grown HG6.out (by simp; omega) (fun k hk => by have := (HOWN2.out.lt k hk).1; omega)
              have HX6 := Lib.hid ((HG6.out.block w.heap.size (by simp; omega) (fun e => by have := (HOWN2.out.lt _ e.symm).1; omega)).trans ((heap_alloc_old _ _ (by omega)).trans HXI.out))
              have hof := HOI.out.kept ((HG6.out.block (w.heap.size + 1) (by simp; omega) (fun e => by have := (HOWN2.out.lt _ e.symm).1; omega)).trans (heap_alloc_old _ _ (by omega)))
              exact ⟨⟨j + 1, ps ++ [(_, L)], setAll L f, by omega, by go_num, hb6, by omega, HX6, hof, HR5, by simp; omega, Lib.hid (by rw [HP2.out, HLP.out, List.map_append]; rfl)⟩, by simp [intOf]; omega⟩
    · obtain rfl : j = m.length := by omega
      have HE := Lib.hid (show ps.map (·.2) = Tar.parts next by
        show _ = (Tar.pTo next next.length).2
        rw [HNL.out, HP.out])
      clear hlt hO
      go_wp2
      go_ret
      exact ⟨_, ps, rfl, HBW.out, HR.out, HE.out⟩
end Go.Proofs.YtoffbdlgmnpblaaGreat

/- The reference's bottom components; greatest common divisors of small numbers. -/
namespace Go.Proofs.YtoffbdlgmnpblaaGreat
open Go.RowKit
set_option maxHeartbeats 4000000
set_option maxRecDepth 100000

theorem states_len (n : Nat) : (Tar.states n).length = n := by unfold Tar.states; rw [List.length_map, List.length_range]
theorem partAt_len (next : List (List Int)) (s : Int) : (Tar.partAt next s).length ≤ next.length := by
  unfold Tar.partAt
  have := List.length_filter_le (fun t => Bfs.fl (Bfs.reached next [s]) t && decide (0 ≤ Bfs.at' (Bfs.ways next [s]) t)) (Tar.states next.length)
  rw [states_len] at this
  exact this
theorem parts_mem {next : List (List Int)} (hin : ∀ xs ∈ next, ∀ t ∈ xs, 0 ≤ t ∧ t < (next.length : Int)) : ∀ l ∈ Tar.parts next, l ≠ [] ∧ (∀ s ∈ l, 0 ≤ s ∧ s < (next.length : Int)) ∧ l.length ≤ next.length := by
  intro l hl
  obtain ⟨s, r, s0, -, s1, e, e2⟩ := (Tar.Pto.to hin next.length (Nat.le_refl _)).part l hl
  refine ⟨by rw [e]; simp, fun t ht => ?_, by rw [e2]; exact partAt_len _ _⟩
  rw [e2] at ht
  exact ((Tar.mem_partAt hin ⟨s0, s1⟩).1 ht).1
theorem parts_len {next : List (List Int)} : (Tar.parts next).length ≤ next.length := by
  have : ∀ j, (Tar.pTo next j).2.length ≤ j := by
    intro j
    induction j with
    | zero => exact Nat.le_refl _
    | succ j ih =>
      unfold Tar.pTo Tar.pStep
      split
      · omega
      · rw [List.length_append]; simp; omega
  exact this _

theorem Rgcd5_calls (a b : Int) (w : World) (ha0 : 0 ≤ a) (hb0 : 0 ≤ b) (ha1 : a ≤ 1000000) (hb1 : b ≤ 1000000) :
    Calls Tryz.prog 122 #[.int .i64 a, .int .i64 b] w fun e w' => e = .returned (.int .i64 (Int.gcd a b : Int)) ∧ Drawn w w' := by
  obtain ⟨G, hG⟩ : ∃ G, G = (Int.gcd a b : Int) := ⟨_, rfl⟩
  rw [← hG]
  have HG := Lib.hid hG
  clear hG
  go_enter Tryz.func122, Tryz.ntmps122
  go_wp2
  go_loopw [0, 1] (fun x y W => ∃ p q : Int, x = .int .i64 p ∧ y = .int .i64 q ∧ 0 ≤ p ∧ 0 ≤ q ∧ p ≤ 1000000 ∧ q ≤ 1000000 ∧ Hid ((Int.gcd p q : Int) = G) ∧ Hid (Drawn w W)) (fun _ y _ => (intOf y).toNat)
  case atStart => exact ⟨a, b, rfl, rfl, ha0, hb0, ha1, hb1, Lib.hid HG.out.symm, Lib.hid (Drawn.refl _)⟩
  case round =>
    obtain ⟨p, q, rfl, rfl, p0, q0, p1, q1, HE, HD⟩ := hrel
    by_cases hq : q = 0
    · subst hq
      have HE2 := Lib.hid (show p = G by rw [← HE.out, Int.gcd_zero_right]; omega)
      clear HE
      go_wp2
      go_ret
      exact ⟨ret_int HE2.out, HD.out⟩
    · have hne : (q != 0) = true := by rw [bne_iff_ne]; exact hq
      have hm0 : 0 ≤ p % q := Int.emod_nonneg _ hq
      have hm1 : p % q < q := Int.emod_lt_of_pos _ (by omega)
      have HE2 := Lib.hid (show (Int.gcd q (p % q) : Int) = G by
        rw [← Int.tmod_eq_emod_of_nonneg p0, gcd_tmod, HE.out])
      clear HE
      go_wp2_with fail
      go_quiet (fail)
      go_wp2
      exact ⟨⟨q, p % q, rfl, rfl, by omega, by omega, by omega, by omega, HE2, Lib.hid (HD.out.step nq)⟩, by simp [intOf]; omega⟩

theorem RBottoms_calls (m : List St) (v : Value) (D : Nat → Prop) (w : World) (hD : Lo D w) (h : ModelC w D v m) (hf : Fine m) :
    Calls Tryz.prog 63 #[v] w fun e w' => ∃ v' qs, e = .returned v' ∧ Below w.heap.size w w' ∧ RowsC w' w.heap.size v' qs ∧ qs.map (·.2) = (Tar.parts (m.map nextOf)).filter fun l => !leaves (m.map nextOf) l := by
  obtain ⟨mv, rfl, hmm⟩ := h
  have HM : Hid (ModelC w D (.agg #[mv]) m) := ⟨mv, rfl, hmm⟩
  obtain ⟨A, c, rfl, h1, h2, -⟩ := hmm.form
  unfold maxLen at h2
  have HLEN := hf.len
  have HF := Lib.hid hf
  obtain ⟨next, hnx⟩ : ∃ next, next = m.map nextOf := ⟨_, rfl⟩
  have hnl : next.length = m.length := by rw [hnx, List.length_map]
  have HIN := Lib.hid (show ∀ l ∈ Tar.parts next, l ≠ [] ∧ (∀ s ∈ l, 0 ≤ s ∧ s < (m.length : Int)) ∧ l.length ≤ m.length by
    have := parts_mem (next := next) (by rw [hnx]; exact (Edges.of_fine hf).ins)
    rw [hnl] at this
    exact this)
  have HPL := Lib.hid (show (Tar.parts next).length ≤ m.length by have := parts_len (next := next); omega)
  rw [← hnx]
  have HNX := Lib.hid hnx
  clear hmm hf hnx hnl
  have HX0 := Lib.hid (heap_alloc_new w (.cells #[.slice A m.length c] 24))
  have HB0 := Lib.hid ((Below.refl w.heap.size w).alloc (Nat.le_refl _) (.cells #[.slice A m.length c] 24))
  have hz0 : w.heap.size < (w.alloc (.cells #[.slice A m.length c] 24)).heap.size := by simp
  go_enter Tryz.func63, Tryz.ntmps63
  go_upto_region 2 with fail
  generalize w.alloc (.cells #[.slice A m.length c] 24) = W0 at *
  obtain ⟨c0, -⟩ := blk_at HX0.out 0
  go_wp2_with fail
  refine (RParts_calls m _ D W0 (hD.up HB0.out.size) (HM.out.same (hD.same HB0.out)) HF.out).mono ?_
  rintro e w2 ⟨v2, ps, rfl, hb2, k2, e2⟩
  rw [← HNX.out] at e2
  have hpsl : ps.length ≤ m.length := by have := HPL.out; rw [← e2, List.length_map] at this; exact this
  have HPS := Lib.hid e2
  have HB2 := Lib.hid (HB0.out.trans (hb2.mono HB0.out.size))
  have HX2 := Lib.hid ((hb2.block w.heap.size hz0).trans HX0.out)
  have hz2 : w.heap.size < w2.heap.size := Nat.lt_of_lt_of_le hz0 hb2.size
  have HR2 := Lib.hid (show RowsC w2 (w.heap.size + 1) v2 ps from ⟨own_base k2.own (by omega), fun p hp => ⟨own_base (k2.row p hp).1 (by omega), (k2.row p hp).2⟩⟩)
  obtain ⟨P2, p2, rfl, pa, pb, hat⟩ := own_form k2.own
  unfold maxLen at pb
  have HAT := Lib.hid hat
  clear hb2 k2 c0 e2 HB0 HX0 hz0 hat
  go_wp2_with fail
  go_loopw [3, 9] (fun v3 k W => ∃ (i : Nat) (qs : List (Value × List Int)), i ≤ ps.length ∧ k = .int .i64 (i : Int) ∧ Hid (Below w.heap.size w W) ∧ Hid (Below w2.heap.size w2 W) ∧ Hid (W.ownsRow w2.heap.size 31 1 v3 qs.length (qs.map (·.1))) ∧ qs.length ≤ i ∧ Hid (qs = (ps.take i).filter fun p => !leaves next p.2)) (fun _ k _ => ps.length - (intOf k).toNat)
  case atStart => exact ⟨0, [], Nat.zero_le _, rfl, HB2.out, Lib.hid (Below.refl _ _), Lib.hid (World.ownsRow_nil _ _ _ _), Nat.le_refl _, Lib.hid rfl⟩
  case round =>
    obtain ⟨i, qs, hi, rfl, HBW, HBT, HO, hql, HQ⟩ := hrel
    have hown := HO.out
    obtain ⟨A3, c3, rfl, -, -, -⟩ := own_form hown
    clear hown
    have hsW : w2.heap.size ≤ wr.heap.size := HBT.out.size
    by_cases hlt : i < ps.length
    · obtain ⟨q, hq⟩ : ∃ q, ps[i]? = some q := ⟨_, List.getElem?_eq_getElem hlt⟩
      have HQI := Lib.hid hq
      have hqm : q.2 ∈ Tar.parts next := by rw [← HPS.out]; exact List.mem_map.2 ⟨q, List.mem_of_getElem? hq, rfl⟩
      obtain ⟨-, hin, hqlen⟩ := HIN.out _ hqm
      have HQIN := Lib.hid hin
      obtain ⟨ad, rfl, ad0, ad1, -, hat⟩ := HAT.out (by omega)
      have r0 := (HBT.out.cell (p := ad.add i) (by rw [block_of_add]; exact ad1)).trans (hat i q.1 (by rw [List.getElem?_map, hq]; rfl))
      obtain ⟨hrow, hrne⟩ := HR2.out.row q (List.mem_of_getElem? hq)
      have HROW := Lib.hid hrow
      have HRNE := Lib.hid hrne
      obtain ⟨Q1, q1, hqv, -, -, -⟩ := own_form hrow
      have HSL := Lib.hid (((own_intsS hrow).same (w' := wr) fun k hk => HBT.out.block k hk.2.1).mono (D' := fun k => D k ∨ (w.heap.size ≤ k ∧ k < w2.heap.size)) fun k hk => .inr ⟨by omega, hk.2.1⟩)
      have HMW := Lib.hid ((HM.out.same (hD.same HBW.out)).mono (D' := fun k => D k ∨ (w.heap.size ≤ k ∧ k < w2.heap.size)) fun _ h => .inl h)
      have HLO : Hid (Lo (fun k => D k ∨ (w.heap.size ≤ k ∧ k < w2.heap.size)) wr) := Lib.hid fun k hk => hk.elim (fun h => Nat.lt_of_lt_of_le (hD k h) HBW.out.size) fun h => Nat.lt_of_lt_of_le h.2 hsW
      have HX := Lib.hid ((HBT.out.block w.heap.size hz2).trans HX2.out)
      obtain ⟨c0, -⟩ := blk_at HX.out 0
      rw [hqv] at r0 HSL
      have HQV := Lib.hid hqv
      clear hq hqm hin hat hrow hrne hqv
      go_wp2_with fail
      refine (RClosed_calls m q.2 _ _ _ wr HLO.out HMW.out HSL.out HF.out HQIN.out (by omega)).mono ?_
      rintro e w4 ⟨rfl, hb4⟩
      rw [← HNX.out]
      have HB4 := Lib.hid (HBW.out.trans (hb4.mono HBW.out.size))
      have HBT4 := Lib.hid (HBT.out.trans (hb4.mono HBT.out.size))
      have HO4 := Lib.hid (own_kept HO.out fun k hk => hb4.block k (HO.out.lt k hk).2)
      have hs4 : w2.heap.size ≤ w4.heap.size := Nat.le_trans hsW hb4.size
      have HTK := Lib.hid (show (ps.take (i + 1)).filter (fun p => !leaves next p.2) = qs ++ (if (!leaves next q.2) = true then [q] else []) by
        rw [List.take_add_one, HQI.out, List.filter_append, ← HQ.out]
        cases hh : leaves next q.2 <;> simp [hh])
      clear hb4 r0 c0
      cases hlv : leaves next q.2 with
      | true =>
        have HQ2 := Lib.hid (show qs = (ps.take (i + 1)).filter fun p => !leaves next p.2 by rw [HTK.out, hlv]; simp)
        clear hlv
        go_wp2
        exact ⟨⟨i + 1, qs, by omega, by go_num, HB4, HBT4, HO4, by omega, HQ2⟩, by simp [intOf]; omega⟩
      | false =>
        have HQ2 := Lib.hid (show qs ++ [q] = (ps.take (i + 1)).filter fun p => !leaves next p.2 by rw [HTK.out, hlv]; simp)
        clear hlv
        go_wp2_with ((at_builtin); (refine wpList_app1 elem_row rfl _ _ rfl w2.heap.size _ qs.length (qs.map (·.1)) rfl (HO4.out.alloc _) ⟨_, 0, none⟩ 1 _ rfl (cell_new1 _ _ _) rfl (by omega) (by omega) (by simp; omega) ?_); (intro v6 w6 ho6 hg6 ha6); (have HO6 := Lib.hid ho6); (have HG6 := Lib.hid hg6); (obtain ⟨A6, c6, rfl, -, -, -⟩ := own_form ho6); (clear ho6 hg6 ha6))
        have hb6 := (HB4.out.alloc HB4.out.size (.cells #[.slice Q1 q.2.length q1] 31)).grown HG6.out (by simp; omega) (fun k hk => by have := (HO4.out.lt k hk).1; omega)
        have ht6 := (HBT4.out.alloc HBT4.out.size (.cells #[.slice Q1 q.2.length q1] 31)).grown HG6.out (by simp; omega) (fun k hk => (HO4.out.lt k hk).1)
        exact ⟨⟨i + 1, qs ++ [q], by omega, by go_num, hb6, ht6, Lib.hid (by rw [List.length_append, List.map_append]; simpa [HQV.out] using HO6.out), by simp; omega, HQ2⟩, by simp [intOf]; omega⟩
    · obtain rfl : i = ps.length := by omega
      have HRR := Lib.hid (show RowsC wr w.heap.size (.slice A3 qs.length c3) qs from ⟨own_base HO.out (by omega), fun p hp => by
        have hpm : p ∈ ps := by
          rw [HQ.out, List.take_length] at hp
          exact (List.mem_filter.1 hp).1
        obtain ⟨h1, h2⟩ := HR2.out.row p hpm
        refine ⟨own_base (own_kept h1 fun k hk => HBT.out.block k (h1.lt k hk).2) (by omega), fun k hk e => ?_⟩
        have := (HO.out.lt k e).1
        have := (h1.lt k hk).2
        omega⟩)
      have HE := Lib.hid (show qs.map (·.2) = (Tar.parts next).filter fun l => !leaves next l by
        rw [HQ.out, List.take_length, ← HPS.out, List.filter_map]; rfl)
      clear hlt
      go_wp2
      go_ret
      exact ⟨_, qs, rfl, HBW.out, HRR.out, HE.out⟩
end Go.Proofs.YtoffbdlgmnpblaaGreat
