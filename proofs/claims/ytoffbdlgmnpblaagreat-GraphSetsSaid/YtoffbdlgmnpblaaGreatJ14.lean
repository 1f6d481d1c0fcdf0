/- Part 14: Gr6 Gr7. -/
import Derived.Test.YtoffbdlgmnpblaaGreatJ13

/- Package graph: sets of marked states, forward and backward. -/
namespace Go.Proofs.YtoffbdlgmnpblaaGreat
open Go.RowKit
set_option maxHeartbeats 4000000
set_option maxRecDepth 100000

theorem at_cell {w : World} {D : Nat → Prop} {A : Option Addr} {n c : Nat} {d : List Int} (h : Sl (Kind.int .i64) w D (.slice A n c) d) {s : Int} (h0 : 0 ≤ s) (h1 : s < (d.length : Int)) : ∃ ad, A = some ad ∧ D ad.block ∧ w.cell? (ad.add s.toNat) = some (.int .i64 (Bfs.at' d s)) := by
  obtain ⟨A', c', e, k1, k2, k3⟩ := h.ints
  injection e with e1 e2 e3
  subst e1
  obtain ⟨ad, e1, hd, hc⟩ := k3 (by omega)
  have := hc s.toNat (by omega)
  rw [Dig.gd_of (Bfs.at_get h0 h1)] at this
  exact ⟨ad, e1, hd, this⟩

theorem Forward1_calls (d : List Int) (A : Option Addr) (c p : Nat) (s : Int) (D : Nat → Prop) (w : World) (h : Sl (Kind.int .i64) w D (.slice A d.length c) d) (hp : w.cell? ⟨p, 0, none⟩ = some (.slice A d.length c)) (h0 : 0 ≤ s) (h1 : s < (d.length : Int)) (_hn : d.length ≤ 100) :
    Calls Tryz.prog 132 #[.int .i64 s, .pointer (some ⟨p, 0, none⟩)] w fun e w' => e = .returned (.bool (decide (0 ≤ Bfs.at' d s))) ∧ w = w' := by
  obtain ⟨ad, rfl, -, k1⟩ := at_cell h h0 h1
  clear h
  go_enter Tryz.func132, Tryz.ntmps132
  go_wp2
  go_ret
  exact ⟨rfl, rfl⟩
theorem Backward1_calls (d : List Int) (A : Option Addr) (c p : Nat) (s : Int) (D : Nat → Prop) (w : World) (h : Sl (Kind.int .i64) w D (.slice A d.length c) d) (hp : w.cell? ⟨p, 0, none⟩ = some (.slice A d.length c)) (h0 : 0 ≤ s) (h1 : s < (d.length : Int)) (_hn : d.length ≤ 100) :
    Calls Tryz.prog 133 #[.int .i64 s, .pointer (some ⟨p, 0, none⟩)] w fun e w' => e = .returned (.bool (decide (0 ≤ Bfs.at' d s))) ∧ w = w' := by
  obtain ⟨ad, rfl, -, k1⟩ := at_cell h h0 h1
  clear h
  go_enter Tryz.func133, Tryz.ntmps133
  go_wp2
  go_ret
  exact ⟨rfl, rfl⟩

def markedBy (n : Nat) (is : Int → Bool) : List Int := ((List.range n).map (fun k : Nat => (k : Int))).filter is

theorem markedBy_succ (j : Nat) (is : Int → Bool) : markedBy (j + 1) is = if is j then markedBy j is ++ [(j : Int)] else markedBy j is := by
  unfold markedBy
  rw [List.range_succ, List.map_append, List.filter_append]
  cases h : is (j : Int) <;> simp [h]

theorem Marked_calls (K n : Nat) (is : Int → Bool) (cs : Array Value) (w : World) (eg : ∀ args w, (callFunc K args).run Tryz.prog w = .ok (.enter K args) w) (hn : n ≤ 100) (hc : ∀ (W : World) (s : Int), Below w.heap.size w W → 0 ≤ s → s < (n : Int) → Calls Tryz.prog K (#[.int .i64 s] ++ cs) W fun e w' => e = .returned (.bool (is s)) ∧ W = w') :
    Calls Tryz.prog 131 #[.int .i64 (n : Int), .func (.func K) #[] cs] w fun e w' => ∃ v', e = .returned v' ∧ Below w.heap.size w w' ∧ Sl (Kind.int .i64) w' (nws w w') v' (markedBy n is) := by
  have HC := Lib.hid hc
  clear hc
  go_enter Tryz.func131, Tryz.ntmps131
  go_wp2
  go_loopw [5, 8] (fun o k W => ∃ (j : Nat) (L : List Int), j ≤ n ∧ k = .int .i64 (j : Int) ∧ Below w.heap.size w W ∧ W.ownsRow w.heap.size 3 1 o L.length (ints L) ∧ L.length ≤ j ∧ Hid (L = markedBy j is)) (fun _ k _ => n - (intOf k).toNat)
  case atStart => exact ⟨0, [], Nat.zero_le _, rfl, Below.refl _ _, World.ownsRow_nil _ _ _ _, Nat.le_refl _, rfl⟩
  case round =>
    obtain ⟨j, L, hj, rfl, hBW, hO, hL, HL⟩ := hrel
    have hsz := hBW.size
    by_cases hlt : j < n
    · go_wp2_with fail
      refine (HC.out wr (j : Int) hBW (by omega) (by omega)).mono ?_
      rintro e w2 ⟨rfl, rfl⟩
      cases hi : is (j : Int) with
      | false =>
        have HS := Lib.hid (show L = markedBy (j + 1) is by rw [markedBy_succ, hi, HL.out]; rfl)
        clear hi
        go_wp2
        exact ⟨⟨j + 1, L, by omega, by go_num, hBW, hO, by omega, HS⟩, by simp [intOf]; omega⟩
      | true =>
        have HS := Lib.hid (show L ++ [(j : Int)] = markedBy (j + 1) is by rw [markedBy_succ, hi, HL.out]; rfl)
        clear hi
        go_wp2_with (at_builtin; refine wpList_app1 elem_i64 rfl _ _ rfl w.heap.size _ L.length (ints L) rfl (hO.alloc _) ⟨_, 0, none⟩ 1 _ rfl (cell_new1 _ _ _) rfl (by omega) (by omega) (by simp; omega) ?_; intro v3 w3 ho3 hg3 ha3)
        refine ⟨⟨j + 1, L ++ [(j : Int)], by omega, by go_num, below_app hBW hsz hO hg3, by simpa using ho3, by simp; omega, HS⟩, by simp [intOf]; omega⟩
    · obtain rfl : j = n := by omega
      clear hlt
      go_wp2
      go_ret
      rw [← HL.out]
      exact ⟨_, rfl, hBW, own_intsS hO⟩

theorem enter_of {P : Program} {K : Nat} {f : Func} (hf : P.funcs[K]? = some f) (h1 : (f.name == "runtime.NumGoroutine") = false) (h2 : f.body.isNone = false) : ∀ args w, (callFunc K args).run P w = .ok (.enter K args) w := by
  intro args w
  have h1' : ¬ f.name = "runtime.NumGoroutine" := by simpa using h1
  have h2' : ¬ f.body = none := by intro e; rw [e] at h2; cases h2
  unfold callFunc
  simp [go_sem, hf]
  rw [if_neg h1', if_neg h2']

theorem enter_fwd : ∀ args w, (callFunc 132 args).run Tryz.prog w = .ok (.enter 132 args) w := enter_of Tryz.func132 (by kernel_rfl) (by kernel_rfl)
theorem enter_bwd : ∀ args w, (callFunc 133 args).run Tryz.prog w = .ok (.enter 133 args) w := enter_of Tryz.func133 (by kernel_rfl) (by kernel_rfl)

/-- the states to which some path leads, as the program finds them -/
def reachOf (xss : List (List Int)) (l : List Int) : List Int := markedBy xss.length fun s => decide (0 ≤ Bfs.at' (Bfs.depths xss l) s)

theorem Forward_calls (m : List St) (l : List Int) (v u : Value) (D : Nat → Prop) (w : World) (hD : Lo D w) (h : ModelC w D v m) (hl : Sl (Kind.int .i64) w D u l) (hf : Fine m) (hm : ∀ s ∈ l, 0 ≤ s ∧ s < (m.length : Int)) (hll : l.length ≤ 100) :
    Calls Tryz.prog 86 #[v, u] w fun e w' => ∃ v', e = .returned v' ∧ Below w.heap.size w w' ∧ Sl (Kind.int .i64) w' (nws w w') v' (reachOf (m.map nextOf) l) := by
  obtain ⟨mv, rfl, hmm⟩ := h
  have HM : Hid (ModelC w D (.agg #[mv]) m) := ⟨mv, rfl, hmm⟩
  obtain ⟨A, c, rfl, h1, h2, -⟩ := hmm.form
  have hlen := hf.len
  have hE := Edges.of_fine hf
  have HL := Lib.hid hl
  have HF := Lib.hid hf
  have HE := Lib.hid hE
  have HMM := Lib.hid (show ∀ s ∈ l, 0 ≤ s ∧ s < ((m.map nextOf).length : Int) by rw [List.length_map]; exact hm)
  clear hmm hl hf hm hE
  go_enter Tryz.func86, Tryz.ntmps86
  go_wp2_with fail
  have hB0 := (Below.refl w.heap.size w).alloc (Nat.le_refl _) (.cells #[.slice A m.length c] 24)
  refine (Next_calls m _ D _ (hD.up hB0.size) (HM.out.same (hD.same hB0)) HF.out).mono ?_
  rintro e w1 ⟨nv, rfl, hb1, hn⟩
  have hB1 := hB0.trans (hb1.mono hB0.size)
  have HN := Lib.hid hn
  clear hn
  go_wp2_with fail
  refine (Depths_calls (m.map nextOf) l _ _ (fun k => k < w1.heap.size) _ (fun k hk => hk) (HN.out.mono fun k hk => hk.2.1) ((HL.out.same (hD.same hB1)).mono fun k hk => Nat.lt_of_lt_of_le (hD k hk) hB1.size) HE.out HMM.out hll).mono ?_
  rintro e w2 ⟨dv, rfl, hb2, hd⟩
  have hB2 := hB1.trans (hb2.mono hB1.size)
  obtain ⟨dA, dc, rfl, d1, d2, -⟩ := hd.form
  have hdl := Bfs.depths_len (m.map nextOf) l
  rw [List.length_map] at hdl
  unfold maxLen at d2
  have HDL := Lib.hid hdl
  have hd100 : (Bfs.depths (m.map nextOf) l).length ≤ 100 := by omega
  have hb3 := (Below.refl w2.heap.size w2).alloc (Nat.le_refl _) (.cells #[.slice dA (Bfs.depths (m.map nextOf) l).length dc] 31)
  have hd' := hd.same (Lo.same (show Lo (nws w1 w2) w2 from fun k hk => hk.2.1) hb3)
  have HD := Lib.hid hd'
  have hmf : ∀ (fn : Fn) (first cap : Array Value) (w : World), (Instr.makeFunc fn first cap).run Tryz.prog w = .ok (.func fn first cap) w := fun _ _ _ _ => rfl
  clear hd hd' hdl
  go_wp2_with fail
  have hB3 := hB2.trans (hb3.mono hB2.size)
  refine (Marked_calls 132 (Bfs.depths (m.map nextOf) l).length (fun s => decide (0 ≤ Bfs.at' (Bfs.depths (m.map nextOf) l) s)) #[.pointer (some ⟨w2.heap.size, 0, none⟩)] _ enter_fwd hd100 ?_).mono ?_
  · intro W s hW h0 h1
    refine Forward1_calls _ dA dc w2.heap.size s (nws w1 w2) W (HD.out.same (Lo.same (show Lo (nws w1 w2) _ from fun k hk => Nat.lt_of_lt_of_le hk.2.1 hb3.size) hW)) ?_ h0 h1 hd100
    exact (hW.cell (p := ⟨w2.heap.size, 0, none⟩) (by simp)).trans (box_cells w2 _ rfl _ _ 0).1
  · rintro e w4 ⟨v', rfl, hb4, hr⟩
    go_wp2
    go_ret
    refine ⟨_, rfl, hB3.trans (hb4.mono hB3.size), ?_⟩
    have e1 : reachOf (m.map nextOf) l = markedBy (Bfs.depths (m.map nextOf) l).length fun s => decide (0 ≤ Bfs.at' (Bfs.depths (m.map nextOf) l) s) := by
      unfold reachOf; rw [HDL.out, List.length_map]
    rw [e1]
    exact hr.mono fun k hk => ⟨by have := hk.1; have := hB3.size; omega, hk.2⟩

end Go.Proofs.YtoffbdlgmnpblaaGreat

/- Package graph: Backward, asked, From, To, Distance, Edges. -/
namespace Go.Proofs.YtoffbdlgmnpblaaGreat
open Go.RowKit
set_option maxHeartbeats 4000000
set_option maxRecDepth 100000

theorem Backward_calls (m : List St) (l : List Int) (v u : Value) (D : Nat → Prop) (w : World) (hD : Lo D w) (h : ModelC w D v m) (hl : Sl (Kind.int .i64) w D u l) (hf : Fine m) (hm : ∀ s ∈ l, 0 ≤ s ∧ s < (m.length : Int)) (hll : l.length ≤ 100) :
    Calls Tryz.prog 87 #[v, u] w fun e w' => ∃ v', e = .returned v' ∧ Below w.heap.size w w' ∧ Sl (Kind.int .i64) w' (nws w w') v' (reachOf (Bfs.turn (m.map nextOf)) l) := by
  obtain ⟨mv, rfl, hmm⟩ := h
  have HM : Hid (ModelC w D (.agg #[mv]) m) := ⟨mv, rfl, hmm⟩
  obtain ⟨A, c, rfl, h1, h2, -⟩ := hmm.form
  have hlen := hf.len
  have hE := Edges.of_fine hf
  have HE2 := Lib.hid (Edges.turned hf)
  have HL := Lib.hid hl
  have HF := Lib.hid hf
  have HE := Lib.hid hE
  have hTL : (Bfs.turn (m.map nextOf)).length = m.length := by unfold Bfs.turn; rw [Bfs.turnTo_len, List.length_map]
  have HMM := Lib.hid (show ∀ s ∈ l, 0 ≤ s ∧ s < ((Bfs.turn (m.map nextOf)).length : Int) by rw [hTL]; exact hm)
  have HTL := Lib.hid hTL
  clear hmm hl hf hm hE hTL
  generalize hts : Bfs.turn (m.map nextOf) = ts at *
  have HTS := Lib.hid hts
  clear hts
  go_enter Tryz.func87, Tryz.ntmps87
  go_wp2_with fail
  have hB0 := (Below.refl w.heap.size w).alloc (Nat.le_refl _) (.cells #[.slice A m.length c] 24)
  refine (Next_calls m _ D _ (hD.up hB0.size) (HM.out.same (hD.same hB0)) HF.out).mono ?_
  rintro e w1 ⟨nv, rfl, hb1, hn⟩
  have hB1 := hB0.trans (hb1.mono hB0.size)
  have HN := Lib.hid hn
  clear hn
  go_wp2_with fail
  refine (turned_calls (m.map nextOf) _ _ _ (fun k hk => hk.2.1) HN.out HE.out).mono ?_
  rintro e wt ⟨tv, rfl, hbt, ht⟩
  have hB1 := hB1.trans (hbt.mono hB1.size)
  rw [HTS.out] at ht
  have HT := Lib.hid ht
  clear ht
  go_wp2_with fail
  refine (Depths_calls ts l _ _ (fun k => k < wt.heap.size) _ (fun k hk => hk) (HT.out.mono fun k hk => hk.2.1) ((HL.out.same (hD.same hB1)).mono fun k hk => Nat.lt_of_lt_of_le (hD k hk) hB1.size) HE2.out HMM.out hll).mono ?_
  rintro e w2 ⟨dv, rfl, hb2, hd⟩
  have hB2 := hB1.trans (hb2.mono hB1.size)
  obtain ⟨dA, dc, rfl, d1, d2, -⟩ := hd.form
  have hdl := Bfs.depths_len ts l
  rw [HTL.out] at hdl
  unfold maxLen at d2
  have HDL := Lib.hid hdl
  have hd100 : (Bfs.depths ts l).length ≤ 100 := by omega
  have hb3 := (Below.refl w2.heap.size w2).alloc (Nat.le_refl _) (.cells #[.slice dA (Bfs.depths ts l).length dc] 31)
  have hd' := hd.same (Lo.same (show Lo (nws wt w2) w2 from fun k hk => hk.2.1) hb3)
  have HD := Lib.hid hd'
  have hmf : ∀ (fn : Fn) (first cap : Array Value) (w : World), (Instr.makeFunc fn first cap).run Tryz.prog w = .ok (.func fn first cap) w := fun _ _ _ _ => rfl
  clear hd hd' hdl
  go_wp2_with fail
  have hB3 := hB2.trans (hb3.mono hB2.size)
  refine (Marked_calls 133 (Bfs.depths ts l).length (fun s => decide (0 ≤ Bfs.at' (Bfs.depths ts l) s)) #[.pointer (some ⟨w2.heap.size, 0, none⟩)] _ enter_bwd hd100 ?_).mono ?_
  · intro W s hW h0 h1
    refine Backward1_calls _ dA dc w2.heap.size s (nws wt w2) W (HD.out.same (Lo.same (show Lo (nws wt w2) _ from fun k hk => Nat.lt_of_lt_of_le hk.2.1 hb3.size) hW)) ?_ h0 h1 hd100
    exact (hW.cell (p := ⟨w2.heap.size, 0, none⟩) (by simp)).trans (box_cells w2 _ rfl _ _ 0).1
  · rintro e w4 ⟨v', rfl, hb4, hr⟩
    go_wp2
    go_ret
    refine ⟨_, rfl, hB3.trans (hb4.mono hB3.size), ?_⟩
    have e1 : reachOf ts l = markedBy (Bfs.depths ts l).length fun s => decide (0 ≤ Bfs.at' (Bfs.depths ts l) s) := by
      unfold reachOf; rw [HDL.out, HTL.out]
    rw [e1]
    exact hr.mono fun k hk => ⟨by have := hk.1; have := hB3.size; omega, hk.2⟩

/-! ### what is asked -/
def askedB (m : List St) (l : List Int) : Bool := validB m && setB m l
theorem rising_spec {n : Int} : ∀ {last : Int} {l : List Int}, rising n last l = true → (∀ s ∈ l, last < s ∧ s < n) ∧ ((l ≠ [] → last + (l.length : Int) < n)) := by
  intro last l
  induction l generalizing last with
  | nil => intro _; exact ⟨fun s hs => (List.not_mem_nil hs).elim, fun h => absurd rfl h⟩
  | cons a l ih =>
    intro h
    simp only [rising, Bool.and_eq_true, decide_eq_true_eq] at h
    obtain ⟨⟨h1, h2⟩, h3⟩ := h
    obtain ⟨k1, k2⟩ := ih h3
    refine ⟨fun s hs => ?_, fun _ => ?_⟩
    · rcases List.mem_cons.1 hs with rfl | hs
      · exact ⟨h1, h2⟩
      · have := k1 s hs; omega
    · cases l with
      | nil => simp only [List.length_cons, List.length_nil]; omega
      | cons b l => have := k2 (by simp); simp only [List.length_cons] at this ⊢; omega
theorem askedB.spec {m : List St} {l : List Int} (h : askedB m l = true) : Fine m ∧ (∀ s ∈ l, 0 ≤ s ∧ s < (m.length : Int)) ∧ l.length ≤ 40 := by
  unfold askedB at h
  rw [Bool.and_eq_true] at h
  have hf := Fine.of_valid h.1
  obtain ⟨h1, h2⟩ := rising_spec h.2
  refine ⟨hf, fun s hs => by have := h1 s hs; omega, ?_⟩
  have := hf.len
  cases l with
  | nil => simp
  | cons a l => have := h2 (by simp); omega

theorem asked_calls (m : List St) (l : List Int) (v u : Value) (D : Nat → Prop) (w : World) (hD : Lo D w) (h : ModelC w D v m) (hl : Sl (Kind.int .i64) w D u l) :
    Calls Tryz.prog 85 #[v, u] w fun e w' => e = .returned (.bool (askedB m l)) ∧ Below w.heap.size w w' := by
  obtain ⟨mv, rfl, hmm⟩ := h
  have HM : Hid (ModelC w D (.agg #[mv]) m) := ⟨mv, rfl, hmm⟩
  obtain ⟨A, c, rfl, h1, h2, -⟩ := hmm.form
  have HL := Lib.hid hl
  clear hmm hl
  go_enter Tryz.func85, Tryz.ntmps85
  go_wp2_with fail
  have hB0 := (Below.refl w.heap.size w).alloc (Nat.le_refl _) (.cells #[.slice A m.length c] 24)
  refine (Valid_calls m _ D _ (hD.up hB0.size) (HM.out.same (hD.same hB0))).mono ?_
  rintro e w1 ⟨rfl, hb1⟩
  have hB1 := hB0.trans (hb1.mono hB0.size)
  obtain ⟨hc1, hf1⟩ := bcell hb1
  have hz1 : w.heap.size < w1.heap.size := by have := hb1.size; simp at this; omega
  cases hv : validB m with
  | false =>
    have HV := Lib.hid (show askedB m l = false by unfold askedB; rw [hv]; rfl)
    clear hv
    go_wp2_with fail
    go_ret
    exact ⟨ret_bool HV.out.symm, hB1⟩
  | true =>
    have HV := Lib.hid (show askedB m l = setB m l by unfold askedB; rw [hv]; rfl)
    clear hv
    go_wp2_with fail
    refine (Set_calls m l _ _ D _ (hD.up hB1.size) (HM.out.same (hD.same hB1)) (HL.out.same (hD.same hB1))).mono ?_
    rintro e w2 ⟨rfl, hb2⟩
    go_wp2
    go_ret
    exact ⟨ret_bool HV.out.symm, hB1.trans (hb2.mono hB1.size)⟩

theorem ret_vi {v : Value} {k : IntKind} {a b : Int} (h : a = b) : Ending.returned (.tuple #[v, .int k a]) = .returned (.tuple #[v, .int k b]) := by rw [h]
def err (b : Bool) : Int := if b then 0 else 1
def fromOf (m : List St) (l : List Int) : List Int := if askedB m l then reachOf (m.map nextOf) l else []
def toOf (m : List St) (l : List Int) : List Int := if askedB m l then reachOf (Bfs.turn (m.map nextOf)) l else []
def distOf (m : List St) (l : List Int) : List Int := if askedB m l then Bfs.depths (Bfs.turn (m.map nextOf)) l else []
def edgesOf (m : List St) : List (List Int) := if validB m then m.map nextOf else []

theorem From_calls (m : List St) (l : List Int) (v u : Value) (D : Nat → Prop) (w : World) (hD : Lo D w) (h : ModelC w D v m) (hl : Sl (Kind.int .i64) w D u l) :
    Calls Tryz.prog 28 #[v, u] w fun e w' => ∃ v', e = .returned (.tuple #[v', .int .i64 (err (askedB m l))]) ∧ Below w.heap.size w w' ∧ Sl (Kind.int .i64) w' (nws w w') v' (fromOf m l) := by
  obtain ⟨mv, rfl, hmm⟩ := h
  have HM : Hid (ModelC w D (.agg #[mv]) m) := ⟨mv, rfl, hmm⟩
  obtain ⟨A, c, rfl, h1, h2, -⟩ := hmm.form
  have HL := Lib.hid hl
  clear hmm hl
  go_enter Tryz.func28, Tryz.ntmps28
  go_wp2_with fail
  have hB0 := (Below.refl w.heap.size w).alloc (Nat.le_refl _) (.cells #[.slice A m.length c] 24)
  refine (asked_calls m l _ _ D _ (hD.up hB0.size) (HM.out.same (hD.same hB0)) (HL.out.same (hD.same hB0))).mono ?_
  rintro e w1 ⟨rfl, hb1⟩
  have hB1 := hB0.trans (hb1.mono hB0.size)
  obtain ⟨hc1, hf1⟩ := bcell hb1
  have hz1 : w.heap.size < w1.heap.size := by have := hb1.size; simp at this; omega
  cases hv : askedB m l with
  | false =>
    have HER := Lib.hid (show (1 : Int) = err (askedB m l) by rw [hv]; rfl)
    have HV := Lib.hid (show fromOf m l = [] by unfold fromOf; rw [hv]; rfl)
    clear hv
    go_wp2_with fail
    go_ret2
    refine ⟨_, ret_vi HER.out, hB1, ?_⟩
    rw [HV.out]; exact Sl.nil _ _ _
  | true =>
    have HER := Lib.hid (show (0 : Int) = err (askedB m l) by rw [hv]; rfl)
    obtain ⟨a1, a2, a3⟩ := askedB.spec hv
    have HV := Lib.hid (show fromOf m l = reachOf (m.map nextOf) l by unfold fromOf; rw [hv]; rfl)
    have HA := Lib.hid (And.intro a1 a2)
    clear hv a1 a2
    go_wp2_with fail
    refine (Forward_calls m l _ _ D _ (hD.up hB1.size) (HM.out.same (hD.same hB1)) (HL.out.same (hD.same hB1)) HA.out.1 HA.out.2 (by omega)).mono ?_
    rintro e w2 ⟨v', rfl, hb2, hr⟩
    have HR := Lib.hid hr
    clear hr
    go_wp2
    go_ret2
    refine ⟨_, ret_vi HER.out, hB1.trans (hb2.mono hB1.size), ?_⟩
    rw [HV.out]
    exact HR.out.mono fun k hk => ⟨by have := hk.1; have := hB1.size; omega, hk.2⟩

theorem To_calls (m : List St) (l : List Int) (v u : Value) (D : Nat → Prop) (w : World) (hD : Lo D w) (h : ModelC w D v m) (hl : Sl (Kind.int .i64) w D u l) :
    Calls Tryz.prog 29 #[v, u] w fun e w' => ∃ v', e = .returned (.tuple #[v', .int .i64 (err (askedB m l))]) ∧ Below w.heap.size w w' ∧ Sl (Kind.int .i64) w' (nws w w') v' (toOf m l) := by
  obtain ⟨mv, rfl, hmm⟩ := h
  have HM : Hid (ModelC w D (.agg #[mv]) m) := ⟨mv, rfl, hmm⟩
  obtain ⟨A, c, rfl, h1, h2, -⟩ := hmm.form
  have HL := Lib.hid hl
  clear hmm hl
  go_enter Tryz.func29, Tryz.ntmps29
  go_wp2_with fail
  have hB0 := (Below.refl w.heap.size w).alloc (Nat.le_refl _) (.cells #[.slice A m.length c] 24)
  refine (asked_calls m l _ _ D _ (hD.up hB0.size) (HM.out.same (hD.same hB0)) (HL.out.same (hD.same hB0))).mono ?_
  rintro e w1 ⟨rfl, hb1⟩
  have hB1 := hB0.trans (hb1.mono hB0.size)
  obtain ⟨hc1, hf1⟩ := bcell hb1
  have hz1 : w.heap.size < w1.heap.size := by have := hb1.size; simp at this; omega
  cases hv : askedB m l with
  | false =>
    have HER := Lib.hid (show (1 : Int) = err (askedB m l) by rw [hv]; rfl)
    have HV := Lib.hid (show toOf m l = [] by unfold toOf; rw [hv]; rfl)
    clear hv
    go_wp2_with fail
    go_ret2
    refine ⟨_, ret_vi HER.out, hB1, ?_⟩
    rw [HV.out]; exact Sl.nil _ _ _
  | true =>
    have HER := Lib.hid (show (0 : Int) = err (askedB m l) by rw [hv]; rfl)
    obtain ⟨a1, a2, a3⟩ := askedB.spec hv
    have HV := Lib.hid (show toOf m l = reachOf (Bfs.turn (m.map nextOf)) l by unfold toOf; rw [hv]; rfl)
    have HA := Lib.hid (And.intro a1 a2)
    clear hv a1 a2
    go_wp2_with fail
    refine (Backward_calls m l _ _ D _ (hD.up hB1.size) (HM.out.same (hD.same hB1)) (HL.out.same (hD.same hB1)) HA.out.1 HA.out.2 (by omega)).mono ?_
    rintro e w2 ⟨v', rfl, hb2, hr⟩
    have HR := Lib.hid hr
    clear hr
    go_wp2
    go_ret2
    refine ⟨_, ret_vi HER.out, hB1.trans (hb2.mono hB1.size), ?_⟩
    rw [HV.out]
    exact HR.out.mono fun k hk => ⟨by have := hk.1; have := hB1.size; omega, hk.2⟩

theorem Distance_calls (m : List St) (l : List Int) (v u : Value) (D : Nat → Prop) (w : World) (hD : Lo D w) (h : ModelC w D v m) (hl : Sl (Kind.int .i64) w D u l) :
    Calls Tryz.prog 30 #[v, u] w fun e w' => ∃ v', e = .returned (.tuple #[v', .int .i64 (err (askedB m l))]) ∧ Below w.heap.size w w' ∧ Sl (Kind.int .i64) w' (nws w w') v' (distOf m l) := by
  obtain ⟨mv, rfl, hmm⟩ := h
  have HM : Hid (ModelC w D (.agg #[mv]) m) := ⟨mv, rfl, hmm⟩
  obtain ⟨A, c, rfl, h1, h2, -⟩ := hmm.form
  have HL := Lib.hid hl
  clear hmm hl
  go_enter Tryz.func30, Tryz.ntmps30
  go_wp2_with fail
  have hB0 := (Below.refl w.heap.size w).alloc (Nat.le_refl _) (.cells #[.slice A m.length c] 24)
  refine (asked_calls m l _ _ D _ (hD.up hB0.size) (HM.out.same (hD.same hB0)) (HL.out.same (hD.same hB0))).mono ?_
  rintro e w1 ⟨rfl, hb1⟩
  have hB1 := hB0.trans (hb1.mono hB0.size)
  obtain ⟨hc1, hf1⟩ := bcell hb1
  have hz1 : w.heap.size < w1.heap.size := by have := hb1.size; simp at this; omega
  cases hv : askedB m l with
  | false =>
    have HER := Lib.hid (show (1 : Int) = err (askedB m l) by rw [hv]; rfl)
    have HV := Lib.hid (show distOf m l = [] by unfold distOf; rw [hv]; rfl)
    clear hv
    go_wp2_with fail
    go_ret2
    refine ⟨_, ret_vi HER.out, hB1, ?_⟩
    rw [HV.out]; exact Sl.nil _ _ _
  | true =>
    have HER := Lib.hid (show (0 : Int) = err (askedB m l) by rw [hv]; rfl)
    obtain ⟨a1, a2, a3⟩ := askedB.spec hv
    have HV := Lib.hid (show distOf m l = Bfs.depths (Bfs.turn (m.map nextOf)) l by unfold distOf; rw [hv]; rfl)
    have hTL : (Bfs.turn (m.map nextOf)).length = m.length := by unfold Bfs.turn; rw [Bfs.turnTo_len, List.length_map]
    have HE := Lib.hid (Edges.of_fine a1)
    have HE2 := Lib.hid (Edges.turned a1)
    have HMM := Lib.hid (show ∀ s ∈ l, 0 ≤ s ∧ s < ((Bfs.turn (m.map nextOf)).length : Int) by rw [hTL]; exact a2)
    have HA := Lib.hid a1
    clear hv a1 a2 hTL
    go_wp2_with fail
    refine (Next_calls m _ D _ (hD.up hB1.size) (HM.out.same (hD.same hB1)) HA.out).mono ?_
    rintro e w2 ⟨nv, rfl, hb2, hn⟩
    have hB2 := hB1.trans (hb2.mono hB1.size)
    have HN := Lib.hid hn
    clear hn
    go_wp2_with fail
    refine (turned_calls (m.map nextOf) _ _ _ (fun k hk => hk.2.1) HN.out HE.out).mono ?_
    rintro e wt ⟨tv, rfl, hbt, ht⟩
    have hB3 := hB2.trans (hbt.mono hB2.size)
    have HT := Lib.hid ht
    clear ht
    go_wp2_with fail
    refine (Depths_calls (Bfs.turn (m.map nextOf)) l _ _ (fun k => k < wt.heap.size) _ (fun k hk => hk) (HT.out.mono fun k hk => hk.2.1) ((HL.out.same (hD.same hB3)).mono fun k hk => Nat.lt_of_lt_of_le (hD k hk) hB3.size) HE2.out HMM.out (by omega)).mono ?_
    rintro e w4 ⟨v', rfl, hb4, hr⟩
    have HR := Lib.hid hr
    clear hr
    go_wp2
    go_ret2
    refine ⟨_, ret_vi HER.out, hB3.trans (hb4.mono hB3.size), ?_⟩
    rw [HV.out]
    exact HR.out.mono fun k hk => ⟨by have := hk.1; have := hB3.size; omega, hk.2⟩

theorem Edges_calls (m : List St) (v : Value) (D : Nat → Prop) (w : World) (hD : Lo D w) (h : ModelC w D v m) :
    Calls Tryz.prog 27 #[v] w fun e w' => ∃ v', e = .returned (.tuple #[v', .int .i64 (err (validB m))]) ∧ Below w.heap.size w w' ∧ Rows2 w' (nws w w') v' (edgesOf m) := by
  obtain ⟨mv, rfl, hmm⟩ := h
  have HM : Hid (ModelC w D (.agg #[mv]) m) := ⟨mv, rfl, hmm⟩
  obtain ⟨A, c, rfl, h1, h2, -⟩ := hmm.form
  clear hmm
  go_enter Tryz.func27, Tryz.ntmps27
  go_wp2_with fail
  have hB0 := (Below.refl w.heap.size w).alloc (Nat.le_refl _) (.cells #[.slice A m.length c] 24)
  refine (Valid_calls m _ D _ (hD.up hB0.size) (HM.out.same (hD.same hB0))).mono ?_
  rintro e w1 ⟨rfl, hb1⟩
  have hB1 := hB0.trans (hb1.mono hB0.size)
  obtain ⟨hc1, hf1⟩ := bcell hb1
  have hz1 : w.heap.size < w1.heap.size := by have := hb1.size; simp at this; omega
  cases hv : validB m with
  | false =>
    have HER := Lib.hid (show (1 : Int) = err (validB m) by rw [hv]; rfl)
    have HV := Lib.hid (show edgesOf m = [] by unfold edgesOf; rw [hv]; rfl)
    clear hv
    go_wp2_with fail
    go_ret2
    refine ⟨_, ret_vi HER.out, hB1, ?_⟩
    rw [HV.out]; exact Sl.nil _ _ _
  | true =>
    have HER := Lib.hid (show (0 : Int) = err (validB m) by rw [hv]; rfl)
    have HA := Lib.hid (Fine.of_valid hv)
    have HV := Lib.hid (show edgesOf m = m.map nextOf by unfold edgesOf; rw [hv]; rfl)
    clear hv
    go_wp2_with fail
    refine (Next_calls m _ D _ (hD.up hB1.size) (HM.out.same (hD.same hB1)) HA.out).mono ?_
    rintro e w2 ⟨nv, rfl, hb2, hn⟩
    have HR := Lib.hid hn
    clear hn
    go_wp2
    go_ret2
    refine ⟨_, ret_vi HER.out, hB1.trans (hb2.mono hB1.size), ?_⟩
    rw [HV.out]
    exact HR.out.mono fun k hk => ⟨by have := hk.1; have := hB1.size; omega, hk.2⟩

end Go.Proofs.YtoffbdlgmnpblaaGreat
