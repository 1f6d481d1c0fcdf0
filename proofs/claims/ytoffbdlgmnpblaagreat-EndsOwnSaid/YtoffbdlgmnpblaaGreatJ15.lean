/- Part 15: Tmd Tr2 Tr3. -/
import Derived.Test.YtoffbdlgmnpblaaGreatJ13
import Derived.OrdersHeld
import Derived.RegionTactic
import Derived.BigRegion

/- A region that draws its order: what holds of the world may depend on which operations have come up. -/
namespace Go.Proofs.YtoffbdlgmnpblaaGreat

section
variable {P : Program} {ops : Array Oper} {Q : Exit → Act → World → Prop} {md : Region.Mode} {S : Array Bool → World → Prop}

/-- whatever order is picked from here on, and S holds behind each operation, of what has come up and of the world -/
def Timed (P : Program) (md : Region.Mode) (ops : Array Oper) (Q : Exit → Act → World → Prop) (S : Array Bool → World → Prop) : Nat → Array Bool → Act → World → Prop
  | 0, L, a, w => Region.ready md ops L = [] ∧ Q .normal a w
  | n + 1, L, a, w => (Region.ready md ops L = [] → Q .normal a w) ∧
      ∀ j ∈ Region.ready md ops L, wpOp P ops Q j (fun a' w' => S (L.setIfInBounds j true) w' ∧ Timed P md ops Q S n (L.setIfInBounds j true) a' w') a w

theorem Timed.any : ∀ (n : Nat) (L : Array Bool) (a : Act) (w : World), Timed P md ops Q S n L a w → wpAny P md ops Q n L a w
  | 0, _, _, _, h => h
  | n + 1, _, _, _, h => ⟨h.1, fun j hj => wpOp_mono (fun a' w' h' => Timed.any n _ a' w' h'.2) (h.2 j hj)⟩

/-- a number that may come up now is taken first: where G holds of what has come up S gives what it needs, and G stays while it has not come up -/
theorem Timed.first {i : Nat} {oi : Oper} {v : Value} {T : World → Prop} {G : Array Bool → Prop} (hi : ops[i]? = some oi) (hsel : ∀ (j : Nat) (o : Oper) cs b, ops[j]? = some o → o.op ≠ .select cs b)
    (hQ : ∀ c a w, Q (.panic c) (a.put oi.dst v) w → Q (.panic c) a w)
    (hG : ∀ L j, G L → j ≠ i → i ∈ Region.ready md ops L → j ∈ Region.ready md ops L → G (L.setIfInBounds j true))
    (hT : ∀ L w, G L → S L w → T w) (hSi : ∀ L w, S (L.setIfInBounds i true) w → S L w) :
    ∀ (n : Nat) (L : Array Bool) (a : Act) (w : World),
      (∀ j oj, ops[j]? = some oj → j ≠ i → L.getD j true = false → (∀ e ∈ oj.after, Region.binds md e = true → e.on ≠ i) → oi.apart ops oj = true) →
      i ∈ Region.ready md ops L → G L → YieldsIf P ops T oi v a → S L w → S (L.setIfInBounds i true) w →
      Timed P md ops Q S n (L.setIfInBounds i true) (a.put oi.dst v) w → Timed P md ops Q S (n + 1) L a w := by
  intro n
  induction n with
  | zero =>
    intro L a w _ hr hg hy hS hS' H
    refine ⟨fun h => (by rw [h] at hr; cases hr), fun j hj => ?_⟩
    by_cases hji : j = i
    · subst hji; exact hy.wpOp hi (hT _ _ hg hS) ⟨hS', H⟩
    · exact absurd (ready_mono hj hji) (by rw [H.1]; exact List.not_mem_nil)
  | succ n ih =>
    intro L a w hfree hr hg hy hS hS' H
    refine ⟨fun h => (by rw [h] at hr; cases hr), fun j hj => ?_⟩
    by_cases hji : j = i
    · subst hji; exact hy.wpOp hi (hT _ _ hg hS) ⟨hS', H⟩
    · obtain ⟨hjun, oj, hoj, hall⟩ := mem_ready.1 hj
      have hnot : ∀ e ∈ oj.after, Region.binds md e = true → e.on ≠ i := fun e he hb heq => by
        have h1 := hall e he hb
        have h0 := (mem_ready.1 hr).1
        rw [heq] at h1
        rcases Nat.lt_or_ge i L.size with h' | h'
        · simp [h'] at h0 h1; rw [h0] at h1; cases h1
        · simp [Array.getElem?_eq_none h'] at h1
      have h2 := wpOp_putIf hoj (hfree j oj hoj hji hjun hnot) (fun cs b => hsel i oi cs b hi) (fun cs b => hsel j oj cs b hoj) hQ hy (H.2 j (ready_mono hj hji))
      refine wpOp_mono (fun a' w' h3 => ?_) h2
      have hs' : S (L.setIfInBounds j true) w' := hSi _ _ (by rw [Array.setIfInBounds_comm _ _ hji]; exact h3.2.1)
      refine ⟨hs', ih (L.setIfInBounds j true) a' w' (fun k ok hk hki hun hno => hfree k ok hk hki ?_ hno) (ready_mono hr (Ne.symm hji)) (hG L j hg hji hr hj) h3.1 hs' (by rw [Array.setIfInBounds_comm _ _ hji]; exact h3.2.1) (by rw [Array.setIfInBounds_comm _ _ hji]; exact h3.2.2)⟩
      by_cases hjk : j = k
      · subst hjk; exact hjun
      · rw [getD_set_ne true hjk] at hun; exact hun

theorem Timed.all {rs : List Nat} {n : Nat} {L : Array Bool} {a : Act} {w : World} (hr : Region.ready md ops L = rs) (hne : rs ≠ [])
    (h : ∀ j ∈ rs, wpOp P ops Q j (fun a' w' => S (L.setIfInBounds j true) w' ∧ Timed P md ops Q S n (L.setIfInBounds j true) a' w') a w) : Timed P md ops Q S (n + 1) L a w :=
  ⟨fun h0 => absurd (hr ▸ h0) hne, hr ▸ h⟩
theorem Timed.done {L : Array Bool} {a : Act} {w : World} (hr : Region.ready md ops L = []) (h : Q .normal a w) : ∀ n, Timed P md ops Q S n L a w
  | 0 => ⟨hr, h⟩
  | _ + 1 => ⟨fun _ => h, by rw [hr]; simp⟩
theorem Timed.region {id : Nat} {a : Act} {w : World} (hm : P.follows .mixedOrders = true)
    (h : Timed P .any ops Q S ops.size (Array.replicate ops.size false) a w.drew) : (Code.region id ops true).wp P Q a w :=
  wp_region_any hm (Timed.any _ _ _ _ h)
end

section
variable {P : Program} {ops : Array Oper} {Q : Exit → Act → World → Prop} {md : Region.Mode} {T U : World → Prop} {k : Nat}
/-- U always, T till number k has come up -/
def Till (k : Nat) (T U : World → Prop) (L : Array Bool) (w : World) : Prop := (L.getD k false = true ∨ T w) ∧ U w

/-- what needs U alone -/
theorem Till.take {i : Nat} {oi : Oper} {v : Value} {n : Nat} {L : Array Bool} {a : Act} {w : World} (hi : ops[i]? = some oi) (hki : k ≠ i)
    (hs : Region.noSelect ops = true) (hf : Region.free md ops L i = true) (hr : (Region.ready md ops L).contains i = true)
    (hQ : ∀ c a w, Q (.panic c) (a.put oi.dst v) w → Q (.panic c) a w) (hy : YieldsIf P ops U oi v a) (hS : Till k T U L w)
    (h : Till k T U (L.setIfInBounds i true) w → Timed P md ops Q (Till k T U) n (L.setIfInBounds i true) (a.put oi.dst v) w) : Timed P md ops Q (Till k T U) (n + 1) L a w := by
  have e : ∀ L : Array Bool, (L.setIfInBounds i true).getD k false = L.getD k false := fun L => getD_set_ne false (Ne.symm hki)
  have hS' : Till k T U (L.setIfInBounds i true) w := ⟨by rw [e]; exact hS.1, hS.2⟩
  exact Timed.first (T := U) (G := fun _ => True) hi (Region.noSelect_spec hs) hQ (fun _ _ _ _ _ _ => trivial) (fun _ _ _ h => h.2) (fun L w h => ⟨by rw [← e]; exact h.1, h.2⟩) n L a w (Region.free_spec hi hf) (by simpa using hr) trivial hy hS hS' (h hS')
/-- what needs T, and number k waits for it -/
theorem Till.takeT {i : Nat} {oi ok : Oper} {v : Value} {n : Nat} {L : Array Bool} {a : Act} {w : World} (hi : ops[i]? = some oi) (hki : k ≠ i) (hk : ops[k]? = some ok) (hw : (ok.after.any fun e => Region.binds md e && e.on == i) = true)
    (hs : Region.noSelect ops = true) (hf : Region.free md ops L i = true) (hr : (Region.ready md ops L).contains i = true) (hkL : L.getD k false = false)
    (hQ : ∀ c a w, Q (.panic c) (a.put oi.dst v) w → Q (.panic c) a w) (hy : YieldsIf P ops T oi v a) (hS : Till k T U L w)
    (h : Till k T U (L.setIfInBounds i true) w → Timed P md ops Q (Till k T U) n (L.setIfInBounds i true) (a.put oi.dst v) w) : Timed P md ops Q (Till k T U) (n + 1) L a w := by
  have e : ∀ L : Array Bool, (L.setIfInBounds i true).getD k false = L.getD k false := fun L => getD_set_ne false (Ne.symm hki)
  have hS' : Till k T U (L.setIfInBounds i true) w := ⟨by rw [e]; exact hS.1, hS.2⟩
  refine Timed.first (T := T) (G := fun L => L.getD k false = false) hi (Region.noSelect_spec hs) hQ (fun L j hg hji hri hrj => ?_) (fun L w hg h => h.1.resolve_left (by rw [hg]; decide)) (fun L w h => ⟨by rw [← e]; exact h.1, h.2⟩) n L a w (Region.free_spec hi hf) (by simpa using hr) hkL hy hS hS' (h hS')
  have hjk : j ≠ k := fun e => by
    subst e
    obtain ⟨-, oj, hoj, hall⟩ := mem_ready.1 hrj
    rw [hk] at hoj
    injection hoj with hoj
    subst hoj
    obtain ⟨q, hq, h1⟩ := Array.any_eq_true.1 hw
    simp only [Bool.and_eq_true, beq_iff_eq] at h1
    have h2 := hall _ (Array.getElem_mem hq) h1.1
    have h0 := (mem_ready.1 hri).1
    rw [h1.2] at h2
    rcases Nat.lt_or_ge i L.size with h' | h'
    · simp [h'] at h0 h2; rw [h0] at h2; cases h2
    · simp [Array.getElem?_eq_none h'] at h2
  show (L.setIfInBounds j true).getD k false = false
  rw [getD_set_ne false hjk]; exact hg
end

end Go.Proofs.YtoffbdlgmnpblaaGreat

/- Package graph: the finder enters a state. -/
namespace Go.Proofs.YtoffbdlgmnpblaaGreat
open Go.RowKit
open Tar (TS)
set_option maxHeartbeats 4000000
set_option maxRecDepth 100000

/-- what holds all through a region that reads the finder's address -/
abbrev HeldF (q F : Nat) (V : World) : Prop := V.cell? ⟨q, 0, none⟩ = some (.pointer (some ⟨F, 0, none⟩)) ∧ q < V.heap.size
theorem heldF_set {q F : Nat} {V : World} {p : Addr} (hne : p.block ≠ q) (h : HeldF q F V) (u : Value) : HeldF q F (V.setCell p u) := by
  obtain ⟨h1, h5⟩ := h
  exact ⟨(World.cell?_of_block (w := V) (a := ⟨q, 0, none⟩) (Below.heap_setCell _ _ _ _ (fun e => hne e.symm))).trans h1, by simpa [World.setCell] using h5⟩

theorem enter_calls (x : Fp) (B : Nat) (W : World) (s : Int) (q1 q2 : Nat) (hx : FinC x B W) (hov : x.ovb = x.ov) (hc1 : W.cell? ⟨q1, 0, none⟩ = some (.pointer (some ⟨x.p, 0, none⟩))) (hc2 : W.cell? ⟨q2, 0, none⟩ = some (.pointer (some ⟨x.F, 0, none⟩)))
    (o1 : Off x q1) (o2 : Off x q2) (h0 : 0 ≤ s) (h1 : s < (x.n : Int)) (_hn : x.n ≤ 100) (hcnt : 0 ≤ x.t.cnt ∧ x.t.cnt ≤ 1000000) (hop : x.t.opn.length ≤ 1000000) (hB : B ≤ W.heap.size) :
    Calls Tryz.prog 159 #[.int .i64 s, .pointer (some ⟨q1, 0, none⟩), .pointer (some ⟨q2, 0, none⟩)] W fun e W' => e = .returned (.tuple #[]) ∧ ∃ ov', FinC { x with t := Tar.enter x.t s, ov := ov', ovb := ov' } B W' ∧ Evo x W { x with t := Tar.enter x.t s, ov := ov', ovb := ov' } W' := by
  have l1 : q1 < W.heap.size := by
    unfold World.cell? at hc1
    cases hh : W.heap[q1]? with
    | none => rw [hh] at hc1; cases hc1
    | some o => exact (Array.getElem?_eq_some_iff.1 hh).1
  have l2 : q2 < W.heap.size := by
    unfold World.cell? at hc2
    cases hh : W.heap[q2]? with
    | none => rw [hh] at hc2; cases hc2
    | some o => exact (Array.getElem?_eq_some_iff.1 hh).1
  obtain ⟨c1, c2⟩ := hcnt
  obtain ⟨k1, k2⟩ := hx.cnt
  have O1 := Lib.hid o1
  have O2 := Lib.hid o2
  have HOV := Lib.hid hov
  have HC1 := Lib.hid hc1
  have HC2 := Lib.hid hc2
  clear o1 o2 hov
  go_enter Tryz.func159, Tryz.ntmps159
  go_upto_region 1 with fail
  obtain ⟨hx1, he1⟩ := hx.setCnt (x.t.cnt + 1)
  have a1 := (he1.cell O1.out l1 0).trans HC1.out
  have a2 := (he1.cell O2.out l2 0).trans HC2.out
  have O1' := Lib.hid (he1.off O1.out l1)
  have O2' := Lib.hid (he1.off O2.out l2)
  have hz1 := he1.size
  generalize W.setCell ⟨x.p, 0, none⟩ (.int .i64 (x.t.cnt + 1)) = W1 at *
  obtain ⟨⟨-, b1, b2, b3, b4, -⟩, bf⟩ := hx1.box
  obtain ⟨k1', k2'⟩ := hx1.cnt
  obtain ⟨i1, i2⟩ := hx1.idx h0 h1
  obtain ⟨j1, j2⟩ := hx1.low h0 h1
  clear k1 k2 hc1 hc2 bf
  obtain ⟨hx2, he2⟩ := hx1.setIdx h0 h1 (x.t.cnt + 1)
  obtain ⟨m1, m2⟩ := hx2.low h0 h1
  obtain ⟨hx3, he3⟩ := hx2.setLow h0 h1 (x.t.cnt + 1)
  go_region
  have hx3 := hx3.drew
  have he3 := (he1.trans (he2.trans he3)).drew
  have a1 := (he3.cell O1.out l1 0).trans HC1.out
  have a2 := (he3.cell O2.out l2 0).trans HC2.out
  generalize ((W1.setCell ⟨x.gi, s.toNat, none⟩ (.int .i64 (x.t.cnt + 1))).setCell ⟨x.gl, s.toNat, none⟩ (.int .i64 (x.t.cnt + 1))).drew = W3 at *
  clear hx1 he1 hx2 he2 b1 b2 b4 k1' k2' i1 i2 j1 j2 m1 m2 b3 O1' O2'
  go_upto_region 2 with fail
  obtain ⟨⟨-, -, -, b3, -, -⟩, bf⟩ := hx3.box
  have b3' : W3.cell? ⟨x.F, 3, none⟩ = some x.ov := by rw [← HOV.out]; exact b3
  clear b3
  have hown : W3.ownsRow B 3 1 x.ov x.t.opn.length (ints x.t.opn.reverse) := hx3.comps 5
  have l3 : q2 < W3.heap.size := Nat.lt_of_lt_of_le l2 he3.size
  have l4 : x.F < W3.heap.size := (hx3.lt (j := 3) rfl).2
  have hB3 : B ≤ W3.heap.size := Nat.le_trans hB he3.size
  have HX3 := Lib.hid hx3
  have HE3 := Lib.hid he3
  have hx3d := (hx3.drew.below ((Below.refl _ _).alloc (Nat.le_refl _) (.cells #[.int .i64 s] 3)))
  have he3d := (Evo.of_below { x with t := { x.t with idx := x.t.idx.set s.toNat (x.t.cnt + 1), low := x.t.low.set s.toNat (x.t.cnt + 1), cnt := x.t.cnt + 1 } } ((Below.refl W3.drew.heap.size W3.drew).alloc (Nat.le_refl _) (.cells #[.int .i64 s] 3)))
  have HXD := Lib.hid hx3d
  have HED := Lib.hid he3d
  clear bf hx3d he3d
  have hFq : x.F ≠ q2 := fun e => O2.out 3 (by rw [← e]; rfl)
  have s0 : HeldF q2 x.F W3.drew := ⟨a2, l3⟩
  clear a1 hx3 he3 hx
  have hS0 : Till 7 (fun V => V.cell? ⟨x.F, 3, none⟩ = some x.ov) (fun V => V.cell? ⟨q2, 0, none⟩ = some (.pointer (some ⟨x.F, 0, none⟩)) ∧ q2 < V.heap.size) (Array.replicate 11 false) W3.drew := ⟨.inr b3', a2, l3⟩
  have HOWN := Lib.hid hown
  clear hown s0
  refine Timed.region (S := Till 7 (fun V => V.cell? ⟨x.F, 3, none⟩ = some x.ov) (fun V => V.cell? ⟨q2, 0, none⟩ = some (.pointer (some ⟨x.F, 0, none⟩)) ∧ q2 < V.heap.size)) (by kernel_rfl) ?_
  refine Till.take (i := 0) (n := 10) (v := .pointer (some ⟨x.F, 0, none⟩)) rfl (by decide) (by kernel_rfl) (by kernel_rfl) (by kernel_rfl) (fun _ _ _ h => h) (Or.inl ⟨by rfl, ?_⟩) hS0 (fun hS1 => ?_)
  · intro w hw; obtain ⟨hw1, hw2⟩ := hw; go_simp
  simp only [Act.put, List.setIfInBounds_toArray]
  clear hS0
  refine Till.take (i := 1) (n := 9) (v := .pointer (some ⟨x.F, 0, none⟩)) rfl (by decide) (by kernel_rfl) (by kernel_rfl) (by kernel_rfl) (fun _ _ _ h => h) (Or.inl ⟨by rfl, ?_⟩) hS1 (fun hS2 => ?_)
  · intro w hw; obtain ⟨hw1, hw2⟩ := hw; go_simp
  simp only [Act.put]
  clear hS1
  refine Till.take (i := 2) (n := 8) (v := .pointer (some ⟨x.F, 0, none⟩)) rfl (by decide) (by kernel_rfl) (by kernel_rfl) (by kernel_rfl) (fun _ _ _ h => h) (Or.inl ⟨by rfl, ?_⟩) hS2 (fun hS3 => ?_)
  · intro w hw; obtain ⟨hw1, hw2⟩ := hw; go_simp
  simp only [Act.put]
  clear hS2
  refine Till.take (i := 3) (n := 7) (v := .pointer (some ⟨x.F, 3, none⟩)) rfl (by decide) (by kernel_rfl) (by kernel_rfl) (by kernel_rfl) (fun _ _ _ h => h) (Or.inl ⟨by rfl, ?_⟩) hS3 (fun hS4 => ?_)
  · intro w hw; obtain ⟨hw1, hw2⟩ := hw; go_simp
  simp only [Act.put]
  clear hS3
  refine Till.takeT (i := 4) (n := 6) (v := x.ov) rfl (by decide) rfl (by kernel_rfl) (by kernel_rfl) (by kernel_rfl) (by kernel_rfl) (by kernel_rfl) (fun _ _ _ h => h) (Or.inl ⟨by rfl, ?_⟩) hS4 (fun hS5 => ?_)
  · intro w hw; go_simp
  simp only [Act.put]
  clear hS4
  refine Till.take (i := 5) (n := 5) (v := .int .i64 s) rfl (by decide) (by kernel_rfl) (by kernel_rfl) (by kernel_rfl) (fun _ _ _ h => h) (Or.inl ⟨by rfl, ?_⟩) hS5 (fun hS6 => ?_)
  · intro w hw; obtain ⟨hw1, hw2⟩ := hw; go_simp
  simp only [Act.put]
  clear hS5
  refine Timed.all (rs := [6]) (n := 4) (by kernel_rfl) (by simp) ?_
  intro j hj
  obtain rfl : j = 6 := by simpa using hj
  refine wpOp_step rfl (fun K' hK => ?_)
  have HK6 := Lib.hid hK
  clear hK hj
  go_simp
  refine HK6.out _ _ ⟨⟨.inr ((World.cell?_alloc_lt _ _ _ l4).trans b3'), (World.cell?_alloc_lt _ _ _ l3).trans a2, by simp; omega⟩, ?_⟩
  try simp only [Act.put, List.setIfInBounds_toArray, List.set_cons_zero, List.set_cons_succ]
  clear HK6 hS6
  refine Timed.all (rs := [7]) (n := 3) (by kernel_rfl) (by simp) ?_
  intro j hj
  obtain rfl : j = 7 := by simpa using hj
  refine wpOp_step rfl (fun K' hK => ?_)
  have HK7 := Lib.hid hK
  clear hK hj
  refine step_app1 elem_i64 rfl _ _ rfl B x.ov x.t.opn.length (ints x.t.opn.reverse) rfl (HOWN.out.alloc _) ⟨_, 0, none⟩ 1 _ rfl (cell_new1 _ _ _) rfl (by omega) (by omega) (by simp; omega) ?_
  intro v4 w4 ho4 hg4 ha4
  have hg4 : (W3.drew.alloc (.cells #[.int .i64 s] 3)).grownBy w4 x.ov.ownBlock := hg4
  have ha4 : v4.ownBlock = x.ov.ownBlock ∨ v4.ownBlock = some (W3.drew.alloc (.cells #[.int .i64 s] 3)).heap.size := ha4
  obtain ⟨hx4, he4⟩ := HXD.out.newOpn (o := s :: x.t.opn) (by simpa [ints] using ho4) hg4 (ha4.imp id fun e k hk => by rw [e] at hk; cases hk; exact Nat.le_refl _)
  have heq := HE3.out.trans ((Evo.of_below _ ((Below.refl W3.heap.size W3).drew)).trans (HED.out.trans he4))
  have s4 : HeldF q2 x.F w4 := ⟨(heq.cell O2.out l2 0).trans HC2.out, Nat.lt_of_lt_of_le l2 heq.size⟩
  have m3 := hx4.box.1.2.2.2.1
  have mf3 := hx4.box.2 3
  obtain ⟨A4, c4, rfl, _, _, _⟩ := own_form ho4
  have HX4 := Lib.hid hx4
  have HEQ := Lib.hid heq
  refine HK7.out _ _ ⟨⟨.inl (by kernel_rfl), s4⟩, ?_⟩
  try simp only [Act.put, List.setIfInBounds_toArray]
  clear HK7 ho4 hg4 ha4 hx4 he4 heq b3' a2
  refine Till.take (i := 8) (n := 2) (v := .pointer (some ⟨x.F, 0, none⟩)) rfl (by decide) (by kernel_rfl) (by kernel_rfl) (by kernel_rfl) (fun _ _ _ h => h) (Or.inl ⟨by rfl, ?_⟩) ⟨.inl (by kernel_rfl), s4⟩ (fun hS8 => ?_)
  · intro w hw; obtain ⟨hw1, hw2⟩ := hw; go_simp
  try simp only [Act.put]
  refine Till.take (i := 9) (n := 1) (v := .pointer (some ⟨x.F, 3, none⟩)) rfl (by decide) (by kernel_rfl) (by kernel_rfl) (by kernel_rfl) (fun _ _ _ h => h) (Or.inl ⟨by rfl, ?_⟩) hS8 (fun hS9 => ?_)
  · intro w hw; obtain ⟨hw1, hw2⟩ := hw; go_simp
  try simp only [Act.put]
  clear hS8 hS9
  refine Timed.all (rs := [10]) (n := 0) (by kernel_rfl) (by simp) ?_
  intro j hj
  obtain rfl : j = 10 := by simpa using hj
  refine wpOp_step rfl (fun K' hK => ?_)
  have HK10 := Lib.hid hK
  clear hK hj
  go_simp
  refine HK10.out _ _ ⟨⟨.inl (by kernel_rfl), heldF_set hFq s4 _⟩, Timed.done (by kernel_rfl) ?_ _⟩
  clear HK10
  obtain ⟨hx5, he5⟩ := HX4.out.boxOpn (.slice A4 (x.t.opn.length + 1) c4)
  have heT := HEQ.out.trans he5
  have a2 := (heT.cell O2.out l2 0).trans HC2.out
  clear HX4 HEQ s4 m3 mf3 he5
  generalize w4.setCell ⟨x.F, 3, none⟩ (.slice A4 (x.t.opn.length + 1) c4) = W5 at *
  obtain ⟨⟨-, -, -, -, b4, -⟩, -⟩ := hx5.box
  obtain ⟨n1, n2⟩ := hx5.on h0 h1
  obtain ⟨hx6, he6⟩ := hx5.setOn h0 h1 true
  have HX6 := Lib.hid hx6
  have HE6 := Lib.hid (heT.trans he6)
  clear hx5 hx6 he6 heT
  go_wp2
  go_end0
  exact ⟨rfl, _, HX6.out, HE6.out⟩

end Go.Proofs.YtoffbdlgmnpblaaGreat

/- Package graph: the finder ends a component. -/
namespace Go.Proofs.YtoffbdlgmnpblaaGreat
open Go.RowKit
open Tar (TS)
set_option maxHeartbeats 4000000
set_option maxRecDepth 100000

section
variable {x x' : Fp} {B : Nat} {W W' : World}
theorem Evo.grown {W0 : World} {x0 : Fp} {row : Option Nat} (h : Evo x0 W0 x W) (hg : W.grownBy W' row) (hr : ∀ k, row = some k → W0.heap.size ≤ k) : Evo x0 W0 x W' :=
  ⟨hg.os.trans h.os, hg.tape.trans h.tape, hg.output.trans h.output, Nat.le_trans h.size hg.size, fun k hk ho => (hg.block k (Nat.lt_of_lt_of_le hk h.size) (fun e => by have := hr k e.symm; omega)).trans (h.block k hk ho), h.blks⟩
theorem FinC.grown {row : Option Nat} (h : FinC x B W) (hg : W.grownBy W' row) (hr : ∀ k, row = some k → Off x k) : FinC x B W' :=
  h.kept fun k ⟨j, hk⟩ => hg.block k (h.lt hk).2 fun e => hr k e.symm j hk
theorem Off.congr {k : Nat} (h : Off x k) (e : ∀ j, x'.blk j = x.blk j) : Off x' k := fun j hj => h j (by rw [← e j]; exact hj)
theorem FinC.fresh (h : FinC x B W) {k : Nat} (hk : W.heap.size ≤ k) : Off x k := fun j hj => by have := (h.lt hj).2; omega
theorem own_lower {e : TypeId} {sz : Nat} {v : Value} {n : Nat} {vs : List Value} {B' : Nat} (h : W.ownsRow B' e sz v n vs) (hB : B ≤ B') : W.ownsRow B e sz v n vs := by
  obtain ⟨hl, h1 | ⟨g, cap, cur, hv, hb, h4⟩⟩ := h
  · exact ⟨hl, .inl h1⟩
  · exact ⟨hl, .inr ⟨g, cap, cur, hv, by omega, h4⟩⟩
theorem Evo.addRow {W0 : World} {x0 : Fp} (h : Evo x0 W0 x W) {v : Value} {p : List Int} (hk : ∀ k, v.ownBlock = some k → W0.heap.size ≤ k) : Evo x0 W0 { x with vs := x.vs ++ [v], t := { x.t with out := x.t.out ++ [p] } } W := by
  refine ⟨h.os, h.tape, h.output, h.size, h.block, fun j k hj => ?_⟩
  match j, hj with
  | 0, hj => exact h.blks 0 k hj
  | 1, hj => exact h.blks 1 k hj
  | 2, hj => exact h.blks 2 k hj
  | 3, hj => exact h.blks 3 k hj
  | 4, hj => exact h.blks 4 k hj
  | 5, hj => exact h.blks 5 k hj
  | 6, hj => exact h.blks 6 k hj
  | r + 7, hj =>
    have hj : ((x.vs ++ [v])[r]?).bind Value.ownBlock = some k := hj
    rcases Nat.lt_or_ge r x.vs.length with hlt | hge
    · rw [List.getElem?_append_left hlt] at hj
      exact h.blks (r + 7) k hj
    · rw [List.getElem?_append_right hge] at hj
      cases hm : r - x.vs.length with
      | zero => rw [hm] at hj; exact .inr (hk k (by simpa using hj))
      | succ m => rw [hm] at hj; simp at hj
theorem own_shrink {e : TypeId} {g n cap : Nat} {vs : List Value} {u : Value} (h : W.ownsRow B e 1 (.slice (some ⟨g, 0, none⟩) (n + 1) cap) (n + 1) (vs ++ [u])) : W.ownsRow B e 1 (.slice (some ⟨g, 0, none⟩) n cap) n vs := by
  obtain ⟨hl, ⟨h1, _⟩ | ⟨g', cap', cur, hv, hb, hg, hnc, hcm, hcs, ht⟩⟩ := h
  · cases h1
  · cases hv
    have hl' : vs.length = n := by simp at hl; omega
    refine ⟨by simp [hl'], .inr ⟨g, cap, cur, rfl, hb, hg, by omega, hcm, hcs, ?_⟩⟩
    have h2 := congrArg (List.take n) ht
    rw [List.take_take, Nat.min_eq_left (by omega), List.take_left' hl'] at h2
    simpa using h2
end

theorem close_calls (x : Fp) (B : Nat) (W : World) (s : Int) (hx : FinC x B W) (hov : x.ovb = x.ov) (hout : x.outb = x.outv) (hws : x.ws = x.vs) (hs : s ∈ x.t.opn) (hop : ∀ u ∈ x.t.opn, 0 ≤ u ∧ u < (x.n : Int)) (hn : x.n ≤ 100) (hol : x.t.opn.length ≤ 100000) (hvl : x.vs.length ≤ 100000) (hB : B ≤ W.heap.size) :
    Calls Tryz.prog 160 #[.pointer (some ⟨x.F, 0, none⟩), .int .i64 s] W fun e W' => e = .returned (.tuple #[]) ∧ ∃ ov' outv' vs', FinC { x with t := Tar.close x.t s, ov := ov', ovb := ov', outv := outv', outb := outv', ws := vs', vs := vs' } B W' ∧ Evo x W { x with t := Tar.close x.t s, ov := ov', ovb := ov', outv := outv', outb := outv', ws := vs', vs := vs' } W' := by
  obtain ⟨n, F, gi, gl, gn, p, nx, ov, outv, ovb, outb, ws, vs, t⟩ := x
  simp only at hov hout hws hs hop hn hol hvl
  subst hov; subst hout; subst hws
  have HX := Lib.hid hx
  have HOP := Lib.hid hop
  go_enter Tryz.func160, Tryz.ntmps160
  go_wp2
  go_loopg [4] t.opn.length (fun k lv W' => ∃ (ov' : Value) (o q : List Int), k = o.length ∧ o.length + q.length ≤ 100000 ∧ s ∈ o ∧ (∀ u ∈ o, 0 ≤ u ∧ u < (n : Int)) ∧ Hid ((Tar.popR s t.opn).1 = q ++ (Tar.popR s o).1) ∧ Hid ((Tar.popR s t.opn).2 = (Tar.popR s o).2) ∧
      FinC ⟨n, F, gi, gl, gn, p, nx, ov', outb, ov', outb, ws, ws, { t with opn := o, on := Tar.offs t.on q }⟩ B W' ∧ Evo ⟨n, F, gi, gl, gn, p, nx, ovb, outb, ovb, outb, ws, ws, t⟩ W ⟨n, F, gi, gl, gn, p, nx, ov', outb, ov', outb, ws, ws, { t with opn := o, on := Tar.offs t.on q }⟩ W' ∧
      W'.ownsRow W.heap.size 3 1 lv q.length (ints q) ∧ Hid (∀ k, lv.ownBlock = some k → Off ⟨n, F, gi, gl, gn, p, nx, ov', outb, ov', outb, ws, ws, { t with opn := o, on := Tar.offs t.on q }⟩ k))
  case atStart => exact ⟨ovb, t.opn, [], rfl, by simpa using hol, hs, hop, rfl, rfl, hx, Evo.refl _ _, World.ownsRow_nil _ _ _ _, (fun k hk => nomatch hk : ∀ k, (Value.slice none 0 0).ownBlock = some k → Off ⟨n, F, gi, gl, gn, p, nx, ovb, outb, ovb, outb, ws, ws, t⟩ k)⟩
  case round =>
    clear hx hs hop
    obtain ⟨ov', o, q, hk, hoq, hs, hop, HP1, HP2, hx, he, hl, HOFF⟩ := hrel
    have HK := Lib.hid hk
    clear hk
    cases o with
    | nil => cases hs
    | cons u o =>
      obtain ⟨u0, u1⟩ := hop u (List.mem_cons_self ..)
      have hown : wr.ownsRow B 3 1 ov' (o.length + 1) (ints (u :: o).reverse) := hx.comps 5
      have hov' : ∃ g cap, ov' = .slice (some ⟨g, 0, none⟩) (o.length + 1) cap ∧ o.length + 1 ≤ cap ∧ cap ≤ maxLen := by
        obtain ⟨-, ⟨-, h2⟩ | ⟨g, cap, cur, rfl, -, -, h4, h5, -⟩⟩ := hown
        · cases h2
        · exact ⟨g, cap, rfl, h4, h5⟩
      obtain ⟨g, cap, rfl, hc1, hc2⟩ := hov'
      have hrev : ints (u :: o).reverse = ints o.reverse ++ [.int .i64 u] := by simp [ints]
      have htop := (own_cell hown o.length (.int .i64 u) (by rw [hrev, List.getElem?_append_right (by simp)]; simp)).1
      obtain ⟨⟨-, -, -, b3, b4, -⟩, bf⟩ := hx.box
      have bf3 := bf 3
      have HX1 := Lib.hid hx
      have HE1 := Lib.hid he
      have HOWN := Lib.hid hown
      unfold maxLen at hc2
      clear hx he bf hown hrev
      go_wp2
      go_region
      go_upto_region 2 with fail
      go_region
      go_upto_region 3 with fail
      have hsh : wr.ownsRow B 3 1 (.slice (some ⟨g, 0, none⟩) o.length cap) o.length (ints o.reverse) := by
        have := HOWN.out
        rw [show ints (u :: o).reverse = ints o.reverse ++ [.int .i64 u] by simp [ints]] at this
        exact own_shrink this
      obtain ⟨hx2, he2⟩ := HX1.out.newOpn (ov' := .slice (some ⟨g, 0, none⟩) o.length cap) (o := o) hsh (World.grownBy.refl _ _) (.inl rfl)
      obtain ⟨hx3, he3⟩ := hx2.boxOpn (.slice (some ⟨g, 0, none⟩) o.length cap)
      have hx3 := hx3.drew.drew
      have he3 := ((HE1.out.trans he2).trans he3).drew.drew
      have hl3 : (wr.setCell ⟨F, 3, none⟩ (.slice (some ⟨g, 0, none⟩) o.length cap)).drew.drew.ownsRow W.heap.size 3 1 u4 q.length (ints q) := own_kept hl fun k hk => Below.heap_setCell wr _ _ k (fun e => HOFF.out k hk 3 (by rw [e]; rfl))
      generalize (wr.setCell ⟨F, 3, none⟩ (.slice (some ⟨g, 0, none⟩) o.length cap)).drew.drew = W3 at *
      obtain ⟨⟨-, -, -, -, b4', -⟩, -⟩ := hx3.box
      obtain ⟨n1, n2⟩ := hx3.on u0 u1
      obtain ⟨hx4, he4⟩ := hx3.setOn u0 u1 false
      have he4 := he3.trans he4
      have hl4 : (W3.setCell ⟨gn, u.toNat, none⟩ (.bool false)).ownsRow W.heap.size 3 1 u4 q.length (ints q) := own_kept hl3 fun k hk => Below.heap_setCell W3 _ _ k (fun e => HOFF.out k hk 2 (by rw [e]; rfl))
      have HX4 := Lib.hid hx4
      have HE4 := Lib.hid he4
      have hs4 := he4.size
      clear hx2 he2 hx3 he3 hl3 hl hx4 he4 hsh b3 b4 bf3 htop
      have hOff4 : ∀ k, u4.ownBlock = some k → Off ⟨n, F, gi, gl, gn, p, nx, .slice (some ⟨g, 0, none⟩) o.length cap, outb, .slice (some ⟨g, 0, none⟩) o.length cap, outb, ws, ws, { t with opn := o, on := (Tar.offs t.on q).set u.toNat false }⟩ k := fun k hk => (HOFF.out k hk).congr fun j => match j with
        | 0 | 1 | 2 | 3 | 4 | 5 | 6 => rfl
        | r + 7 => rfl
      have HOFF4 := Lib.hid hOff4
      have hoffs : Tar.offs t.on (q ++ [u]) = (Tar.offs t.on q).set u.toNat false := by simp [Tar.offs, List.foldl_append]
      have HOS := Lib.hid hoffs
      clear hOff4 hoffs
      by_cases e : u = s
      · subst e
        have hp : Tar.popR u (u :: o) = ([u], o) := by simp [Tar.popR]
        have HP := Lib.hid hp
        clear hp
        go_wp2_with (at_builtin; refine wpList_app1 elem_i64 rfl _ _ rfl W.heap.size _ q.length (ints q) rfl (hl4.alloc _) ⟨_, 0, none⟩ 1 _ rfl (box_cells (W3.setCell ⟨gn, u.toNat, none⟩ (.bool false)) _ (by simp) #[.int .i64 u] 3 0).1 rfl (by omega) (by omega) (Nat.le_trans hs4 (by simp)) ?_; intro lv5 w5 ho5 hg5 ha5)
        have hlq : ((q ++ [u]).length : Nat) = q.length + 1 := by simp
        have ho5' : w5.ownsRow W.heap.size 3 1 lv5 (q ++ [u]).length (ints (q ++ [u])) := by simpa [ints] using ho5
        refine (Sort_own lv5 (q ++ [u]) w5 W.heap.size ho5' (by omega)).mono ?_
        rintro e w6 ⟨rfl, ho6, hg6⟩
        have hxa := (HX4.out.below ((Below.refl _ _).alloc (Nat.le_refl _) (.cells #[.int .i64 u] 3)))
        have hx5 := hxa.grown hg5 (fun k hk => HOFF4.out k hk)
        have he5 := (HE4.out.trans (Evo.of_below _ ((Below.refl _ _).alloc (Nat.le_refl _) (.cells #[.int .i64 u] 3)))).grown hg5 (fun k hk => (hl4.lt k hk).1)
        have hoff5 : ∀ k, lv5.ownBlock = some k → Off ⟨n, F, gi, gl, gn, p, nx, .slice (some ⟨g, 0, none⟩) o.length cap, outb, .slice (some ⟨g, 0, none⟩) o.length cap, outb, ws, ws, { t with opn := o, on := (Tar.offs t.on q).set u.toNat false }⟩ k := by
          intro k hk
          rcases ha5 with ha5 | ha5
          · rw [ha5] at hk; exact HOFF4.out k hk
          · rw [ha5] at hk; cases hk; exact hxa.fresh (Nat.le_refl _)
        have hx6 := hx5.grown hg6 hoff5
        have he6 := he5.grown hg6 (fun k hk => (ho6.lt k hk).1)
        obtain ⟨lA, lc, hlv, -, -, -⟩ := own_form ho6
        rw [hlq] at hlv
        subst hlv
        obtain ⟨⟨-, -, -, -, -, b5⟩, -⟩ := hx6.box
        have hws6 : w6.ownsRow B 31 1 outb ws.length ws := hx6.comps 6
        have hs6 := he6.size
        have hx7a := hx6.below ((Below.refl _ _).alloc (Nat.le_refl _) (.cells #[.slice lA (q.length + 1) lc] 31))
        have HX7 := Lib.hid hx7a
        have HE6 := Lib.hid he6
        have HO5 := Lib.hid hoff5
        have HO6 := Lib.hid ho6
        clear hxa hx5 he5 hoff5 hx6 he6 hx7a ho5 ho5' ho6 hg5 hg6 ha5
        go_wp2_with (at_builtin; refine wpList_app1 elem_row rfl _ _ rfl B outb ws.length ws rfl (hws6.alloc _) ⟨_, 0, none⟩ 1 _ rfl (cell_new1 _ _ _) rfl (by omega) (by omega) (by simp; omega) ?_; intro v7 w7 ho7 hg7 ha7; obtain ⟨hx7, he7⟩ := HX7.out.newOut (v' := v7) (ws' := ws ++ [.slice lA (q.length + 1) lc]) (by simpa using ho7) hg7 (ha7.imp id fun e k hk => by rw [e] at hk; cases hk; exact Nat.le_refl _); have c7 := hx7.box.1.2.2.2.2.2; have f7 := hx7.box.2 5; obtain ⟨A7, c7', rfl, _, _, _⟩ := own_form ho7)
        obtain ⟨hx8, he8⟩ := hx7.boxOut (.slice A7 (ws.length + 1) c7')
        have hoff8 : ∀ k, (Value.slice lA (q.length + 1) lc).ownBlock = some k → Off ⟨n, F, gi, gl, gn, p, nx, .slice (some ⟨g, 0, none⟩) o.length cap, .slice A7 (ws.length + 1) c7', .slice (some ⟨g, 0, none⟩) o.length cap, .slice A7 (ws.length + 1) c7', ws ++ [.slice lA (q.length + 1) lc], ws, { t with opn := o, on := (Tar.offs t.on q).set u.toNat false }⟩ k := fun k hk =>
          he8.off (he7.off (HO5.out k hk) (by have := (HO6.out.lt k hk).2; simp; omega)) (by have := (HO6.out.lt k hk).2; have := hg7.size; simp at this; omega)
        have hil : (isort (q ++ [u])).length = (q ++ [u]).length := List.length_mergeSort _
        have hr8 : (w7.setCell ⟨F, 5, none⟩ (.slice A7 (ws.length + 1) c7')).ownsRow B 3 1 (.slice lA (q.length + 1) lc) (isort (q ++ [u])).length (ints (isort (q ++ [u]))) := by
          rw [hil]
          refine own_kept (own_lower HO6.out hB) fun k hk => ?_
          have hlt := (HO6.out.lt k hk).2
          have e1 : (w7.setCell ⟨F, 5, none⟩ (.slice A7 (ws.length + 1) c7')).heap[k]? = w7.heap[k]? := Below.heap_setCell w7 _ _ k (fun e => HO5.out k hk 3 (by rw [e]; rfl))
          have e2 := hg7.block k (by simp; omega) (fun e => HO5.out k hk 6 e.symm)
          have e3 : (w6.alloc (.cells #[.slice lA (q.length + 1) lc] 31)).heap[k]? = w6.heap[k]? := Below.heap_alloc w6 _ k hlt
          exact e1.trans (e2.trans e3)
        have hx9 := hx8.addRow hr8 hoff8
        have he9 := (((HE6.out.trans (Evo.of_below _ ((Below.refl _ _).alloc (Nat.le_refl _) (.cells #[.slice lA (q.length + 1) lc] 31)))).trans he7).trans he8).addRow (v := .slice lA (q.length + 1) lc) (p := isort (q ++ [u])) (fun k hk => (HO6.out.lt k hk).1)
        have hcl : Tar.close t u = { t with opn := o, on := (Tar.offs t.on q).set u.toNat false, out := t.out ++ [isort (q ++ [u])] } := by
          have h1 := HP1.out; rw [HP.out] at h1
          have h2 := HP2.out; rw [HP.out] at h2
          unfold Tar.close
          rw [h1, h2, HOS.out]; rfl
        go_end0
        refine ⟨rfl, .slice (some ⟨g, 0, none⟩) o.length cap, .slice A7 (ws.length + 1) c7', ws ++ [.slice lA (q.length + 1) lc], ?_⟩
        rw [hcl]
        exact ⟨hx9, he9⟩
      · have hne : (u == s) = false := beq_eq_false_iff_ne.2 e
        have hs' : s ∈ o := by
          rcases List.mem_cons.1 hs with h | h
          · exact absurd h.symm e
          · exact h
        have hp : Tar.popR s (u :: o) = (u :: (Tar.popR s o).1, (Tar.popR s o).2) := by simp [Tar.popR, e]
        have HP := Lib.hid hp
        clear hp e
        go_wp2_with (at_builtin; refine wpList_app1 elem_i64 rfl _ _ rfl W.heap.size _ q.length (ints q) rfl (hl4.alloc _) ⟨_, 0, none⟩ 1 _ rfl (box_cells (W3.setCell ⟨gn, u.toNat, none⟩ (.bool false)) _ (by simp) #[.int .i64 u] 3 0).1 rfl (by omega) (by omega) (Nat.le_trans hs4 (by simp)) ?_; intro lv5 w5 ho5 hg5 ha5)
        have hxa := (HX4.out.below ((Below.refl _ _).alloc (Nat.le_refl _) (.cells #[.int .i64 u] 3)))
        have hx5 := hxa.grown hg5 (fun k hk => HOFF4.out k hk)
        have he5 := (HE4.out.trans (Evo.of_below _ ((Below.refl _ _).alloc (Nat.le_refl _) (.cells #[.int .i64 u] 3)))).grown hg5 (fun k hk => (hl4.lt k hk).1)
        go_roundg o.length
        case measure => have := HK.out; simp at this; omega
        case rel =>
          refine ⟨.slice (some ⟨g, 0, none⟩) o.length cap, o, q ++ [u], rfl, by simp at hoq ⊢; omega, hs', fun v hv => hop v (List.mem_cons_of_mem _ hv), ?_, ?_, by rw [HOS.out]; exact hx5, by rw [HOS.out]; exact he5, by simpa [ints] using ho5, ?_⟩
          · have := HP1.out; rw [HP.out] at this; have e : (Tar.popR s t.opn).1 = (q ++ [u]) ++ (Tar.popR s o).1 := by rw [this]; simp
            exact e
          · have := HP2.out; rw [HP.out] at this; exact this
          · rw [HOS.out]
            have : ∀ k, lv5.ownBlock = some k → Off ⟨n, F, gi, gl, gn, p, nx, .slice (some ⟨g, 0, none⟩) o.length cap, outb, .slice (some ⟨g, 0, none⟩) o.length cap, outb, ws, ws, { t with opn := o, on := (Tar.offs t.on q).set u.toNat false }⟩ k := by
              intro k hk
              rcases ha5 with ha5 | ha5
              · rw [ha5] at hk; exact HOFF4.out k hk
              · rw [ha5] at hk; cases hk; exact hxa.fresh (Nat.le_refl _)
            exact this

end Go.Proofs.YtoffbdlgmnpblaaGreat
