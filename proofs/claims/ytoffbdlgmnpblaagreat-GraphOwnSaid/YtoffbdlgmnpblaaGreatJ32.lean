/- Part 32 of 55: Tmd Tr2. -/
import Derived.Test.YtoffbdlgmnpblaaGreatJ28
import Derived.OrdersHeld
import Derived.RegionTactic
import Derived.BigRegion

/- A region that draws its order: what holds of the world may depend on which operations have come up. -/
namespace Go.Proofs.YtoffbdlgmnpblaaGreat

section
variable {P : Program} {ops : Array Oper} {Q : Exit → Act → World → Prop} {md : Region.Mode} {S : Array Bool → World → Prop}

/-- whatever order is picked from here on, and S holds behind each operation, of what has come up and of the world -/
def Timed (P : Program) (md : Region.Mode) (ops : Array Oper) (Q : Exit → Act → World → Prop) (S : Array Bool → World → Prop) : Nat → Array Bool → Act → World → Prop
  | 0, L, a, w => Region.ready md ops L = [] ∧ Q .normal a w
  | n + 1, L, a, w => (Region.ready md ops L = [] → Q .normal a w) ∧
      ∀ j ∈ Region.ready md ops L, wpOp P ops Q j (fun a' w' => S (L.setIfInBounds j true) w' ∧ Timed P md ops Q S n (L.setIfInBounds j true) a' w') a w

theorem Timed.any : ∀ (n : Nat) (L : Array Bool) (a : Act) (w : World), Timed P md ops Q S n L a w → wpAny P md ops Q n L a w
  | 0, _, _, _, h => h
  | n + 1, _, _, _, h => ⟨h.1, fun j hj => wpOp_mono (fun a' w' h' => Timed.any n _ a' w' h'.2) (h.2 j hj)⟩

/-- a number that may come up now is taken first: where G holds of what has come up S gives what it needs, and G stays while it has not come up -/
theorem Timed.first {i : Nat} {oi : Oper} {v : Value} {T : World → Prop} {G : Array Bool → Prop} (hi : ops[i]? = some oi) (hsel : ∀ (j : Nat) (o : Oper) cs b, ops[j]? = some o → o.op ≠ .select cs b)
    (hQ : ∀ c a w, Q (.panic c) (a.put oi.dst v) w → Q (.panic c) a w)
    (hG : ∀ L j, G L → j ≠ i → i ∈ Region.ready md ops L → j ∈ Region.ready md ops L → G (L.setIfInBounds j true))
    (hT : ∀ L w, G L → S L w → T w) (hSi : ∀ L w, S (L.setIfInBounds i true) w → S L w) :
    ∀ (n : Nat) (L : Array Bool) (a : Act) (w : World),
      (∀ j oj, ops[j]? = some oj → j ≠ i → L.getD j true = false → (∀ e ∈ oj.after, Region.binds md e = true → e.on ≠ i) → oi.apart ops oj = true) →
      i ∈ Region.ready md ops L → G L → YieldsIf P ops T oi v a → S L w → S (L.setIfInBounds i true) w →
      Timed P md ops Q S n (L.setIfInBounds i true) (a.put oi.dst v) w → Timed P md ops Q S (n + 1) L a w := by
  intro n
  induction n with
  | zero =>
    intro L a w _ hr hg hy hS hS' H
    refine ⟨fun h => (by rw [h] at hr; cases hr), fun j hj => ?_⟩
    by_cases hji : j = i
    · subst hji; exact hy.wpOp hi (hT _ _ hg hS) ⟨hS', H⟩
    · exact absurd (ready_mono hj hji) (by rw [H.1]; exact List.not_mem_nil)
  | succ n ih =>
    intro L a w hfree hr hg hy hS hS' H
    refine ⟨fun h => (by rw [h] at hr; cases hr), fun j hj => ?_⟩
    by_cases hji : j = i
    · subst hji; exact hy.wpOp hi (hT _ _ hg hS) ⟨hS', H⟩
    · obtain ⟨hjun, oj, hoj, hall⟩ := mem_ready.1 hj
      have hnot : ∀ e ∈ oj.after, Region.binds md e = true → e.on ≠ i := fun e he hb heq => by
        have h1 := hall e he hb
        have h0 := (mem_ready.1 hr).1
        rw [heq] at h1
        rcases Nat.lt_or_ge i L.size with h' | h'
        · simp [h'] at h0 h1; rw [h0] at h1; cases h1
        · simp [Array.getElem?_eq_none h'] at h1
      have h2 := wpOp_putIf hoj (hfree j oj hoj hji hjun hnot) (fun cs b => hsel i oi cs b hi) (fun cs b => hsel j oj cs b hoj) hQ hy (H.2 j (ready_mono hj hji))
      refine wpOp_mono (fun a' w' h3 => ?_) h2
      have hs' : S (L.setIfInBounds j true) w' := hSi _ _ (by rw [Array.setIfInBounds_comm _ _ hji]; exact h3.2.1)
      refine ⟨hs', ih (L.setIfInBounds j true) a' w' (fun k ok hk hki hun hno => hfree k ok hk hki ?_ hno) (ready_mono hr (Ne.symm hji)) (hG L j hg hji hr hj) h3.1 hs' (by rw [Array.setIfInBounds_comm _ _ hji]; exact h3.2.1) (by rw [Array.setIfInBounds_comm _ _ hji]; exact h3.2.2)⟩
      by_cases hjk : j = k
      · subst hjk; exact hjun
      · rw [getD_set_ne true hjk] at hun; exact hun

theorem Timed.all {rs : List Nat} {n : Nat} {L : Array Bool} {a : Act} {w : World} (hr : Region.ready md ops L = rs) (hne : rs ≠ [])
    (h : ∀ j ∈ rs, wpOp P ops Q j (fun a' w' => S (L.setIfInBounds j true) w' ∧ Timed P md ops Q S n (L.setIfInBounds j true) a' w') a w) : Timed P md ops Q S (n + 1) L a w :=
  ⟨fun h0 => absurd (hr ▸ h0) hne, hr ▸ h⟩
theorem Timed.done {L : Array Bool} {a : Act} {w : World} (hr : Region.ready md ops L = []) (h : Q .normal a w) : ∀ n, Timed P md ops Q S n L a w
  | 0 => ⟨hr, h⟩
  | _ + 1 => ⟨fun _ => h, by rw [hr]; simp⟩
theorem Timed.region {id : Nat} {a : Act} {w : World} (hm : P.follows .mixedOrders = true)
    (h : Timed P .any ops Q S ops.size (Array.replicate ops.size false) a w.drew) : (Code.region id ops true).wp P Q a w :=
  wp_region_any hm (Timed.any _ _ _ _ h)
end

section
variable {P : Program} {ops : Array Oper} {Q : Exit → Act → World → Prop} {md : Region.Mode} {T U : World → Prop} {k : Nat}
/-- U always, T till number k has come up -/
def Till (k : Nat) (T U : World → Prop) (L : Array Bool) (w : World) : Prop := (L.getD k false = true ∨ T w) ∧ U w

/-- what needs U alone -/
theorem Till.take {i : Nat} {oi : Oper} {v : Value} {n : Nat} {L : Array Bool} {a : Act} {w : World} (hi : ops[i]? = some oi) (hki : k ≠ i)
    (hs : Region.noSelect ops = true) (hf : Region.free md ops L i = true) (hr : (Region.ready md ops L).contains i = true)
    (hQ : ∀ c a w, Q (.panic c) (a.put oi.dst v) w → Q (.panic c) a w) (hy : YieldsIf P ops U oi v a) (hS : Till k T U L w)
    (h : Till k T U (L.setIfInBounds i true) w → Timed P md ops Q (Till k T U) n (L.setIfInBounds i true) (a.put oi.dst v) w) : Timed P md ops Q (Till k T U) (n + 1) L a w := by
  have e : ∀ L : Array Bool, (L.setIfInBounds i true).getD k false = L.getD k false := fun L => getD_set_ne false (Ne.symm hki)
  have hS' : Till k T U (L.setIfInBounds i true) w := ⟨by rw [e]; exact hS.1, hS.2⟩
  exact Timed.first (T := U) (G := fun _ => True) hi (Region.noSelect_spec hs) hQ (fun _ _ _ _ _ _ => trivial) (fun _ _ _ h => h.2) (fun L w h => ⟨by rw [← e]; exact h.1, h.2⟩) n L a w (Region.free_spec hi hf) (by simpa using hr) trivial hy hS hS' (h hS')
/-- what needs T, and number k waits for it -/
theorem Till.takeT {i : Nat} {oi ok : Oper} {v : Value} {n : Nat} {L : Array Bool} {a : Act} {w : World} (hi : ops[i]? = some oi) (hki : k ≠ i) (hk : ops[k]? = some ok) (hw : (ok.after.any fun e => Region.binds md e && e.on == i) = true)
    (hs : Region.noSelect ops = true) (hf : Region.free md ops L i = true) (hr : (Region.ready md ops L).contains i = true) (hkL : L.getD k false = false)
    (hQ : ∀ c a w, Q (.panic c) (a.put oi.dst v) w → Q (.panic c) a w) (hy : YieldsIf P ops T oi v a) (hS : Till k T U L w)
    (h : Till k T U (L.setIfInBounds i true) w → Timed P md ops Q (Till k T U) n (L.setIfInBounds i true) (a.put oi.dst v) w) : Timed P md ops Q (Till k T U) (n + 1) L a w := by
  have e : ∀ L : Array Bool, (L.setIfInBounds i true).getD k false = L.getD k false := fun L => getD_set_ne false (Ne.symm hki)
  have hS' : Till k T U (L.setIfInBounds i true) w := ⟨by rw [e]; exact hS.1, hS.2⟩
  refine Timed.first (T := T) (G := fun L => L.getD k false = false) hi (Region.noSelect_spec hs) hQ (fun L j hg hji hri hrj => ?_) (fun L w hg h => h.1.resolve_left (by rw [hg]; decide)) (fun L w h => ⟨by rw [← e]; exact h.1, h.2⟩) n L a w (Region.free_spec hi hf) (by simpa using hr) hkL hy hS hS' (h hS')
  have hjk : j ≠ k := fun e => by
    subst e
    obtain ⟨-, oj, hoj, hall⟩ := mem_ready.1 hrj
    rw [hk] at hoj
    injection hoj with hoj
    subst hoj
    obtain ⟨q, hq, h1⟩ := Array.any_eq_true.1 hw
    simp only [Bool.and_eq_true, beq_iff_eq] at h1
    have h2 := hall _ (Array.getElem_mem hq) h1.1
    have h0 := (mem_ready.1 hri).1
    rw [h1.2] at h2
    rcases Nat.lt_or_ge i L.size with h' | h'
    · simp [h'] at h0 h2; rw [h0] at h2; cases h2
    · simp [Array.getElem?_eq_none h'] at h2
  show (L.setIfInBounds j true).getD k false = false
  rw [getD_set_ne false hjk]; exact hg
end

end Go.Proofs.YtoffbdlgmnpblaaGreat

/- Package graph: the finder enters a state. -/
namespace Go.Proofs.YtoffbdlgmnpblaaGreat
open Go.RowKit
open Tar (TS)
set_option maxHeartbeats 4000000
set_option maxRecDepth 100000

/-- what holds all through a region that reads the finder's address -/
abbrev HeldF (q F : Nat) (V : World) : Prop := V.cell? ⟨q, 0, none⟩ = some (.pointer (some ⟨F, 0, none⟩)) ∧ q < V.heap.size
theorem heldF_alloc {q F : Nat} {V : World} (h : HeldF q F V) (o : Obj) : HeldF q F (V.alloc o) := by
  obtain ⟨h1, h5⟩ := h
  have hb := (Below.refl V.heap.size V).alloc (Nat.le_refl _) o
  exact ⟨(hb.cell (p := ⟨q, 0, none⟩) h5).trans h1, by simp; omega⟩
theorem heldF_ad {q F : Nat} {V : World} (h : HeldF q F V.drew) (o : Obj) : HeldF q F (V.alloc o).drew := heldF_alloc (V := V) h o
theorem heldF_set {q F : Nat} {V : World} {p : Addr} (hne : p.block ≠ q) (h : HeldF q F V) (u : Value) : HeldF q F (V.setCell p u) := by
  obtain ⟨h1, h5⟩ := h
  exact ⟨(World.cell?_of_block (w := V) (a := ⟨q, 0, none⟩) (Below.heap_setCell _ _ _ _ (fun e => hne e.symm))).trans h1, by simpa [World.setCell] using h5⟩

theorem enter_calls (x : Fp) (B : Nat) (W : World) (s : Int) (q1 q2 : Nat) (hx : FinC x B W) (hov : x.ovb = x.ov) (hc1 : W.cell? ⟨q1, 0, none⟩ = some (.pointer (some ⟨x.p, 0, none⟩))) (hc2 : W.cell? ⟨q2, 0, none⟩ = some (.pointer (some ⟨x.F, 0, none⟩)))
    (o1 : Off x q1) (o2 : Off x q2) (h0 : 0 ≤ s) (h1 : s < (x.n : Int)) (_hn : x.n ≤ 100) (hcnt : 0 ≤ x.t.cnt ∧ x.t.cnt ≤ 1000000) (hop : x.t.opn.length ≤ 1000000) (hB : B ≤ W.heap.size) :
    Calls Tryz.prog 159 #[.int .i64 s, .pointer (some ⟨q1, 0, none⟩), .pointer (some ⟨q2, 0, none⟩)] W fun e W' => e = .returned (.tuple #[]) ∧ ∃ ov', FinC { x with t := Tar.enter x.t s, ov := ov', ovb := ov' } B W' ∧ Evo x W { x with t := Tar.enter x.t s, ov := ov', ovb := ov' } W' := by
  have l1 : q1 < W.heap.size := by
    unfold World.cell? at hc1
    cases hh : W.heap[q1]? with
    | none => rw [hh] at hc1; cases hc1
    | some o => exact (Array.getElem?_eq_some_iff.1 hh).1
  have l2 : q2 < W.heap.size := by
    unfold World.cell? at hc2
    cases hh : W.heap[q2]? with
    | none => rw [hh] at hc2; cases hc2
    | some o => exact (Array.getElem?_eq_some_iff.1 hh).1
  obtain ⟨c1, c2⟩ := hcnt
  obtain ⟨k1, k2⟩ := hx.cnt
  have O1 := Lib.hid o1
  have O2 := Lib.hid o2
  have HOV := Lib.hid hov
  have HC1 := Lib.hid hc1
  have HC2 := Lib.hid hc2
  clear o1 o2 hov
  go_enter Tryz.func159, Tryz.ntmps159
  go_upto_region 1 with fail
  obtain ⟨hx1, he1⟩ := hx.setCnt (x.t.cnt + 1)
  have a1 := (he1.cell O1.out l1 0).trans HC1.out
  have a2 := (he1.cell O2.out l2 0).trans HC2.out
  have O1' := Lib.hid (he1.off O1.out l1)
  have O2' := Lib.hid (he1.off O2.out l2)
  have hz1 := he1.size
  generalize W.setCell ⟨x.p, 0, none⟩ (.int .i64 (x.t.cnt + 1)) = W1 at *
  obtain ⟨⟨-, b1, b2, b3, b4, -⟩, bf⟩ := hx1.box
  obtain ⟨k1', k2'⟩ := hx1.cnt
  obtain ⟨i1, i2⟩ := hx1.idx h0 h1
  obtain ⟨j1, j2⟩ := hx1.low h0 h1
  clear k1 k2 hc1 hc2 bf
  obtain ⟨hx2, he2⟩ := hx1.setIdx h0 h1 (x.t.cnt + 1)
  obtain ⟨m1, m2⟩ := hx2.low h0 h1
  obtain ⟨hx3, he3⟩ := hx2.setLow h0 h1 (x.t.cnt + 1)
  go_region
  have hx3 := hx3.drew
  have he3 := (he1.trans (he2.trans he3)).drew
  have a1 := (he3.cell O1.out l1 0).trans HC1.out
  have a2 := (he3.cell O2.out l2 0).trans HC2.out
  generalize ((W1.setCell ⟨x.gi, s.toNat, none⟩ (.int .i64 (x.t.cnt + 1))).setCell ⟨x.gl, s.toNat, none⟩ (.int .i64 (x.t.cnt + 1))).drew = W3 at *
  clear hx1 he1 hx2 he2 b1 b2 b4 k1' k2' i1 i2 j1 j2 m1 m2 b3 O1' O2'
  go_upto_region 2 with fail
  obtain ⟨⟨-, -, -, b3, -, -⟩, bf⟩ := hx3.box
  have b3' : W3.cell? ⟨x.F, 3, none⟩ = some x.ov := by rw [← HOV.out]; exact b3
  clear b3
  have hown : W3.ownsRow B 3 1 x.ov x.t.opn.length (ints x.t.opn.reverse) := hx3.comps 5
  have l3 : q2 < W3.heap.size := Nat.lt_of_lt_of_le l2 he3.size
  have l4 : x.F < W3.heap.size := (hx3.lt (j := 3) rfl).2
  have hB3 : B ≤ W3.heap.size := Nat.le_trans hB he3.size
  have HX3 := Lib.hid hx3
  have HE3 := Lib.hid he3
  have hx3d := (hx3.drew.below ((Below.refl _ _).alloc (Nat.le_refl _) (.cells #[.int .i64 s] 3)))
  have he3d := (Evo.of_below { x with t := { x.t with idx := x.t.idx.set s.toNat (x.t.cnt + 1), low := x.t.low.set s.toNat (x.t.cnt + 1), cnt := x.t.cnt + 1 } } ((Below.refl W3.drew.heap.size W3.drew).alloc (Nat.le_refl _) (.cells #[.int .i64 s] 3)))
  have HXD := Lib.hid hx3d
  have HED := Lib.hid he3d
  clear bf hx3d he3d
  have hFq : x.F ≠ q2 := fun e => O2.out 3 (by rw [← e]; rfl)
  have s0 : HeldF q2 x.F W3.drew := ⟨a2, l3⟩
  clear a1 hx3 he3 hx
  have hS0 : Till 7 (fun V => V.cell? ⟨x.F, 3, none⟩ = some x.ov) (fun V => V.cell? ⟨q2, 0, none⟩ = some (.pointer (some ⟨x.F, 0, none⟩)) ∧ q2 < V.heap.size) (Array.replicate 11 false) W3.drew := ⟨.inr b3', a2, l3⟩
  have HOWN := Lib.hid hown
  clear hown s0
  refine Timed.region (S := Till 7 (fun V => V.cell? ⟨x.F, 3, none⟩ = some x.ov) (fun V => V.cell? ⟨q2, 0, none⟩ = some (.pointer (some ⟨x.F, 0, none⟩)) ∧ q2 < V.heap.size)) (by kernel_rfl) ?_
  refine Till.take (i := 0) (n := 10) (v := .pointer (some ⟨x.F, 0, none⟩)) rfl (by decide) (by kernel_rfl) (by kernel_rfl) (by kernel_rfl) (fun _ _ _ h => h) (Or.inl ⟨by rfl, ?_⟩) hS0 (fun hS1 => ?_)
  · intro w hw; obtain ⟨hw1, hw2⟩ := hw; go_simp
  simp only [Act.put, List.setIfInBounds_toArray]
  clear hS0
  refine Till.take (i := 1) (n := 9) (v := .pointer (some ⟨x.F, 0, none⟩)) rfl (by decide) (by kernel_rfl) (by kernel_rfl) (by kernel_rfl) (fun _ _ _ h => h) (Or.inl ⟨by rfl, ?_⟩) hS1 (fun hS2 => ?_)
  · intro w hw; obtain ⟨hw1, hw2⟩ := hw; go_simp
  simp only [Act.put]
  clear hS1
  refine Till.take (i := 2) (n := 8) (v := .pointer (some ⟨x.F, 0, none⟩)) rfl (by decide) (by kernel_rfl) (by kernel_rfl) (by kernel_rfl) (fun _ _ _ h => h) (Or.inl ⟨by rfl, ?_⟩) hS2 (fun hS3 => ?_)
  · intro w hw; obtain ⟨hw1, hw2⟩ := hw; go_simp
  simp only [Act.put]
  clear hS2
  refine Till.take (i := 3) (n := 7) (v := .pointer (some ⟨x.F, 3, none⟩)) rfl (by decide) (by kernel_rfl) (by kernel_rfl) (by kernel_rfl) (fun _ _ _ h => h) (Or.inl ⟨by rfl, ?_⟩) hS3 (fun hS4 => ?_)
  · intro w hw; obtain ⟨hw1, hw2⟩ := hw; go_simp
  simp only [Act.put]
  clear hS3
  refine Till.takeT (i := 4) (n := 6) (v := x.ov) rfl (by decide) rfl (by kernel_rfl) (by kernel_rfl) (by kernel_rfl) (by kernel_rfl) (by kernel_rfl) (fun _ _ _ h => h) (Or.inl ⟨by rfl, ?_⟩) hS4 (fun hS5 => ?_)
  · intro w hw; go_simp
  simp only [Act.put]
  clear hS4
  refine Till.take (i := 5) (n := 5) (v := .int .i64 s) rfl (by decide) (by kernel_rfl) (by kernel_rfl) (by kernel_rfl) (fun _ _ _ h => h) (Or.inl ⟨by rfl, ?_⟩) hS5 (fun hS6 => ?_)
  · intro w hw; obtain ⟨hw1, hw2⟩ := hw; go_simp
  simp only [Act.put]
  clear hS5
  refine Timed.all (rs := [6]) (n := 4) (by kernel_rfl) (by simp) ?_
  intro j hj
  obtain rfl : j = 6 := by simpa using hj
  refine wpOp_step rfl (fun K' hK => ?_)
  have HK6 := Lib.hid hK
  clear hK hj
  go_simp
  refine HK6.out _ _ ⟨⟨.inr ((World.cell?_alloc_lt _ _ _ l4).trans b3'), (World.cell?_alloc_lt _ _ _ l3).trans a2, by simp; omega⟩, ?_⟩
  try simp only [Act.put, List.setIfInBounds_toArray, List.set_cons_zero, List.set_cons_succ]
  clear HK6 hS6
  refine Timed.all (rs := [7]) (n := 3) (by kernel_rfl) (by simp) ?_
  intro j hj
  obtain rfl : j = 7 := by simpa using hj
  refine wpOp_step rfl (fun K' hK => ?_)
  have HK7 := Lib.hid hK
  clear hK hj
  refine step_app1 elem_i64 rfl _ _ rfl B x.ov x.t.opn.length (ints x.t.opn.reverse) rfl (HOWN.out.alloc _) ⟨_, 0, none⟩ 1 _ rfl (cell_new1 _ _ _) rfl (by omega) (by omega) (by simp; omega) ?_
  intro v4 w4 ho4 hg4 ha4
  have hg4 : (W3.drew.alloc (.cells #[.int .i64 s] 3)).grownBy w4 x.ov.ownBlock := hg4
  have ha4 : v4.ownBlock = x.ov.ownBlock ∨ v4.ownBlock = some (W3.drew.alloc (.cells #[.int .i64 s] 3)).heap.size := ha4
  obtain ⟨hx4, he4⟩ := HXD.out.newOpn (o := s :: x.t.opn) (by simpa [ints] using ho4) hg4 (ha4.imp id fun e k hk => by rw [e] at hk; cases hk; exact Nat.le_refl _)
  have heq := HE3.out.trans ((Evo.of_below _ ((Below.refl W3.heap.size W3).drew)).trans (HED.out.trans he4))
  have s4 : HeldF q2 x.F w4 := ⟨(heq.cell O2.out l2 0).trans HC2.out, Nat.lt_of_lt_of_le l2 heq.size⟩
  have m3 := hx4.box.1.2.2.2.1
  have mf3 := hx4.box.2 3
  obtain ⟨A4, c4, rfl, _, _, _⟩ := own_form ho4
  have HX4 := Lib.hid hx4
  have HEQ := Lib.hid heq
  refine HK7.out _ _ ⟨⟨.inl (by kernel_rfl), s4⟩, ?_⟩
  try simp only [Act.put, List.setIfInBounds_toArray]
  clear HK7 ho4 hg4 ha4 hx4 he4 heq b3' a2
  refine Till.take (i := 8) (n := 2) (v := .pointer (some ⟨x.F, 0, none⟩)) rfl (by decide) (by kernel_rfl) (by kernel_rfl) (by kernel_rfl) (fun _ _ _ h => h) (Or.inl ⟨by rfl, ?_⟩) ⟨.inl (by kernel_rfl), s4⟩ (fun hS8 => ?_)
  · intro w hw; obtain ⟨hw1, hw2⟩ := hw; go_simp
  try simp only [Act.put]
  refine Till.take (i := 9) (n := 1) (v := .pointer (some ⟨x.F, 3, none⟩)) rfl (by decide) (by kernel_rfl) (by kernel_rfl) (by kernel_rfl) (fun _ _ _ h => h) (Or.inl ⟨by rfl, ?_⟩) hS8 (fun hS9 => ?_)
  · intro w hw; obtain ⟨hw1, hw2⟩ := hw; go_simp
  try simp only [Act.put]
  clear hS8 hS9
  refine Timed.all (rs := [10]) (n := 0) (by kernel_rfl) (by simp) ?_
  intro j hj
  obtain rfl : j = 10 := by simpa using hj
  refine wpOp_step rfl (fun K' hK => ?_)
  have HK10 := Lib.hid hK
  clear hK hj
  go_simp
  refine HK10.out _ _ ⟨⟨.inl (by kernel_rfl), heldF_set hFq s4 _⟩, Timed.done (by kernel_rfl) ?_ _⟩
  clear HK10
  obtain ⟨hx5, he5⟩ := HX4.out.boxOpn (.slice A4 (x.t.opn.length + 1) c4)
  have heT := HEQ.out.trans he5
  have a2 := (heT.cell O2.out l2 0).trans HC2.out
  clear HX4 HEQ s4 m3 mf3 he5
  generalize w4.setCell ⟨x.F, 3, none⟩ (.slice A4 (x.t.opn.length + 1) c4) = W5 at *
  obtain ⟨⟨-, -, -, -, b4, -⟩, -⟩ := hx5.box
  obtain ⟨n1, n2⟩ := hx5.on h0 h1
  obtain ⟨hx6, he6⟩ := hx5.setOn h0 h1 true
  have HX6 := Lib.hid hx6
  have HE6 := Lib.hid (heT.trans he6)
  clear hx5 hx6 he6 heT
  go_wp2
  go_end0
  exact ⟨rfl, _, HX6.out, HE6.out⟩

end Go.Proofs.YtoffbdlgmnpblaaGreat
