/- Part 22: Rv. -/
import Derived.Test.YtoffbdlgmnpblaaGreatJ15
import Derived.Test.YtoffbdlgmnpblaaGreatJ21

/- A region that draws its order, asks functions and writes into boxes: what holds whatever has come up. -/
namespace Go.Proofs.YtoffbdlgmnpblaaGreat
open Go.RowKit
set_option maxHeartbeats 4000000
set_option maxRecDepth 100000

section
variable {ops : Array Oper} {a0 : Act} {deps : List (List Nat)}
/-- as inv_region2; what a constant reads is told too -/
theorem inv_region3 {P : Program} {id : Nat} {w : World} {Q : Exit → Act → World → Prop} {J : (Nat → Bool) → (Nat → Value) → World → Prop} (dl : List (Option Tmp)) (deps : List (List Nat)) (hdl : (List.range ops.size).map (dstOf ops) = dl) (hm : P.follows .mixedOrders = true) (hok : regionOk ops a0.tmps.size deps = true)
    (h0 : ∀ d s, (∀ k, k < ops.size → d k = false) → J d s w.drew)
    (hstep : ∀ j o, ops[j]? = some o → ∀ d s w (ρ : Operand → Value), J d s w → d j = false → (∀ k, k ∈ deps.getD j [] → d k = true) → (∀ k t, dl[k]? = some (some t) → ρ (.tmp t) = s k) → (∀ t, dl.contains (some t) = false → ρ (.tmp t) = a0.eval (.tmp t)) →
      (∀ f, ρ (.func f) = .func (.func f) #[] #[]) → (∀ v, ρ (.const v) = v) → StepR P o ρ w fun v w' => J (updS d j true) (updS s j v) w')
    (hend : ∀ d s w, J d s w → (∀ j, j < ops.size → d j = true) → Q .normal (putL s dl 0 a0) w) : (Code.region id ops true).wp P Q a0 w := by
  refine inv_region (J := J) (deps := deps) hm hok (fun d hd => h0 d _ hd) (fun j o ho d s w hJ hd hk => hstep j o ho d s w _ hJ hd hk (fun k t hkt => ?_) (fun t ht => ?_) (fun f => rfl) fun v => rfl) fun d s w hJ hd => ?_
  · rw [← hdl] at hkt
    rw [List.getElem?_map] at hkt
    obtain ⟨k', hk', e⟩ := Option.map_eq_some_iff.1 hkt
    have hkk : k' = k := by
      obtain ⟨hh, rfl⟩ := List.getElem?_eq_some_iff.1 hk'
      simp
    subst hkk
    exact acts_eval hok s e
  · refine acts_old s (List.all_eq_true.2 fun i hi => decide_eq_true fun e => ?_)
    have : some t ∈ dl := by rw [← hdl]; exact List.mem_map.2 ⟨i, hi, e⟩
    simp [this] at ht
  · have e := putL_acts ops s (List.range ops.size) 0 a0 (by rw [List.length_range, List.range_eq_range'])
    rw [hdl] at e
    have h9 := hend d s w hJ hd
    rw [← e] at h9
    exact h9
end

/-- boxes st = (box, the operation that writes it, the operation whose value it writes) -/
structure Jb (w w0 : World) (B : Nat) (T : TypeId) (st : List (Nat × Nat × Nat)) (Φ : Nat → Value → World → Prop) (d : Nat → Bool) (s : Nat → Value) (W : World) : Prop where
  low : Below w.heap.size w W
  size : B ≤ W.heap.size
  keep : ∀ k, k < B → (∀ x ∈ st, x.1 ≠ k) → W.heap[k]? = w0.heap[k]?
  box : ∀ x ∈ st, ∃ cs : Array Value, W.heap[x.1]? = some (.cells cs T (0, 0)) ∧ (∃ cs0, w0.heap[x.1]? = some (.cells cs0 T (0, 0)) ∧ cs.size = cs0.size) ∧ (d x.2.1 = true → s x.2.2 = .agg cs)
  ord : ∀ x ∈ st, d x.2.1 = true → d x.2.2 = true
  ok : ∀ j, d j = true → Φ j (s j) W
/-- what was left reads on where blocks of the boxes alone were written, and new ones made -/
def FirmB (B : Nat) (st : List (Nat × Nat × Nat)) (Φ : Nat → Value → World → Prop) : Prop := ∀ j v W W', Φ j v W → B ≤ W.heap.size → W.heap.size ≤ W'.heap.size → (∀ k, k < W.heap.size → (∀ x ∈ st, x.1 ≠ k) → W'.heap[k]? = W.heap[k]?) → Φ j v W'
section
variable {w w0 W W' : World} {B : Nat} {T : TypeId} {st : List (Nat × Nat × Nat)} {Φ : Nat → Value → World → Prop} {d : Nat → Bool} {s : Nat → Value}
theorem Jb.start (hl : Below w.heap.size w w0) (hB : B ≤ w0.heap.size) (hx : ∀ x ∈ st, ∃ cs0, w0.heap[x.1]? = some (.cells cs0 T (0, 0))) (hd : ∀ x ∈ st, d x.2.1 = false) (hok : ∀ j, d j = true → Φ j (s j) w0.drew) : Jb w w0 B T st Φ d s w0.drew :=
  ⟨hl.drew, hB, fun _ _ _ => rfl, fun x hxs => let ⟨cs0, h⟩ := hx x hxs; ⟨cs0, h, ⟨cs0, h, rfl⟩, fun h => (by rw [hd x hxs] at h; cases h)⟩, fun x hxs h => (by rw [hd x hxs] at h; cases h), hok⟩
theorem Jb.step (hF : FirmB B st Φ) (hst : ∀ x ∈ st, x.1 < B) (h : Jb w w0 B T st Φ d s W) {j : Nat} {v : Value} (hj : d j = false) (hn : ∀ x ∈ st, x.2.1 ≠ j) (hb : Below W.heap.size W W') (hv : Φ j v W') : Jb w w0 B T st Φ (updS d j true) (updS s j v) W' := by
  have hs := h.size
  refine ⟨h.low.trans (hb.mono h.low.size), Nat.le_trans hs hb.size, fun k hk hx => (hb.block k (by omega)).trans (h.keep k hk hx), fun x hx => ?_, fun x hx hd => ?_, fun k hk => ?_⟩
  · obtain ⟨cs, h1, h2, h3⟩ := h.box x hx
    have hlt := hst x hx
    refine ⟨cs, (hb.block x.1 (by omega)).trans h1, h2, fun hd => ?_⟩
    rw [updS_ne _ _ (hn x hx)] at hd
    have hiv := h.ord x hx hd
    have hne : x.2.2 ≠ j := fun e => by rw [e, hj] at hiv; cases hiv
    rw [updS_ne _ _ hne]
    exact h3 hd
  · rw [updS_ne _ _ (hn x hx)] at hd
    have hiv := h.ord x hx hd
    by_cases e : x.2.2 = j
    · rw [e, updS_at]
    · rw [updS_ne _ _ e]; exact hiv
  · by_cases e : k = j
    · subst e; rw [updS_at]; exact hv
    · rw [updS_ne _ _ e] at hk ⊢
      exact hF _ _ _ _ (h.ok k hk) hs hb.size fun q hq _ => hb.block q hq
/-- a box is written -/
theorem Jb.store (hF : FirmB B st Φ) (h : Jb w w0 B T st Φ d s W) {x : Nat × Nat × Nat} (hx : x ∈ st) {j : Nat} {v : Value} (hj : d j = false) (hxj : x.2.1 = j) (hiv : d x.2.2 = true) (hone : ∀ y ∈ st, y.2.1 = j → y = x) (hbx : ∀ y ∈ st, y.1 = x.1 → y = x) {us : Array Value} (hs : s x.2.2 = .agg us) (hne : ∀ y ∈ st, y.2.2 ≠ j)
    (hw : w.heap.size ≤ x.1) (h1 : W'.heap[x.1]? = some (.cells us T (0, 0))) (hsz : ∀ cs0, w0.heap[x.1]? = some (.cells cs0 T (0, 0)) → us.size = cs0.size) (h2 : ∀ k, k ≠ x.1 → W'.heap[k]? = W.heap[k]?) (h3 : W'.heap.size = W.heap.size) (h4 : Below x.1 W W') (hv : Φ j v W') : Jb w w0 B T st Φ (updS d j true) (updS s j v) W' := by
  refine ⟨h.low.trans (h4.mono hw), by rw [h3]; exact h.size, fun k hk hy => (h2 k fun e => hy x hx e.symm).trans (h.keep k hk hy), fun y hy => ?_, fun y hy hd => ?_, fun k hk => ?_⟩
  · obtain ⟨cs, k1, ⟨cs0, k2, k3⟩, k4⟩ := h.box y hy
    by_cases e : y.1 = x.1
    · obtain rfl := hbx y hy e
      exact ⟨us, h1, ⟨cs0, k2, hsz cs0 k2⟩, fun _ => by rw [updS_ne _ _ (hne y hy)]; exact hs⟩
    · refine ⟨cs, (h2 y.1 e).trans k1, ⟨cs0, k2, k3⟩, fun hd => ?_⟩
      have hyj : y.2.1 ≠ j := fun e' => e (by rw [hone y hy e'])
      rw [updS_ne _ _ hyj] at hd
      rw [updS_ne _ _ (hne y hy)]
      exact k4 hd
  · by_cases e : y.2.1 = j
    · rw [hone y hy e, updS_ne _ _ (hne x hx)]; exact hiv
    · rw [updS_ne _ _ e] at hd
      rw [updS_ne _ _ (hne y hy)]
      exact h.ord y hy hd
  · by_cases e : k = j
    · subst e; rw [updS_at]; exact hv
    · rw [updS_ne _ _ e] at hk ⊢
      exact hF _ _ _ _ (h.ok k hk) h.size (Nat.le_of_eq h3.symm) fun q _ hq => h2 q fun e => hq x hx e.symm
end

section
variable {o : Oper} {ρ : Operand → Value} {w : World} {R : Value → World → Prop}
theorem rt_move {P : Program} {x : Operand} (ho : o.op = .move x ∨ o.op = .assign x) (h : R (ρ x) w) : StepR P o ρ w R := by
  unfold StepR execOp
  rcases ho with ho | ho <;> simp only [ho, Sem.run_pure] <;> exact h
theorem rt_load {x : Operand} {b k : Nat} {u v z : Value} (ho : o.op = .load 136 x) (hx : ρ x = .pointer (some ⟨b, k, none⟩)) (hc : w.cell? ⟨b, k, none⟩ = some u) (hd : w.cell? ⟨b, k + 1, none⟩ = some v) (he : w.cell? ⟨b, k + 2, none⟩ = some z) (h : R (.agg #[u, v, z]) w) : StepR Tryz.prog o ρ w R := by
  have hr : (Instr.loadAt 136 (.pointer (some ⟨b, k, none⟩))).run Tryz.prog w = .ok (.agg #[u, v, z]) w := by
    go_simp
  unfold StepR execOp
  simp only [ho, hx, Sem.run_bind, hr, Sem.run_pure, Result.andThen_ok]
  exact h
theorem rt_store {x y : Operand} {b : Nat} {u v z : Value} {i : Int} {q : Bool} {A : Option Addr} {n k : Nat} (ho : o.op = .store 136 x y) (hx : ρ x = .pointer (some ⟨b, 0, none⟩)) (hy : ρ y = .agg #[.int .i64 i, .bool q, .slice A n k]) (hb : w.heap[b]? = some (.cells #[u, v, z] 136 (0, 0)))
    (h : R undef (((w.setCell ⟨b, 0, none⟩ (.int .i64 i)).setCell ⟨b, 1, none⟩ (.bool q)).setCell ⟨b, 2, none⟩ (.slice A n k))) : StepR Tryz.prog o ρ w R := by
  have c0 : w.cell? ⟨b, 0, none⟩ = some u := (blk_at hb 0).1
  have c1 : w.cell? ⟨b, 1, none⟩ = some v := (blk_at hb 1).1
  have c2 : w.cell? ⟨b, 2, none⟩ = some z := (blk_at hb 2).1
  have f0 := (blk_at hb 0).2
  have f1 := (blk_at hb 1).2
  have f2 := (blk_at hb 2).2
  have hr : (Instr.storeAt 136 (.pointer (some ⟨b, 0, none⟩)) (.agg #[.int .i64 i, .bool q, .slice A n k])).run Tryz.prog w = .ok () (((w.setCell ⟨b, 0, none⟩ (.int .i64 i)).setCell ⟨b, 1, none⟩ (.bool q)).setCell ⟨b, 2, none⟩ (.slice A n k)) := by
    go_simp
  unfold StepR execOp
  simp only [ho, hx, hy, Sem.run_bind, hr, Sem.run_pure, Result.andThen_ok]
  exact h
theorem rt_call1 {P : Program} {f : Nat} {x : Operand} {t : TypeId} {v : Value} (ho : o.op = .call { callee := .value (.func f), args := #[x], argTypes := #[t] }) (he : ∀ args w, (callFunc f args).run P w = .ok (.enter f args) w) (hx : ρ x = v) (hf : ρ (.func f) = .func (.func f) #[] #[])
    (h : Calls P f #[v] w fun e w' => ∃ v, e = .returned v ∧ R v w') : StepR P o ρ w R := by
  unfold StepR execOp
  simp only [ho, resolve, invoke, hx, hf, List.map_toArray, List.map_cons, List.map_nil, Sem.run_bind, Sem.run_pure, Result.andThen_ok, Deferred.ofValue, Array.append_empty, he]
  exact h
theorem rt_call2 {P : Program} {f : Nat} {x y : Operand} {t t' : TypeId} {v u : Value} (ho : o.op = .call { callee := .value (.func f), args := #[x, y], argTypes := #[t, t'] }) (he : ∀ args w, (callFunc f args).run P w = .ok (.enter f args) w) (hx : ρ x = v) (hy : ρ y = u) (hf : ρ (.func f) = .func (.func f) #[] #[])
    (h : Calls P f #[v, u] w fun e w' => ∃ v, e = .returned v ∧ R v w') : StepR P o ρ w R := by
  unfold StepR execOp
  simp only [ho, resolve, invoke, hx, hy, hf, List.map_toArray, List.map_cons, List.map_nil, Sem.run_bind, Sem.run_pure, Result.andThen_ok, Deferred.ofValue, Array.append_empty, he]
  exact h
theorem rt_neq {x y : Operand} {a b : Int} (ho : o.op = .binOp .neq 3 x y 3) (hx : ρ x = .int .i64 a) (hy : ρ y = .int .i64 b) (h : R (.bool (a != b)) w) : StepR Tryz.prog o ρ w R := by
  unfold StepR execOp
  simp only [ho, hx, hy]
  go_simp
  exact h
theorem rt_lss {x y : Operand} {a b : Int} (ho : o.op = .binOp .lss 3 x y 3) (hx : ρ x = .int .i64 a) (hy : ρ y = .int .i64 b) (h : R (.bool (decide (a < b))) w) : StepR Tryz.prog o ρ w R := by
  unfold StepR execOp
  simp only [ho, hx, hy]
  go_simp
  exact h
end

end Go.Proofs.YtoffbdlgmnpblaaGreat
