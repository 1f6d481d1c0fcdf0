/- Part 32: Ivr Lw1 Eo1. -/
import Derived.Test.YtoffbdlgmnpblaaGreatJ15
import Derived.KernelRfl
import Derived.Test.YtoffbdlgmnpblaaGreatJ12
import Derived.Test.YtoffbdlgmnpblaaGreatJ31
import Derived.Test.YtoffbdlgmnpblaaGreatJ20
import Derived.Test.YtoffbdlgmnpblaaGreatJ21

/- A region that draws its order, by an invariant: each operation is met once, whatever has come up ahead of it. -/
namespace Go.Proofs.YtoffbdlgmnpblaaGreat

/-- what an operation leaves: a value and a world -/
def StepR (P : Program) (o : Oper) (ρ : Operand → Value) (w : World) (R : Value → World → Prop) : Prop :=
  match (execOp ρ o).run P w with
  | .ok (.value v) w' => R v w'
  | .ok .skip w' => R undef w'
  | .ok (.enter f args) w' => Calls P f args w' fun e w'' => ∃ v, e = .returned v ∧ R v w''
  | _ => False
theorem StepR.wp {P : Program} {o : Oper} {a : Act} {w : World} {R : Value → World → Prop} {K : Act → World → Prop} {Q : Exit → Act → World → Prop} (h : StepR P o a.eval w R) (hK : ∀ v w', R v w' → K (a.put o.dst v) w') : o.wp P a w K Q := by
  unfold StepR at h
  unfold Oper.wp
  generalize (execOp a.eval o).run P w = r at *
  match r, h with
  | .ok (.value v) w', h => exact hK _ _ h
  | .ok .skip w', h => exact hK _ _ h
  | .ok (.enter f args) w', h =>
    refine Calls.mono h fun e w'' he => ?_
    obtain ⟨v, rfl, hv⟩ := he
    exact hK _ _ hv

/-- the slot that operation j fills -/
def dstOf (ops : Array Oper) (j : Nat) : Option Tmp := (ops[j]?).bind (·.dst)
def actsL (ops : Array Oper) (s : Nat → Value) : List Nat → Act → Act
  | [], a => a
  | j :: r, a => actsL ops s r (a.put (dstOf ops j) (s j))
/-- the slots where operation j has left s j -/
def acts (ops : Array Oper) (a : Act) (s : Nat → Value) : Act := actsL ops s (List.range ops.size) a
def updS {α : Type} (s : Nat → α) (j : Nat) (v : α) : Nat → α := fun k => if k = j then v else s k
theorem updS_at {α : Type} (s : Nat → α) (j : Nat) (v : α) : updS s j v j = v := if_pos rfl
theorem updS_ne {α : Type} (s : Nat → α) {j k : Nat} (v : α) (h : k ≠ j) : updS s j v k = s k := if_neg h

theorem put_comm (a : Act) {x y : Option Tmp} (u v : Value) (h : x = none ∨ x ≠ y) : (a.put x u).put y v = (a.put y v).put x u := by
  cases x with
  | none => rfl
  | some x =>
    cases y with
    | none => rfl
    | some y =>
      have hne : x ≠ y := fun e => by subst e; rcases h with h | h <;> simp at h
      unfold Act.put
      simp only
      rw [Array.setIfInBounds_comm _ _ hne]
theorem put_put (a : Act) (x : Option Tmp) (u v : Value) : (a.put x u).put x v = a.put x v := by
  cases x with
  | none => rfl
  | some x => unfold Act.put; simp
section
variable {ops : Array Oper}
def apartL (ops : Array Oper) (i j : Nat) : Prop := dstOf ops i = none ∨ dstOf ops i ≠ dstOf ops j
theorem actsL_put (s : Nat → Value) (y : Option Tmp) (v : Value) : ∀ (l : List Nat) (a : Act), (∀ i ∈ l, dstOf ops i = none ∨ dstOf ops i ≠ y) → (actsL ops s l a).put y v = actsL ops s l (a.put y v)
  | [], _, _ => rfl
  | i :: l, a, h => by
    show (actsL ops s l (a.put (dstOf ops i) (s i))).put y v = actsL ops s l ((a.put y v).put (dstOf ops i) (s i))
    rw [actsL_put s y v l _ fun k hk => h k (List.mem_cons_of_mem _ hk), put_comm a _ _ (h i (List.mem_cons_self ..))]
theorem actsL_same (s s' : Nat → Value) : ∀ (l : List Nat) (a : Act), (∀ i ∈ l, s i = s' i) → actsL ops s l a = actsL ops s' l a
  | [], _, _ => rfl
  | i :: l, a, h => by
    show actsL ops s l _ = actsL ops s' l _
    rw [h i (List.mem_cons_self ..)]
    exact actsL_same s s' l _ fun k hk => h k (List.mem_cons_of_mem _ hk)
theorem actsL_upd (s : Nat → Value) (j : Nat) (v : Value) : ∀ (l : List Nat) (a : Act), l.Nodup → (∀ i ∈ l, i ≠ j → apartL ops i j) → j ∈ l → (actsL ops s l a).put (dstOf ops j) v = actsL ops (updS s j v) l a
  | [], _, _, _, h => by cases h
  | i :: l, a, hn, ha, hj => by
    obtain ⟨h1, h2⟩ := List.nodup_cons.1 hn
    by_cases e : i = j
    · subst e
      show (actsL ops s l _).put _ v = actsL ops (updS s i v) l (a.put (dstOf ops i) (updS s i v i))
      rw [actsL_put s _ v l _ fun k hk => ha k (List.mem_cons_of_mem _ hk) fun e => by subst e; exact h1 hk, put_put, updS_at]
      exact actsL_same _ _ l _ fun k hk => (updS_ne s v fun e => by subst e; exact h1 hk).symm
    · have hj' : j ∈ l := by rcases List.mem_cons.1 hj with h | h; exact absurd h.symm e; exact h
      show (actsL ops s l _).put _ v = actsL ops (updS s j v) l (a.put (dstOf ops i) (updS s j v i))
      rw [actsL_upd s j v l _ h2 (fun k hk => ha k (List.mem_cons_of_mem _ hk)) hj', updS_ne s v e]
theorem actsL_init (a : Act) : ∀ (l : List Nat), actsL ops (fun j => match dstOf ops j with | some t => a.tmps.getD t undef | none => undef) l a = a
  | [] => rfl
  | i :: l => by
    show actsL ops _ l (a.put (dstOf ops i) (match dstOf ops i with | some t => a.tmps.getD t undef | none => undef)) = a
    have e : a.put (dstOf ops i) (match dstOf ops i with | some t => a.tmps.getD t undef | none => undef) = a := by
      cases dstOf ops i with
      | none => rfl
      | some t =>
        unfold Act.put
        simp only
        have : a.tmps.setIfInBounds t (a.tmps.getD t undef) = a.tmps := by
          apply Array.ext (by simp)
          intro k h1 h2
          rw [Array.getElem_setIfInBounds]
          split
          · rename_i e; subst e; simp [h2]
          · rfl
        rw [this]
    rw [e]
    exact actsL_init a l
theorem actsL_size (s : Nat → Value) : ∀ (l : List Nat) (a : Act), (actsL ops s l a).tmps.size = a.tmps.size
  | [], _ => rfl
  | i :: l, a => by
    show (actsL ops s l _).tmps.size = _
    rw [actsL_size s l]
    unfold Act.put
    split <;> simp
theorem actsL_other (s : Nat → Value) (t : Nat) : ∀ (l : List Nat) (a : Act), (∀ i ∈ l, dstOf ops i ≠ some t) → (actsL ops s l a).tmps.getD t undef = a.tmps.getD t undef
  | [], _, _ => rfl
  | i :: l, a, h => by
    show (actsL ops s l _).tmps.getD t undef = _
    rw [actsL_other s t l _ fun k hk => h k (List.mem_cons_of_mem _ hk)]
    have hi := h i (List.mem_cons_self ..)
    cases hd : dstOf ops i with
    | none => rfl
    | some u =>
      have hne : u ≠ t := fun e => hi (by rw [hd, e])
      unfold Act.put
      simp only [Array.getD_eq_getD_getElem?]
      rw [Array.getElem?_setIfInBounds_ne hne]

/-- what the law asks of the region: no guard, slots of their own, and operation j waits for those of deps -/
def regionOk (ops : Array Oper) (size : Nat) (deps : List (List Nat)) : Bool :=
  (List.range ops.size).all fun j => match ops[j]? with
    | none => false
    | some o => o.guard.isNone && (o.dst.all fun t => decide (t < size)) && (o.after.all fun e => decide (e.on < j)) &&
      ((deps.getD j []).all fun k => o.after.any fun e => Region.binds .any e && e.on == k) &&
      (List.range ops.size).all fun i => decide (i = j) || (dstOf ops i).isNone || decide (dstOf ops i ≠ dstOf ops j)
variable {a0 : Act} {deps : List (List Nat)}
theorem regionOk_at (h : regionOk ops a0.tmps.size deps = true) {j : Nat} {o : Oper} (ho : ops[j]? = some o) : o.guard = none ∧ (∀ t, o.dst = some t → t < a0.tmps.size) ∧ (∀ e ∈ o.after, e.on < j) ∧ (∀ k ∈ deps.getD j [], ∃ e ∈ o.after, Region.binds .any e = true ∧ e.on = k) ∧ ∀ i, i < ops.size → i ≠ j → apartL ops i j := by
  have hj : j < ops.size := (Array.getElem?_eq_some_iff.1 ho).1
  have h1 := List.all_eq_true.1 h j (List.mem_range.2 hj)
  rw [ho] at h1
  simp only [Bool.and_eq_true, Option.isNone_iff_eq_none, Array.all_eq_true_iff_forall_mem, List.all_eq_true, Array.any_eq_true, decide_eq_true_eq, Bool.or_eq_true, beq_iff_eq, List.mem_range] at h1
  obtain ⟨⟨⟨⟨h2, h3⟩, h4⟩, h5⟩, h6⟩ := h1
  refine ⟨h2, fun t ht => ?_, h4, fun k hk => ?_, fun i hi hne => ?_⟩
  · rw [ht] at h3; simpa using h3
  · obtain ⟨q, hq, e1, e2⟩ := h5 k hk
    exact ⟨_, Array.getElem_mem hq, e1, e2⟩
  · rcases h6 i hi with (h | h) | h
    · exact absurd h hne
    · exact .inl h
    · exact .inr h
theorem acts_put (h : regionOk ops a0.tmps.size deps = true) {j : Nat} {o : Oper} (ho : ops[j]? = some o) (s : Nat → Value) (v : Value) : (acts ops a0 s).put o.dst v = acts ops a0 (updS s j v) := by
  have hj : j < ops.size := (Array.getElem?_eq_some_iff.1 ho).1
  have hd : dstOf ops j = o.dst := by unfold dstOf; rw [ho]; rfl
  rw [← hd]
  exact actsL_upd s j v _ a0 List.nodup_range (fun i hi hne => (regionOk_at h ho).2.2.2.2 i (List.mem_range.1 hi) hne) (List.mem_range.2 hj)
/-- what operation j has left, read out of its slot -/
theorem acts_eval (h : regionOk ops a0.tmps.size deps = true) (s : Nat → Value) {j : Nat} {t : Tmp} (hd : dstOf ops j = some t) : (acts ops a0 s).eval (.tmp t) = s j := by
  cases ho : ops[j]? with
  | none => unfold dstOf at hd; rw [ho] at hd; cases hd
  | some o =>
    have hd' : o.dst = some t := by unfold dstOf at hd; rw [ho] at hd; exact hd
    have ht := (regionOk_at h ho).2.1 t hd'
    have hs := acts_put h ho s (s j)
    have e : updS s j (s j) = s := by funext k; unfold updS; split <;> simp_all
    rw [e, hd'] at hs
    rw [← hs]
    show ((acts ops a0 s).tmps.setIfInBounds t (s j)).getD t undef = s j
    have hz : t < (acts ops a0 s).tmps.size := by unfold acts; rw [actsL_size]; exact ht
    simp [hz]
theorem acts_old (s : Nat → Value) {t : Tmp} (hd : ((List.range ops.size).all fun i => decide (dstOf ops i ≠ some t)) = true) : (acts ops a0 s).eval (.tmp t) = a0.eval (.tmp t) :=
  actsL_other s t _ a0 fun i hi => by simpa using List.all_eq_true.1 hd i hi

theorem cnt_lt {n j : Nat} {d d' : Nat → Bool} (hj : j < n) (h0 : d j = false) (h1 : d' j = true) (hs : ∀ k, k ≠ j → d' k = d k) : ((List.range n).filter fun k => !d' k).length < ((List.range n).filter fun k => !d k).length := by
  induction n with
  | zero => omega
  | succ n ih =>
    rw [List.range_succ, List.filter_append, List.filter_append, List.length_append, List.length_append]
    by_cases e : j = n
    · subst e
      have : (List.range j).filter (fun k => !d' k) = (List.range j).filter (fun k => !d k) := List.filter_congr fun k hk => by rw [hs k (by have := List.mem_range.1 hk; omega)]
      rw [this]
      simp [h0, h1]
    · have := ih (by omega)
      rw [show List.filter (fun k => !d' k) [n] = List.filter (fun k => !d k) [n] from by simp [List.filter_cons, hs n (Ne.symm e)]]
      omega

theorem inv_region {P : Program} {id : Nat} {w : World} {Q : Exit → Act → World → Prop} {J : (Nat → Bool) → (Nat → Value) → World → Prop} (hm : P.follows .mixedOrders = true) (hok : regionOk ops a0.tmps.size deps = true)
    (h0 : ∀ d, (∀ k, k < ops.size → d k = false) → J d (fun j => match dstOf ops j with | some t => a0.tmps.getD t undef | none => undef) w.drew)
    (hstep : ∀ j o, ops[j]? = some o → ∀ d s w, J d s w → d j = false → (∀ k ∈ deps.getD j [], d k = true) → StepR P o (acts ops a0 s).eval w fun v w' => J (updS d j true) (updS s j v) w')
    (hend : ∀ d s w, J d s w → (∀ j, j < ops.size → d j = true) → Q .normal (acts ops a0 s) w) : (Code.region id ops true).wp P Q a0 w := by
  refine wp_region_any hm ?_
  have key : ∀ (n : Nat) (L : Array Bool) (s : Nat → Value) (w : World), L.size = ops.size → J (fun k => L.getD k true) s w → ((List.range ops.size).filter fun k => !L.getD k true).length ≤ n → wpAny P .any ops Q n L (acts ops a0 s) w := by
    have hnil : ∀ (L : Array Bool), Region.ready .any ops L = [] → ∀ j, j < ops.size → L.getD j true = true := by
      intro L hr j
      induction j using Nat.strongRecOn with
      | _ j ih =>
        intro hj
        cases hb : L.getD j true with
        | true => rfl
        | false =>
          exfalso
          have hmem : j ∈ Region.ready .any ops L := mem_ready.2 ⟨hb, ops[j], Array.getElem?_eq_getElem hj, fun e he hbd => by
            have hlt := (regionOk_at hok (Array.getElem?_eq_getElem hj)).2.2.1 e he
            have h1 := ih e.on hlt (by omega)
            rcases Nat.lt_or_ge e.on L.size with h' | h'
            · simp [h'] at h1 ⊢; exact h1
            · exfalso
              have hjL : ¬ j < L.size := by omega
              simp [hjL] at hb⟩
          rw [hr] at hmem
          cases hmem
    intro n
    induction n with
    | zero =>
      intro L s w hz hJ hn
      have hall : ∀ j, j < ops.size → L.getD j true = true := fun j hj => by
        cases hb : L.getD j true with
        | true => rfl
        | false =>
          exfalso
          have : j ∈ (List.range ops.size).filter fun k => !L.getD k true := List.mem_filter.2 ⟨List.mem_range.2 hj, by rw [hb]; rfl⟩
          have := List.length_pos_of_mem this
          omega
      refine ⟨?_, hend _ s w hJ hall⟩
      cases hr : Region.ready .any ops L with
      | nil => rfl
      | cons j r =>
        exfalso
        have hj : j ∈ Region.ready .any ops L := by rw [hr]; exact List.mem_cons_self ..
        obtain ⟨h1, o, ho, -⟩ := mem_ready.1 hj
        rw [hall j (Array.getElem?_eq_some_iff.1 ho).1] at h1
        cases h1
    | succ n ih =>
      intro L s w hz hJ hn
      refine ⟨fun hr => hend _ s w hJ (hnil L hr), fun j hj => ?_⟩
      obtain ⟨h1, o, ho, hdep⟩ := mem_ready.1 hj
      have hjlt : j < ops.size := (Array.getElem?_eq_some_iff.1 ho).1
      obtain ⟨hg, -, -, hd, -⟩ := regionOk_at hok ho
      have hst := hstep j o ho _ s w hJ h1 fun k hk => by
        obtain ⟨e, he, hb, rfl⟩ := hd k hk
        have h2 := hdep e he hb
        rcases Nat.lt_or_ge e.on L.size with h' | h'
        · simp [h'] at h2 ⊢; exact h2
        · simp [Array.getElem?_eq_none h'] at h2
      have hLe : (fun k => (L.setIfInBounds j true).getD k true) = updS (fun k => L.getD k true) j true := by
        funext k
        unfold updS
        by_cases e : k = j
        · subst e; rw [if_pos rfl]; simp only [Array.getD_eq_getD_getElem?, Array.getElem?_setIfInBounds]; split <;> simp_all
        · rw [if_neg e]; simp only [Array.getD_eq_getD_getElem?]; rw [Array.getElem?_setIfInBounds_ne (Ne.symm e)]
      unfold wpOp
      rw [ho]
      show if Region.wanted o (yielded ops (acts ops a0 s).tmps) then _ else _
      rw [if_pos (by simp [Region.wanted, hg])]
      refine .inl (hst.wp fun v w' hJ' => ?_)
      rw [acts_put hok ho]
      refine ih _ _ _ (by rw [Array.size_setIfInBounds]; exact hz) (by rw [hLe]; exact hJ') ?_
      have hlt := cnt_lt (n := ops.size) (j := j) (d := fun k => L.getD k true) (d' := fun k => (L.setIfInBounds j true).getD k true) hjlt h1 ((congrFun hLe j).trans (updS_at _ _ _)) fun k hk => (congrFun hLe k).trans (updS_ne _ _ hk)
      exact Nat.le_of_lt_succ (Nat.lt_of_lt_of_le hlt hn)
  have hinit := actsL_init (ops := ops) a0 (List.range ops.size)
  have hk := key ops.size (Array.replicate ops.size false) (fun j => match dstOf ops j with | some t => a0.tmps.getD t undef | none => undef) w.drew (by simp) (h0 _ fun k hk => by simp [hk]) (Nat.le_trans (List.length_filter_le _ _) (by simp))
  rw [show acts ops a0 (fun j => match dstOf ops j with | some t => a0.tmps.getD t undef | none => undef) = a0 from hinit] at hk
  exact hk
/-- the slots of dl filled in turn -/
def putL (s : Nat → Value) : List (Option Tmp) → Nat → Act → Act
  | [], _, a => a
  | t :: r, i, a => putL s r (i + 1) (a.put t (s i))
theorem putL_acts (ops : Array Oper) (s : Nat → Value) : ∀ (l : List Nat) (i : Nat) (a : Act), l = List.range' i l.length → actsL ops s l a = putL s (l.map (dstOf ops)) i a
  | [], _, _, _ => rfl
  | j :: l, i, a, h => by
    rw [List.length_cons, List.range'_succ] at h
    injection h with h1 h2
    subst h1
    show actsL ops s l _ = putL s (l.map (dstOf ops)) (j + 1) _
    exact putL_acts ops s l (j + 1) _ h2
theorem inv_region2 {P : Program} {id : Nat} {w : World} {Q : Exit → Act → World → Prop} {J : (Nat → Bool) → (Nat → Value) → World → Prop} (dl : List (Option Tmp)) (deps : List (List Nat)) (hdl : (List.range ops.size).map (dstOf ops) = dl) (hm : P.follows .mixedOrders = true) (hok : regionOk ops a0.tmps.size deps = true)
    (h0 : ∀ d s, (∀ k, k < ops.size → d k = false) → J d s w.drew)
    (hstep : ∀ j o, ops[j]? = some o → ∀ d s w (ρ : Operand → Value), J d s w → d j = false → (∀ k, k ∈ deps.getD j [] → d k = true) → (∀ k t, dl[k]? = some (some t) → ρ (.tmp t) = s k) → (∀ t, dl.contains (some t) = false → ρ (.tmp t) = a0.eval (.tmp t)) →
      (∀ f, ρ (.func f) = .func (.func f) #[] #[]) → StepR P o ρ w fun v w' => J (updS d j true) (updS s j v) w')
    (hend : ∀ d s w, J d s w → (∀ j, j < ops.size → d j = true) → Q .normal (putL s dl 0 a0) w) : (Code.region id ops true).wp P Q a0 w := by
  refine inv_region (J := J) (deps := deps) hm hok (fun d hd => h0 d _ hd) (fun j o ho d s w hJ hd hk => hstep j o ho d s w _ hJ hd hk (fun k t hkt => ?_) (fun t ht => ?_) fun f => rfl) fun d s w hJ hd => ?_
  · rw [← hdl] at hkt
    rw [List.getElem?_map] at hkt
    obtain ⟨k', hk', e⟩ := Option.map_eq_some_iff.1 hkt
    have hkk : k' = k := by
      obtain ⟨hh, rfl⟩ := List.getElem?_eq_some_iff.1 hk'
      simp
    subst hkk
    exact acts_eval hok s e
  · refine acts_old s (List.all_eq_true.2 fun i hi => decide_eq_true fun e => ?_)
    have : some t ∈ dl := by rw [← hdl]; exact List.mem_map.2 ⟨i, hi, e⟩
    simp [this] at ht
  · have e := putL_acts ops s (List.range ops.size) 0 a0 (by rw [List.length_range, List.range_eq_range'])
    rw [hdl] at e
    have h9 := hend d s w hJ hd
    rw [← e] at h9
    exact h9
end

end Go.Proofs.YtoffbdlgmnpblaaGreat

/- The laws' own words: lists and lists of lists are compared; sizes are asked. -/
namespace Go.Proofs.YtoffbdlgmnpblaaGreat
open Go.RowKit
set_option maxHeartbeats 4000000
set_option maxRecDepth 100000

theorem take_snoc_eq {α : Type} {xs ys : List α} {j : Nat} {x y : α} (hx : xs[j]? = some x) (hy : ys[j]? = some y) (h : xs.take j = ys.take j) (e : x = y) : xs.take (j + 1) = ys.take (j + 1) := by
  rw [List.take_add_one, List.take_add_one, hx, hy, h, e]
theorem ne_of_at {α : Type} {xs ys : List α} {j : Nat} {x y : α} (hx : xs[j]? = some x) (hy : ys[j]? = some y) (e : x ≠ y) : xs ≠ ys := by
  intro h
  rw [h, hy] at hx
  exact e (Option.some.inj hx).symm

end Go.Proofs.YtoffbdlgmnpblaaGreat

/- The words of law 08: lists of any length are compared; sizes are asked; a list is spoilt. -/
namespace Go.Proofs.YtoffbdlgmnpblaaGreat
open Go.RowKit
set_option maxHeartbeats 4000000
set_option maxRecDepth 100000

theorem List2_calls (xs ys : List Int) (u v : Value) (D : Nat → Prop) (w : World) (hx : Sl (Kind.int .i64) w D u xs) (hy : Sl (Kind.int .i64) w D v ys) :
    Calls Tryz.prog 22 #[u, v] w fun e w' => e = .returned (.bool (decide (xs = ys))) ∧ Drawn w w' := by
  obtain ⟨A, c, rfl, h1, h2, h3⟩ := hx.ints
  obtain ⟨B, d, rfl, k1, k2, k3⟩ := hy.ints
  unfold maxLen at h2 k2
  have H3 := Lib.hid h3
  have K3 := Lib.hid k3
  clear hx hy h3 k3
  by_cases hl : xs.length = ys.length
  · rw [← hl] at k1 ⊢
    have HLL := Lib.hid hl
    have HKK := Lib.hid (show 0 < xs.length → ∃ ad, B = some ad ∧ D ad.block ∧ ∀ i, i < xs.length → w.cell? (ad.add i) = some (.int .i64 (Dig.gd ys i)) by rw [hl]; exact K3.out)
    clear hl K3
    go_enter Tryz.func22, Tryz.ntmps22
    go_wp2
    go_loopw [13] (fun k W => ∃ j : Nat, j ≤ xs.length ∧ k = .int .i64 (j : Int) ∧ Drawn w W ∧ Hid (xs.take j = ys.take j)) (fun k _ => xs.length - (intOf k).toNat)
    case atStart => exact ⟨0, Nat.zero_le _, rfl, Drawn.refl _, rfl⟩
    case round =>
      obtain ⟨j, hj, rfl, ⟨nd, rfl⟩, HL⟩ := hrel
      by_cases hlt : j < xs.length
      · obtain ⟨ad, rfl, -, hc⟩ := H3.out (by omega)
        obtain ⟨bd, rfl, -, hd⟩ := HKK.out (by omega)
        have q1 := hc j hlt
        have q2 := hd j hlt
        have hx := List.getElem?_eq_getElem hlt
        have hy := List.getElem?_eq_getElem (show j < ys.length by have := HLL.out; omega)
        rw [Dig.gd_of hx] at q1
        rw [Dig.gd_of hy] at q2
        have HX := Lib.hid hx
        have HY := Lib.hid hy
        generalize xs[j] = x at *
        generalize ys[j] = y at *
        clear hc hd hx hy
        by_cases e : x = y
        · have HS := Lib.hid (take_snoc_eq HX.out HY.out HL.out e)
          have hb : (x != y) = false := by rw [e]; simp
          clear e
          go_wp2
          go_quiet (fail)
          go_wp2
          refine ⟨⟨j + 1, by omega, by go_num, ?_, HS⟩, by simp [intOf]; omega⟩
          exact ⟨_, rfl⟩
        · have HS := Lib.hid (show decide (xs = ys) = false from decide_eq_false (ne_of_at HX.out HY.out e))
          have hb : (x != y) = true := by rw [bne_iff_ne]; exact e
          clear e
          go_wp2
          go_quiet (fail)
          go_wp2
          go_ret
          exact ⟨ret_bool HS.out.symm, by first | exact ⟨_, rfl⟩ | exact ⟨_, World.drewN_drewN _ _ _⟩⟩
      · obtain rfl : j = xs.length := by omega
        have HS := Lib.hid (show decide (xs = ys) = true from decide_eq_true (by
          have := HL.out
          rw [List.take_length, HLL.out, List.take_length] at this; exact this))
        clear hlt
        go_wp2
        go_ret
        exact ⟨ret_bool HS.out.symm, ⟨nd, rfl⟩⟩
  · have hb1 : ((xs.length : Int) != (ys.length : Int)) = true := by rw [bne_iff_ne]; omega
    have hb2 : (xs.length != ys.length) = true := by rw [bne_iff_ne]; exact hl
    have HS := Lib.hid (show decide (xs = ys) = false from decide_eq_false fun e => hl (by rw [e]))
    clear hl
    go_enter Tryz.func22, Tryz.ntmps22
    go_wp2
    go_ret
    exact ⟨ret_bool HS.out.symm, Drawn.refl _⟩

theorem Lists2_calls (xss yss : List (List Int)) (u v : Value) (D : Nat → Prop) (w : World) (hx : Rows2 w D u xss) (hy : Rows2 w D v yss) :
    Calls Tryz.prog 21 #[u, v] w fun e w' => e = .returned (.bool (decide (xss = yss))) ∧ Drawn w w' := by
  have at_row : ∀ {A : Option Addr} {c : Nat} {n : Nat} {zss : List (List Int)}, Rows2 w D (.slice A n c) zss → ∀ j z, zss[j]? = some z → ∃ ad r, A = some ad ∧ w.cell? (ad.add j) = some r ∧ Sl (Kind.int .i64) w D r z := by
    intro A c n zss h j z hz
    obtain ⟨A', c', e, -, -, h3⟩ := h
    injection e with e1 e2 e3
    subst e1
    obtain ⟨ad, cs', ea, hd, ⟨r, rfl, hr⟩, hat⟩ := h3 j z hz
    have h0 := hat 0 r rfl
    rw [add_of_add, show j * (Kind.slice (Kind.int .i64)).sz + 0 = j from by show j * 1 + 0 = j; omega] at h0
    exact ⟨ad, r, ea, h0, hr⟩
  obtain ⟨A, c, rfl, h1, h2, -⟩ := hx.form
  obtain ⟨B, d, rfl, k1, k2, -⟩ := hy.form
  unfold maxLen at h2 k2
  have HX0 := Lib.hid (at_row hx)
  have HY0 := Lib.hid (at_row hy)
  clear hx hy at_row
  by_cases hl : xss.length = yss.length
  · rw [← hl] at k1 ⊢
    have HLL := Lib.hid hl
    clear hl
    go_enter Tryz.func21, Tryz.ntmps21
    go_wp2
    go_loopw [13] (fun k W => ∃ j : Nat, j ≤ xss.length ∧ k = .int .i64 (j : Int) ∧ Drawn w W ∧ Hid (xss.take j = yss.take j)) (fun k _ => xss.length - (intOf k).toNat)
    case atStart => exact ⟨0, Nat.zero_le _, rfl, Drawn.refl _, rfl⟩
    case round =>
      obtain ⟨j, hj, rfl, ⟨nd, rfl⟩, HL⟩ := hrel
      by_cases hlt : j < xss.length
      · have hx := List.getElem?_eq_getElem hlt
        have hy := List.getElem?_eq_getElem (show j < yss.length by have := HLL.out; omega)
        have HX := Lib.hid hx
        have HY := Lib.hid hy
        obtain ⟨ad, r, rfl, q1, s1⟩ := HX0.out j _ hx
        obtain ⟨bd, r', rfl, q2, s2⟩ := HY0.out j _ hy
        have S1 := Lib.hid s1
        have S2 := Lib.hid s2
        generalize xss[j] = x at *
        generalize yss[j] = y at *
        clear s1 s2 hx hy
        have hcall : ∀ n, Calls Tryz.prog 22 #[r, r'] (w.drewN (nd + n)) fun e w' => e = .returned (.bool (decide (x = y))) ∧ ∃ m, w' = w.drewN (nd + m) := fun n =>
          (List2_calls x y r r' D (w.drewN (nd + n)) (S1.out.same fun _ _ => rfl) (S2.out.same fun _ _ => rfl)).mono fun _ _ ⟨he, m, hm⟩ => ⟨he, n + m, by rw [hm, World.drewN_drewN, Nat.add_assoc]⟩
        have HCA := Lib.hid hcall
        clear hcall
        by_cases e : x = y
        · have HS := Lib.hid (take_snoc_eq HX.out HY.out HL.out e)
          have hb : decide (x = y) = true := decide_eq_true e
          clear e
          go_wp2
          go_quiet ((go_at_call 22; exact HCA.out _))
          rw [hb]
          clear hb
          go_wp2
          exact ⟨⟨j + 1, by omega, by go_num, ⟨_, rfl⟩, HS⟩, by simp [intOf]; omega⟩
        · have HS := Lib.hid (show decide (xss = yss) = false from decide_eq_false (ne_of_at HX.out HY.out e))
          have hb : decide (x = y) = false := decide_eq_false e
          clear e
          go_wp2
          go_quiet ((go_at_call 22; exact HCA.out _))
          rw [hb]
          clear hb
          go_wp2
          go_ret
          exact ⟨ret_bool HS.out.symm, by first | exact ⟨_, rfl⟩ | exact ⟨_, World.drewN_drewN _ _ _⟩⟩
      · obtain rfl : j = xss.length := by omega
        have HS := Lib.hid (show decide (xss = yss) = true from decide_eq_true (by
          have := HL.out
          rw [List.take_length, HLL.out, List.take_length] at this; exact this))
        clear hlt
        go_wp2
        go_ret
        exact ⟨ret_bool HS.out.symm, ⟨nd, rfl⟩⟩
  · have hb1 : ((xss.length : Int) != (yss.length : Int)) = true := by rw [bne_iff_ne]; omega
    have hb2 : (xss.length != yss.length) = true := by rw [bne_iff_ne]; exact hl
    have HS := Lib.hid (show decide (xss = yss) = false from decide_eq_false fun e => hl (by rw [e]))
    clear hl
    go_enter Tryz.func21, Tryz.ntmps21
    go_wp2
    go_ret
    exact ⟨ret_bool HS.out.symm, Drawn.refl _⟩

theorem few8_calls (m : List St) (l : List Int) (v u : Value) (D : Nat → Prop) (w : World) (hD : Lo D w) (h : ModelC w D v m) (hl : Sl (Kind.int .i64) w D u l) :
    Calls Tryz.prog 45 #[v, u] w fun e w' => e = .returned (.bool (few5 m l)) ∧ Below w.heap.size w w' := by
  obtain ⟨mv, rfl, hmm⟩ := h
  have HM : Hid (ModelC w D (.agg #[mv]) m) := ⟨mv, rfl, hmm⟩
  obtain ⟨A, c, rfl, h1, h2, -⟩ := hmm.form
  obtain ⟨B, d, rfl, l1, l2, -⟩ := hl.ints
  unfold maxLen at h2 l2
  clear hmm hl
  have hB0 := (Below.refl w.heap.size w).alloc (Nat.le_refl _) (.cells #[.slice A m.length c] 24)
  go_enter Tryz.func45, Tryz.ntmps45
  go_wp2_with fail
  refine (Few_calls m _ D _ (hD.up hB0.size) (HM.out.same (hD.same hB0))).mono ?_
  rintro e w1 ⟨rfl, hb1⟩
  have hB1 := hB0.trans (hb1.mono hB0.size)
  cases hv : fewB m with
  | false =>
    have HV := Lib.hid (show few5 m l = false by unfold few5; rw [hv]; rfl)
    clear hv
    go_wp2
    go_ret
    exact ⟨ret_bool HV.out.symm, hB1⟩
  | true =>
    have HV := Lib.hid (show few5 m l = decide (l.length ≤ 60) by unfold few5; rw [hv]; rfl)
    have HI := Lib.hid (show decide ((l.length : Int) ≤ 60) = decide (l.length ≤ 60) from by rw [decide_eq_decide]; omega)
    clear hv
    go_wp2
    go_ret
    exact ⟨ret_bool (by rw [HV.out, ← HI.out]), hB1⟩

/-- the law's spoil of one list -/
theorem spoil8_calls (xs : List Int) (v : Value) (D : Nat → Prop) (w : World) (h : Sl (Kind.int .i64) w D v xs) (hs : ∀ k, D k → Soft w k) :
    Calls Tryz.prog 66 #[v] w fun e w' => e = .returned (.tuple #[]) ∧ Turned D w w' := by
  obtain ⟨B, d, rfl, l1, l2, -⟩ := h.ints
  unfold maxLen at l2
  have HU := Lib.hid h
  have HS := Lib.hid hs
  clear h hs
  go_enter Tryz.func66, Tryz.ntmps66
  go_wp2
  go_loopw [5] (fun k W => ∃ (j : Nat), j ≤ xs.length ∧ k = .int .i64 (j : Int) ∧ Hid (Turned D w W)) (fun k _ => xs.length - (intOf k).toNat)
  case atStart => exact ⟨0, Nat.zero_le _, rfl, Turned.refl _ _⟩
  case round =>
    obtain ⟨j, hj, rfl, HT2⟩ := hrel
    by_cases hlt2 : j < xs.length
    · obtain ⟨ys, hyl, hY⟩ := HU.out.turned HT2.out
      obtain ⟨B', d', e', -, -, hc⟩ := hY.ints
      injection e' with e1 e2 e3
      subst e1 e3
      obtain ⟨ad2, rfl, hd2, hcs⟩ := hc (by omega)
      have q0 := hcs j (by omega)
      have q1 : wr.frozen? (ad2.add j) = false := Soft.at (HT2.out.soft (HS.out _ (by rw [block_of_add]; exact hd2)))
      have hda2 : D (ad2.add j).block := by rw [block_of_add]; exact hd2
      have HQ := Lib.hid q0
      generalize Dig.gd ys j = y at *
      clear hcs hc hY hyl e2
      go_wp2
      exact ⟨⟨j + 1, by omega, by go_num, HT2.out.trans (Turned.set HQ.out hda2 _)⟩, by simp [intOf]; omega⟩
    · obtain rfl : j = xs.length := by omega
      clear hlt2
      go_wp2
      exact ⟨rfl, .tuple #[], by simp [results, Tryz.results66, go_sem], rfl, HT2.out⟩

end Go.Proofs.YtoffbdlgmnpblaaGreat
