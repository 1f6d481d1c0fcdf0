/- Part 15: Tmd Ivr Rf1 Rf2. -/
import Derived.Test.YtoffbdlgmnpblaaGreatJ14
import Derived.OrdersHeld
import Derived.RegionTactic
import Derived.KernelRfl
import Derived.Test.YtoffbdlgmnpblaaGreatJ02
import Derived.Outline
import Derived.Test.YtoffbdlgmnpblaaGreatJ10

/- A region that draws its order: what holds of the world may depend on which operations have come up. -/
namespace Go.Proofs.YtoffbdlgmnpblaaGreat

section
variable {P : Program} {ops : Array Oper} {Q : Exit → Act → World → Prop} {md : Region.Mode} {S : Array Bool → World → Prop}

/-- whatever order is picked from here on, and S holds behind each operation, of what has come up and of the world -/
def Timed (P : Program) (md : Region.Mode) (ops : Array Oper) (Q : Exit → Act → World → Prop) (S : Array Bool → World → Prop) : Nat → Array Bool → Act → World → Prop
  | 0, L, a, w => Region.ready md ops L = [] ∧ Q .normal a w
  | n + 1, L, a, w => (Region.ready md ops L = [] → Q .normal a w) ∧
      ∀ j ∈ Region.ready md ops L, wpOp P ops Q j (fun a' w' => S (L.setIfInBounds j true) w' ∧ Timed P md ops Q S n (L.setIfInBounds j true) a' w') a w

theorem Timed.any : ∀ (n : Nat) (L : Array Bool) (a : Act) (w : World), Timed P md ops Q S n L a w → wpAny P md ops Q n L a w
  | 0, _, _, _, h => h
  | n + 1, _, _, _, h => ⟨h.1, fun j hj => wpOp_mono (fun a' w' h' => Timed.any n _ a' w' h'.2) (h.2 j hj)⟩

/-- a number that may come up now is taken first: where G holds of what has come up S gives what it needs, and G stays while it has not come up -/
theorem Timed.first {i : Nat} {oi : Oper} {v : Value} {T : World → Prop} {G : Array Bool → Prop} (hi : ops[i]? = some oi) (hsel : ∀ (j : Nat) (o : Oper) cs b, ops[j]? = some o → o.op ≠ .select cs b)
    (hQ : ∀ c a w, Q (.panic c) (a.put oi.dst v) w → Q (.panic c) a w)
    (hG : ∀ L j, G L → j ≠ i → i ∈ Region.ready md ops L → j ∈ Region.ready md ops L → G (L.setIfInBounds j true))
    (hT : ∀ L w, G L → S L w → T w) (hSi : ∀ L w, S (L.setIfInBounds i true) w → S L w) :
    ∀ (n : Nat) (L : Array Bool) (a : Act) (w : World),
      (∀ j oj, ops[j]? = some oj → j ≠ i → L.getD j true = false → (∀ e ∈ oj.after, Region.binds md e = true → e.on ≠ i) → oi.apart ops oj = true) →
      i ∈ Region.ready md ops L → G L → YieldsIf P ops T oi v a → S L w → S (L.setIfInBounds i true) w →
      Timed P md ops Q S n (L.setIfInBounds i true) (a.put oi.dst v) w → Timed P md ops Q S (n + 1) L a w := by
  intro n
  induction n with
  | zero =>
    intro L a w _ hr hg hy hS hS' H
    refine ⟨fun h => (by rw [h] at hr; cases hr), fun j hj => ?_⟩
    by_cases hji : j = i
    · subst hji; exact hy.wpOp hi (hT _ _ hg hS) ⟨hS', H⟩
    · exact absurd (ready_mono hj hji) (by rw [H.1]; exact List.not_mem_nil)
  | succ n ih =>
    intro L a w hfree hr hg hy hS hS' H
    refine ⟨fun h => (by rw [h] at hr; cases hr), fun j hj => ?_⟩
    by_cases hji : j = i
    · subst hji; exact hy.wpOp hi (hT _ _ hg hS) ⟨hS', H⟩
    · obtain ⟨hjun, oj, hoj, hall⟩ := mem_ready.1 hj
      have hnot : ∀ e ∈ oj.after, Region.binds md e = true → e.on ≠ i := fun e he hb heq => by
        have h1 := hall e he hb
        have h0 := (mem_ready.1 hr).1
        rw [heq] at h1
        rcases Nat.lt_or_ge i L.size with h' | h'
        · simp [h'] at h0 h1; rw [h0] at h1; cases h1
        · simp [Array.getElem?_eq_none h'] at h1
      have h2 := wpOp_putIf hoj (hfree j oj hoj hji hjun hnot) (fun cs b => hsel i oi cs b hi) (fun cs b => hsel j oj cs b hoj) hQ hy (H.2 j (ready_mono hj hji))
      refine wpOp_mono (fun a' w' h3 => ?_) h2
      have hs' : S (L.setIfInBounds j true) w' := hSi _ _ (by rw [Array.setIfInBounds_comm _ _ hji]; exact h3.2.1)
      refine ⟨hs', ih (L.setIfInBounds j true) a' w' (fun k ok hk hki hun hno => hfree k ok hk hki ?_ hno) (ready_mono hr (Ne.symm hji)) (hG L j hg hji hr hj) h3.1 hs' (by rw [Array.setIfInBounds_comm _ _ hji]; exact h3.2.1) (by rw [Array.setIfInBounds_comm _ _ hji]; exact h3.2.2)⟩
      by_cases hjk : j = k
      · subst hjk; exact hjun
      · rw [getD_set_ne true hjk] at hun; exact hun

theorem Timed.all {rs : List Nat} {n : Nat} {L : Array Bool} {a : Act} {w : World} (hr : Region.ready md ops L = rs) (hne : rs ≠ [])
    (h : ∀ j ∈ rs, wpOp P ops Q j (fun a' w' => S (L.setIfInBounds j true) w' ∧ Timed P md ops Q S n (L.setIfInBounds j true) a' w') a w) : Timed P md ops Q S (n + 1) L a w :=
  ⟨fun h0 => absurd (hr ▸ h0) hne, hr ▸ h⟩
theorem Timed.done {L : Array Bool} {a : Act} {w : World} (hr : Region.ready md ops L = []) (h : Q .normal a w) : ∀ n, Timed P md ops Q S n L a w
  | 0 => ⟨hr, h⟩
  | _ + 1 => ⟨fun _ => h, by rw [hr]; simp⟩
theorem Timed.region {id : Nat} {a : Act} {w : World} (hm : P.follows .mixedOrders = true)
    (h : Timed P .any ops Q S ops.size (Array.replicate ops.size false) a w.drew) : (Code.region id ops true).wp P Q a w :=
  wp_region_any hm (Timed.any _ _ _ _ h)
end

section
variable {P : Program} {ops : Array Oper} {Q : Exit → Act → World → Prop} {md : Region.Mode} {T U : World → Prop} {k : Nat}
/-- U always, T till number k has come up -/
def Till (k : Nat) (T U : World → Prop) (L : Array Bool) (w : World) : Prop := (L.getD k false = true ∨ T w) ∧ U w

/-- what needs U alone -/
theorem Till.take {i : Nat} {oi : Oper} {v : Value} {n : Nat} {L : Array Bool} {a : Act} {w : World} (hi : ops[i]? = some oi) (hki : k ≠ i)
    (hs : Region.noSelect ops = true) (hf : Region.free md ops L i = true) (hr : (Region.ready md ops L).contains i = true)
    (hQ : ∀ c a w, Q (.panic c) (a.put oi.dst v) w → Q (.panic c) a w) (hy : YieldsIf P ops U oi v a) (hS : Till k T U L w)
    (h : Till k T U (L.setIfInBounds i true) w → Timed P md ops Q (Till k T U) n (L.setIfInBounds i true) (a.put oi.dst v) w) : Timed P md ops Q (Till k T U) (n + 1) L a w := by
  have e : ∀ L : Array Bool, (L.setIfInBounds i true).getD k false = L.getD k false := fun L => getD_set_ne false (Ne.symm hki)
  have hS' : Till k T U (L.setIfInBounds i true) w := ⟨by rw [e]; exact hS.1, hS.2⟩
  exact Timed.first (T := U) (G := fun _ => True) hi (Region.noSelect_spec hs) hQ (fun _ _ _ _ _ _ => trivial) (fun _ _ _ h => h.2) (fun L w h => ⟨by rw [← e]; exact h.1, h.2⟩) n L a w (Region.free_spec hi hf) (by simpa using hr) trivial hy hS hS' (h hS')
/-- what needs T, and number k waits for it -/
theorem Till.takeT {i : Nat} {oi ok : Oper} {v : Value} {n : Nat} {L : Array Bool} {a : Act} {w : World} (hi : ops[i]? = some oi) (hki : k ≠ i) (hk : ops[k]? = some ok) (hw : (ok.after.any fun e => Region.binds md e && e.on == i) = true)
    (hs : Region.noSelect ops = true) (hf : Region.free md ops L i = true) (hr : (Region.ready md ops L).contains i = true) (hkL : L.getD k false = false)
    (hQ : ∀ c a w, Q (.panic c) (a.put oi.dst v) w → Q (.panic c) a w) (hy : YieldsIf P ops T oi v a) (hS : Till k T U L w)
    (h : Till k T U (L.setIfInBounds i true) w → Timed P md ops Q (Till k T U) n (L.setIfInBounds i true) (a.put oi.dst v) w) : Timed P md ops Q (Till k T U) (n + 1) L a w := by
  have e : ∀ L : Array Bool, (L.setIfInBounds i true).getD k false = L.getD k false := fun L => getD_set_ne false (Ne.symm hki)
  have hS' : Till k T U (L.setIfInBounds i true) w := ⟨by rw [e]; exact hS.1, hS.2⟩
  refine Timed.first (T := T) (G := fun L => L.getD k false = false) hi (Region.noSelect_spec hs) hQ (fun L j hg hji hri hrj => ?_) (fun L w hg h => h.1.resolve_left (by rw [hg]; decide)) (fun L w h => ⟨by rw [← e]; exact h.1, h.2⟩) n L a w (Region.free_spec hi hf) (by simpa using hr) hkL hy hS hS' (h hS')
  have hjk : j ≠ k := fun e => by
    subst e
    obtain ⟨-, oj, hoj, hall⟩ := mem_ready.1 hrj
    rw [hk] at hoj
    injection hoj with hoj
    subst hoj
    obtain ⟨q, hq, h1⟩ := Array.any_eq_true.1 hw
    simp only [Bool.and_eq_true, beq_iff_eq] at h1
    have h2 := hall _ (Array.getElem_mem hq) h1.1
    have h0 := (mem_ready.1 hri).1
    rw [h1.2] at h2
    rcases Nat.lt_or_ge i L.size with h' | h'
    · simp [h'] at h0 h2; rw [h0] at h2; cases h2
    · simp [Array.getElem?_eq_none h'] at h2
  show (L.setIfInBounds j true).getD k false = false
  rw [getD_set_ne false hjk]; exact hg
end

end Go.Proofs.YtoffbdlgmnpblaaGreat

/- A region that draws its order, by an invariant: each operation is met once, whatever has come up ahead of it. -/
namespace Go.Proofs.YtoffbdlgmnpblaaGreat

/-- what an operation leaves: a value and a world -/
def StepR (P : Program) (o : Oper) (ρ : Operand → Value) (w : World) (R : Value → World → Prop) : Prop :=
  match (execOp ρ o).run P w with
  | .ok (.value v) w' => R v w'
  | .ok .skip w' => R undef w'
  | .ok (.enter f args) w' => Calls P f args w' fun e w'' => ∃ v, e = .returned v ∧ R v w''
  | _ => False
theorem StepR.wp {P : Program} {o : Oper} {a : Act} {w : World} {R : Value → World → Prop} {K : Act → World → Prop} {Q : Exit → Act → World → Prop} (h : StepR P o a.eval w R) (hK : ∀ v w', R v w' → K (a.put o.dst v) w') : o.wp P a w K Q := by
  unfold StepR at h
  unfold Oper.wp
  generalize (execOp a.eval o).run P w = r at *
  match r, h with
  | .ok (.value v) w', h => exact hK _ _ h
  | .ok .skip w', h => exact hK _ _ h
  | .ok (.enter f args) w', h =>
    refine Calls.mono h fun e w'' he => ?_
    obtain ⟨v, rfl, hv⟩ := he
    exact hK _ _ hv

/-- the slot that operation j fills -/
def dstOf (ops : Array Oper) (j : Nat) : Option Tmp := (ops[j]?).bind (·.dst)
def actsL (ops : Array Oper) (s : Nat → Value) : List Nat → Act → Act
  | [], a => a
  | j :: r, a => actsL ops s r (a.put (dstOf ops j) (s j))
/-- the slots where operation j has left s j -/
def acts (ops : Array Oper) (a : Act) (s : Nat → Value) : Act := actsL ops s (List.range ops.size) a
def updS {α : Type} (s : Nat → α) (j : Nat) (v : α) : Nat → α := fun k => if k = j then v else s k
theorem updS_at {α : Type} (s : Nat → α) (j : Nat) (v : α) : updS s j v j = v := if_pos rfl
theorem updS_ne {α : Type} (s : Nat → α) {j k : Nat} (v : α) (h : k ≠ j) : updS s j v k = s k := if_neg h

theorem put_comm (a : Act) {x y : Option Tmp} (u v : Value) (h : x = none ∨ x ≠ y) : (a.put x u).put y v = (a.put y v).put x u := by
  cases x with
  | none => rfl
  | some x =>
    cases y with
    | none => rfl
    | some y =>
      have hne : x ≠ y := fun e => by subst e; rcases h with h | h <;> simp at h
      unfold Act.put
      simp only
      rw [Array.setIfInBounds_comm _ _ hne]
theorem put_put (a : Act) (x : Option Tmp) (u v : Value) : (a.put x u).put x v = a.put x v := by
  cases x with
  | none => rfl
  | some x => unfold Act.put; simp
section
variable {ops : Array Oper}
def apartL (ops : Array Oper) (i j : Nat) : Prop := dstOf ops i = none ∨ dstOf ops i ≠ dstOf ops j
theorem actsL_put (s : Nat → Value) (y : Option Tmp) (v : Value) : ∀ (l : List Nat) (a : Act), (∀ i ∈ l, dstOf ops i = none ∨ dstOf ops i ≠ y) → (actsL ops s l a).put y v = actsL ops s l (a.put y v)
  | [], _, _ => rfl
  | i :: l, a, h => by
    show (actsL ops s l (a.put (dstOf ops i) (s i))).put y v = actsL ops s l ((a.put y v).put (dstOf ops i) (s i))
    rw [actsL_put s y v l _ fun k hk => h k (List.mem_cons_of_mem _ hk), put_comm a _ _ (h i (List.mem_cons_self ..))]
theorem actsL_same (s s' : Nat → Value) : ∀ (l : List Nat) (a : Act), (∀ i ∈ l, s i = s' i) → actsL ops s l a = actsL ops s' l a
  | [], _, _ => rfl
  | i :: l, a, h => by
    show actsL ops s l _ = actsL ops s' l _
    rw [h i (List.mem_cons_self ..)]
    exact actsL_same s s' l _ fun k hk => h k (List.mem_cons_of_mem _ hk)
theorem actsL_upd (s : Nat → Value) (j : Nat) (v : Value) : ∀ (l : List Nat) (a : Act), l.Nodup → (∀ i ∈ l, i ≠ j → apartL ops i j) → j ∈ l → (actsL ops s l a).put (dstOf ops j) v = actsL ops (updS s j v) l a
  | [], _, _, _, h => by cases h
  | i :: l, a, hn, ha, hj => by
    obtain ⟨h1, h2⟩ := List.nodup_cons.1 hn
    by_cases e : i = j
    · subst e
      show (actsL ops s l _).put _ v = actsL ops (updS s i v) l (a.put (dstOf ops i) (updS s i v i))
      rw [actsL_put s _ v l _ fun k hk => ha k (List.mem_cons_of_mem _ hk) fun e => by subst e; exact h1 hk, put_put, updS_at]
      exact actsL_same _ _ l _ fun k hk => (updS_ne s v fun e => by subst e; exact h1 hk).symm
    · have hj' : j ∈ l := by rcases List.mem_cons.1 hj with h | h; exact absurd h.symm e; exact h
      show (actsL ops s l _).put _ v = actsL ops (updS s j v) l (a.put (dstOf ops i) (updS s j v i))
      rw [actsL_upd s j v l _ h2 (fun k hk => ha k (List.mem_cons_of_mem _ hk)) hj', updS_ne s v e]
theorem actsL_init (a : Act) : ∀ (l : List Nat), actsL ops (fun j => match dstOf ops j with | some t => a.tmps.getD t undef | none => undef) l a = a
  | [] => rfl
  | i :: l => by
    show actsL ops _ l (a.put (dstOf ops i) (match dstOf ops i with | some t => a.tmps.getD t undef | none => undef)) = a
    have e : a.put (dstOf ops i) (match dstOf ops i with | some t => a.tmps.getD t undef | none => undef) = a := by
      cases dstOf ops i with
      | none => rfl
      | some t =>
        unfold Act.put
        simp only
        have : a.tmps.setIfInBounds t (a.tmps.getD t undef) = a.tmps := by
          apply Array.ext (by simp)
          intro k h1 h2
          rw [Array.getElem_setIfInBounds]
          split
          · rename_i e; subst e; simp [h2]
          · rfl
        rw [this]
    rw [e]
    exact actsL_init a l
theorem actsL_size (s : Nat → Value) : ∀ (l : List Nat) (a : Act), (actsL ops s l a).tmps.size = a.tmps.size
  | [], _ => rfl
  | i :: l, a => by
    show (actsL ops s l _).tmps.size = _
    rw [actsL_size s l]
    unfold Act.put
    split <;> simp
theorem actsL_other (s : Nat → Value) (t : Nat) : ∀ (l : List Nat) (a : Act), (∀ i ∈ l, dstOf ops i ≠ some t) → (actsL ops s l a).tmps.getD t undef = a.tmps.getD t undef
  | [], _, _ => rfl
  | i :: l, a, h => by
    show (actsL ops s l _).tmps.getD t undef = _
    rw [actsL_other s t l _ fun k hk => h k (List.mem_cons_of_mem _ hk)]
    have hi := h i (List.mem_cons_self ..)
    cases hd : dstOf ops i with
    | none => rfl
    | some u =>
      have hne : u ≠ t := fun e => hi (by rw [hd, e])
      unfold Act.put
      simp only [Array.getD_eq_getD_getElem?]
      rw [Array.getElem?_setIfInBounds_ne hne]

/-- what the law asks of the region: no guard, slots of their own, and operation j waits for those of deps -/
def regionOk (ops : Array Oper) (size : Nat) (deps : List (List Nat)) : Bool :=
  (List.range ops.size).all fun j => match ops[j]? with
    | none => false
    | some o => o.guard.isNone && (o.dst.all fun t => decide (t < size)) && (o.after.all fun e => decide (e.on < j)) &&
      ((deps.getD j []).all fun k => o.after.any fun e => Region.binds .any e && e.on == k) &&
      (List.range ops.size).all fun i => decide (i = j) || (dstOf ops i).isNone || decide (dstOf ops i ≠ dstOf ops j)
variable {a0 : Act} {deps : List (List Nat)}
theorem regionOk_at (h : regionOk ops a0.tmps.size deps = true) {j : Nat} {o : Oper} (ho : ops[j]? = some o) : o.guard = none ∧ (∀ t, o.dst = some t → t < a0.tmps.size) ∧ (∀ e ∈ o.after, e.on < j) ∧ (∀ k ∈ deps.getD j [], ∃ e ∈ o.after, Region.binds .any e = true ∧ e.on = k) ∧ ∀ i, i < ops.size → i ≠ j → apartL ops i j := by
  have hj : j < ops.size := (Array.getElem?_eq_some_iff.1 ho).1
  have h1 := List.all_eq_true.1 h j (List.mem_range.2 hj)
  rw [ho] at h1
  simp only [Bool.and_eq_true, Option.isNone_iff_eq_none, Array.all_eq_true_iff_forall_mem, List.all_eq_true, Array.any_eq_true, decide_eq_true_eq, Bool.or_eq_true, beq_iff_eq, List.mem_range] at h1
  obtain ⟨⟨⟨⟨h2, h3⟩, h4⟩, h5⟩, h6⟩ := h1
  refine ⟨h2, fun t ht => ?_, h4, fun k hk => ?_, fun i hi hne => ?_⟩
  · rw [ht] at h3; simpa using h3
  · obtain ⟨q, hq, e1, e2⟩ := h5 k hk
    exact ⟨_, Array.getElem_mem hq, e1, e2⟩
  · rcases h6 i hi with (h | h) | h
    · exact absurd h hne
    · exact .inl h
    · exact .inr h
theorem acts_put (h : regionOk ops a0.tmps.size deps = true) {j : Nat} {o : Oper} (ho : ops[j]? = some o) (s : Nat → Value) (v : Value) : (acts ops a0 s).put o.dst v = acts ops a0 (updS s j v) := by
  have hj : j < ops.size := (Array.getElem?_eq_some_iff.1 ho).1
  have hd : dstOf ops j = o.dst := by unfold dstOf; rw [ho]; rfl
  rw [← hd]
  exact actsL_upd s j v _ a0 List.nodup_range (fun i hi hne => (regionOk_at h ho).2.2.2.2 i (List.mem_range.1 hi) hne) (List.mem_range.2 hj)
/-- what operation j has left, read out of its slot -/
theorem acts_eval (h : regionOk ops a0.tmps.size deps = true) (s : Nat → Value) {j : Nat} {t : Tmp} (hd : dstOf ops j = some t) : (acts ops a0 s).eval (.tmp t) = s j := by
  cases ho : ops[j]? with
  | none => unfold dstOf at hd; rw [ho] at hd; cases hd
  | some o =>
    have hd' : o.dst = some t := by unfold dstOf at hd; rw [ho] at hd; exact hd
    have ht := (regionOk_at h ho).2.1 t hd'
    have hs := acts_put h ho s (s j)
    have e : updS s j (s j) = s := by funext k; unfold updS; split <;> simp_all
    rw [e, hd'] at hs
    rw [← hs]
    show ((acts ops a0 s).tmps.setIfInBounds t (s j)).getD t undef = s j
    have hz : t < (acts ops a0 s).tmps.size := by unfold acts; rw [actsL_size]; exact ht
    simp [hz]
theorem acts_old (s : Nat → Value) {t : Tmp} (hd : ((List.range ops.size).all fun i => decide (dstOf ops i ≠ some t)) = true) : (acts ops a0 s).eval (.tmp t) = a0.eval (.tmp t) :=
  actsL_other s t _ a0 fun i hi => by simpa using List.all_eq_true.1 hd i hi

theorem cnt_lt {n j : Nat} {d d' : Nat → Bool} (hj : j < n) (h0 : d j = false) (h1 : d' j = true) (hs : ∀ k, k ≠ j → d' k = d k) : ((List.range n).filter fun k => !d' k).length < ((List.range n).filter fun k => !d k).length := by
  induction n with
  | zero => omega
  | succ n ih =>
    rw [List.range_succ, List.filter_append, List.filter_append, List.length_append, List.length_append]
    by_cases e : j = n
    · subst e
      have : (List.range j).filter (fun k => !d' k) = (List.range j).filter (fun k => !d k) := List.filter_congr fun k hk => by rw [hs k (by have := List.mem_range.1 hk; omega)]
      rw [this]
      simp [h0, h1]
    · have := ih (by omega)
      rw [show List.filter (fun k => !d' k) [n] = List.filter (fun k => !d k) [n] from by simp [List.filter_cons, hs n (Ne.symm e)]]
      omega

theorem inv_region {P : Program} {id : Nat} {w : World} {Q : Exit → Act → World → Prop} {J : (Nat → Bool) → (Nat → Value) → World → Prop} (hm : P.follows .mixedOrders = true) (hok : regionOk ops a0.tmps.size deps = true)
    (h0 : ∀ d, (∀ k, k < ops.size → d k = false) → J d (fun j => match dstOf ops j with | some t => a0.tmps.getD t undef | none => undef) w.drew)
    (hstep : ∀ j o, ops[j]? = some o → ∀ d s w, J d s w → d j = false → (∀ k ∈ deps.getD j [], d k = true) → StepR P o (acts ops a0 s).eval w fun v w' => J (updS d j true) (updS s j v) w')
    (hend : ∀ d s w, J d s w → (∀ j, j < ops.size → d j = true) → Q .normal (acts ops a0 s) w) : (Code.region id ops true).wp P Q a0 w := by
  refine wp_region_any hm ?_
  have key : ∀ (n : Nat) (L : Array Bool) (s : Nat → Value) (w : World), L.size = ops.size → J (fun k => L.getD k true) s w → ((List.range ops.size).filter fun k => !L.getD k true).length ≤ n → wpAny P .any ops Q n L (acts ops a0 s) w := by
    have hnil : ∀ (L : Array Bool), Region.ready .any ops L = [] → ∀ j, j < ops.size → L.getD j true = true := by
      intro L hr j
      induction j using Nat.strongRecOn with
      | _ j ih =>
        intro hj
        cases hb : L.getD j true with
        | true => rfl
        | false =>
          exfalso
          have hmem : j ∈ Region.ready .any ops L := mem_ready.2 ⟨hb, ops[j], Array.getElem?_eq_getElem hj, fun e he hbd => by
            have hlt := (regionOk_at hok (Array.getElem?_eq_getElem hj)).2.2.1 e he
            have h1 := ih e.on hlt (by omega)
            rcases Nat.lt_or_ge e.on L.size with h' | h'
            · simp [h'] at h1 ⊢; exact h1
            · exfalso
              have hjL : ¬ j < L.size := by omega
              simp [hjL] at hb⟩
          rw [hr] at hmem
          cases hmem
    intro n
    induction n with
    | zero =>
      intro L s w hz hJ hn
      have hall : ∀ j, j < ops.size → L.getD j true = true := fun j hj => by
        cases hb : L.getD j true with
        | true => rfl
        | false =>
          exfalso
          have : j ∈ (List.range ops.size).filter fun k => !L.getD k true := List.mem_filter.2 ⟨List.mem_range.2 hj, by rw [hb]; rfl⟩
          have := List.length_pos_of_mem this
          omega
      refine ⟨?_, hend _ s w hJ hall⟩
      cases hr : Region.ready .any ops L with
      | nil => rfl
      | cons j r =>
        exfalso
        have hj : j ∈ Region.ready .any ops L := by rw [hr]; exact List.mem_cons_self ..
        obtain ⟨h1, o, ho, -⟩ := mem_ready.1 hj
        rw [hall j (Array.getElem?_eq_some_iff.1 ho).1] at h1
        cases h1
    | succ n ih =>
      intro L s w hz hJ hn
      refine ⟨fun hr => hend _ s w hJ (hnil L hr), fun j hj => ?_⟩
      obtain ⟨h1, o, ho, hdep⟩ := mem_ready.1 hj
      have hjlt : j < ops.size := (Array.getElem?_eq_some_iff.1 ho).1
      obtain ⟨hg, -, -, hd, -⟩ := regionOk_at hok ho
      have hst := hstep j o ho _ s w hJ h1 fun k hk => by
        obtain ⟨e, he, hb, rfl⟩ := hd k hk
        have h2 := hdep e he hb
        rcases Nat.lt_or_ge e.on L.size with h' | h'
        · simp [h'] at h2 ⊢; exact h2
        · simp [Array.getElem?_eq_none h'] at h2
      have hLe : (fun k => (L.setIfInBounds j true).getD k true) = updS (fun k => L.getD k true) j true := by
        funext k
        unfold updS
        by_cases e : k = j
        · subst e; rw [if_pos rfl]; simp only [Array.getD_eq_getD_getElem?, Array.getElem?_setIfInBounds]; split <;> simp_all
        · rw [if_neg e]; simp only [Array.getD_eq_getD_getElem?]; rw [Array.getElem?_setIfInBounds_ne (Ne.symm e)]
      unfold wpOp
      rw [ho]
      show if Region.wanted o (yielded ops (acts ops a0 s).tmps) then _ else _
      rw [if_pos (by simp [Region.wanted, hg])]
      refine .inl (hst.wp fun v w' hJ' => ?_)
      rw [acts_put hok ho]
      refine ih _ _ _ (by rw [Array.size_setIfInBounds]; exact hz) (by rw [hLe]; exact hJ') ?_
      have hlt := cnt_lt (n := ops.size) (j := j) (d := fun k => L.getD k true) (d' := fun k => (L.setIfInBounds j true).getD k true) hjlt h1 ((congrFun hLe j).trans (updS_at _ _ _)) fun k hk => (congrFun hLe k).trans (updS_ne _ _ hk)
      exact Nat.le_of_lt_succ (Nat.lt_of_lt_of_le hlt hn)
  have hinit := actsL_init (ops := ops) a0 (List.range ops.size)
  have hk := key ops.size (Array.replicate ops.size false) (fun j => match dstOf ops j with | some t => a0.tmps.getD t undef | none => undef) w.drew (by simp) (h0 _ fun k hk => by simp [hk]) (Nat.le_trans (List.length_filter_le _ _) (by simp))
  rw [show acts ops a0 (fun j => match dstOf ops j with | some t => a0.tmps.getD t undef | none => undef) = a0 from hinit] at hk
  exact hk
/-- the slots of dl filled in turn -/
def putL (s : Nat → Value) : List (Option Tmp) → Nat → Act → Act
  | [], _, a => a
  | t :: r, i, a => putL s r (i + 1) (a.put t (s i))
theorem putL_acts (ops : Array Oper) (s : Nat → Value) : ∀ (l : List Nat) (i : Nat) (a : Act), l = List.range' i l.length → actsL ops s l a = putL s (l.map (dstOf ops)) i a
  | [], _, _, _ => rfl
  | j :: l, i, a, h => by
    rw [List.length_cons, List.range'_succ] at h
    injection h with h1 h2
    subst h1
    show actsL ops s l _ = putL s (l.map (dstOf ops)) (j + 1) _
    exact putL_acts ops s l (j + 1) _ h2
end

end Go.Proofs.YtoffbdlgmnpblaaGreat

/- The reference's exact integers: digits in the base 2^30; trim, compare, sums, differences. -/
namespace Go.Proofs.YtoffbdlgmnpblaaGreat
open Go.RowKit
set_option maxHeartbeats 4000000
set_option maxRecDepth 100000

theorem Rtrim_calls (xs : List Int) (v : Value) (D : Nat → Prop) (w : World) (h : Sl (Kind.int .i64) w D v xs) :
    Calls Tryz.prog 261 #[v] w fun e w' => ∃ v', e = .returned v' ∧ w = w' ∧ Sl (Kind.int .i64) w D v' (Dig.trim xs) := by
  have H := Lib.hid h
  obtain ⟨A, c, rfl, h1, h2, h3⟩ := h.ints
  clear h
  unfold maxLen at h2
  go_enter Tryz.func261, Tryz.ntmps261
  go_wp2
  go_loop [0] (fun d => ∃ m : Nat, m ≤ xs.length ∧ d = .slice A m c ∧ Hid (Dig.trim (xs.take m) = Dig.trim xs)) (fun d => match d with | .slice _ m _ => m | _ => 0)
  case atStart => exact ⟨xs.length, Nat.le_refl _, rfl, by rw [List.take_length]; exact rfl⟩
  case round =>
    obtain ⟨m, hm, rfl, HT⟩ := hrel
    by_cases hp : 0 < m
    · obtain ⟨ad, rfl, _, hc⟩ := h3 (by omega)
      have hc1 := hc (m - 1) (by omega)
      clear hc h3
      go_wp2
      · rename_i hz
        refine ⟨⟨m - 1, by omega, rfl, ?_⟩, by simp; omega⟩
        have e : xs.take m = xs.take (m - 1) ++ [0] := by
          have := Dig.take_succ_getD xs (m - 1) (by omega)
          rw [show m - 1 + 1 = m by omega] at this
          rw [this, ← Dig.gd_int, eq_of_beq hz]
        have := HT.out
        rw [e, Dig.trim_snoc_zero] at this
        exact this
      · rename_i hz _
        go_ret
        refine ⟨_, rfl, rfl, ?_⟩
        have ht : Dig.trimmed (xs.take m) := by
          have := Dig.take_succ_getD xs (m - 1) (by omega)
          rw [show m - 1 + 1 = m by omega] at this
          rw [this]
          intro hn
          rw [List.getLast_concat]
          exact ne_of_beq_false hz
        rw [← HT.out, Dig.trim_of_trimmed ht]
        exact H.out.take hm
    · obtain rfl : m = 0 := by omega
      clear hp
      go_wp2
      go_ret
      refine ⟨_, rfl, rfl, ?_⟩
      have := HT.out
      rw [← this]
      exact H.out.take hm

theorem Rcompare_calls (xs ys : List Int) (v u : Value) (D D' : Nat → Prop) (w : World) (h : Sl (Kind.int .i64) w D v xs) (h' : Sl (Kind.int .i64) w D' u ys)
    (ox : Dig.ok 1073741824 xs) (oy : Dig.ok 1073741824 ys) (tx : Dig.trimmed xs) (ty : Dig.trimmed ys) :
    Calls Tryz.prog 216 #[v, u] w fun e w' => e = .returned (.int .i64 (Dig.sgn (Dig.val 1073741824 xs - Dig.val 1073741824 ys))) ∧ Drawn w w' := by
  obtain ⟨A, c, rfl, h1, h2, h3⟩ := h.ints
  obtain ⟨A', c', rfl, h1', h2', h3'⟩ := h'.ints
  clear h h'
  unfold maxLen at h2 h2'
  by_cases hl : xs.length = ys.length
  · have hq : ((xs.length : Int) != (ys.length : Int)) = false := by rw [bne_eq_false_iff_eq]; omega
    have HL := Lib.hid hl
    clear hl
    go_enter Tryz.func216, Tryz.ntmps216
    go_wp2
    go_loopw [5] (fun i wr => ∃ k : Nat, k ≤ xs.length ∧ i = .int .i64 ((k : Int) - 1) ∧ Hid (∀ j, k ≤ j → xs.getD j 0 = ys.getD j 0) ∧ Drawn w wr) (fun i _ => (intOf i + 1).toNat)
    case atStart => exact ⟨xs.length, Nat.le_refl _, rfl, (fun j hj => by rw [Dig.getD_of_ge _ _ hj, Dig.getD_of_ge _ _ (by have := HL.out; omega)] : ∀ j, xs.length ≤ j → xs.getD j 0 = ys.getD j 0), Drawn.refl _⟩
    case round =>
      obtain ⟨k, hk, rfl, HA, ⟨n, rfl⟩⟩ := hrel
      by_cases hp : 0 < k
      · obtain ⟨k, rfl⟩ : ∃ m, k = m + 1 := ⟨k - 1, by omega⟩
        obtain ⟨ad, rfl, _, hc⟩ := h3 (by omega)
        obtain ⟨ad', rfl, _, hc'⟩ := h3' (by have := HL.out; omega)
        have hc1 := hc k (by omega)
        have hc1' := hc' k (by have := HL.out; omega)
        have hky : k < ys.length := by have := HL.out; omega
        clear hc hc' h3 h3'
        rw [show ((k + 1 : Nat) : Int) - 1 = (k : Int) from by omega]
        obtain ⟨x, hx⟩ : ∃ x, x = Dig.gd xs k := ⟨_, rfl⟩
        obtain ⟨y, hy⟩ : ∃ y, y = Dig.gd ys k := ⟨_, rfl⟩
        rw [← hx] at hc1
        rw [← hy] at hc1'
        have HX := Lib.hid hx
        have HY := Lib.hid hy
        clear hx hy
        go_wp2
        go_quiet (fail)
        go_wp2
        · rename_i hlt
          go_ret
          refine ⟨ret_int (Dig.sgn_lt ?_).symm, by repeat (first | exact Drawn.refl _ | apply Drawn.step)⟩
          have h0 : xs.getD k 0 < ys.getD k 0 := by have := HX.out; have := HY.out; simp only [Dig.gd_int] at *; omega
          have := Dig.val_lt_of_top (b := 1073741824) (by decide) k ox oy HL.out (by omega) (fun j hj => HA.out j hj) h0
          omega
        · rename_i hle
          go_quiet (fail)
          go_wp2
          · rename_i hlt
            go_ret
            refine ⟨ret_int (Dig.sgn_gt ?_).symm, by repeat (first | exact Drawn.refl _ | apply Drawn.step)⟩
            have h0 : ys.getD k 0 < xs.getD k 0 := by have := HX.out; have := HY.out; simp only [Dig.gd_int] at *; omega
            have := Dig.val_lt_of_top (b := 1073741824) (by decide) k oy ox HL.out.symm (by omega) (fun j hj => (HA.out j hj).symm) h0
            omega
          · rename_i hge
            refine ⟨⟨k, by omega, rfl, ?_, by repeat (first | exact Drawn.refl _ | apply Drawn.step)⟩, by simp [intOf]⟩
            have h1 : xs.getD k 0 = ys.getD k 0 := by have := HX.out; have := HY.out; simp only [Dig.gd_int] at *; omega
            exact (fun j hj => by
              rcases Nat.eq_or_lt_of_le hj with rfl | hj
              · exact h1
              · exact HA.out j hj : ∀ j, k ≤ j → xs.getD j 0 = ys.getD j 0)
      · obtain rfl : k = 0 := by omega
        clear h3 h3'
        go_wp2
        go_ret
        refine ⟨?_, by repeat (first | exact Drawn.refl _ | apply Drawn.step)⟩
        have := Dig.val_eq_of_all (b := 1073741824) HL.out (fun j => HA.out j (Nat.zero_le _))
        exact ret_int (by rw [this, Int.sub_self]; rfl)
  · have hq : ((xs.length : Int) != (ys.length : Int)) = true := by rw [bne_iff_ne]; omega
    have HL := Lib.hid hl
    clear hl
    go_enter Tryz.func216, Tryz.ntmps216
    go_wp2
    · rename_i hlt
      go_ret
      have := Dig.val_lt_of_length (by decide) ox oy ty hlt
      exact ⟨ret_int (Dig.sgn_lt (by omega)).symm, Drawn.refl _⟩
    · rename_i hlt
      have hl := HL.out
      go_ret
      have := Dig.val_lt_of_length (by decide) oy ox tx (show ys.length < xs.length by omega)
      exact ⟨ret_int (Dig.sgn_gt (by omega)).symm, Drawn.refl _⟩

end Go.Proofs.YtoffbdlgmnpblaaGreat

/- The reference's exact integers: sums, differences, products with a digit. -/
namespace Go.Proofs.YtoffbdlgmnpblaaGreat
open Go.RowKit
set_option maxHeartbeats 4000000
set_option maxRecDepth 100000

/-- a digit, in a later world -/
theorem dig_up {w W : World} {D : Nat → Prop} {A : Option Addr} {n c : Nat} {xs : List Int} (h : Sl (Kind.int .i64) w D (.slice A n c) xs) (hs : Same D w W) (ho : Dig.ok 1073741824 xs) (i : Nat) (hi : i < xs.length) :
    ∃ ad x, A = some ad ∧ W.cell? (ad.add i) = some (.int .i64 x) ∧ x = Dig.gd xs i ∧ 0 ≤ x ∧ x < 1073741824 := by
  obtain ⟨A', c', e, -, -, h3⟩ := (h.same hs).ints
  injection e with e1 e2 e3
  subst e1
  obtain ⟨ad, rfl, -, hc⟩ := h3 (by omega)
  obtain ⟨b1, b2⟩ := Dig.ok_get ho (by decide) i
  exact ⟨ad, _, rfl, hc i hi, rfl, b1, b2⟩
theorem val_take_gd (b : Int) (xs : List Int) (i : Nat) : Dig.val b (xs.take (i + 1)) = Dig.val b (xs.take i) + b ^ i * Dig.gd xs i := by
  by_cases h : i < xs.length
  · exact Dig.gd_take_succ xs i h
  · rw [List.take_of_length_le (by omega), List.take_of_length_le (by omega), Dig.gd_ge (by omega)]
    show _ = _ + _ * (0 : Int)
    omega
/-- a step of a sum -/
theorem sum_step {L xs ys : List Int} {i : Nat} {cc t : Int} (h : Dig.ok 1073741824 L) (hl : L.length = i) (hv : Dig.val 1073741824 L + 1073741824 ^ i * cc = Dig.val 1073741824 (xs.take i) + Dig.val 1073741824 (ys.take i)) (ht : t = Dig.gd xs i + Dig.gd ys i + cc) :
    Dig.ok 1073741824 (L ++ [t % 1073741824]) ∧ Dig.val 1073741824 (L ++ [t % 1073741824]) + 1073741824 ^ (i + 1) * (t / 1073741824) = Dig.val 1073741824 (xs.take (i + 1)) + Dig.val 1073741824 (ys.take (i + 1)) := by
  rw [ht, val_take_gd, val_take_gd]
  exact Dig.plus_step (by decide) h hl hv

theorem Rsum_calls (xs ys : List Int) (v u : Value) (D D' : Nat → Prop) (w : World) (hD : Lo D w) (hD' : Lo D' w) (h : Sl (Kind.int .i64) w D v xs) (h' : Sl (Kind.int .i64) w D' u ys)
    (ox : Dig.ok 1073741824 xs) (oy : Dig.ok 1073741824 ys) (hx : xs.length ≤ 1000000) (hy : ys.length ≤ 1000000) :
    Calls Tryz.prog 215 #[v, u] w fun e w' => ∃ v', e = .returned v' ∧ Below w.heap.size w w' ∧ ∃ zs, w'.ownsRow w.heap.size 3 1 v' zs.length (ints zs) ∧ Dig.ok 1073741824 zs ∧ Dig.val 1073741824 zs = Dig.val 1073741824 xs + Dig.val 1073741824 ys ∧ (zs.length ≤ xs.length + 1 ∨ zs.length ≤ ys.length + 1) := by
  obtain ⟨A, c, rfl, h1, h2, -⟩ := h.ints
  obtain ⟨A', c', rfl, h1', h2', -⟩ := h'.ints
  unfold maxLen at h2 h2'
  have HX := Lib.hid h
  have HY := Lib.hid h'
  have HD := Lib.hid hD
  have HD' := Lib.hid hD'
  have OX := Lib.hid ox
  have OY := Lib.hid oy
  clear h h' hD hD' ox oy
  go_enter Tryz.func215, Tryz.ntmps215
  go_wp2
  go_loopw [5, 6, 7] (fun v5 c6 k W => ∃ (i : Nat) (cc : Int) (L : List Int), (i ≤ xs.length + 1 ∨ i ≤ ys.length + 1) ∧ (i ≤ xs.length ∨ i ≤ ys.length ∨ cc = 0) ∧ k = .int .i64 (i : Int) ∧ c6 = .int .i64 cc ∧ 0 ≤ cc ∧ cc ≤ 1 ∧ Hid (Below w.heap.size w W) ∧ Hid (W.ownsRow w.heap.size 3 1 v5 L.length (ints L)) ∧ L.length ≤ i ∧ i ≤ L.length ∧ Hid (Dig.ok 1073741824 L) ∧ Hid (Dig.val 1073741824 L + 1073741824 ^ i * cc = Dig.val 1073741824 (xs.take i) + Dig.val 1073741824 (ys.take i))) (fun _ c6 k _ => (2 * (xs.length + ys.length + 2 - (intOf k).toNat) + (intOf c6).toNat))
  case atStart => exact ⟨0, 0, [], by omega, by omega, rfl, rfl, by omega, by omega, Below.refl _ _, World.ownsRow_nil _ _ _ _, Nat.le_refl _, Nat.le_refl _, Dig.ok_nil _, Lib.hid (by simp [Dig.val])⟩
  case round =>
    obtain ⟨i, cc, L, hi, hic, rfl, rfl, hc0, hc1, HB, HO, hL1, hL2, HOK, HV⟩ := hrel
    have hown := HO.out
    obtain ⟨A5, c5, rfl, -, -, -⟩ := own_form hown
    clear hown
    by_cases hlx : i < xs.length
    · by_cases hly : i < ys.length
      · obtain ⟨ad, x, rfl, q0, hx0, hx1, hx2⟩ := dig_up HX.out (HD.out.same HB.out) OX.out i hlx
        have HX0 := Lib.hid hx0
        obtain ⟨ad2, y, rfl, q1, hy0, hy1, hy2⟩ := dig_up HY.out (HD'.out.same HB.out) OY.out i hly
        have HY0 := Lib.hid hy0
        obtain ⟨s1, s2⟩ := sum_step (xs := xs) (ys := ys) (t := cc + x + y) HOK.out (Nat.le_antisymm hL1 hL2) HV.out (by rw [← HX0.out, ← HY0.out]; omega)
        have S1 := Lib.hid s1
        have S2 := Lib.hid s2
        clear s1 s2 hx0 hy0
        go_wp2_with ((at_builtin); (refine wpList_app1 elem_i64 rfl _ _ rfl w.heap.size _ L.length (ints L) rfl (HO.out.alloc _) ⟨_, 0, none⟩ 1 _ rfl (cell_new1 _ _ _) rfl (by omega) (by omega) (by have := HB.out.size; simp; omega) ?_); (intro v6 w6 ho6 hg6 ha6); (have HO6 := Lib.hid ho6); (have HG6 := Lib.hid hg6); (obtain ⟨A6, c6, rfl, -, -, -⟩ := own_form ho6); (clear ho6 hg6 ha6))
        have hb6 := (HB.out.alloc HB.out.size (.cells #[.int .i64 ((cc + x + y) % 1073741824)] 3)).grown HG6.out (by have := HB.out.size; simp; omega) (fun k hk => (HO.out.lt k hk).1)
        exact ⟨⟨i + 1, (cc + x + y) / 1073741824, L ++ [(cc + x + y) % 1073741824], by omega, by omega, by go_num, rfl, by omega, by omega, hb6, Lib.hid (by simpa [ints] using HO6.out), by simp; omega, by simp; omega, S1, S2⟩, by simp [intOf]; omega⟩
      · obtain ⟨ad, x, rfl, q0, hx0, hx1, hx2⟩ := dig_up HX.out (HD.out.same HB.out) OX.out i hlx
        have HX0 := Lib.hid hx0
        have HY0 : Hid ((0 : Int) = Dig.gd ys i) := Lib.hid (Dig.gd_ge (by omega)).symm
        obtain ⟨s1, s2⟩ := sum_step (xs := xs) (ys := ys) (t := cc + x) HOK.out (Nat.le_antisymm hL1 hL2) HV.out (by rw [← HX0.out, ← HY0.out]; omega)
        have S1 := Lib.hid s1
        have S2 := Lib.hid s2
        clear s1 s2 hx0
        go_wp2_with ((at_builtin); (refine wpList_app1 elem_i64 rfl _ _ rfl w.heap.size _ L.length (ints L) rfl (HO.out.alloc _) ⟨_, 0, none⟩ 1 _ rfl (cell_new1 _ _ _) rfl (by omega) (by omega) (by have := HB.out.size; simp; omega) ?_); (intro v6 w6 ho6 hg6 ha6); (have HO6 := Lib.hid ho6); (have HG6 := Lib.hid hg6); (obtain ⟨A6, c6, rfl, -, -, -⟩ := own_form ho6); (clear ho6 hg6 ha6))
        have hb6 := (HB.out.alloc HB.out.size (.cells #[.int .i64 ((cc + x) % 1073741824)] 3)).grown HG6.out (by have := HB.out.size; simp; omega) (fun k hk => (HO.out.lt k hk).1)
        exact ⟨⟨i + 1, (cc + x) / 1073741824, L ++ [(cc + x) % 1073741824], by omega, by omega, by go_num, rfl, by omega, by omega, hb6, Lib.hid (by simpa [ints] using HO6.out), by simp; omega, by simp; omega, S1, S2⟩, by simp [intOf]; omega⟩
    · by_cases hly : i < ys.length
      · have HX0 : Hid ((0 : Int) = Dig.gd xs i) := Lib.hid (Dig.gd_ge (by omega)).symm
        obtain ⟨ad2, y, rfl, q1, hy0, hy1, hy2⟩ := dig_up HY.out (HD'.out.same HB.out) OY.out i hly
        have HY0 := Lib.hid hy0
        obtain ⟨s1, s2⟩ := sum_step (xs := xs) (ys := ys) (t := cc + y) HOK.out (Nat.le_antisymm hL1 hL2) HV.out (by rw [← HX0.out, ← HY0.out]; omega)
        have S1 := Lib.hid s1
        have S2 := Lib.hid s2
        clear s1 s2 hy0
        go_wp2_with ((at_builtin); (refine wpList_app1 elem_i64 rfl _ _ rfl w.heap.size _ L.length (ints L) rfl (HO.out.alloc _) ⟨_, 0, none⟩ 1 _ rfl (cell_new1 _ _ _) rfl (by omega) (by omega) (by have := HB.out.size; simp; omega) ?_); (intro v6 w6 ho6 hg6 ha6); (have HO6 := Lib.hid ho6); (have HG6 := Lib.hid hg6); (obtain ⟨A6, c6, rfl, -, -, -⟩ := own_form ho6); (clear ho6 hg6 ha6))
        have hb6 := (HB.out.alloc HB.out.size (.cells #[.int .i64 ((cc + y) % 1073741824)] 3)).grown HG6.out (by have := HB.out.size; simp; omega) (fun k hk => (HO.out.lt k hk).1)
        exact ⟨⟨i + 1, (cc + y) / 1073741824, L ++ [(cc + y) % 1073741824], by omega, by omega, by go_num, rfl, by omega, by omega, hb6, Lib.hid (by simpa [ints] using HO6.out), by simp; omega, by simp; omega, S1, S2⟩, by simp [intOf]; omega⟩
      · by_cases hcc : 0 < cc
        · have HX0 : Hid ((0 : Int) = Dig.gd xs i) := Lib.hid (Dig.gd_ge (by omega)).symm
          have HY0 : Hid ((0 : Int) = Dig.gd ys i) := Lib.hid (Dig.gd_ge (by omega)).symm
          obtain ⟨s1, s2⟩ := sum_step (xs := xs) (ys := ys) (t := cc) HOK.out (Nat.le_antisymm hL1 hL2) HV.out (by rw [← HX0.out, ← HY0.out]; omega)
          have S1 := Lib.hid s1
          have S2 := Lib.hid s2
          clear s1 s2
          go_wp2_with ((at_builtin); (refine wpList_app1 elem_i64 rfl _ _ rfl w.heap.size _ L.length (ints L) rfl (HO.out.alloc _) ⟨_, 0, none⟩ 1 _ rfl (cell_new1 _ _ _) rfl (by omega) (by omega) (by have := HB.out.size; simp; omega) ?_); (intro v6 w6 ho6 hg6 ha6); (have HO6 := Lib.hid ho6); (have HG6 := Lib.hid hg6); (obtain ⟨A6, c6, rfl, -, -, -⟩ := own_form ho6); (clear ho6 hg6 ha6))
          have hb6 := (HB.out.alloc HB.out.size (.cells #[.int .i64 ((cc) % 1073741824)] 3)).grown HG6.out (by have := HB.out.size; simp; omega) (fun k hk => (HO.out.lt k hk).1)
          exact ⟨⟨i + 1, (cc) / 1073741824, L ++ [(cc) % 1073741824], by omega, by omega, by go_num, rfl, by omega, by omega, hb6, Lib.hid (by simpa [ints] using HO6.out), by simp; omega, by simp; omega, S1, S2⟩, by simp [intOf]; omega⟩
        · obtain rfl : cc = 0 := by omega
          have HV2 : Hid (Dig.val 1073741824 L = Dig.val 1073741824 xs + Dig.val 1073741824 ys) := Lib.hid (by
            have := HV.out
            rw [List.take_of_length_le (by omega), List.take_of_length_le (by omega)] at this
            omega)
          clear hcc
          go_wp2
          go_ret
          exact ⟨_, rfl, HB.out, L, HO.out, HOK.out, HV2.out, by omega⟩

end Go.Proofs.YtoffbdlgmnpblaaGreat
