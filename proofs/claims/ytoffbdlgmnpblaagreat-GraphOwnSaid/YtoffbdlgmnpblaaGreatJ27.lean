/- Part 27 of 55: Tar. -/
import Derived.Test.YtoffbdlgmnpblaaGreatJ22

/- Plain laws: the search for components, as the program does it: a machine with two stacks. -/
namespace Go.Proofs.YtoffbdlgmnpblaaGreat.Tar
open Bfs (at' row)

/-- what the search holds; opn: the top first -/
structure TS where
  idx : List Int
  low : List Int
  opn : List Int
  on : List Bool
  out : List (List Int)
  cnt : Int
  deriving DecidableEq
def isort (l : List Int) : List Int := l.mergeSort fun x y => decide (x ≤ y)
def enter (t : TS) (s : Int) : TS := { t with idx := t.idx.set s.toNat (t.cnt + 1), low := t.low.set s.toNat (t.cnt + 1), opn := s :: t.opn, on := t.on.set s.toNat true, cnt := t.cnt + 1 }
/-- down to s: what is taken off, and the rest -/
def popR (s : Int) : List Int → List Int × List Int
  | [] => ([], [])
  | t :: r => if t = s then ([t], r) else (t :: (popR s r).1, (popR s r).2)
def offs (on : List Bool) (p : List Int) : List Bool := p.foldl (fun o x => o.set x.toNat false) on
def close (t : TS) (s : Int) : TS := { t with opn := (popR s t.opn).2, on := offs t.on (popR s t.opn).1, out := t.out ++ [isort (popR s t.opn).1] }
def onAt (on : List Bool) (s : Int) : Bool := on.getD s.toNat false
def setLow (t : TS) (s x : Int) : TS := { t with low := t.low.set s.toNat (min (at' t.low s) x) }
/-- one step; frames: the top first -/
def step (next : List (List Int)) (t : TS) : List (Int × Int) → TS × List (Int × Int)
  | [] => (t, [])
  | (s, k) :: fr =>
    if k < ((row next s).length : Int) then
      if at' t.idx (at' (row next s) k) = 0 then (enter t (at' (row next s) k), (at' (row next s) k, 0) :: (s, k + 1) :: fr)
      else if onAt t.on (at' (row next s) k) then (setLow t s (at' t.idx (at' (row next s) k)), (s, k + 1) :: fr)
      else (t, (s, k + 1) :: fr)
    else
      (match fr with
        | [] => (if at' t.low s = at' t.idx s then close t s else t)
        | (u, _) :: _ => setLow (if at' t.low s = at' t.idx s then close t s else t) u (at' (if at' t.low s = at' t.idx s then close t s else t).low s), fr)
def loop (next : List (List Int)) : Nat → TS → List (Int × Int) → TS
  | 0, t, _ => t
  | _ + 1, t, [] => t
  | f + 1, t, fr => loop next f (step next t fr).1 (step next t fr).2
/-- rounds that are left at most -/
def wt (next : List (List Int)) : List Int → Nat → Nat
  | [], _ => 0
  | x :: l, j => (if x = 0 then (next.getD j []).length + 2 else 0) + wt next l (j + 1)
def wf (next : List (List Int)) : List (Int × Int) → Nat
  | [] => 0
  | (s, k) :: fr => ((row next s).length - k.toNat + 1) + wf next fr
def meas (next : List (List Int)) (t : TS) (fr : List (Int × Int)) : Nat := wt next t.idx 0 + wf next fr
def run (next : List (List Int)) (t : TS) (fr : List (Int × Int)) : TS := loop next (meas next t fr) t fr
def visit (next : List (List Int)) (t : TS) (root : Int) : TS := run next (enter t root) [(root, 0)]
def start (n : Nat) : TS := { idx := List.replicate n 0, low := List.replicate n 0, opn := [], on := List.replicate n false, out := [], cnt := 0 }
def upTo (next : List (List Int)) : Nat → TS
  | 0 => start next.length
  | j + 1 => if at' (upTo next j).idx j = 0 then visit next (upTo next j) j else upTo next j

/-! ### what stays so -/
structure Ok (next : List (List Int)) (t : TS) (fr : List (Int × Int)) : Prop where
  li : t.idx.length = next.length
  ll : t.low.length = next.length
  lo : t.on.length = next.length
  fs : ∀ f ∈ fr, 0 ≤ f.1 ∧ f.1 < (next.length : Int) ∧ 0 ≤ f.2 ∧ f.2 ≤ ((row next f.1).length : Int)
  sub : List.Sublist (fr.map (·.1)) t.opn
  op : ∀ s ∈ t.opn, 0 ≤ s ∧ s < (next.length : Int)
  ed : ∀ s, 0 ≤ s → s < (next.length : Int) → ∀ x ∈ row next s, 0 ≤ x ∧ x < (next.length : Int)

theorem popR_sub {s : Int} : ∀ {r f : List Int}, List.Sublist (s :: f) r → List.Sublist f (popR s r).2 ∧ s ∈ r
  | [], f, h => by cases h
  | t :: r, f, h => by
    unfold popR
    by_cases e : t = s
    · rw [if_pos e]
      subst e
      refine ⟨?_, List.mem_cons_self ..⟩
      cases h with
      | cons _ h => exact (List.sublist_cons_self _ _).trans h
      | cons_cons _ h => exact h
    · rw [if_neg e]
      have h2 : List.Sublist (s :: f) r := by
        cases h with
        | cons _ h => exact h
        | cons_cons _ h => exact absurd rfl e
      have := popR_sub h2
      exact ⟨this.1, List.mem_cons_of_mem _ this.2⟩
theorem popR_mem {s : Int} : ∀ {r : List Int}, (∀ x ∈ (popR s r).1, x ∈ r) ∧ (∀ x ∈ (popR s r).2, x ∈ r)
  | [] => ⟨fun x h => h, fun x h => h⟩
  | t :: r => by
    have ih := popR_mem (s := s) (r := r)
    unfold popR
    by_cases e : t = s
    · rw [if_pos e]
      exact ⟨fun x h => by have : x = t := by simpa using h
                           rw [this]; exact List.mem_cons_self .., fun x h => List.mem_cons_of_mem _ h⟩
    · rw [if_neg e]
      refine ⟨fun x h => ?_, fun x h => List.mem_cons_of_mem _ (ih.2 x h)⟩
      rcases List.mem_cons.1 h with rfl | h
      · exact List.mem_cons_self ..
      · exact List.mem_cons_of_mem _ (ih.1 x h)
theorem popR_len {s : Int} : ∀ {r : List Int}, (popR s r).1.length + (popR s r).2.length = r.length
  | [] => rfl
  | t :: r => by
    have ih := popR_len (s := s) (r := r)
    unfold popR
    split
    · simp; omega
    · simp only [List.length_cons]; omega
theorem offs_len (p : List Int) : ∀ on : List Bool, (offs on p).length = on.length := by
  induction p with
  | nil => intro on; rfl
  | cons a p ih => intro on; show (offs _ p).length = _; rw [ih]; simp

theorem wt_set (next : List (List Int)) : ∀ (l : List Int) (j i : Nat) (x y : Int), l[i]? = some x → x = 0 → y ≠ 0 → wt next (l.set i y) j + ((next.getD (j + i) []).length + 2) = wt next l j
  | [], _, _, _, _, h, _, _ => by simp at h
  | a :: l, j, 0, x, y, h, hx, hy => by
    simp at h; subst h; subst hx
    simp only [List.set_cons_zero, wt, if_neg hy, if_true, Nat.add_zero]; omega
  | a :: l, j, i + 1, x, y, h, hx, hy => by
    have := wt_set next l (j + 1) i x y (by simpa using h) hx hy
    simp only [List.set_cons_succ, wt]
    rw [show j + (i + 1) = j + 1 + i by omega]
    omega

theorem Ok.setLow {next : List (List Int)} {t : TS} {fr : List (Int × Int)} (h : Ok next t fr) (s x : Int) : Ok next (setLow t s x) fr :=
  ⟨h.li, by simp [Tar.setLow, h.ll], h.lo, h.fs, h.sub, h.op, h.ed⟩
theorem Ok.enter {next : List (List Int)} {t : TS} {fr : List (Int × Int)} (h : Ok next t fr) {s : Int} (hs : 0 ≤ s ∧ s < (next.length : Int)) : Ok next (enter t s) ((s, 0) :: fr) := by
  refine ⟨by simp [Tar.enter, h.li], by simp [Tar.enter, h.ll], by simp [Tar.enter, h.lo], ?_, ?_, ?_, h.ed⟩
  · intro f hf
    rcases List.mem_cons.1 hf with rfl | hf
    · exact ⟨hs.1, hs.2, by simp, by simp⟩
    · exact h.fs f hf
  · exact h.sub.cons_cons s
  · intro u hu
    rcases List.mem_cons.1 hu with rfl | hu
    · exact hs
    · exact h.op u hu
theorem Ok.close {next : List (List Int)} {t : TS} {fr : List (Int × Int)} {s k : Int} (h : Ok next t ((s, k) :: fr)) : Ok next (close t s) fr := by
  refine ⟨h.li, h.ll, by simp [Tar.close, offs_len, h.lo], fun f hf => h.fs f (List.mem_cons_of_mem _ hf), (popR_sub h.sub).1, fun u hu => h.op u (popR_mem.2 u hu), h.ed⟩
theorem Ok.tail {next : List (List Int)} {t : TS} {fr : List (Int × Int)} {f : Int × Int} (h : Ok next t (f :: fr)) : Ok next t fr :=
  ⟨h.li, h.ll, h.lo, fun f hf => h.fs f (List.mem_cons_of_mem _ hf), (List.sublist_cons_self _ _).trans h.sub, h.op, h.ed⟩
theorem Ok.next {next : List (List Int)} {t : TS} {fr : List (Int × Int)} {s k : Int} (h : Ok next t ((s, k) :: fr)) (hk : k < ((row next s).length : Int)) : Ok next t ((s, k + 1) :: fr) := by
  refine ⟨h.li, h.ll, h.lo, fun f hf => ?_, h.sub, h.op, h.ed⟩
  rcases List.mem_cons.1 hf with rfl | hf
  · obtain ⟨a, b, c, d⟩ := h.fs (s, k) (List.mem_cons_self ..)
    exact ⟨a, b, by simp at c ⊢; omega, by simp at d ⊢; omega⟩
  · exact h.fs f (List.mem_cons_of_mem _ hf)

/-- each step lowers the measure by one at least; the count rises less -/
theorem step_meas {next : List (List Int)} {t : TS} {fr : List (Int × Int)} {s k : Int} (h : Ok next t ((s, k) :: fr)) (hc : 0 ≤ t.cnt) :
    Ok next (step next t ((s, k) :: fr)).1 (step next t ((s, k) :: fr)).2 ∧ meas next (step next t ((s, k) :: fr)).1 (step next t ((s, k) :: fr)).2 < meas next t ((s, k) :: fr) ∧
      0 ≤ (step next t ((s, k) :: fr)).1.cnt ∧ (step next t ((s, k) :: fr)).1.cnt + (meas next (step next t ((s, k) :: fr)).1 (step next t ((s, k) :: fr)).2 : Int) ≤ t.cnt + (meas next t ((s, k) :: fr) : Int) := by
  obtain ⟨a, b, c, d⟩ := h.fs (s, k) (List.mem_cons_self ..)
  simp only at a b c d
  unfold step
  by_cases hk : k < ((row next s).length : Int)
  · simp only [if_pos hk]
    have hx := h.ed s a b (at' (row next s) k) (Bfs.at_mem c hk)
    have hw : wf next ((s, k + 1) :: fr) + 1 = wf next ((s, k) :: fr) := by simp only [wf]; omega
    by_cases h0 : at' t.idx (at' (row next s) k) = 0
    · simp only [if_pos h0]
      have hg := Bfs.at_get (d := t.idx) hx.1 (by rw [h.li]; exact hx.2)
      have hs := wt_set next t.idx 0 _ _ (t.cnt + 1) hg h0 (by omega)
      rw [Nat.zero_add] at hs
      have e1 : wf next ((at' (row next s) k, 0) :: (s, k + 1) :: fr) = (row next (at' (row next s) k)).length + 1 + wf next ((s, k + 1) :: fr) := by simp [wf]
      have e2 : (row next (at' (row next s) k)).length = (next.getD (at' (row next s) k).toNat []).length := rfl
      refine ⟨(h.next hk).enter hx, ?_, ?_, ?_⟩
      · unfold meas; rw [e1]; simp only [enter]; omega
      · simp only [enter]; omega
      · unfold meas; rw [e1]; simp only [enter]; omega
    · simp only [if_neg h0]
      by_cases ho : onAt t.on (at' (row next s) k) = true
      · simp only [if_pos ho]
        refine ⟨(h.next hk).setLow _ _, ?_, hc, ?_⟩
        · show wt next t.idx 0 + _ < wt next t.idx 0 + _; omega
        · show t.cnt + ((wt next t.idx 0 + wf next ((s, k + 1) :: fr) : Nat) : Int) ≤ t.cnt + ((wt next t.idx 0 + wf next ((s, k) :: fr) : Nat) : Int); omega
      · simp only [if_neg ho]
        refine ⟨h.next hk, ?_, hc, ?_⟩
        · show wt next t.idx 0 + _ < wt next t.idx 0 + _; omega
        · show t.cnt + ((wt next t.idx 0 + wf next ((s, k + 1) :: fr) : Nat) : Int) ≤ t.cnt + ((wt next t.idx 0 + wf next ((s, k) :: fr) : Nat) : Int); omega
  · simp only [if_neg hk]
    have hw : wf next fr < wf next ((s, k) :: fr) := by simp only [wf]; omega
    have hcl : ∀ u : TS, (u = close t s ∨ u = t) → Ok next u fr ∧ u.idx = t.idx ∧ u.cnt = t.cnt := by
      rintro u (rfl | rfl)
      · exact ⟨h.close, rfl, rfl⟩
      · exact ⟨h.tail, rfl, rfl⟩
    have hor : (if at' t.low s = at' t.idx s then close t s else t) = close t s ∨ (if at' t.low s = at' t.idx s then close t s else t) = t := by split <;> simp
    generalize (if at' t.low s = at' t.idx s then close t s else t) = u at hor ⊢
    obtain ⟨h1, h2, h3⟩ := hcl u hor
    cases fr with
    | nil =>
      refine ⟨h1, ?_, by simp only [h3]; exact hc, ?_⟩
      · unfold meas; rw [h2]; omega
      · unfold meas; simp only [h2, h3]; omega
    | cons f fr =>
      refine ⟨h1.setLow _ _, ?_, by show 0 ≤ u.cnt; rw [h3]; exact hc, ?_⟩
      · show wt next u.idx 0 + _ < _; unfold meas; rw [h2]; omega
      · show u.cnt + ((wt next u.idx 0 + wf next (f :: fr) : Nat) : Int) ≤ _; unfold meas; rw [h2, h3]; omega

theorem step_new {next : List (List Int)} {t : TS} {fr : List (Int × Int)} {s k : Int} (hk : k < ((row next s).length : Int)) (h : at' t.idx (at' (row next s) k) = 0) :
    step next t ((s, k) :: fr) = (enter t (at' (row next s) k), (at' (row next s) k, 0) :: (s, k + 1) :: fr) := by simp only [step, if_pos hk, if_pos h]
theorem step_on {next : List (List Int)} {t : TS} {fr : List (Int × Int)} {s k : Int} (hk : k < ((row next s).length : Int)) (h : at' t.idx (at' (row next s) k) ≠ 0) (ho : onAt t.on (at' (row next s) k) = true) :
    step next t ((s, k) :: fr) = (setLow t s (at' t.idx (at' (row next s) k)), (s, k + 1) :: fr) := by simp only [step, if_pos hk, if_neg h, if_pos ho]
theorem step_off {next : List (List Int)} {t : TS} {fr : List (Int × Int)} {s k : Int} (hk : k < ((row next s).length : Int)) (h : at' t.idx (at' (row next s) k) ≠ 0) (ho : onAt t.on (at' (row next s) k) = false) :
    step next t ((s, k) :: fr) = (t, (s, k + 1) :: fr) := by simp [step, if_pos hk, if_neg h, ho]
def ended (t : TS) (s : Int) : TS := if at' t.low s = at' t.idx s then close t s else t
theorem step_last {next : List (List Int)} {t : TS} {s k : Int} (hk : ¬ k < ((row next s).length : Int)) : step next t [(s, k)] = (ended t s, []) := by simp only [step, if_neg hk, ended]
theorem step_up {next : List (List Int)} {t : TS} {fr : List (Int × Int)} {s k u j : Int} (hk : ¬ k < ((row next s).length : Int)) : step next t ((s, k) :: (u, j) :: fr) = (setLow (ended t s) u (at' (ended t s).low s), (u, j) :: fr) := by simp only [step, if_neg hk, ended]

/-- what grows, grows less than the measure falls -/
structure Bd (t : TS) (m K : Nat) : Prop where
  c0 : 0 ≤ t.cnt
  c1 : t.cnt + (m : Int) ≤ (K : Int)
  o : t.opn.length + m ≤ K
  u : t.out.length + m ≤ K
theorem popR_two {s : Int} (r : List Int) : (popR s r).2.length ≤ r.length := by have := popR_len (s := s) (r := r); omega
theorem ended_le (t : TS) (s : Int) : (ended t s).opn.length ≤ t.opn.length + 1 ∧ (ended t s).out.length ≤ t.out.length + 1 := by
  unfold ended
  split
  · have := popR_two (s := s) t.opn; simp only [close]; constructor
    · omega
    · simp
  · constructor <;> omega
theorem step_le (next : List (List Int)) (t : TS) (fr : List (Int × Int)) (s k : Int) : (step next t ((s, k) :: fr)).1.opn.length ≤ t.opn.length + 1 ∧ (step next t ((s, k) :: fr)).1.out.length ≤ t.out.length + 1 := by
  by_cases hk : k < ((row next s).length : Int)
  · by_cases h : at' t.idx (at' (row next s) k) = 0
    · rw [step_new hk h]; simp [enter]
    · cases ho : onAt t.on (at' (row next s) k) with
      | true => rw [step_on hk h ho]; simp [setLow]
      | false => rw [step_off hk h ho]; simp
  · have he := ended_le t s
    cases fr with
    | nil => rw [step_last hk]; exact he
    | cons f fr => obtain ⟨u, j⟩ := f; rw [step_up hk]; exact he
theorem Bd.step {next : List (List Int)} {t : TS} {fr : List (Int × Int)} {s k : Int} {K : Nat} (h : Ok next t ((s, k) :: fr)) (b : Bd t (meas next t ((s, k) :: fr)) K) :
    Bd (step next t ((s, k) :: fr)).1 (meas next (step next t ((s, k) :: fr)).1 (step next t ((s, k) :: fr)).2) K := by
  obtain ⟨h1, h2, h3, h4⟩ := step_meas h b.c0
  have b1 := b.c1; have b2 := b.o; have b3 := b.u
  have hl := step_le next t fr s k
  exact ⟨h3, by omega, by omega, by omega⟩

theorem loop_nil (next : List (List Int)) (f : Nat) (t : TS) : loop next f t [] = t := by cases f <;> rfl
/-- enough rounds are enough -/
theorem loop_more {next : List (List Int)} : ∀ {f g : Nat} {t : TS} {fr : List (Int × Int)}, Ok next t fr → 0 ≤ t.cnt → meas next t fr ≤ f → meas next t fr ≤ g → loop next f t fr = loop next g t fr
  | f, g, t, [], _, _, _, _ => by rw [loop_nil, loop_nil]
  | 0, _, t, (s, k) :: fr, _, _, hf, _ => by unfold meas at hf; simp only [wf] at hf; omega
  | f + 1, 0, t, (s, k) :: fr, _, _, _, hg => by unfold meas at hg; simp only [wf] at hg; omega
  | f + 1, g + 1, t, (s, k) :: fr, h, hc, hf, hg => by
    obtain ⟨h1, h2, h3, -⟩ := step_meas h hc
    have e := loop_more (f := f) (g := g) h1 h3 (by omega) (by omega)
    exact e
theorem run_step {next : List (List Int)} {t : TS} {fr : List (Int × Int)} {s k : Int} (h : Ok next t ((s, k) :: fr)) (hc : 0 ≤ t.cnt) :
    run next t ((s, k) :: fr) = run next (step next t ((s, k) :: fr)).1 (step next t ((s, k) :: fr)).2 := by
  obtain ⟨h1, h2, h3, -⟩ := step_meas h hc
  unfold run
  obtain ⟨m, hm⟩ : ∃ m, meas next t ((s, k) :: fr) = m + 1 := ⟨meas next t ((s, k) :: fr) - 1, by omega⟩
  rw [hm]
  have e := loop_more (f := m) (g := meas next (step next t ((s, k) :: fr)).1 (step next t ((s, k) :: fr)).2) h1 h3 (by omega) (Nat.le_refl _)
  exact e
theorem run_nil (next : List (List Int)) (t : TS) : run next t [] = t := loop_nil _ _ _

end Go.Proofs.YtoffbdlgmnpblaaGreat.Tar
