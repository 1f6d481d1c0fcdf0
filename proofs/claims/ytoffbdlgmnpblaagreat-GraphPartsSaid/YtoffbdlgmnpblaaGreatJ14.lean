/- Part 14: Tar Tr1. -/
import Derived.Test.YtoffbdlgmnpblaaGreatJ12
import Derived.Test.YtoffbdlgmnpblaaGreatJ13

/- Plain laws: the search for components, as the program does it: a machine with two stacks. -/
namespace Go.Proofs.YtoffbdlgmnpblaaGreat.Tar
open Bfs (at' row)

/-- what the search holds; opn: the top first -/
structure TS where
  idx : List Int
  low : List Int
  opn : List Int
  on : List Bool
  out : List (List Int)
  cnt : Int
  deriving DecidableEq
def isort (l : List Int) : List Int := l.mergeSort fun x y => decide (x ≤ y)
def enter (t : TS) (s : Int) : TS := { t with idx := t.idx.set s.toNat (t.cnt + 1), low := t.low.set s.toNat (t.cnt + 1), opn := s :: t.opn, on := t.on.set s.toNat true, cnt := t.cnt + 1 }
/-- down to s: what is taken off, and the rest -/
def popR (s : Int) : List Int → List Int × List Int
  | [] => ([], [])
  | t :: r => if t = s then ([t], r) else (t :: (popR s r).1, (popR s r).2)
def offs (on : List Bool) (p : List Int) : List Bool := p.foldl (fun o x => o.set x.toNat false) on
def close (t : TS) (s : Int) : TS := { t with opn := (popR s t.opn).2, on := offs t.on (popR s t.opn).1, out := t.out ++ [isort (popR s t.opn).1] }
def onAt (on : List Bool) (s : Int) : Bool := on.getD s.toNat false
def setLow (t : TS) (s x : Int) : TS := { t with low := t.low.set s.toNat (min (at' t.low s) x) }
/-- one step; frames: the top first -/
def step (next : List (List Int)) (t : TS) : List (Int × Int) → TS × List (Int × Int)
  | [] => (t, [])
  | (s, k) :: fr =>
    if k < ((row next s).length : Int) then
      if at' t.idx (at' (row next s) k) = 0 then (enter t (at' (row next s) k), (at' (row next s) k, 0) :: (s, k + 1) :: fr)
      else if onAt t.on (at' (row next s) k) then (setLow t s (at' t.idx (at' (row next s) k)), (s, k + 1) :: fr)
      else (t, (s, k + 1) :: fr)
    else
      (match fr with
        | [] => (if at' t.low s = at' t.idx s then close t s else t)
        | (u, _) :: _ => setLow (if at' t.low s = at' t.idx s then close t s else t) u (at' (if at' t.low s = at' t.idx s then close t s else t).low s), fr)
def loop (next : List (List Int)) : Nat → TS → List (Int × Int) → TS
  | 0, t, _ => t
  | _ + 1, t, [] => t
  | f + 1, t, fr => loop next f (step next t fr).1 (step next t fr).2
/-- rounds that are left at most -/
def wt (next : List (List Int)) : List Int → Nat → Nat
  | [], _ => 0
  | x :: l, j => (if x = 0 then (next.getD j []).length + 2 else 0) + wt next l (j + 1)
def wf (next : List (List Int)) : List (Int × Int) → Nat
  | [] => 0
  | (s, k) :: fr => ((row next s).length - k.toNat + 1) + wf next fr
def meas (next : List (List Int)) (t : TS) (fr : List (Int × Int)) : Nat := wt next t.idx 0 + wf next fr
def run (next : List (List Int)) (t : TS) (fr : List (Int × Int)) : TS := loop next (meas next t fr) t fr
def visit (next : List (List Int)) (t : TS) (root : Int) : TS := run next (enter t root) [(root, 0)]
def start (n : Nat) : TS := { idx := List.replicate n 0, low := List.replicate n 0, opn := [], on := List.replicate n false, out := [], cnt := 0 }
def upTo (next : List (List Int)) : Nat → TS
  | 0 => start next.length
  | j + 1 => if at' (upTo next j).idx j = 0 then visit next (upTo next j) j else upTo next j

/-! ### what stays so -/
structure Ok (next : List (List Int)) (t : TS) (fr : List (Int × Int)) : Prop where
  li : t.idx.length = next.length
  ll : t.low.length = next.length
  lo : t.on.length = next.length
  fs : ∀ f ∈ fr, 0 ≤ f.1 ∧ f.1 < (next.length : Int) ∧ 0 ≤ f.2 ∧ f.2 ≤ ((row next f.1).length : Int)
  sub : List.Sublist (fr.map (·.1)) t.opn
  op : ∀ s ∈ t.opn, 0 ≤ s ∧ s < (next.length : Int)
  ed : ∀ s, 0 ≤ s → s < (next.length : Int) → ∀ x ∈ row next s, 0 ≤ x ∧ x < (next.length : Int)

theorem popR_sub {s : Int} : ∀ {r f : List Int}, List.Sublist (s :: f) r → List.Sublist f (popR s r).2 ∧ s ∈ r
  | [], f, h => by cases h
  | t :: r, f, h => by
    unfold popR
    by_cases e : t = s
    · rw [if_pos e]
      subst e
      refine ⟨?_, List.mem_cons_self ..⟩
      cases h with
      | cons _ h => exact (List.sublist_cons_self _ _).trans h
      | cons_cons _ h => exact h
    · rw [if_neg e]
      have h2 : List.Sublist (s :: f) r := by
        cases h with
        | cons _ h => exact h
        | cons_cons _ h => exact absurd rfl e
      have := popR_sub h2
      exact ⟨this.1, List.mem_cons_of_mem _ this.2⟩
theorem popR_mem {s : Int} : ∀ {r : List Int}, (∀ x ∈ (popR s r).1, x ∈ r) ∧ (∀ x ∈ (popR s r).2, x ∈ r)
  | [] => ⟨fun x h => h, fun x h => h⟩
  | t :: r => by
    have ih := popR_mem (s := s) (r := r)
    unfold popR
    by_cases e : t = s
    · rw [if_pos e]
      exact ⟨fun x h => by have : x = t := by simpa using h
                           rw [this]; exact List.mem_cons_self .., fun x h => List.mem_cons_of_mem _ h⟩
    · rw [if_neg e]
      refine ⟨fun x h => ?_, fun x h => List.mem_cons_of_mem _ (ih.2 x h)⟩
      rcases List.mem_cons.1 h with rfl | h
      · exact List.mem_cons_self ..
      · exact List.mem_cons_of_mem _ (ih.1 x h)
theorem popR_len {s : Int} : ∀ {r : List Int}, (popR s r).1.length + (popR s r).2.length = r.length
  | [] => rfl
  | t :: r => by
    have ih := popR_len (s := s) (r := r)
    unfold popR
    split
    · simp; omega
    · simp only [List.length_cons]; omega
theorem offs_len (p : List Int) : ∀ on : List Bool, (offs on p).length = on.length := by
  induction p with
  | nil => intro on; rfl
  | cons a p ih => intro on; show (offs _ p).length = _; rw [ih]; simp

theorem wt_set (next : List (List Int)) : ∀ (l : List Int) (j i : Nat) (x y : Int), l[i]? = some x → x = 0 → y ≠ 0 → wt next (l.set i y) j + ((next.getD (j + i) []).length + 2) = wt next l j
  | [], _, _, _, _, h, _, _ => by simp at h
  | a :: l, j, 0, x, y, h, hx, hy => by
    simp at h; subst h; subst hx
    simp only [List.set_cons_zero, wt, if_neg hy, if_true, Nat.add_zero]; omega
  | a :: l, j, i + 1, x, y, h, hx, hy => by
    have := wt_set next l (j + 1) i x y (by simpa using h) hx hy
    simp only [List.set_cons_succ, wt]
    rw [show j + (i + 1) = j + 1 + i by omega]
    omega

theorem Ok.setLow {next : List (List Int)} {t : TS} {fr : List (Int × Int)} (h : Ok next t fr) (s x : Int) : Ok next (setLow t s x) fr :=
  ⟨h.li, by simp [Tar.setLow, h.ll], h.lo, h.fs, h.sub, h.op, h.ed⟩
theorem Ok.enter {next : List (List Int)} {t : TS} {fr : List (Int × Int)} (h : Ok next t fr) {s : Int} (hs : 0 ≤ s ∧ s < (next.length : Int)) : Ok next (enter t s) ((s, 0) :: fr) := by
  refine ⟨by simp [Tar.enter, h.li], by simp [Tar.enter, h.ll], by simp [Tar.enter, h.lo], ?_, ?_, ?_, h.ed⟩
  · intro f hf
    rcases List.mem_cons.1 hf with rfl | hf
    · exact ⟨hs.1, hs.2, by simp, by simp⟩
    · exact h.fs f hf
  · exact h.sub.cons_cons s
  · intro u hu
    rcases List.mem_cons.1 hu with rfl | hu
    · exact hs
    · exact h.op u hu
theorem Ok.close {next : List (List Int)} {t : TS} {fr : List (Int × Int)} {s k : Int} (h : Ok next t ((s, k) :: fr)) : Ok next (close t s) fr := by
  refine ⟨h.li, h.ll, by simp [Tar.close, offs_len, h.lo], fun f hf => h.fs f (List.mem_cons_of_mem _ hf), (popR_sub h.sub).1, fun u hu => h.op u (popR_mem.2 u hu), h.ed⟩
theorem Ok.tail {next : List (List Int)} {t : TS} {fr : List (Int × Int)} {f : Int × Int} (h : Ok next t (f :: fr)) : Ok next t fr :=
  ⟨h.li, h.ll, h.lo, fun f hf => h.fs f (List.mem_cons_of_mem _ hf), (List.sublist_cons_self _ _).trans h.sub, h.op, h.ed⟩
theorem Ok.next {next : List (List Int)} {t : TS} {fr : List (Int × Int)} {s k : Int} (h : Ok next t ((s, k) :: fr)) (hk : k < ((row next s).length : Int)) : Ok next t ((s, k + 1) :: fr) := by
  refine ⟨h.li, h.ll, h.lo, fun f hf => ?_, h.sub, h.op, h.ed⟩
  rcases List.mem_cons.1 hf with rfl | hf
  · obtain ⟨a, b, c, d⟩ := h.fs (s, k) (List.mem_cons_self ..)
    exact ⟨a, b, by simp at c ⊢; omega, by simp at d ⊢; omega⟩
  · exact h.fs f (List.mem_cons_of_mem _ hf)

/-- each step lowers the measure by one at least; the count rises less -/
theorem step_meas {next : List (List Int)} {t : TS} {fr : List (Int × Int)} {s k : Int} (h : Ok next t ((s, k) :: fr)) (hc : 0 ≤ t.cnt) :
    Ok next (step next t ((s, k) :: fr)).1 (step next t ((s, k) :: fr)).2 ∧ meas next (step next t ((s, k) :: fr)).1 (step next t ((s, k) :: fr)).2 < meas next t ((s, k) :: fr) ∧
      0 ≤ (step next t ((s, k) :: fr)).1.cnt ∧ (step next t ((s, k) :: fr)).1.cnt + (meas next (step next t ((s, k) :: fr)).1 (step next t ((s, k) :: fr)).2 : Int) ≤ t.cnt + (meas next t ((s, k) :: fr) : Int) := by
  obtain ⟨a, b, c, d⟩ := h.fs (s, k) (List.mem_cons_self ..)
  simp only at a b c d
  unfold step
  by_cases hk : k < ((row next s).length : Int)
  · simp only [if_pos hk]
    have hx := h.ed s a b (at' (row next s) k) (Bfs.at_mem c hk)
    have hw : wf next ((s, k + 1) :: fr) + 1 = wf next ((s, k) :: fr) := by simp only [wf]; omega
    by_cases h0 : at' t.idx (at' (row next s) k) = 0
    · simp only [if_pos h0]
      have hg := Bfs.at_get (d := t.idx) hx.1 (by rw [h.li]; exact hx.2)
      have hs := wt_set next t.idx 0 _ _ (t.cnt + 1) hg h0 (by omega)
      rw [Nat.zero_add] at hs
      have e1 : wf next ((at' (row next s) k, 0) :: (s, k + 1) :: fr) = (row next (at' (row next s) k)).length + 1 + wf next ((s, k + 1) :: fr) := by simp [wf]
      have e2 : (row next (at' (row next s) k)).length = (next.getD (at' (row next s) k).toNat []).length := rfl
      refine ⟨(h.next hk).enter hx, ?_, ?_, ?_⟩
      · unfold meas; rw [e1]; simp only [enter]; omega
      · simp only [enter]; omega
      · unfold meas; rw [e1]; simp only [enter]; omega
    · simp only [if_neg h0]
      by_cases ho : onAt t.on (at' (row next s) k) = true
      · simp only [if_pos ho]
        refine ⟨(h.next hk).setLow _ _, ?_, hc, ?_⟩
        · show wt next t.idx 0 + _ < wt next t.idx 0 + _; omega
        · show t.cnt + ((wt next t.idx 0 + wf next ((s, k + 1) :: fr) : Nat) : Int) ≤ t.cnt + ((wt next t.idx 0 + wf next ((s, k) :: fr) : Nat) : Int); omega
      · simp only [if_neg ho]
        refine ⟨h.next hk, ?_, hc, ?_⟩
        · show wt next t.idx 0 + _ < wt next t.idx 0 + _; omega
        · show t.cnt + ((wt next t.idx 0 + wf next ((s, k + 1) :: fr) : Nat) : Int) ≤ t.cnt + ((wt next t.idx 0 + wf next ((s, k) :: fr) : Nat) : Int); omega
  · simp only [if_neg hk]
    have hw : wf next fr < wf next ((s, k) :: fr) := by simp only [wf]; omega
    have hcl : ∀ u : TS, (u = close t s ∨ u = t) → Ok next u fr ∧ u.idx = t.idx ∧ u.cnt = t.cnt := by
      rintro u (rfl | rfl)
      · exact ⟨h.close, rfl, rfl⟩
      · exact ⟨h.tail, rfl, rfl⟩
    have hor : (if at' t.low s = at' t.idx s then close t s else t) = close t s ∨ (if at' t.low s = at' t.idx s then close t s else t) = t := by split <;> simp
    generalize (if at' t.low s = at' t.idx s then close t s else t) = u at hor ⊢
    obtain ⟨h1, h2, h3⟩ := hcl u hor
    cases fr with
    | nil =>
      refine ⟨h1, ?_, by simp only [h3]; exact hc, ?_⟩
      · unfold meas; rw [h2]; omega
      · unfold meas; simp only [h2, h3]; omega
    | cons f fr =>
      refine ⟨h1.setLow _ _, ?_, by show 0 ≤ u.cnt; rw [h3]; exact hc, ?_⟩
      · show wt next u.idx 0 + _ < _; unfold meas; rw [h2]; omega
      · show u.cnt + ((wt next u.idx 0 + wf next (f :: fr) : Nat) : Int) ≤ _; unfold meas; rw [h2, h3]; omega

theorem step_new {next : List (List Int)} {t : TS} {fr : List (Int × Int)} {s k : Int} (hk : k < ((row next s).length : Int)) (h : at' t.idx (at' (row next s) k) = 0) :
    step next t ((s, k) :: fr) = (enter t (at' (row next s) k), (at' (row next s) k, 0) :: (s, k + 1) :: fr) := by simp only [step, if_pos hk, if_pos h]
theorem step_on {next : List (List Int)} {t : TS} {fr : List (Int × Int)} {s k : Int} (hk : k < ((row next s).length : Int)) (h : at' t.idx (at' (row next s) k) ≠ 0) (ho : onAt t.on (at' (row next s) k) = true) :
    step next t ((s, k) :: fr) = (setLow t s (at' t.idx (at' (row next s) k)), (s, k + 1) :: fr) := by simp only [step, if_pos hk, if_neg h, if_pos ho]
theorem step_off {next : List (List Int)} {t : TS} {fr : List (Int × Int)} {s k : Int} (hk : k < ((row next s).length : Int)) (h : at' t.idx (at' (row next s) k) ≠ 0) (ho : onAt t.on (at' (row next s) k) = false) :
    step next t ((s, k) :: fr) = (t, (s, k + 1) :: fr) := by simp [step, if_pos hk, if_neg h, ho]
def ended (t : TS) (s : Int) : TS := if at' t.low s = at' t.idx s then close t s else t
theorem step_last {next : List (List Int)} {t : TS} {s k : Int} (hk : ¬ k < ((row next s).length : Int)) : step next t [(s, k)] = (ended t s, []) := by simp only [step, if_neg hk, ended]
theorem step_up {next : List (List Int)} {t : TS} {fr : List (Int × Int)} {s k u j : Int} (hk : ¬ k < ((row next s).length : Int)) : step next t ((s, k) :: (u, j) :: fr) = (setLow (ended t s) u (at' (ended t s).low s), (u, j) :: fr) := by simp only [step, if_neg hk, ended]

/-- what grows, grows less than the measure falls -/
structure Bd (t : TS) (m K : Nat) : Prop where
  c0 : 0 ≤ t.cnt
  c1 : t.cnt + (m : Int) ≤ (K : Int)
  o : t.opn.length + m ≤ K
  u : t.out.length + m ≤ K
theorem popR_two {s : Int} (r : List Int) : (popR s r).2.length ≤ r.length := by have := popR_len (s := s) (r := r); omega
theorem ended_le (t : TS) (s : Int) : (ended t s).opn.length ≤ t.opn.length + 1 ∧ (ended t s).out.length ≤ t.out.length + 1 := by
  unfold ended
  split
  · have := popR_two (s := s) t.opn; simp only [close]; constructor
    · omega
    · simp
  · constructor <;> omega
theorem step_le (next : List (List Int)) (t : TS) (fr : List (Int × Int)) (s k : Int) : (step next t ((s, k) :: fr)).1.opn.length ≤ t.opn.length + 1 ∧ (step next t ((s, k) :: fr)).1.out.length ≤ t.out.length + 1 := by
  by_cases hk : k < ((row next s).length : Int)
  · by_cases h : at' t.idx (at' (row next s) k) = 0
    · rw [step_new hk h]; simp [enter]
    · cases ho : onAt t.on (at' (row next s) k) with
      | true => rw [step_on hk h ho]; simp [setLow]
      | false => rw [step_off hk h ho]; simp
  · have he := ended_le t s
    cases fr with
    | nil => rw [step_last hk]; exact he
    | cons f fr => obtain ⟨u, j⟩ := f; rw [step_up hk]; exact he
theorem Bd.step {next : List (List Int)} {t : TS} {fr : List (Int × Int)} {s k : Int} {K : Nat} (h : Ok next t ((s, k) :: fr)) (b : Bd t (meas next t ((s, k) :: fr)) K) :
    Bd (step next t ((s, k) :: fr)).1 (meas next (step next t ((s, k) :: fr)).1 (step next t ((s, k) :: fr)).2) K := by
  obtain ⟨h1, h2, h3, h4⟩ := step_meas h b.c0
  have b1 := b.c1; have b2 := b.o; have b3 := b.u
  have hl := step_le next t fr s k
  exact ⟨h3, by omega, by omega, by omega⟩

theorem loop_nil (next : List (List Int)) (f : Nat) (t : TS) : loop next f t [] = t := by cases f <;> rfl
/-- enough rounds are enough -/
theorem loop_more {next : List (List Int)} : ∀ {f g : Nat} {t : TS} {fr : List (Int × Int)}, Ok next t fr → 0 ≤ t.cnt → meas next t fr ≤ f → meas next t fr ≤ g → loop next f t fr = loop next g t fr
  | f, g, t, [], _, _, _, _ => by rw [loop_nil, loop_nil]
  | 0, _, t, (s, k) :: fr, _, _, hf, _ => by unfold meas at hf; simp only [wf] at hf; omega
  | f + 1, 0, t, (s, k) :: fr, _, _, _, hg => by unfold meas at hg; simp only [wf] at hg; omega
  | f + 1, g + 1, t, (s, k) :: fr, h, hc, hf, hg => by
    obtain ⟨h1, h2, h3, -⟩ := step_meas h hc
    have e := loop_more (f := f) (g := g) h1 h3 (by omega) (by omega)
    exact e
theorem run_step {next : List (List Int)} {t : TS} {fr : List (Int × Int)} {s k : Int} (h : Ok next t ((s, k) :: fr)) (hc : 0 ≤ t.cnt) :
    run next t ((s, k) :: fr) = run next (step next t ((s, k) :: fr)).1 (step next t ((s, k) :: fr)).2 := by
  obtain ⟨h1, h2, h3, -⟩ := step_meas h hc
  unfold run
  obtain ⟨m, hm⟩ : ∃ m, meas next t ((s, k) :: fr) = m + 1 := ⟨meas next t ((s, k) :: fr) - 1, by omega⟩
  rw [hm]
  have e := loop_more (f := m) (g := meas next (step next t ((s, k) :: fr)).1 (step next t ((s, k) :: fr)).2) h1 h3 (by omega) (Nat.le_refl _)
  exact e
theorem run_nil (next : List (List Int)) (t : TS) : run next t [] = t := loop_nil _ _ _

end Go.Proofs.YtoffbdlgmnpblaaGreat.Tar

/- The finder of components in memory: its parts, and how each of them turns alone. -/
namespace Go.Proofs.YtoffbdlgmnpblaaGreat
open Go.RowKit
open Tar (TS)
set_option maxHeartbeats 1000000

def OwnBs (W : World) (B g n : Nat) (d : List Bool) : Prop := W.ownsRow B 4 1 (.slice (some ⟨g, 0, none⟩) n n) n (d.map .bool)

theorem own_kept {W W' : World} {B : Nat} {e : TypeId} {sz : Nat} {v : Value} {n : Nat} {vs : List Value} (h : W.ownsRow B e sz v n vs) (hb : ∀ k, v.ownBlock = some k → W'.heap[k]? = W.heap[k]?) : W'.ownsRow B e sz v n vs := by
  obtain ⟨h1, h2⟩ := h
  refine ⟨h1, ?_⟩
  rcases h2 with h2 | ⟨k, cap, cur, hvk, hbk, hck, h5⟩
  · exact .inl h2
  · exact .inr ⟨k, cap, cur, hvk, hbk, (hb k (by rw [hvk]; rfl)).trans hck, h5⟩

/-- where the parts lie, and what they hold -/
structure Fp where
  n : Nat
  F : Nat
  gi : Nat
  gl : Nat
  gn : Nat
  p : Nat
  nx : Value
  ov : Value
  outv : Value
  ovb : Value
  outb : Value
  ws : List Value
  vs : List Value
  t : TS

def Fp.comp (x : Fp) (B : Nat) (W : World) : Nat → Prop
  | 0 => OwnInts W B x.gi x.n x.t.idx
  | 1 => OwnInts W B x.gl x.n x.t.low
  | 2 => OwnBs W B x.gn x.n x.t.on
  | 3 => B ≤ x.F ∧ W.heap[x.F]? = some (.cells #[x.nx, .slice (some ⟨x.gi, 0, none⟩) x.n x.n, .slice (some ⟨x.gl, 0, none⟩) x.n x.n, x.ovb, .slice (some ⟨x.gn, 0, none⟩) x.n x.n, x.outb] 127 (0, 0))
  | 4 => B ≤ x.p ∧ W.heap[x.p]? = some (.cells #[.int .i64 x.t.cnt] 3 (0, 0))
  | 5 => W.ownsRow B 3 1 x.ov x.t.opn.length (ints x.t.opn.reverse)
  | 6 => W.ownsRow B 31 1 x.outv x.ws.length x.ws
  | r + 7 => ∀ v xs, x.vs[r]? = some v → x.t.out[r]? = some xs → W.ownsRow B 3 1 v xs.length (ints xs)
def Fp.blk (x : Fp) : Nat → Option Nat
  | 0 => some x.gi
  | 1 => some x.gl
  | 2 => some x.gn
  | 3 => some x.F
  | 4 => some x.p
  | 5 => x.ov.ownBlock
  | 6 => x.outv.ownBlock
  | r + 7 => (x.vs[r]?).bind Value.ownBlock
structure FinC (x : Fp) (B : Nat) (W : World) : Prop where
  comps : ∀ j, x.comp B W j
  dis : ∀ (i j k : Nat), i ≠ j → x.blk i = some k → x.blk j ≠ some k
  rl : x.vs.length = x.t.out.length

/-- block k is none of the parts -/
def Off (x : Fp) (k : Nat) : Prop := ∀ j, x.blk j ≠ some k

section
variable {x x' : Fp} {B : Nat} {W W' : World}
theorem comp_kept {j : Nat} (h : x.comp B W j) (hb : ∀ k, x.blk j = some k → W'.heap[k]? = W.heap[k]?) : x.comp B W' j := by
  match j, h, hb with
  | 0, h, hb => exact own_kept h hb
  | 1, h, hb => exact own_kept h hb
  | 2, h, hb => exact own_kept h hb
  | 3, h, hb => exact ⟨h.1, (hb _ rfl).trans h.2⟩
  | 4, h, hb => exact ⟨h.1, (hb _ rfl).trans h.2⟩
  | 5, h, hb => exact own_kept h hb
  | 6, h, hb => exact own_kept h hb
  | r + 7, h, hb => exact fun v xs hv hx => own_kept (h v xs hv hx) fun k hk => hb k (by simp [Fp.blk, hv, hk])
theorem FinC.lt (h : FinC x B W) {j k : Nat} (hk : x.blk j = some k) : B ≤ k ∧ k < W.heap.size := by
  have hc := h.comps j
  match j, hc, hk with
  | 0, hc, hk => cases hk; exact hc.lt
  | 1, hc, hk => cases hk; exact hc.lt
  | 2, hc, hk => cases hk; exact World.ownsRow.lt hc _ rfl
  | 3, hc, hk => cases hk; exact ⟨hc.1, (Array.getElem?_eq_some_iff.1 hc.2).1⟩
  | 4, hc, hk => cases hk; exact ⟨hc.1, (Array.getElem?_eq_some_iff.1 hc.2).1⟩
  | 5, hc, hk => exact World.ownsRow.lt hc _ hk
  | 6, hc, hk => exact World.ownsRow.lt hc _ hk
  | r + 7, hc, hk =>
    simp only [Fp.blk, Option.bind_eq_some_iff] at hk
    obtain ⟨v, hv, hk⟩ := hk
    have hr : r < x.t.out.length := by have := (List.getElem?_eq_some_iff.1 hv).1; have := h.rl; omega
    exact World.ownsRow.lt (hc v _ hv (List.getElem?_eq_getElem hr)) _ hk
theorem FinC.kept (h : FinC x B W) (hb : ∀ k, (∃ j, x.blk j = some k) → W'.heap[k]? = W.heap[k]?) : FinC x B W' :=
  ⟨fun j => comp_kept (h.comps j) fun k hk => hb k ⟨j, hk⟩, h.dis, h.rl⟩
theorem FinC.below (h : FinC x B W) (hb : Below W.heap.size W W') : FinC x B W' := h.kept fun k ⟨_, hk⟩ => hb.block k (h.lt hk).2
/-- one part has turned -/
theorem FinC.upd' (h : FinC x B W) (i : Nat) (hs : ∀ j, j ≠ i → (∀ W, x.comp B W j → x'.comp B W j) ∧ x'.blk j = x.blk j) (hi : x'.comp B W' i) (hg : W.grownBy W' (x.blk i)) (ha : ∀ k, x'.blk i = some k → x.blk i = some k ∨ W.heap.size ≤ k ∨ Off x k) (hrl : x'.vs.length = x'.t.out.length) : FinC x' B W' := by
  have hk2 : ∀ j k, j ≠ i → x.blk j = some k → W'.heap[k]? = W.heap[k]? := fun j k hj hk => hg.block k (h.lt hk).2 fun e => h.dis j i k hj hk e.symm
  have hmix : ∀ j k, j ≠ i → x'.blk j = some k → x'.blk i ≠ some k := by
    intro j k hj hk e
    rw [(hs j hj).2] at hk
    rcases ha k e with ha | ha | ha
    · exact h.dis j i k hj hk ha
    · have := (h.lt hk).2; omega
    · exact ha j hk
  refine ⟨fun j => ?_, fun a b k hab hk e => ?_, hrl⟩
  · by_cases hj : j = i
    · subst hj; exact hi
    · exact (hs j hj).1 _ (comp_kept (h.comps j) fun k hk => hk2 j k hj hk)
  · by_cases h1 : a = i
    · subst h1
      exact hmix b k (fun e => hab e.symm) e hk
    · by_cases h2 : b = i
      · subst h2
        exact hmix a k h1 hk e
      · rw [(hs a h1).2] at hk
        rw [(hs b h2).2] at e
        exact h.dis a b k hab hk e
theorem FinC.upd (h : FinC x B W) (i : Nat) (hs : ∀ j, j ≠ i → (∀ W, x.comp B W j → x'.comp B W j) ∧ x'.blk j = x.blk j) (hi : x'.comp B W' i) (hg : W.grownBy W' (x.blk i)) (ha : x'.blk i = x.blk i ∨ ∀ k, x'.blk i = some k → W.heap.size ≤ k) (hrl : x'.vs.length = x'.t.out.length) : FinC x' B W' :=
  h.upd' i hs hi hg (fun k hk => by
    rcases ha with ha | ha
    · exact .inl (ha ▸ hk)
    · exact .inr (.inl (ha k hk))) hrl

/-- the parts turn, nothing else -/
structure Evo (x : Fp) (W : World) (x' : Fp) (W' : World) : Prop where
  os : W'.os = W.os
  tape : W'.tape = W.tape
  output : W'.output = W.output
  size : W.heap.size ≤ W'.heap.size
  block : ∀ k, k < W.heap.size → Off x k → W'.heap[k]? = W.heap[k]?
  blks : ∀ j k, x'.blk j = some k → (∃ i, x.blk i = some k) ∨ W.heap.size ≤ k
theorem Evo.refl (x : Fp) (W : World) : Evo x W x W := ⟨rfl, rfl, rfl, Nat.le_refl _, fun _ _ _ => rfl, fun j _ h => .inl ⟨j, h⟩⟩
theorem Evo.off {k : Nat} (h : Evo x W x' W') (hk : Off x k) (hlt : k < W.heap.size) : Off x' k := fun j e => by
  rcases h.blks j k e with ⟨i, hi⟩ | h1
  · exact hk i hi
  · omega
theorem Evo.trans {x'' : Fp} {W'' : World} (h : Evo x W x' W') (k : Evo x' W' x'' W'') : Evo x W x'' W'' := by
  refine ⟨k.os.trans h.os, k.tape.trans h.tape, k.output.trans h.output, Nat.le_trans h.size k.size, fun b hb ho => (k.block b (Nat.lt_of_lt_of_le hb h.size) (h.off ho hb)).trans (h.block b hb ho), fun j b hj => ?_⟩
  rcases k.blks j b hj with ⟨i, hi⟩ | h1
  · exact h.blks i b hi
  · exact .inr (Nat.le_trans h.size h1)
theorem Evo.of_below (x : Fp) (hb : Below W.heap.size W W') : Evo x W x W' := ⟨hb.os, hb.tape, hb.output, hb.size, fun k hk _ => hb.block k hk, fun j _ h => .inl ⟨j, h⟩⟩
theorem Evo.of_grown (i : Nat) (hs : ∀ j, j ≠ i → x'.blk j = x.blk j) (hg : W.grownBy W' (x.blk i)) (ha : x'.blk i = x.blk i ∨ ∀ k, x'.blk i = some k → W.heap.size ≤ k) : Evo x W x' W' := by
  refine ⟨hg.os, hg.tape, hg.output, hg.size, fun k hk ho => hg.block k hk fun e => ho i e.symm, fun j k hj => ?_⟩
  by_cases e : j = i
  · subst e
    rcases ha with ha | ha
    · exact .inl ⟨j, by rw [← ha]; exact hj⟩
    · exact .inr (ha k hj)
  · exact .inl ⟨j, by rw [← hs j e]; exact hj⟩
theorem grown_set (W : World) (b i : Nat) (u : Value) : W.grownBy (W.setCell ⟨b, i, none⟩ u) (some b) :=
  ⟨rfl, rfl, rfl, by simp [World.setCell], fun k _ hne => Below.heap_setCell W ⟨b, i, none⟩ u k fun e => hne (by rw [e])⟩
end

/-! ### each part -/
section
variable {x : Fp} {B : Nat} {W : World}
theorem FinC.setIdx (h : FinC x B W) {s : Int} (h0 : 0 ≤ s) (h1 : s < (x.n : Int)) (y : Int) :
    FinC { x with t := { x.t with idx := x.t.idx.set s.toNat y } } B (W.setCell ⟨x.gi, s.toNat, none⟩ (.int .i64 y)) ∧ Evo x W { x with t := { x.t with idx := x.t.idx.set s.toNat y } } (W.setCell ⟨x.gi, s.toNat, none⟩ (.int .i64 y)) := by
  refine ⟨h.upd 0 (fun j hj => ?_) (OwnInts.set (h.comps 0) (by omega) y) (grown_set W x.gi _ _) (.inl rfl) h.rl, Evo.of_grown 0 (fun j hj => ?_) (grown_set W x.gi _ _) (.inl rfl)⟩
  · match j, hj with
    | 1, _ | 2, _ | 3, _ | 4, _ | 5, _ | 6, _ => exact ⟨fun _ h => h, rfl⟩
    | r + 7, _ => exact ⟨fun _ h => h, rfl⟩
  · match j, hj with
    | 1, _ | 2, _ | 3, _ | 4, _ | 5, _ | 6, _ => rfl
    | r + 7, _ => rfl
theorem FinC.setLow (h : FinC x B W) {s : Int} (h0 : 0 ≤ s) (h1 : s < (x.n : Int)) (y : Int) :
    FinC { x with t := { x.t with low := x.t.low.set s.toNat y } } B (W.setCell ⟨x.gl, s.toNat, none⟩ (.int .i64 y)) ∧ Evo x W { x with t := { x.t with low := x.t.low.set s.toNat y } } (W.setCell ⟨x.gl, s.toNat, none⟩ (.int .i64 y)) := by
  refine ⟨h.upd 1 (fun j hj => ?_) (OwnInts.set (h.comps 1) (by omega) y) (grown_set W x.gl _ _) (.inl rfl) h.rl, Evo.of_grown 1 (fun j hj => ?_) (grown_set W x.gl _ _) (.inl rfl)⟩
  · match j, hj with
    | 0, _ | 2, _ | 3, _ | 4, _ | 5, _ | 6, _ => exact ⟨fun _ h => h, rfl⟩
    | r + 7, _ => exact ⟨fun _ h => h, rfl⟩
  · match j, hj with
    | 0, _ | 2, _ | 3, _ | 4, _ | 5, _ | 6, _ => rfl
    | r + 7, _ => rfl
theorem OwnBs.set {W : World} {B g n : Nat} {d : List Bool} (h : OwnBs W B g n d) {i : Nat} (hi : i < n) (y : Bool) : OwnBs (W.setCell ⟨g, i, none⟩ (.bool y)) B g n (d.set i y) := by
  have := own_set h i hi (.bool y)
  rw [show (d.map Value.bool).set i (.bool y) = (d.set i y).map .bool by simp [List.map_set]] at this
  exact this
theorem FinC.setOn (h : FinC x B W) {s : Int} (h0 : 0 ≤ s) (h1 : s < (x.n : Int)) (y : Bool) :
    FinC { x with t := { x.t with on := x.t.on.set s.toNat y } } B (W.setCell ⟨x.gn, s.toNat, none⟩ (.bool y)) ∧ Evo x W { x with t := { x.t with on := x.t.on.set s.toNat y } } (W.setCell ⟨x.gn, s.toNat, none⟩ (.bool y)) := by
  refine ⟨h.upd 2 (fun j hj => ?_) (OwnBs.set (h.comps 2) (by omega) y) (grown_set W x.gn _ _) (.inl rfl) h.rl, Evo.of_grown 2 (fun j hj => ?_) (grown_set W x.gn _ _) (.inl rfl)⟩
  · match j, hj with
    | 0, _ | 1, _ | 3, _ | 4, _ | 5, _ | 6, _ => exact ⟨fun _ h => h, rfl⟩
    | r + 7, _ => exact ⟨fun _ h => h, rfl⟩
  · match j, hj with
    | 0, _ | 1, _ | 3, _ | 4, _ | 5, _ | 6, _ => rfl
    | r + 7, _ => rfl
theorem FinC.setCnt (h : FinC x B W) (y : Int) :
    FinC { x with t := { x.t with cnt := y } } B (W.setCell ⟨x.p, 0, none⟩ (.int .i64 y)) ∧ Evo x W { x with t := { x.t with cnt := y } } (W.setCell ⟨x.p, 0, none⟩ (.int .i64 y)) := by
  have hc : B ≤ x.p ∧ W.heap[x.p]? = some (.cells #[.int .i64 x.t.cnt] 3 (0, 0)) := h.comps 4
  refine ⟨h.upd 4 (fun j hj => ?_) ⟨hc.1, by simp [World.setCell, Array.getElem?_modify, hc.2]⟩ (grown_set W x.p _ _) (.inl rfl) h.rl, Evo.of_grown 4 (fun j hj => ?_) (grown_set W x.p _ _) (.inl rfl)⟩
  · match j, hj with
    | 0, _ | 1, _ | 2, _ | 3, _ | 5, _ | 6, _ => exact ⟨fun _ h => h, rfl⟩
    | r + 7, _ => exact ⟨fun _ h => h, rfl⟩
  · match j, hj with
    | 0, _ | 1, _ | 2, _ | 3, _ | 5, _ | 6, _ => rfl
    | r + 7, _ => rfl
/-- the field 'open' -/
theorem FinC.boxOpn (h : FinC x B W) (u : Value) :
    FinC { x with ovb := u } B (W.setCell ⟨x.F, 3, none⟩ u) ∧ Evo x W { x with ovb := u } (W.setCell ⟨x.F, 3, none⟩ u) := by
  have hc := h.comps 3
  refine ⟨h.upd 3 (fun j hj => ?_) ⟨hc.1, by simp [World.setCell, Array.getElem?_modify, hc.2]⟩ (grown_set W x.F _ _) (.inl rfl) h.rl, Evo.of_grown 3 (fun j hj => ?_) (grown_set W x.F _ _) (.inl rfl)⟩
  · match j, hj with
    | 0, _ | 1, _ | 2, _ | 4, _ | 5, _ | 6, _ => exact ⟨fun _ h => h, rfl⟩
    | r + 7, _ => exact ⟨fun _ h => h, rfl⟩
  · match j, hj with
    | 0, _ | 1, _ | 2, _ | 4, _ | 5, _ | 6, _ => rfl
    | r + 7, _ => rfl
theorem FinC.boxOut (h : FinC x B W) (u : Value) :
    FinC { x with outb := u } B (W.setCell ⟨x.F, 5, none⟩ u) ∧ Evo x W { x with outb := u } (W.setCell ⟨x.F, 5, none⟩ u) := by
  have hc := h.comps 3
  refine ⟨h.upd 3 (fun j hj => ?_) ⟨hc.1, by simp [World.setCell, Array.getElem?_modify, hc.2]⟩ (grown_set W x.F _ _) (.inl rfl) h.rl, Evo.of_grown 3 (fun j hj => ?_) (grown_set W x.F _ _) (.inl rfl)⟩
  · match j, hj with
    | 0, _ | 1, _ | 2, _ | 4, _ | 5, _ | 6, _ => exact ⟨fun _ h => h, rfl⟩
    | r + 7, _ => exact ⟨fun _ h => h, rfl⟩
  · match j, hj with
    | 0, _ | 1, _ | 2, _ | 4, _ | 5, _ | 6, _ => rfl
    | r + 7, _ => rfl
/-- the open states -/
theorem FinC.newOpn (h : FinC x B W) {W' : World} {ov' : Value} {o : List Int} (hr : W'.ownsRow B 3 1 ov' o.length (ints o.reverse)) (hg : W.grownBy W' x.ov.ownBlock) (ha : ov'.ownBlock = x.ov.ownBlock ∨ ∀ k, ov'.ownBlock = some k → W.heap.size ≤ k) :
    FinC { x with ov := ov', t := { x.t with opn := o } } B W' ∧ Evo x W { x with ov := ov', t := { x.t with opn := o } } W' := by
  refine ⟨h.upd 5 (fun j hj => ?_) hr hg ha h.rl, Evo.of_grown 5 (fun j hj => ?_) hg ha⟩
  · match j, hj with
    | 0, _ | 1, _ | 2, _ | 3, _ | 4, _ | 6, _ => exact ⟨fun _ h => h, rfl⟩
    | r + 7, _ => exact ⟨fun _ h => h, rfl⟩
  · match j, hj with
    | 0, _ | 1, _ | 2, _ | 3, _ | 4, _ | 6, _ => rfl
    | r + 7, _ => rfl
/-- the components' slices -/
theorem FinC.newOut (h : FinC x B W) {W' : World} {v' : Value} {ws' : List Value} (hr : W'.ownsRow B 31 1 v' ws'.length ws') (hg : W.grownBy W' x.outv.ownBlock) (ha : v'.ownBlock = x.outv.ownBlock ∨ ∀ k, v'.ownBlock = some k → W.heap.size ≤ k) :
    FinC { x with outv := v', ws := ws' } B W' ∧ Evo x W { x with outv := v', ws := ws' } W' := by
  refine ⟨h.upd 6 (fun j hj => ?_) hr hg ha h.rl, Evo.of_grown 6 (fun j hj => ?_) hg ha⟩
  · match j, hj with
    | 0, _ | 1, _ | 2, _ | 3, _ | 4, _ | 5, _ => exact ⟨fun _ h => h, rfl⟩
    | r + 7, _ => exact ⟨fun _ h => h, rfl⟩
  · match j, hj with
    | 0, _ | 1, _ | 2, _ | 3, _ | 4, _ | 5, _ => rfl
    | r + 7, _ => rfl
/-- one more component -/
theorem FinC.addRow (h : FinC x B W) {v : Value} {p : List Int} (hr : W.ownsRow B 3 1 v p.length (ints p)) (ho : ∀ k, v.ownBlock = some k → Off x k) :
    FinC { x with vs := x.vs ++ [v], t := { x.t with out := x.t.out ++ [p] } } B W := by
  have hrl := h.rl
  refine h.upd' (x.vs.length + 7) (fun j hj => ?_) ?_ (World.grownBy.refl _ _) (fun k hk => .inr (.inr (ho k ?_))) (by simp [hrl])
  · match j, hj with
    | 0, _ | 1, _ | 2, _ | 3, _ | 4, _ | 5, _ | 6, _ => exact ⟨fun _ h => h, rfl⟩
    | r + 7, hj =>
      have hne : r ≠ x.vs.length := fun e => hj (by rw [e])
      refine ⟨fun W hc u ys hu hy => ?_, ?_⟩
      · rcases Nat.lt_or_ge r x.vs.length with hlt | hge
        · rw [List.getElem?_append_left hlt] at hu
          rw [List.getElem?_append_left (by omega)] at hy
          exact hc u ys hu hy
        · rw [List.getElem?_eq_none (by simp; omega)] at hu; cases hu
      · show ((x.vs ++ [v])[r]?).bind Value.ownBlock = (x.vs[r]?).bind Value.ownBlock
        rcases Nat.lt_or_ge r x.vs.length with hlt | hge
        · rw [List.getElem?_append_left hlt]
        · rw [List.getElem?_eq_none (by simp; omega), List.getElem?_eq_none (by omega)]
  · intro u ys hu hy
    simp at hu
    rw [hrl] at hy
    simp at hy
    subst hu; subst hy
    exact hr
  · simpa [Fp.blk] using hk
/-- cells that are read -/
theorem FinC.box (h : FinC x B W) : (W.cell? ⟨x.F, 0, none⟩ = some x.nx ∧ W.cell? ⟨x.F, 1, none⟩ = some (.slice (some ⟨x.gi, 0, none⟩) x.n x.n) ∧ W.cell? ⟨x.F, 2, none⟩ = some (.slice (some ⟨x.gl, 0, none⟩) x.n x.n) ∧ W.cell? ⟨x.F, 3, none⟩ = some x.ovb ∧ W.cell? ⟨x.F, 4, none⟩ = some (.slice (some ⟨x.gn, 0, none⟩) x.n x.n) ∧ W.cell? ⟨x.F, 5, none⟩ = some x.outb) ∧ ∀ i, W.frozen? ⟨x.F, i, none⟩ = false := by
  have hc := (h.comps 3).2
  refine ⟨⟨?_, ?_, ?_, ?_, ?_, ?_⟩, fun i => ?_⟩ <;> simp [World.cell?, World.frozen?, hc]
theorem FinC.cnt (h : FinC x B W) : W.cell? ⟨x.p, 0, none⟩ = some (.int .i64 x.t.cnt) ∧ W.frozen? ⟨x.p, 0, none⟩ = false := by
  have hc := (h.comps 4).2
  constructor <;> simp [World.cell?, World.frozen?, hc]
theorem FinC.idx (h : FinC x B W) {s : Int} (h0 : 0 ≤ s) (h1 : s < (x.n : Int)) : W.cell? ⟨x.gi, s.toNat, none⟩ = some (.int .i64 (Bfs.at' x.t.idx s)) ∧ W.frozen? ⟨x.gi, s.toNat, none⟩ = false := OwnInts.cellAt (h.comps 0) h0 h1
theorem FinC.low (h : FinC x B W) {s : Int} (h0 : 0 ≤ s) (h1 : s < (x.n : Int)) : W.cell? ⟨x.gl, s.toNat, none⟩ = some (.int .i64 (Bfs.at' x.t.low s)) ∧ W.frozen? ⟨x.gl, s.toNat, none⟩ = false := OwnInts.cellAt (h.comps 1) h0 h1
theorem FinC.on (h : FinC x B W) {s : Int} (h0 : 0 ≤ s) (h1 : s < (x.n : Int)) : W.cell? ⟨x.gn, s.toNat, none⟩ = some (.bool (Tar.onAt x.t.on s)) ∧ W.frozen? ⟨x.gn, s.toNat, none⟩ = false := by
  have hc : OwnBs W B x.gn x.n x.t.on := h.comps 2
  have hl : x.t.on.length = x.n := by have := hc.1; simpa using this
  refine own_cell hc s.toNat _ ?_
  have : s.toNat < x.t.on.length := by omega
  unfold Tar.onAt
  simp [List.getD_eq_getElem?_getD, this]
end

section
variable {x x' : Fp} {B : Nat} {W W' : World}
theorem Evo.cell (h : Evo x W x' W') {k : Nat} (hk : Off x k) (hlt : k < W.heap.size) (o : Nat) : W'.cell? ⟨k, o, none⟩ = W.cell? ⟨k, o, none⟩ := World.cell?_of_block (w := W) (a := ⟨k, o, none⟩) (h.block k hlt hk)
theorem Evo.frozen (h : Evo x W x' W') {k : Nat} (hk : Off x k) (hlt : k < W.heap.size) (o : Nat) : W'.frozen? ⟨k, o, none⟩ = W.frozen? ⟨k, o, none⟩ := World.frozen?_of_block (w := W) (a := ⟨k, o, none⟩) (h.block k hlt hk)
theorem FinC.drew (h : FinC x B W) : FinC x B W.drew := h.kept fun _ _ => rfl
theorem Evo.drew (h : Evo x W x' W') : Evo x W x' W'.drew := ⟨h.os, h.tape, h.output, h.size, h.block, h.blks⟩
end

end Go.Proofs.YtoffbdlgmnpblaaGreat
