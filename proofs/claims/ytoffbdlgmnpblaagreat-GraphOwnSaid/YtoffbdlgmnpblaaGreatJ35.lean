/- Part 35 of 55: Tar2. -/
import Derived.Test.YtoffbdlgmnpblaaGreatJ27

/- Plain laws: what stays so through the whole search for components. -/
namespace Go.Proofs.YtoffbdlgmnpblaaGreat.Tar
open Bfs (at' row)

theorem run_inv {next : List (List Int)} {P : TS → List (Int × Int) → Prop} (hstep : ∀ t s k fr, Ok next t ((s, k) :: fr) → 0 ≤ t.cnt → P t ((s, k) :: fr) → P (step next t ((s, k) :: fr)).1 (step next t ((s, k) :: fr)).2) :
    ∀ (f : Nat) (t : TS) (fr : List (Int × Int)), meas next t fr ≤ f → Ok next t fr → 0 ≤ t.cnt → P t fr → Ok next (run next t fr) [] ∧ 0 ≤ (run next t fr).cnt ∧ P (run next t fr) [] := by
  intro f
  induction f with
  | zero =>
    intro t fr hf ho hc h
    cases fr with
    | nil => rw [run_nil]; exact ⟨ho, hc, h⟩
    | cons a fr => obtain ⟨s, k⟩ := a; unfold meas at hf; simp only [wf] at hf; omega
  | succ f ih =>
    intro t fr hf ho hc h
    cases fr with
    | nil => rw [run_nil]; exact ⟨ho, hc, h⟩
    | cons a fr =>
      obtain ⟨s, k⟩ := a
      obtain ⟨h1, h2, h3, -⟩ := step_meas ho hc
      rw [run_step ho hc]
      exact ih _ _ (by omega) h1 h3 (hstep t s k fr ho hc h)

/-- the components that are found -/
def OutOk (n : Nat) (t : TS) : Prop := ∀ l ∈ t.out, l ≠ [] ∧ ∀ x ∈ l, 0 ≤ x ∧ x < (n : Int)
theorem mem_isort' {l : List Int} {x : Int} : x ∈ isort l ↔ x ∈ l := List.mem_mergeSort
theorem popR_has {s : Int} : ∀ {r : List Int}, s ∈ r → s ∈ (popR s r).1
  | [], h => by cases h
  | t :: r, h => by
    unfold popR
    by_cases e : t = s
    · rw [if_pos e, e]; simp
    · rw [if_neg e]
      rcases List.mem_cons.1 h with h | h
      · exact absurd h.symm e
      · exact List.mem_cons_of_mem _ (popR_has h)
theorem close_out {next : List (List Int)} {t : TS} {fr : List (Int × Int)} {s k : Int} (h : Ok next t ((s, k) :: fr)) (ho : OutOk next.length t) : OutOk next.length (close t s) := by
  intro l hl
  rcases List.mem_append.1 hl with hl | hl
  · exact ho l hl
  · have : l = isort (popR s t.opn).1 := by simpa using hl
    subst this
    have hs : s ∈ t.opn := (popR_sub h.sub).2
    refine ⟨fun e => ?_, fun x hx => h.op x (popR_mem.1 x (mem_isort'.1 hx))⟩
    have : s ∈ isort (popR s t.opn).1 := mem_isort'.2 (popR_has hs)
    rw [e] at this; cases this
theorem step_out {next : List (List Int)} {t : TS} {fr : List (Int × Int)} {s k : Int} (h : Ok next t ((s, k) :: fr)) (ho : OutOk next.length t) : OutOk next.length (step next t ((s, k) :: fr)).1 := by
  have he : OutOk next.length (ended t s) := by
    unfold ended
    split
    · exact close_out h ho
    · exact ho
  by_cases hk : k < ((row next s).length : Int)
  · by_cases h0 : at' t.idx (at' (row next s) k) = 0
    · rw [step_new hk h0]; exact ho
    · cases hn : onAt t.on (at' (row next s) k) with
      | true => rw [step_on hk h0 hn]; exact ho
      | false => rw [step_off hk h0 hn]; exact ho
  · cases fr with
    | nil => rw [step_last hk]; exact he
    | cons f fr => obtain ⟨u, j⟩ := f; rw [step_up hk]; exact he

theorem meas_nil (next : List (List Int)) (t : TS) : meas next t [] = wt next t.idx 0 := rfl
theorem meas_enter {next : List (List Int)} {t : TS} (h : Ok next t []) (hc : 0 ≤ t.cnt) {s : Int} (hs : 0 ≤ s ∧ s < (next.length : Int)) (h0 : at' t.idx s = 0) : meas next (enter t s) [(s, 0)] + 1 = meas next t [] := by
  have hg := Bfs.at_get (d := t.idx) hs.1 (by rw [h.li]; exact hs.2)
  have hw := wt_set next t.idx 0 _ _ (t.cnt + 1) hg h0 (by omega)
  rw [Nat.zero_add] at hw
  have e2 : (row next s).length = (next.getD s.toNat []).length := rfl
  have e1 : wf next [(s, 0)] = (row next s).length + 1 := by simp [wf]
  unfold meas
  rw [e1]
  simp only [enter, wf]
  omega
theorem Bd.enter {next : List (List Int)} {t : TS} {K : Nat} (h : Ok next t []) (b : Bd t (meas next t []) K) {s : Int} (hs : 0 ≤ s ∧ s < (next.length : Int)) (h0 : at' t.idx s = 0) : Bd (enter t s) (meas next (enter t s) [(s, 0)]) K := by
  have hm := meas_enter h b.c0 hs h0
  have b0 := b.c0; have b1 := b.c1; have b2 := b.o; have b3 := b.u
  refine ⟨?_, ?_, ?_, ?_⟩
  · simp only [Tar.enter]; omega
  · simp only [Tar.enter] at hm ⊢; omega
  · simp only [Tar.enter, List.length_cons] at hm ⊢; omega
  · simp only [Tar.enter] at hm ⊢; omega
/-- what is known between two searches -/
structure Rest (next : List (List Int)) (K : Nat) (t : TS) : Prop where
  ok : Ok next t []
  bd : Bd t (meas next t []) K
  out : OutOk next.length t
theorem Rest.visit {next : List (List Int)} {K : Nat} {t : TS} (h : Rest next K t) {s : Int} (hs : 0 ≤ s ∧ s < (next.length : Int)) (h0 : at' t.idx s = 0) : Rest next K (visit next t s) := by
  have hb := Bd.enter h.ok h.bd hs h0
  obtain ⟨h1, h2, h3, h4⟩ := run_inv (P := fun t fr => Bd t (meas next t fr) K ∧ OutOk next.length t) (fun t s k fr ho _ h => ⟨Bd.step ho h.1, step_out ho h.2⟩) _ _ _ (Nat.le_refl _) (h.ok.enter hs) hb.c0 ⟨hb, h.out⟩
  exact ⟨h1, h3, h4⟩
theorem start_ok {next : List (List Int)} (hin : ∀ x, 0 ≤ x → x < (next.length : Int) → ∀ y ∈ row next x, 0 ≤ y ∧ y < (next.length : Int)) : Ok next (start next.length) [] :=
  ⟨by simp [start], by simp [start], by simp [start], fun f hf => (List.not_mem_nil hf).elim, List.Sublist.refl _, fun s hs => (List.not_mem_nil hs).elim, hin⟩
theorem wt_le (next : List (List Int)) (b : Nat) (hb : ∀ xs ∈ next, xs.length ≤ b) : ∀ (l : List Int) (j : Nat), wt next l j ≤ l.length * (b + 2)
  | [], _ => by simp [wt]
  | x :: l, j => by
    have ih := wt_le next b hb l (j + 1)
    have h1 : (next.getD j []).length ≤ b := by
      rw [List.getD_eq_getElem?_getD]
      cases hh : next[j]? with
      | none => simp
      | some y => exact hb y (List.mem_of_getElem? hh)
    simp only [wt, List.length_cons]
    rw [Nat.add_mul, Nat.one_mul]
    split
    · omega
    · omega
theorem start_rest {next : List (List Int)} {b : Nat} (hb : ∀ xs ∈ next, xs.length ≤ b) (hin : ∀ x, 0 ≤ x → x < (next.length : Int) → ∀ y ∈ row next x, 0 ≤ y ∧ y < (next.length : Int)) : Rest next (next.length * (b + 2)) (start next.length) := by
  have hw := wt_le next b hb (start next.length).idx 0
  have hl : (start next.length).idx.length = next.length := by simp [start]
  rw [hl] at hw
  refine ⟨start_ok hin, ⟨Int.le_refl _, ?_, ?_, ?_⟩, fun l hl => (List.not_mem_nil hl).elim⟩
  · rw [meas_nil]; simp only [start] at hw ⊢; omega
  · rw [meas_nil]; simp only [start, List.length_nil] at hw ⊢; omega
  · rw [meas_nil]; simp only [start, List.length_nil] at hw ⊢; omega
theorem upTo_rest {next : List (List Int)} {b : Nat} (hb : ∀ xs ∈ next, xs.length ≤ b) (hin : ∀ x, 0 ≤ x → x < (next.length : Int) → ∀ y ∈ row next x, 0 ≤ y ∧ y < (next.length : Int)) : ∀ j, j ≤ next.length → Rest next (next.length * (b + 2)) (upTo next j)
  | 0, _ => start_rest hb hin
  | j + 1, hj => by
    have ih := upTo_rest hb hin j (by omega)
    unfold upTo
    split
    · rename_i h; exact ih.visit ⟨by omega, by omega⟩ h
    · exact ih
theorem upTo_succ (next : List (List Int)) (j : Nat) : upTo next (j + 1) = if at' (upTo next j).idx j = 0 then visit next (upTo next j) j else upTo next j := rfl

end Go.Proofs.YtoffbdlgmnpblaaGreat.Tar
