/- Part 23: Enp Ens En6. -/
import Derived.Test.YtoffbdlgmnpblaaGreatJ17
import Derived.Test.YtoffbdlgmnpblaaGreatJ14
import Derived.Test.YtoffbdlgmnpblaaGreatJ22

/- Plain laws: the search for the maximal end components in a set, as the program does it: with a stack. -/
namespace Go.Proofs.YtoffbdlgmnpblaaGreat.Enp
open Bfs (at' row)

theorem len_of_nodup : ∀ (a b : List Int), a.Nodup → (∀ x ∈ a, x ∈ b) → a.length ≤ b.length
  | [], _, _, _ => Nat.zero_le _
  | x :: a, b, h, hs => by
    obtain ⟨h1, h2⟩ := List.nodup_cons.1 h
    have hx := hs x (List.mem_cons_self ..)
    have ih := len_of_nodup a (b.erase x) h2 fun y hy => (List.mem_erase_of_ne (fun e => by subst e; exact h1 hy)).2 (hs y (List.mem_cons_of_mem _ hy))
    rw [List.length_erase_of_mem hx] at ih
    have := List.length_pos_of_mem hx
    simp; omega

/-- row s of what is laid -/
theorem push_row : ∀ (ps : List (Int × Int)) (o : List (List Int)) (s : Nat), s < o.length → (ps.foldl (fun o p => Bfs.push o p.1 p.2) o).getD s [] = o.getD s [] ++ (ps.filter fun p => p.2.toNat == s).map (·.1)
  | [], o, s, _ => by simp
  | p :: ps, o, s, h => by
    have hl : (Bfs.push o p.1 p.2).length = o.length := by simp [Bfs.push]
    rw [List.foldl_cons, push_row ps _ s (by rw [hl]; exact h)]
    by_cases e : p.2.toNat = s
    · have h1 : (Bfs.push o p.1 p.2).getD s [] = o.getD s [] ++ [p.1] := by
        unfold Bfs.push
        rw [e, List.getD_eq_getElem?_getD, List.getElem?_set_self h]; rfl
      rw [h1, List.filter_cons_of_pos (by simpa using e), List.map_cons, List.append_assoc]; rfl
    · have h1 : (Bfs.push o p.1 p.2).getD s [] = o.getD s [] := by
        unfold Bfs.push
        rw [List.getD_eq_getElem?_getD, List.getElem?_set_ne e, ← List.getD_eq_getElem?_getD]
      rw [h1, List.filter_cons_of_neg (by simpa using e)]
theorem push_len : ∀ (ps : List (Int × Int)) (o : List (List Int)), (ps.foldl (fun o p => Bfs.push o p.1 p.2) o).length = o.length
  | [], _ => rfl
  | p :: ps, o => by rw [List.foldl_cons, push_len ps]; simp [Bfs.push]

/-- components of edges that run in a set -/
theorem comp_in {next : List (List Int)} {out : List (List Int)} (h : Tar.Comps next out) {l : List Int} (hin : ∀ x y, y ∈ row next x → y ∈ l) {p : List Int} (hp : p ∈ out) (h0 : l.contains (p.getD 0 0) = true) : ∀ x ∈ p, x ∈ l := fun x hx => by
  have hg : p.getD 0 0 ∈ p := by
    cases p with
    | nil => exact ((h.some' _ hp) rfl).elim
    | cons a p => exact List.mem_cons_self ..
  have hr := ((h.same p hp _ hg x).1 hx).1
  cases hr with
  | refl => simpa using h0
  | step _ hz => exact hin _ _ hz

/-- the components that lie in the set -/
def inSet (l : List Int) (out : List (List Int)) : List (List Int) := out.filter fun p => l.contains (p.getD 0 0)
theorem inSet_nodup {next : List (List Int)} {out : List (List Int)} (h : Tar.Comps next out) (l : List Int) : (inSet l out).flatten.Nodup := by
  obtain ⟨h1, h2⟩ := List.pairwise_flatten.1 h.nodup
  exact List.pairwise_flatten.2 ⟨fun p hp => h1 p (List.mem_filter.1 hp).1, h2.sublist List.filter_sublist⟩
theorem inSet_sub {next : List (List Int)} {out : List (List Int)} (h : Tar.Comps next out) {l : List Int} (hin : ∀ x y, y ∈ row next x → y ∈ l) : ∀ p ∈ inSet l out, ∀ x ∈ p, x ∈ l := fun p hp => by
  obtain ⟨h1, h2⟩ := List.mem_filter.1 hp
  exact comp_in h hin h1 h2
theorem inSet_len {next : List (List Int)} {out : List (List Int)} (h : Tar.Comps next out) {l : List Int} (hin : ∀ x y, y ∈ row next x → y ∈ l) : (inSet l out).flatten.length ≤ l.length :=
  len_of_nodup _ _ (inSet_nodup h l) fun x hx => by
    obtain ⟨p, hp, hx⟩ := List.mem_flatten.1 hx
    exact inSet_sub h hin p hp x hx
theorem Comps.perm {next : List (List Int)} {out out' : List (List Int)} (h : Tar.Comps next out) (hp : out'.Perm out) : Tar.Comps next out' :=
  ⟨(hp.flatten.nodup_iff).2 h.nodup, fun x => by rw [← h.all x]; simp only [hp.mem_iff], fun l hl => h.same l (hp.mem_iff.1 hl), fun l hl => h.some' l (hp.mem_iff.1 hl), fun l hl => h.sort l (hp.mem_iff.1 hl)⟩

/-! ### the machine -/
abbrev Endp := List Int × List (List Int)
abbrev IS := List (List Int) × List Endp
def stepI (rest : List Int → List Int) (parts cho : List Int → List (List Int)) (p : IS) : IS :=
  match p.1.getLast? with
  | none => p
  | some l =>
    if (rest l).length < l.length then (if 0 < (rest l).length then (p.1.dropLast ++ [rest l], p.2) else (p.1.dropLast, p.2))
    else if (parts l).length = 1 then (p.1.dropLast, p.2 ++ [(l, cho l)])
    else (p.1.dropLast ++ parts l, p.2)
def stepsI (rest : List Int → List Int) (parts cho : List Int → List (List Int)) : Nat → IS → IS
  | 0, p => p
  | k + 1, p => stepI rest parts cho (stepsI rest parts cho k p)
section
variable {rest : List Int → List Int} {parts cho : List Int → List (List Int)} {n : Nat}
theorem stepI_at (pre : List (List Int)) (l : List Int) (out : List Endp) : stepI rest parts cho (pre ++ [l], out) =
    if (rest l).length < l.length then (if 0 < (rest l).length then (pre ++ [rest l], out) else (pre, out))
    else if (parts l).length = 1 then (pre, out ++ [(l, cho l)]) else (pre ++ parts l, out) := by
  simp [stepI]
theorem stepI_nil (out : List Endp) : stepI rest parts cho ([], out) = ([], out) := rfl
/-- a set of states -/
structure Good (n : Nat) (l : List Int) : Prop where
  ne : l ≠ []
  nd : l.Pairwise (fun a b => a < b)
  bd : ∀ x ∈ l, 0 ≤ x ∧ x < (n : Int)
theorem Good.nodup {l : List Int} (h : Good n l) : l.Nodup := h.nd.imp fun h e => by subst e; exact Int.lt_irrefl _ h
theorem Good.len {l : List Int} (h : Good n l) : l.length ≤ n := by
  have := len_of_nodup l ((List.range n).map Int.ofNat) h.nodup fun x hx => by
    obtain ⟨a, b⟩ := h.bd x hx
    exact List.mem_map.2 ⟨x.toNat, List.mem_range.2 (by omega), by show ((x.toNat : Nat) : Int) = x; omega⟩
  simpa using this
theorem Good.pos {l : List Int} (h : Good n l) : 0 < l.length := List.length_pos_iff.2 h.ne
/-- what the machine needs of its parts -/
structure Fit (n : Nat) (rest : List Int → List Int) (parts : List Int → List (List Int)) : Prop where
  good : ∀ l, Good n l → rest l ≠ [] → Good n (rest l)
  sub : ∀ l, Good n l → ¬ (rest l).length < l.length → ∀ p ∈ parts l, Good n p
  len : ∀ l, Good n l → ¬ (rest l).length < l.length → (parts l).flatten.length ≤ l.length
def mu (st : List (List Int)) : Nat := (st.map fun l => 2 * l.length - 1).sum
/-- what holds of the machine -/
structure Inv (n a : Nat) (p : IS) : Prop where
  good : ∀ l ∈ p.1, Good n l
  out : ∀ e ∈ p.2, Good n e.1
  len : p.1.flatten.length + p.2.length ≤ a
theorem mu_le : ∀ (st : List (List Int)), (∀ l ∈ st, Good n l) → mu st + st.length ≤ 2 * st.flatten.length
  | [], _ => by simp [mu]
  | l :: st, h => by
    have ih := mu_le st fun x hx => h x (List.mem_cons_of_mem _ hx)
    have := (h l (List.mem_cons_self ..)).pos
    unfold mu at *
    simp only [List.map_cons, List.sum_cons, List.length_cons, List.flatten_cons, List.length_append]
    omega
theorem mu_app (a b : List (List Int)) : mu (a ++ b) = mu a + mu b := by simp [mu]
theorem mu_one (l : List Int) : mu [l] = 2 * l.length - 1 := by simp [mu]
theorem st_len : ∀ (st : List (List Int)), (∀ l ∈ st, Good n l) → st.length ≤ st.flatten.length
  | [], _ => by simp
  | l :: st, h => by
    have ih := st_len st fun x hx => h x (List.mem_cons_of_mem _ hx)
    have := (h l (List.mem_cons_self ..)).pos
    simp only [List.length_cons, List.flatten_cons, List.length_append]
    omega
theorem Inv.step (hf : Fit n rest parts) {a : Nat} {pre : List (List Int)} {l : List Int} {out : List Endp} (h : Inv n a (pre ++ [l], out)) :
    Inv n a (stepI rest parts cho (pre ++ [l], out)) ∧ mu (stepI rest parts cho (pre ++ [l], out)).1 + 1 ≤ mu (pre ++ [l]) := by
  have hl := h.good l (List.mem_append_right _ (List.mem_cons_self ..))
  have hpre : ∀ x ∈ pre, Good n x := fun x hx => h.good x (List.mem_append_left _ hx)
  have hlen := h.len
  have hpos := hl.pos
  simp only [List.flatten_append, List.flatten_singleton, List.length_append] at hlen
  rw [stepI_at, mu_app, mu_one]
  by_cases h1 : (rest l).length < l.length
  · rw [if_pos h1]
    by_cases h2 : 0 < (rest l).length
    · rw [if_pos h2]
      have hr := hf.good l hl (List.length_pos_iff.1 h2)
      refine ⟨⟨fun x hx => ?_, h.out, by simp only [List.flatten_append, List.flatten_singleton, List.length_append]; omega⟩, by rw [mu_app, mu_one]; omega⟩
      rcases List.mem_append.1 hx with hx | hx
      · exact hpre x hx
      · rw [List.mem_singleton] at hx; subst hx; exact hr
    · rw [if_neg h2]
      exact ⟨⟨hpre, h.out, by simp only; omega⟩, by simp only; omega⟩
  · rw [if_neg h1]
    have hp := hf.sub l hl h1
    have hpl := hf.len l hl h1
    by_cases h2 : (parts l).length = 1
    · rw [if_pos h2]
      refine ⟨⟨hpre, fun e he => ?_, by simp only [List.length_append, List.length_singleton]; omega⟩, by simp only; omega⟩
      rcases List.mem_append.1 he with he | he
      · exact h.out e he
      · rw [List.mem_singleton] at he; subst he; exact hl
    · rw [if_neg h2]
      have hm := mu_le _ hp
      refine ⟨⟨fun x hx => ?_, h.out, by simp only [List.flatten_append, List.length_append]; omega⟩, ?_⟩
      · rcases List.mem_append.1 hx with hx | hx
        · exact hpre x hx
        · exact hp x hx
      · simp only [mu_app]
        by_cases h3 : (parts l).length = 0
        · have : parts l = [] := List.eq_nil_of_length_eq_zero h3
          rw [this]
          simp only [mu, List.map_nil, List.sum_nil]
          omega
        · omega
theorem last_split {α : Type} {l : List α} (h : l ≠ []) : ∃ pre x, l = pre ++ [x] := ⟨l.dropLast, l.getLast h, (List.dropLast_concat_getLast h).symm⟩
theorem Inv.steps (hf : Fit n rest parts) {a : Nat} {p : IS} (h : Inv n a p) : ∀ k, Inv n a (stepsI rest parts cho k p) ∧ (mu (stepsI rest parts cho k p).1 + k ≤ mu p.1 ∨ (stepsI rest parts cho k p).1 = [])
  | 0 => ⟨h, .inl (Nat.le_refl _)⟩
  | k + 1 => by
    obtain ⟨h1, h2⟩ := Inv.steps hf h k
    show Inv n a (stepI rest parts cho (stepsI rest parts cho k p)) ∧ (mu (stepI rest parts cho (stepsI rest parts cho k p)).1 + (k + 1) ≤ mu p.1 ∨ (stepI rest parts cho (stepsI rest parts cho k p)).1 = [])
    generalize hq : stepsI rest parts cho k p = q at h1 h2
    obtain ⟨st, out⟩ := q
    by_cases he : st = []
    · subst he
      rw [stepI_nil]
      exact ⟨h1, .inr rfl⟩
    · obtain ⟨pre, l, rfl⟩ := last_split he
      obtain ⟨h3, h4⟩ := Inv.step (cho := cho) hf h1
      refine ⟨h3, ?_⟩
      rcases h2 with h2 | h2
      · exact .inl (by simp only at h2; omega)
      · exact absurd h2 he
/-- once the stack is empty nothing turns -/
theorem steps_stay {p : IS} {k : Nat} {out : List Endp} (h : stepsI rest parts cho k p = ([], out)) : ∀ j, stepsI rest parts cho (k + j) p = ([], out)
  | 0 => h
  | j + 1 => by
    show stepI rest parts cho (stepsI rest parts cho (k + j) p) = _
    rw [steps_stay h j, stepI_nil]
/-- what the machine finds -/
def runI (rest : List Int → List Int) (parts cho : List Int → List (List Int)) (l : List Int) : List Endp := (stepsI rest parts cho (2 * l.length) ([l], [])).2
theorem Inv.start {l : List Int} (h : Good n l) : Inv n l.length ([l], []) := ⟨fun x hx => by rw [List.mem_singleton] at hx; subst hx; exact h, fun _ he => (List.not_mem_nil he).elim, by simp⟩
theorem runI_eq (hf : Fit n rest parts) {l : List Int} (h : Good n l) {k : Nat} {out : List Endp} (hk : stepsI rest parts cho k ([l], []) = ([], out)) : out = runI rest parts cho l := by
  obtain ⟨-, h2⟩ := Inv.steps (cho := cho) hf (Inv.start h) (2 * l.length)
  have h3 : (stepsI rest parts cho (2 * l.length) ([l], [])).1 = [] := by
    rcases h2 with h2 | h2
    · rw [mu_one] at h2
      have := h.pos
      omega
    · exact h2
  have h4 : stepsI rest parts cho (2 * l.length) ([l], []) = ([], runI rest parts cho l) := Prod.ext h3 rfl
  have e1 := steps_stay hk (2 * l.length)
  have e2 := steps_stay h4 k
  rw [Nat.add_comm, e1] at e2
  exact congrArg Prod.snd e2
theorem runI_good (hf : Fit n rest parts) {l : List Int} (h : Good n l) : (runI rest parts cho l).length ≤ l.length ∧ ∀ e ∈ runI rest parts cho l, Good n e.1 := by
  obtain ⟨h1, -⟩ := Inv.steps (cho := cho) hf (Inv.start h) (2 * l.length)
  exact ⟨by have := h1.len; unfold runI; omega, h1.out⟩
/-- each end is a set with its choices -/
theorem steps_cho {p : IS} (h : ∀ e ∈ p.2, e.2 = cho e.1) : ∀ k, ∀ e ∈ (stepsI rest parts cho k p).2, e.2 = cho e.1
  | 0 => h
  | k + 1 => by
    have ih := steps_cho h k
    unfold stepsI
    generalize stepsI rest parts cho k p = q at ih
    obtain ⟨st, out⟩ := q
    by_cases he : st = []
    · subst he; rw [stepI_nil]; exact ih
    · obtain ⟨pre, l, rfl⟩ := last_split he
      rw [stepI_at]
      split
      · split <;> exact ih
      · split
        · intro e he
          rcases List.mem_append.1 he with he | he
          · exact ih e he
          · rw [List.mem_singleton] at he; subst he; rfl
        · exact ih
theorem runI_cho (l : List Int) : ∀ e ∈ runI rest parts cho l, e.2 = cho e.1 := steps_cho (fun _ he => (List.not_mem_nil he).elim) _
end

end Go.Proofs.YtoffbdlgmnpblaaGreat.Enp

/- Plain laws: the components that are found are sorted; what lies in a set. -/
namespace Go.Proofs.YtoffbdlgmnpblaaGreat.Tar
open Bfs (at' row)

def OutS (t : TS) : Prop := ∀ l ∈ t.out, l.Pairwise (fun a b => a ≤ b)
theorem isort_sorted (l : List Int) : (isort l).Pairwise (fun a b => a ≤ b) :=
  (List.pairwise_mergeSort (le := fun x y => decide (x ≤ y)) (fun a b c h k => by simp at *; omega) (fun a b => by simp; omega) l).imp fun h => by simpa using h
theorem close_outS {t : TS} {s : Int} (ho : OutS t) : OutS (close t s) := by
  intro l hl
  rcases List.mem_append.1 hl with hl | hl
  · exact ho l hl
  · have : l = isort (popR s t.opn).1 := by simpa using hl
    subst this
    exact isort_sorted _
theorem step_outS {next : List (List Int)} {t : TS} {fr : List (Int × Int)} {s k : Int} (ho : OutS t) : OutS (step next t ((s, k) :: fr)).1 := by
  have he : OutS (ended t s) := by
    unfold ended
    split
    · exact close_outS ho
    · exact ho
  by_cases hk : k < ((row next s).length : Int)
  · by_cases h0 : at' t.idx (at' (row next s) k) = 0
    · rw [step_new hk h0]; exact ho
    · cases hn : onAt t.on (at' (row next s) k) with
      | true => rw [step_on hk h0 hn]; exact ho
      | false => rw [step_off hk h0 hn]; exact ho
  · cases fr with
    | nil => rw [step_last hk]; exact he
    | cons f fr => obtain ⟨u, j⟩ := f; rw [step_up hk]; exact he
theorem upTo_outS {next : List (List Int)} {b : Nat} (hb : ∀ xs ∈ next, xs.length ≤ b) (hin : ∀ x, 0 ≤ x → x < (next.length : Int) → ∀ y ∈ row next x, 0 ≤ y ∧ y < (next.length : Int)) : ∀ j, j ≤ next.length → OutS (upTo next j)
  | 0, _ => fun l hl => (List.not_mem_nil hl).elim
  | j + 1, hj => by
    have ih := upTo_outS hb hin j (by omega)
    have hr := upTo_rest hb hin j (by omega)
    rw [upTo_succ]
    split
    · rename_i h
      have hs : 0 ≤ (j : Int) ∧ (j : Int) < (next.length : Int) := ⟨by omega, by omega⟩
      exact (run_inv (P := fun t _ => OutS t) (fun t s k fr _ _ h => step_outS h) _ _ _ (Nat.le_refl _) (hr.ok.enter hs) (Bd.enter hr.ok hr.bd hs h).c0 ih).2.2
    · exact ih
theorem found_all {next : List (List Int)} {b : Nat} (hb : ∀ xs ∈ next, xs.length ≤ b) (hin : ∀ x, 0 ≤ x → x < (next.length : Int) → ∀ y ∈ row next x, 0 ≤ y ∧ y < (next.length : Int)) : Comps next (found next) :=
  found_comps hb hin (upTo_outS hb hin _ (Nat.le_refl _))
end Go.Proofs.YtoffbdlgmnpblaaGreat.Tar

namespace Go.Proofs.YtoffbdlgmnpblaaGreat.Enp
open Bfs (at' row)
theorem rising_of {p : List Int} (hn : p.Nodup) (hs : p.Pairwise (fun a b => a ≤ b)) : p.Pairwise (fun a b => a < b) :=
  (List.pairwise_and_iff.2 ⟨hn, hs⟩).imp fun h => by have := h.1; have := h.2; omega
/-- the parts of a set are good sets -/
theorem inSet_good {next out : List (List Int)} (h : Tar.Comps next out) (l : List Int) : ∀ p ∈ inSet l out, Good next.length p := fun p hp => by
  have hp' := (List.mem_filter.1 hp).1
  exact ⟨h.some' p hp', rising_of ((List.pairwise_flatten.1 h.nodup).1 p hp') (h.sort p hp'), fun x hx => (h.all x).1 ⟨p, hp', hx⟩⟩
theorem Good.filter {n : Nat} {l : List Int} (h : Good n l) (f : Int → Bool) (hne : l.filter f ≠ []) : Good n (l.filter f) :=
  ⟨hne, h.nd.sublist List.filter_sublist, fun x hx => h.bd x (List.mem_filter.1 hx).1⟩

/-- pairs of a state each: a row gets no more than one state's -/
theorem flat_state {α : Type} (f : α → List (Int × Int)) (g : α → Int) (b s : Nat) (hf : ∀ a, ∀ p ∈ f a, p.2 = g a) : ∀ (l : List α), (l.map g).Pairwise (fun a b => a < b) → (∀ a ∈ l, 0 ≤ g a) → (∀ a ∈ l, (f a).length ≤ b) → ((l.flatMap f).filter fun p => p.2.toNat == s).length ≤ b
  | [], _, _, _ => by simp
  | a :: l, hp, h0, hb => by
    rw [List.map_cons] at hp
    obtain ⟨h1, h2⟩ := List.pairwise_cons.1 hp
    have ih := flat_state f g b s hf l h2 (fun x hx => h0 x (List.mem_cons_of_mem _ hx)) (fun x hx => hb x (List.mem_cons_of_mem _ hx))
    rw [List.flatMap_cons, List.filter_append, List.length_append]
    by_cases e : (g a).toNat = s
    · have h3 : (l.flatMap f).filter (fun p => p.2.toNat == s) = [] := by
        rw [List.filter_eq_nil_iff]
        intro p hp
        obtain ⟨x, hx, hpx⟩ := List.mem_flatMap.1 hp
        have := hf x p hpx
        have := h1 (g x) (List.mem_map_of_mem hx)
        have := h0 a (List.mem_cons_self ..)
        simp only [beq_iff_eq]
        omega
      rw [h3]
      have := hb a (List.mem_cons_self ..)
      have := List.length_filter_le (fun p : Int × Int => p.2.toNat == s) (f a)
      simp; omega
    · have h3 : (f a).filter (fun p => p.2.toNat == s) = [] := by
        rw [List.filter_eq_nil_iff]
        intro p hp
        have := hf a p hp
        simp only [beq_iff_eq]
        intro h
        exact e (by rw [← this]; exact h)
      rw [h3]
      simpa using ih
end Go.Proofs.YtoffbdlgmnpblaaGreat.Enp

/- Package ends: plain laws of the parts of a set. -/
namespace Go.Proofs.YtoffbdlgmnpblaaGreat
open Go.RowKit

theorem staysTo_mem (l : List Int) (chs : List Ch) : ∀ (q : Nat) (k : Int), k ∈ staysTo l chs q → 0 ≤ k ∧ k < (q : Int) ∧ withinB l (chs.getD k.toNat ⟨⟨0, 0⟩, []⟩) = true
  | 0, k, h => (List.not_mem_nil h).elim
  | q + 1, k, h => by
    unfold staysTo at h
    split at h
    · rename_i hw
      rcases List.mem_append.1 h with h | h
      · have := staysTo_mem l chs q k h; exact ⟨this.1, by omega, this.2.2⟩
      · rw [List.mem_singleton] at h
        subst h
        exact ⟨by omega, by omega, by rw [Int.toNat_natCast]; exact hw⟩
    · have := staysTo_mem l chs q k h; exact ⟨this.1, by omega, this.2.2⟩
theorem withinB_to {l : List Int} {c : Ch} (h : withinB l c = true) : ∀ t ∈ tos c, t ∈ l := by
  intro t ht
  obtain ⟨b, hb, rfl⟩ := List.mem_map.1 ht
  unfold withinB at h
  simp only [Bool.not_eq_true', List.any_eq_false, List.contains_eq_mem] at h
  have := h b hb
  simpa using this
theorem zip_map_mem {α β : Type} (f : α → β) : ∀ (l : List α), ∀ p ∈ l.zip (l.map f), p.1 ∈ l ∧ p.2 = f p.1
  | [], p, h => (List.not_mem_nil h).elim
  | a :: l, p, h => by
    rw [List.map_cons, List.zip_cons_cons] at h
    rcases List.mem_cons.1 h with rfl | h
    · exact ⟨List.mem_cons_self .., rfl⟩
    · have := zip_map_mem f l p h; exact ⟨List.mem_cons_of_mem _ this.1, this.2⟩
theorem zip_map_fst {α β : Type} (f : α → β) : ∀ (l : List α), (l.zip (l.map f)).map (·.1) = l
  | [] => rfl
  | a :: l => by rw [List.map_cons, List.zip_cons_cons, List.map_cons, zip_map_fst f l]

/-- choices whose edges stay in a set -/
structure InE (m : List St) (l : List Int) (es : List (Int × List Int)) : Prop where
  st : (es.map (·.1)).Pairwise (fun a b => a < b)
  bd : ∀ p ∈ es, 0 ≤ p.1 ∧ p.1 < (m.length : Int)
  ks : ∀ p ∈ es, p.2.length ≤ 8
  ins : ∀ p ∈ es, ∀ k ∈ p.2, ∀ t ∈ tos ((chsOf m p.1).getD k.toNat ⟨⟨0, 0⟩, []⟩), t ∈ l

theorem ePairs_snd {m : List St} (a : Int × List Int) : ∀ p ∈ ePairs m a, p.2 = a.1 := fun p hp => by
  obtain ⟨k, -, hk⟩ := List.mem_flatMap.1 hp
  obtain ⟨t, -, rfl⟩ := List.mem_map.1 hk
  rfl
theorem chsOf_len {m : List St} (hm : Fine m) (s : Int) : (chsOf m s).length ≤ 8 ∧ ∀ c ∈ chsOf m s, c.brs.length ≤ 8 := by
  unfold chsOf
  rw [List.getD_eq_getElem?_getD]
  cases hh : m[s.toNat]? with
  | none => exact ⟨by simp, fun c hc => (List.not_mem_nil hc).elim⟩
  | some st => have hs := List.mem_of_getElem? hh; exact ⟨hm.chs st hs, fun c hc => hm.brs st hs c hc⟩
theorem ePairs_len {m : List St} (hm : Fine m) (a : Int × List Int) (h : a.2.length ≤ 8) : (ePairs m a).length ≤ 64 := by
  have := flat_len (kPairs (chsOf m a.1) a.1) 8 a.2 fun k _ => by
    unfold kPairs tos
    rw [List.length_map, List.length_map, List.getD_eq_getElem?_getD]
    cases hh : (chsOf m a.1)[k.toNat]? with
    | none => simp
    | some c => exact (chsOf_len hm a.1).2 c (List.mem_of_getElem? hh)
  unfold ePairs
  omega
theorem edgesE_len (m : List St) (es : List (Int × List Int)) : (edgesE m es).length = m.length := pl_len _ _
theorem edgesE_row (m : List St) (es : List (Int × List Int)) (s : Nat) (h : s < m.length) : (edgesE m es).getD s [] = ((es.flatMap (ePairs m)).filter fun p => p.2.toNat == s).map (·.1) := by
  unfold edgesE pl
  rw [Enp.push_row _ _ s (by simpa using h)]
  simp [List.getD_eq_getElem?_getD, h]
theorem edgesE_mem {m : List St} {l : List Int} {es : List (Int × List Int)} (h : InE m l es) {xs : List Int} (hx : xs ∈ edgesE m es) : ∀ t ∈ xs, t ∈ l := by
  obtain ⟨s, hs, rfl⟩ := List.getElem_of_mem hx
  have hs' : s < m.length := by rw [edgesE_len] at hs; exact hs
  have e := edgesE_row m es s hs'
  rw [List.getD_eq_getElem?_getD, List.getElem?_eq_getElem hs, Option.getD_some] at e
  rw [e]
  intro t ht
  obtain ⟨p, hp, rfl⟩ := List.mem_map.1 ht
  obtain ⟨a, ha, hpa⟩ := List.mem_flatMap.1 (List.mem_filter.1 hp).1
  obtain ⟨k, hk, hpk⟩ := List.mem_flatMap.1 hpa
  obtain ⟨t, ht', rfl⟩ := List.mem_map.1 hpk
  exact h.ins a ha k hk t ht'
theorem edgesE_row_len {m : List St} (hm : Fine m) {l : List Int} {es : List (Int × List Int)} (h : InE m l es) : ∀ xs ∈ edgesE m es, xs.length ≤ 64 := fun xs hx => by
  obtain ⟨s, hs, rfl⟩ := List.getElem_of_mem hx
  have hs' : s < m.length := by rw [edgesE_len] at hs; exact hs
  have e := edgesE_row m es s hs'
  rw [List.getD_eq_getElem?_getD, List.getElem?_eq_getElem hs, Option.getD_some] at e
  rw [e, List.length_map]
  exact Enp.flat_state (ePairs m) (·.1) 64 s (fun a => ePairs_snd a) es h.st (fun a ha => (h.bd a ha).1) (fun a ha => ePairs_len hm a (h.ks a ha))
theorem edgesE_edges {m : List St} (hm : Fine m) {l : List Int} {es : List (Int × List Int)} (h : InE m l es) (hl : ∀ t ∈ l, 0 ≤ t ∧ t < (m.length : Int)) : Edges (edgesE m es) :=
  ⟨by rw [edgesE_len]; exact hm.len, fun xs hx => Nat.le_trans (edgesE_row_len hm h xs hx) (by decide), fun xs hx t ht => by rw [edgesE_len]; exact hl t (edgesE_mem h hx t ht)⟩
theorem edgesE_comps {m : List St} (hm : Fine m) {l : List Int} {es : List (Int × List Int)} (h : InE m l es) (hl : ∀ t ∈ l, 0 ≤ t ∧ t < (m.length : Int)) : Tar.Comps (edgesE m es) (partsOf (edgesE m es)) :=
  Enp.Comps.perm (Tar.found_all (edgesE_row_len hm h) (Bfs.row_in (edgesE_edges hm h hl).ins)) (Lex.lsort_perm _)
theorem edgesE_to {m : List St} {l : List Int} {es : List (Int × List Int)} (h : InE m l es) (x y : Int) (hy : y ∈ Bfs.row (edgesE m es) x) : y ∈ l := by
  unfold Bfs.row at hy
  rw [List.getD_eq_getElem?_getD] at hy
  cases hh : (edgesE m es)[x.toNat]? with
  | none => rw [hh] at hy; exact (List.not_mem_nil hy).elim
  | some xs => rw [hh] at hy; exact edgesE_mem h (List.mem_of_getElem? hh) y hy

/-! ### the parts of a set -/
def staysL (m : List St) (l : List Int) : List (List Int) := l.map (staysOf m l)
def restOf (m : List St) (l : List Int) : List Int := l.filter fun s => decide (0 < (staysOf m l s).length)
def epartsOf (m : List St) (l : List Int) : List (List Int) := Enp.inSet l (partsOf (edgesE m (l.zip (staysL m l))))
theorem staysOf_len {m : List St} (hm : Fine m) (l : List Int) (s : Int) : (staysOf m l s).length ≤ 8 := by
  unfold staysOf
  exact Nat.le_trans (staysTo_len _ _ _) (chsOf_len hm s).1
theorem stays_inE {m : List St} (hm : Fine m) {l : List Int} (hl : Enp.Good m.length l) : InE m l (l.zip (staysL m l)) := by
  refine ⟨by unfold staysL; rw [zip_map_fst]; exact hl.nd, fun p hp => hl.bd _ (zip_map_mem _ l p hp).1, fun p hp => ?_, fun p hp k hk => ?_⟩
  · rw [(zip_map_mem _ l p hp).2]; exact staysOf_len hm l _
  · rw [(zip_map_mem _ l p hp).2] at hk
    exact withinB_to (staysTo_mem l _ _ k hk).2.2
theorem stays_in {m : List St} {l : List Int} (hl : Enp.Good m.length l) : ∀ p ∈ l.zip (staysL m l), 0 ≤ p.1 ∧ p.1 < (m.length : Int) ∧ ∀ k ∈ p.2, 0 ≤ k ∧ k < ((chsOf m p.1).length : Int) := fun p hp => by
  obtain ⟨h1, h2⟩ := zip_map_mem _ l p hp
  refine ⟨(hl.bd _ h1).1, (hl.bd _ h1).2, fun k hk => ?_⟩
  rw [h2] at hk
  have := staysTo_mem l _ _ k hk
  exact ⟨this.1, this.2.1⟩
theorem ends_fit {m : List St} (hm : Fine m) : Enp.Fit m.length (restOf m) (epartsOf m) where
  good l hl hne := hl.filter _ hne
  sub l hl _ p hp := by
    have := Enp.inSet_good (edgesE_comps hm (stays_inE hm hl) hl.bd) l p hp
    rwa [edgesE_len] at this
  len l hl _ := Enp.inSet_len (edgesE_comps hm (stays_inE hm hl) hl.bd) (edgesE_to (stays_inE hm hl))
theorem eparts_ne {m : List St} (hm : Fine m) {l : List Int} (hl : Enp.Good m.length l) : epartsOf m l ≠ [] := fun e => by
  have hc := edgesE_comps hm (stays_inE hm hl) hl.bd
  obtain ⟨x, hx⟩ := List.exists_mem_of_ne_nil _ hl.ne
  obtain ⟨p, hp, hxp⟩ := (hc.all x).2 (by rw [edgesE_len]; exact hl.bd x hx)
  have hg : p.getD 0 0 ∈ p := by
    cases p with
    | nil => cases hxp
    | cons a p => exact List.mem_cons_self ..
  have hr := ((hc.same p hp x hxp _).1 hg).1
  have hin : p.getD 0 0 ∈ l := by
    cases hr with
    | refl => exact hx
    | step _ hz => exact edgesE_to (stays_inE hm hl) _ _ hz
  have : p ∈ epartsOf m l := List.mem_filter.2 ⟨hp, by simpa using hin⟩
  rw [e] at this
  cases this
theorem eparts_bd {m : List St} (hm : Fine m) (l : List Int) (hl : Enp.Good m.length l) : (epartsOf m l).length ≤ 40 ∧ ∀ p ∈ epartsOf m l, p.length ≤ 40 := by
  have hg : ∀ p ∈ epartsOf m l, Enp.Good m.length p := fun p hp => by
    have := Enp.inSet_good (edgesE_comps hm (stays_inE hm hl) hl.bd) l p hp
    rwa [edgesE_len] at this
  have hlen := hm.len
  have h1 := Enp.inSet_len (edgesE_comps hm (stays_inE hm hl) hl.bd) (edgesE_to (stays_inE hm hl))
  have h2 := Enp.st_len _ hg
  have h3 := hl.len
  exact ⟨Nat.le_trans h2 (Nat.le_trans h1 (by omega)), fun p hp => Nat.le_trans (hg p hp).len hlen⟩
/-- the maximal end components in a set, before they are sorted -/
def insideRaw (m : List St) (l : List Int) : List Enp.Endp := Enp.runI (restOf m) (epartsOf m) (staysL m) l

end Go.Proofs.YtoffbdlgmnpblaaGreat
