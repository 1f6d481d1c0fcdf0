/- Part 38: Pt Rf23 Rf24. -/
import Derived.Test.YtoffbdlgmnpblaaGreatJ30
import Derived.Test.YtoffbdlgmnpblaaGreatJ35
import Derived.Test.YtoffbdlgmnpblaaGreatJ31
import Derived.Test.YtoffbdlgmnpblaaGreatJ37
import Derived.Test.YtoffbdlgmnpblaaGreatJ36

/- Plain laws: the reference's components are the program's. -/
namespace Go.Proofs.YtoffbdlgmnpblaaGreat.Tar
open Bfs (at' row fl depths Depth turn)

/-! ### the lists that the search finds are sorted -/
def Srt (t : TS) : Prop := ∀ l ∈ t.out, l.Pairwise (fun a b : Int => a ≤ b)
theorem isort_srt (l : List Int) : (isort l).Pairwise (fun a b : Int => a ≤ b) := by
  have h := List.pairwise_mergeSort (le := fun x y : Int => decide (x ≤ y)) (fun a b c h k => by simp only [decide_eq_true_eq] at *; omega) (fun a b => by simp only [Bool.or_eq_true, decide_eq_true_eq]; omega) l
  exact h.imp fun h => by simpa using h
theorem Srt.close {t : TS} (h : Srt t) (s : Int) : Srt (close t s) := fun l hl => by
  rcases List.mem_append.1 (show l ∈ t.out ++ [isort (popR s t.opn).1] from hl) with hl | hl
  · exact h l hl
  · rw [List.mem_singleton] at hl; rw [hl]; exact isort_srt _
theorem Srt.step {next : List (List Int)} {t : TS} (h : Srt t) (fr : List (Int × Int)) : Srt (step next t fr).1 := by
  match fr with
  | [] => exact h
  | (s, k) :: fr =>
    have hc : Srt (if at' t.low s = at' t.idx s then Tar.close t s else t) := by
      split
      · exact h.close s
      · exact h
    match fr with
    | [] =>
      rw [Tar.step.eq_def]
      dsimp only
      split
      · split
        · exact h
        · split
          · exact h
          · exact h
      · exact hc
    | (u, j) :: fr =>
      rw [Tar.step.eq_def]
      dsimp only
      split
      · split
        · exact h
        · split
          · exact h
          · exact h
      · exact hc
theorem Srt.loop {next : List (List Int)} : ∀ (f : Nat) {t : TS} (fr : List (Int × Int)), Srt t → Srt (loop next f t fr)
  | 0, _, _, h => h
  | _ + 1, _, [], h => h
  | f + 1, _, x :: fr, h => Srt.loop f _ (h.step (x :: fr))
theorem Srt.upTo (next : List (List Int)) : ∀ j, Srt (upTo next j)
  | 0 => fun l hl => (List.not_mem_nil hl).elim
  | j + 1 => by
    unfold Tar.upTo
    split
    · exact Srt.loop _ _ (Srt.upTo next j)
    · exact Srt.upTo next j
theorem found_comps' {next : List (List Int)} {b : Nat} (hb : ∀ xs ∈ next, xs.length ≤ b) (hin : ∀ x, 0 ≤ x → x < (next.length : Int) → ∀ y ∈ row next x, 0 ≤ y ∧ y < (next.length : Int)) : Comps next (found next) :=
  found_comps hb hin (Srt.upTo next next.length)

/-! ### paths and lengths -/
theorem reach_depth {next : List (List Int)} {l d : List Int} (hd : Depth next next.length l d) (hin : ∀ x, 0 ≤ x → x < (next.length : Int) → ∀ y ∈ row next x, 0 ≤ y ∧ y < (next.length : Int)) {s x : Int} (hs : s ∈ l) (s0 : 0 ≤ s) (s1 : s < (next.length : Int)) (h : Reach next s x) : 0 ≤ x ∧ x < (next.length : Int) ∧ 0 ≤ at' d x := by
  induction h with
  | refl => exact ⟨s0, s1, by rw [hd.goal s hs]; decide⟩
  | step h e ih => exact ⟨(hin _ ih.1 ih.2.1 _ e).1, (hin _ ih.1 ih.2.1 _ e).2, (hd.done _ ih.1 ih.2.1 ih.2.2 _ e).1⟩
theorem depth_reach {next : List (List Int)} {s : Int} {d : List Int} (hd : Depth next next.length [s] d) : ∀ (f : Nat) (x : Int), 0 ≤ x → x < (next.length : Int) → 0 ≤ at' d x → (at' d x).toNat ≤ f → Reach next s x := by
  intro f
  induction f with
  | zero =>
    intro x h0 h1 hx hf
    rcases hd.from' x h0 h1 hx with ⟨m, -⟩ | ⟨m, -⟩
    · rw [List.mem_singleton] at m; rw [m]; exact .refl _
    · omega
  | succ f ih =>
    intro x h0 h1 hx hf
    rcases hd.from' x h0 h1 hx with ⟨m, -⟩ | ⟨m, u, u0, u1, m2, m3, m4⟩
    · rw [List.mem_singleton] at m; rw [m]; exact .refl _
    · exact (ih u u0 u1 m3 (by omega)).step m2
/-- what the search in breadth reaches -/
theorem reach_iff {next : List (List Int)} (hin : ∀ xs ∈ next, ∀ t ∈ xs, 0 ≤ t ∧ t < (next.length : Int)) {s x : Int} (hs : 0 ≤ s ∧ s < (next.length : Int)) (h0 : 0 ≤ x) (h1 : x < (next.length : Int)) :
    0 ≤ at' (depths next [s]) x ↔ Reach next s x := by
  have hd := Bfs.depths_spec (next := next) (l := [s]) (fun t ht => by rw [List.mem_singleton] at ht; rw [ht]; exact hs) (Bfs.row_in hin)
  exact ⟨fun h => depth_reach hd _ x h0 h1 h (Nat.le_refl _), fun h => (reach_depth hd (Bfs.row_in hin) (List.mem_cons_self ..) hs.1 hs.2 h).2.2⟩
theorem reach_turn {next : List (List Int)} (hin : ∀ xs ∈ next, ∀ t ∈ xs, 0 ≤ t ∧ t < (next.length : Int)) {a x : Int} (ha : 0 ≤ a ∧ a < (next.length : Int)) (h : Reach next a x) : 0 ≤ x ∧ x < (next.length : Int) ∧ Reach (turn next) x a := by
  induction h with
  | refl => exact ⟨ha.1, ha.2, .refl _⟩
  | step h e ih =>
    obtain ⟨i0, i1, i2⟩ := ih
    obtain ⟨j0, j1⟩ := Bfs.row_in hin _ i0 i1 _ e
    exact ⟨j0, j1, (Reach.edge ((Bfs.turn_row hin j0).2 ⟨i0, i1, e⟩)).trans i2⟩
theorem turn_reach {next : List (List Int)} (hin : ∀ xs ∈ next, ∀ t ∈ xs, 0 ≤ t ∧ t < (next.length : Int)) {a x : Int} (ha : 0 ≤ a ∧ a < (next.length : Int)) (h : Reach (turn next) a x) : 0 ≤ x ∧ x < (next.length : Int) ∧ Reach next x a := by
  induction h with
  | refl => exact ⟨ha.1, ha.2, .refl _⟩
  | step h e ih =>
    obtain ⟨i0, i1, i2⟩ := ih
    obtain ⟨j0, j1, j2⟩ := (Bfs.turn_row hin i0).1 e
    exact ⟨j0, j1, (Reach.edge j2).trans i2⟩
theorem reach_back {next : List (List Int)} (hin : ∀ xs ∈ next, ∀ t ∈ xs, 0 ≤ t ∧ t < (next.length : Int)) {s x : Int} (hs : 0 ≤ s ∧ s < (next.length : Int)) (h0 : 0 ≤ x) (h1 : x < (next.length : Int)) :
    0 ≤ at' (depths (turn next) [s]) x ↔ Reach next x s := by
  have ht : ∀ xs ∈ turn next, ∀ t ∈ xs, 0 ≤ t ∧ t < ((turn next).length : Int) := by
    intro xs hxs t ht
    obtain ⟨i, hi, rfl⟩ := List.mem_iff_getElem.1 hxs
    refine Bfs.turn_in hin (i : Int) (by omega) (by omega) t ?_
    unfold Bfs.row
    rw [Int.toNat_natCast, List.getD_eq_getElem?_getD, List.getElem?_eq_getElem hi]
    exact ht
  rw [reach_iff ht (by rw [Bfs.turn_len]; exact hs) h0 (by rw [Bfs.turn_len]; exact h1)]
  exact ⟨fun h => (turn_reach hin hs h).2.2, fun h => (reach_turn hin ⟨h0, h1⟩ h).2.2⟩

/-! ### the reference's components -/
def states (n : Nat) : List Int := (List.range n).map fun k : Nat => (k : Int)
theorem mem_states {n : Nat} {x : Int} : x ∈ states n ↔ 0 ≤ x ∧ x < (n : Int) := by
  unfold states
  rw [List.mem_map]
  constructor
  · rintro ⟨k, hk, rfl⟩; have := List.mem_range.1 hk; omega
  · rintro ⟨h0, h1⟩; exact ⟨x.toNat, List.mem_range.2 (by omega), by omega⟩
theorem states_sorted (n : Nat) : (states n).Pairwise (fun a b => a < b) := by
  unfold states
  rw [List.pairwise_map]
  exact List.pairwise_lt_range.imp fun h => by omega
/-- the states that reach s and that s reaches -/
def partAt (next : List (List Int)) (s : Int) : List Int := (states next.length).filter fun t => fl (Bfs.reached next [s]) t && decide (0 ≤ at' (Bfs.ways next [s]) t)
def pStep (next : List (List Int)) (p : List Bool × List (List Int)) (s : Int) : List Bool × List (List Int) :=
  if fl p.1 s then p else ((partAt next s).foldl (fun f t => f.set t.toNat true) p.1, p.2 ++ [partAt next s])
def pTo (next : List (List Int)) : Nat → List Bool × List (List Int)
  | 0 => (List.replicate next.length false, [])
  | j + 1 => pStep next (pTo next j) j
def parts (next : List (List Int)) : List (List Int) := (pTo next next.length).2

section
variable {next : List (List Int)} (hin : ∀ xs ∈ next, ∀ t ∈ xs, 0 ≤ t ∧ t < (next.length : Int))
include hin
theorem mem_partAt {s x : Int} (hs : 0 ≤ s ∧ s < (next.length : Int)) : x ∈ partAt next s ↔ (0 ≤ x ∧ x < (next.length : Int)) ∧ Reach next s x ∧ Reach next x s := by
  unfold partAt
  have hl : ∀ t ∈ [s], 0 ≤ t ∧ t < (next.length : Int) := fun t ht => by rw [List.mem_singleton] at ht; rw [ht]; exact hs
  rw [List.mem_filter, mem_states]
  refine and_congr_right fun hx => ?_
  rw [Bool.and_eq_true, Bfs.reached_depths hin hl hx.1 hx.2, decide_eq_true_eq, decide_eq_true_eq, Bfs.ways_depths hin hl, reach_iff hin hs hx.1 hx.2, reach_back hin hs hx.1 hx.2]
omit hin in
theorem partAt_sorted (s : Int) : (partAt next s).Pairwise (fun a b => a < b) := (states_sorted _).filter _
theorem partAt_same {s x : Int} (hs : 0 ≤ s ∧ s < (next.length : Int)) (hx : x ∈ partAt next s) : partAt next x = partAt next s := by
  have h := (mem_partAt hin hs).1 hx
  have hm : ∀ y, y ∈ partAt next x ↔ y ∈ partAt next s := by
    intro y
    rw [mem_partAt hin hs, mem_partAt hin h.1]
    exact and_congr_right fun _ => ⟨fun k => ⟨h.2.1.trans k.1, k.2.trans h.2.2⟩, fun k => ⟨h.2.2.trans k.1, k.2.trans h.2.1⟩⟩
  exact List.Perm.eq_of_pairwise (le := fun a b => a < b) (fun a b _ _ h k => by omega) (partAt_sorted x) (partAt_sorted s) ((List.perm_ext_iff_of_nodup ((partAt_sorted x).imp fun h => by omega) ((partAt_sorted s).imp fun h => by omega)).2 hm)
theorem self_partAt {s : Int} (hs : 0 ≤ s ∧ s < (next.length : Int)) : s ∈ partAt next s := (mem_partAt hin hs).2 ⟨hs, .refl _, .refl _⟩

/-- what is known of the parts after j states -/
structure Pto (next : List (List Int)) (j : Int) (p : List Bool × List (List Int)) : Prop where
  len : p.1.length = next.length
  there : ∀ x, 0 ≤ x → x < (next.length : Int) → (fl p.1 x = true ↔ ∃ l ∈ p.2, x ∈ l)
  all : ∀ x, 0 ≤ x → x < j → x < (next.length : Int) → fl p.1 x = true
  part : ∀ l ∈ p.2, ∃ s r, 0 ≤ s ∧ s < j ∧ s < (next.length : Int) ∧ l = s :: r ∧ l = partAt next s
  sort : p.2.Pairwise fun a b => ∃ x y r r', a = x :: r ∧ b = y :: r' ∧ x < y
omit hin in
theorem sets_fl (l : List Int) : ∀ {f : List Bool}, (∀ t ∈ l, 0 ≤ t ∧ t < (f.length : Int)) → ∀ x, 0 ≤ x → x < (f.length : Int) → (fl (l.foldl (fun f t => f.set t.toNat true) f) x = true ↔ (x ∈ l ∨ fl f x = true)) := by
  induction l with
  | nil => intro f _ x _ _; simp
  | cons a l ih =>
    intro f hl x h0 h1
    have ha := hl a (List.mem_cons_self ..)
    rw [List.foldl_cons, ih (fun t ht => by rw [List.length_set]; exact hl t (List.mem_cons_of_mem _ ht)) x h0 (by rw [List.length_set]; exact h1)]
    by_cases e : x = a
    · subst e; rw [Bfs.fl_set_same _ h0 h1]; simp
    · rw [Bfs.fl_set_other _ ha.1 h0 e]; simp [e]
theorem Pto.step {j : Nat} (hj : j < next.length) {p : List Bool × List (List Int)} (h : Pto next j p) : Pto next ((j + 1 : Nat) : Int) (pStep next p j) := by
  have hjs : (0 : Int) ≤ (j : Int) ∧ (j : Int) < (next.length : Int) := by omega
  unfold pStep
  by_cases hf : fl p.1 j = true
  · rw [if_pos hf]
    refine ⟨h.len, h.there, fun x h0 h1 h2 => ?_, fun l hl => ?_, h.sort⟩
    · by_cases e : x = (j : Int)
      · rw [e]; exact hf
      · exact h.all x h0 (by omega) h2
    · obtain ⟨s, r, a, b, c⟩ := h.part l hl
      exact ⟨s, r, a, by omega, c⟩
  · rw [if_neg hf]
    have hpm : ∀ t ∈ partAt next j, 0 ≤ t ∧ t < (p.1.length : Int) := fun t ht => by rw [h.len]; exact ((mem_partAt hin hjs).1 ht).1
    have hself := self_partAt hin hjs
    have hleast : ∀ t ∈ partAt next j, (j : Int) ≤ t := by
      intro t ht
      rcases Int.lt_or_le t j with hlt | hle
      · obtain ⟨ht0, -⟩ := (mem_partAt hin hjs).1 ht
        obtain ⟨l, hl, hm⟩ := (h.there t ht0.1 ht0.2).1 (h.all t ht0.1 hlt ht0.2)
        obtain ⟨s, r, a, b, c, -, e⟩ := h.part l hl
        have h1 : partAt next t = partAt next s := partAt_same hin ⟨a, c⟩ (e ▸ hm)
        have h2 : partAt next t = partAt next j := partAt_same hin hjs ht
        have : (j : Int) ∈ l := by rw [e, ← h1, h2]; exact hself
        exact absurd ((h.there j hjs.1 hjs.2).2 ⟨l, hl, this⟩) hf
      · exact hle
    have hhead : ∃ r, partAt next j = (j : Int) :: r := by
      have hs := partAt_sorted (next := next) (j : Int)
      match hp : partAt next j, hself with
      | y :: r, hself =>
        have hy : (j : Int) ≤ y := hleast y (by rw [hp]; exact List.mem_cons_self ..)
        rcases List.mem_cons.1 hself with e | e
        · exact ⟨r, by rw [e]⟩
        · rw [hp] at hs
          have := (List.pairwise_cons.1 hs).1 _ e
          omega
    obtain ⟨r, hr⟩ := hhead
    have hfl := sets_fl (partAt next j) hpm
    refine ⟨by rw [Bfs.sets_len]; exact h.len, fun x h0 h1 => ?_, fun x h0 h1 h2 => ?_, fun l hl => ?_, ?_⟩
    · rw [hfl x h0 (by rw [h.len]; exact h1), h.there x h0 h1]
      constructor
      · rintro (hm | ⟨l, hl, hm⟩)
        · exact ⟨_, List.mem_append_right _ (List.mem_singleton.2 rfl), hm⟩
        · exact ⟨l, List.mem_append_left _ hl, hm⟩
      · rintro ⟨l, hl, hm⟩
        rcases List.mem_append.1 hl with hl | hl
        · exact .inr ⟨l, hl, hm⟩
        · rw [List.mem_singleton] at hl; rw [hl] at hm; exact .inl hm
    · rw [hfl x h0 (by rw [h.len]; exact h2)]
      by_cases e : x = (j : Int)
      · rw [e]; exact .inl hself
      · exact .inr (h.all x h0 (by omega) h2)
    · rcases List.mem_append.1 hl with hl | hl
      · obtain ⟨s, r, a, b, c⟩ := h.part l hl
        exact ⟨s, r, a, by omega, c⟩
      · rw [List.mem_singleton] at hl
        exact ⟨j, r, by omega, by omega, hjs.2, hl.trans hr, hl⟩
    · rw [List.pairwise_append]
      refine ⟨h.sort, List.pairwise_singleton _ _, fun a ha b hb => ?_⟩
      rw [List.mem_singleton] at hb
      obtain ⟨s, r', a0, a1, a2, a3, -⟩ := h.part a ha
      exact ⟨s, j, r', r, a3, hb.trans hr, a1⟩
theorem Pto.to : ∀ j, j ≤ next.length → Pto next (j : Int) (pTo next j)
  | 0, _ => by
    refine ⟨by simp [pTo], fun x h0 h1 => ?_, fun x h0 h1 => by omega, fun l hl => (List.not_mem_nil hl).elim, List.Pairwise.nil⟩
    have : x.toNat < next.length := by omega
    simp [pTo, fl, List.getD_eq_getElem?_getD, this]
  | j + 1, hj => Pto.step hin hj (Pto.to j (by omega))
/-- the reference's components are the program's, sorted -/
theorem parts_found {b : Nat} (hb : ∀ xs ∈ next, xs.length ≤ b) : parts next = Lex.lsort (found next) := by
  have hc := found_comps' hb (Bfs.row_in hin)
  have hp := Pto.to hin next.length (Nat.le_refl _)
  have hfs : ∀ l ∈ found next, ∀ x ∈ l, l = partAt next x := by
    intro l hl x hx
    have hxs := (hc.all x).1 ⟨l, hl, hx⟩
    have hnd := (List.pairwise_flatten.1 hc.nodup).1 l hl
    refine List.Perm.eq_of_pairwise (le := fun a b => a ≤ b) (fun a b _ _ h k => by omega) (hc.sort l hl) ((partAt_sorted x).imp fun h => by omega) ((List.perm_ext_iff_of_nodup hnd ((partAt_sorted x).imp fun h => by omega)).2 fun y => ?_)
    rw [hc.same l hl x hx, mem_partAt hin hxs]
    refine ⟨fun k => ⟨?_, k⟩, fun k => k.2⟩
    exact (hc.all y).1 ⟨l, hl, (hc.same l hl x hx y).2 k⟩
  refine Lex.lsort_of ((List.perm_ext_iff_of_nodup ?_ ?_).2 fun l => ?_) ?_
  · refine hp.sort.imp ?_
    rintro a b ⟨x, y, r, r', rfl, rfl, h⟩ e
    injection e with e1 _
    omega
  · have h2 := (List.pairwise_flatten.1 hc.nodup).2
    refine h2.imp_of_mem ?_
    intro a b ha hb h e
    subst e
    obtain ⟨x, hx⟩ := List.exists_mem_of_ne_nil a (hc.some' a ha)
    exact h x hx x hx rfl
  · constructor
    · intro hl
      obtain ⟨s, r, h0, h1, h2, e, e2⟩ := hp.part l hl
      obtain ⟨l', hl', hm⟩ := (hc.all s).2 ⟨h0, h2⟩
      rw [e2, ← hfs l' hl' s hm]; exact hl'
    · intro hl
      obtain ⟨x, hx⟩ := List.exists_mem_of_ne_nil l (hc.some' l hl)
      have hxs := (hc.all x).1 ⟨l, hl, hx⟩
      obtain ⟨l', hl', hm⟩ := (hp.there x hxs.1 hxs.2).1 (hp.all x hxs.1 hxs.2 hxs.2)
      obtain ⟨s, r, h0, h1, h2, e, e2⟩ := hp.part l' hl'
      have : l = l' := by rw [hfs l hl x hx, e2]; exact partAt_same hin ⟨h0, h2⟩ (e2 ▸ hm)
      rw [this]; exact hl'
  · refine hp.sort.imp ?_
    rintro a b ⟨x, y, r, r', rfl, rfl, h⟩
    unfold Lex.le Lex.cmpL
    rw [if_pos h]; decide
end
end Go.Proofs.YtoffbdlgmnpblaaGreat.Tar

/- The reference's table of edges, lengths of shortest paths, reached states. -/
namespace Go.Proofs.YtoffbdlgmnpblaaGreat
open Go.RowKit
set_option maxHeartbeats 4000000
set_option maxRecDepth 100000

/-! ### the plain law of a row -/
theorem add1_nodup {L : List Int} {x : Int} (h : L.Nodup) : (add1 L x).Nodup := by
  unfold add1
  split
  · exact h
  · rename_i hc
    rw [List.nodup_append]
    refine ⟨h, by simp, fun a ha b hb => ?_⟩
    rw [List.mem_singleton] at hb
    subst hb
    rintro rfl
    exact hc (by simpa using ha)
theorem fold_add1 (l : List Int) : ∀ {L : List Int}, L.Nodup → (l.foldl add1 L).Nodup ∧ ∀ x, x ∈ l.foldl add1 L ↔ (x ∈ L ∨ x ∈ l) := by
  induction l with
  | nil => intro L h; exact ⟨h, fun x => by simp⟩
  | cons a l ih =>
    intro L h
    obtain ⟨h1, h2⟩ := ih (add1_nodup (x := a) h)
    refine ⟨h1, fun x => ?_⟩
    rw [List.foldl_cons, h2]
    unfold add1
    split
    · rename_i hc
      have : a ∈ L := by simpa using hc
      constructor
      · rintro (h | h)
        · exact .inl h
        · exact .inr (List.mem_cons_of_mem _ h)
      · rintro (h | h)
        · exact .inl h
        · rcases List.mem_cons.1 h with rfl | h
          · exact .inl this
          · exact .inr h
    · simp [or_assoc]
theorem dd_nodup (l : List Int) : (dd l).Nodup := (fold_add1 l List.nodup_nil).1
theorem isort_sorted (l : List Int) : (isort l).Pairwise (fun a b : Int => a ≤ b) := Tar.isort_srt l
theorem markedBy_states (n : Nat) (is : Int → Bool) : markedBy n is = (Tar.states n).filter is := rfl
theorem markedBy_congr {n : Nat} {p q : Int → Bool} (h : ∀ x, 0 ≤ x → x < (n : Int) → p x = q x) : markedBy n p = markedBy n q := by
  rw [markedBy_states, markedBy_states]
  refine List.filter_congr fun x hx => ?_
  have := Tar.mem_states.1 hx
  exact h x this.1 this.2
/-- the marked states of a row are the row as the program lays it -/
theorem row_marked {n : Nat} {st : St} (ht : ∀ t ∈ targets st, 0 ≤ t ∧ t < (n : Int)) : markedBy n (Bfs.fl (Bfs.flags n (targets st))) = nextOf st := by
  have h1 : markedBy n (Bfs.fl (Bfs.flags n (targets st))) = markedBy n fun x => decide (x ∈ targets st) := markedBy_congr fun x h0 h1 => Bfs.fl_flags ht h0 h1
  rw [h1, markedBy_states]
  have hs : ((Tar.states n).filter fun x => decide (x ∈ targets st)).Pairwise (fun a b => a < b) := (Tar.states_sorted n).filter _
  refine List.Perm.eq_of_pairwise (le := fun a b => a ≤ b) (fun a b _ _ h k => by omega) (hs.imp fun h => by omega) (isort_sorted _) ((List.perm_ext_iff_of_nodup (hs.imp fun h => by omega) ?_).2 fun x => ?_)
  · exact (List.mergeSort_perm (dd (targets st)) _).nodup_iff.2 (dd_nodup _)
  · unfold nextOf
    rw [List.mem_filter, Tar.mem_states, mem_isort, mem_dd, decide_eq_true_eq]
    exact ⟨fun h => h.2, fun h => ⟨ht x h, h⟩⟩
theorem Fine.targets {m : List St} (h : Fine m) {st : St} (hs : st ∈ m) : ∀ t ∈ targets st, 0 ≤ t ∧ t < (m.length : Int) := by
  intro t ht
  unfold Go.Proofs.YtoffbdlgmnpblaaGreat.targets at ht
  obtain ⟨c, hc, ht⟩ := List.mem_flatMap.1 ht
  unfold Go.Proofs.YtoffbdlgmnpblaaGreat.tos at ht
  obtain ⟨b, hb, rfl⟩ := List.mem_map.1 ht
  exact h.tos st hs c hc b hb

theorem Rtable_calls (m : List St) (v : Value) (D : Nat → Prop) (w : World) (hD : Lo D w) (h : ModelC w D v m) (hf : Fine m) :
    Calls Tryz.prog 81 #[v] w fun e w' => ∃ v' ps, e = .returned v' ∧ Below w.heap.size w w' ∧ RowsC w' (w.heap.size + 1) v' ps ∧ ps.map (·.2) = m.map nextOf := by
  obtain ⟨mv, rfl, hmm⟩ := h
  have HM : Hid (ModelC w D (.agg #[mv]) m) := ⟨mv, rfl, hmm⟩
  obtain ⟨A, c, rfl, h1, h2, -⟩ := hmm.form
  unfold maxLen at h2
  have HLEN := hf.len
  have HF := Lib.hid hf
  clear hmm hf
  have hb0 := (Below.refl w.heap.size w).alloc (Nat.le_refl _) (.cells #[.slice A m.length c] 24)
  have HX0 := Lib.hid (heap_alloc_new w (.cells #[.slice A m.length c] 24))
  go_enter Tryz.func81, Tryz.ntmps81
  go_wp2
  go_loopw [3, 8] (fun v k W => ∃ (j : Nat) (ps : List (Value × List Int)), j ≤ m.length ∧ k = .int .i64 (j : Int) ∧ Hid (Below w.heap.size w W) ∧ w.heap.size + 1 ≤ W.heap.size ∧ Hid (W.heap[w.heap.size]? = some (.cells #[.slice A m.length c] 24 (0, 0))) ∧ Hid (RowsC W (w.heap.size + 1) v ps) ∧ Hid (ps.map (·.2) = (m.take j).map nextOf)) (fun _ k _ => m.length - (intOf k).toNat)
  case atStart => exact ⟨0, [], Nat.zero_le _, rfl, Lib.hid hb0, by simp, HX0.out, ⟨World.ownsRow_nil _ _ _ _, fun p hp => (List.not_mem_nil hp).elim⟩, rfl⟩
  case round =>
    clear hb0 HX0
    obtain ⟨j, ps, hj, rfl, HBW, hsW, HXW, HR, HP⟩ := hrel
    have hown := HR.out.own
    have hpl : ps.length ≤ 40 := by have := congrArg List.length HP.out; rw [List.length_map, List.length_map, List.length_take] at this; omega
    obtain ⟨A3, c3, rfl, -, -, -⟩ := own_form hown
    have HOWN := Lib.hid hown
    clear hown
    by_cases hlt : j < m.length
    · obtain ⟨st, hst⟩ : ∃ st, m[j]? = some st := ⟨_, List.getElem?_eq_getElem hlt⟩
      have HST := Lib.hid hst
      clear hst
      obtain ⟨c0, -⟩ := blk_at HXW.out 0
      go_wp2_with fail
      refine (RNext_calls m (j : Int) st _ D wr (hD.up HBW.out.size) (HM.out.same (hD.same HBW.out)) HF.out (by omega) (by omega) (by rw [Int.toNat_natCast]; exact HST.out)).mono ?_
      rintro e w3 ⟨v3, rfl, hb3, hn3⟩
      obtain ⟨N3, d3, rfl, -, -, -⟩ := hn3.form
      rw [Bfs.flags_len] at hn3 ⊢
      have HN3 := Lib.hid hn3
      have HB3 := Lib.hid hb3
      clear hn3 hb3 c0
      go_wp2_with fail
      refine (RList_calls _ _ _ w3 (fun k hk => hk.2.1) HN3.out (by rw [Bfs.flags_len]; omega)).mono ?_
      rintro e w4 ⟨v4, rfl, hb4, hn4⟩
      rw [Bfs.flags_len, row_marked (HF.out.targets (List.mem_of_getElem? HST.out))] at hn4
      have hb34 := HB3.out.trans (hb4.mono HB3.out.size)
      obtain ⟨A4, c4, rfl, -, -, -⟩ := own_form hn4
      have HO4 := Lib.hid hn4
      have HB4 := Lib.hid hb34
      have hs4 := hb34.size
      have hs43 := hb4.size
      have HS3 := Lib.hid HB3.out.size
      clear hn4 hb4 hb34 HN3 HB3
      go_wp2_with ((at_builtin); (refine wpList_app1 elem_row rfl _ _ rfl (w.heap.size + 1) _ ps.length (ps.map (·.1)) rfl (own_kept HOWN.out fun k hk => (heap_alloc_old _ _ (Nat.lt_of_lt_of_le (HOWN.out.lt k hk).2 hs4)).trans (HB4.out.block k (HOWN.out.lt k hk).2)) ⟨_, 0, none⟩ 1 _ rfl (cell_new1 _ _ _) rfl (by omega) (by omega) (by simp; omega) ?_); (intro v6 w6 ho6 hg6 ha6); (have HO6 := Lib.hid ho6); (have HG6 := Lib.hid hg6); (have HA6 := Lib.hid ha6); (obtain ⟨A6, c6, rfl, -, -, -⟩ := own_form ho6); (clear ho6 hg6 ha6))
      have HR5 := Lib.hid (RowsC.snoc HR.out hsW HB4.out (own_base HO4.out (by have := HS3.out; omega)) (fun k hk => by have := (HO4.out.lt k hk).1; have := HS3.out; omega) HG6.out HO6.out HA6.out)
      have hb6 := ((HBW.out.trans (HB4.out.mono HBW.out.size)).alloc (by omega) (.cells #[.slice A4 (nextOf st).length c4] 31)).grown HG6.out (by simp; omega) (fun k hk => by have := (HOWN.out.lt k hk).1; omega)
      have hs6 := HG6.out.size
      have HX6 := Lib.hid ((HG6.out.block w.heap.size (by simp; omega) (fun e => by have := (HOWN.out.lt _ e.symm).1; omega)).trans ((heap_alloc_old _ _ (by omega)).trans ((HB4.out.block w.heap.size (by omega)).trans HXW.out)))
      exact ⟨⟨j + 1, ps ++ [(_, nextOf st)], by omega, by go_num, hb6, by simp at hs6; omega, HX6, HR5.out, Lib.hid (by rw [List.map_append, HP.out, List.take_add_one, HST.out]; simp)⟩, by simp [intOf]; omega⟩
    · obtain rfl : j = m.length := by omega
      have HE := Lib.hid (show ps.map (·.2) = m.map nextOf by rw [HP.out, List.take_length])
      clear hlt
      go_wp2
      go_ret
      exact ⟨_, ps, rfl, HBW.out, HR.out, HE.out⟩
end Go.Proofs.YtoffbdlgmnpblaaGreat

/- The reference's lengths of shortest paths. -/
namespace Go.Proofs.YtoffbdlgmnpblaaGreat
open Go.RowKit
set_option maxHeartbeats 4000000
set_option maxRecDepth 100000

/-- a row of own rows while only block g, which is none of theirs, turns -/
theorem Rows2.at_same {W W' : World} {D : Nat → Prop} {A : Option Addr} {n c : Nat} {xss : List (List Int)} (h : Rows2 W D (.slice A n c) xss) (hs : Same D W W') (i : Nat) (xs : List Int) (hx : xss[i]? = some xs) :
    ∃ ad B d, A = some ad ∧ W'.cell? (ad.add i) = some (.slice B xs.length d) ∧ Sl (Kind.int .i64) W' D (.slice B xs.length d) xs := by
  obtain ⟨ad, u, e, hd, hc, hu⟩ := Rows2.at' (h.same hs) i xs hx
  obtain ⟨B, d, rfl, -, -, -⟩ := hu.ints
  exact ⟨ad, B, d, e, hc, hu⟩
theorem wVisit_take {r : List Int} {i : Nat} {t : Int} (ht : r[i]? = some t) (k s : Int) (d : List Int) : (r.take (i + 1)).foldl (Bfs.wVisit k s) d = Bfs.wVisit k s ((r.take i).foldl (Bfs.wVisit k s) d) t := by
  rw [List.take_add_one, ht, List.foldl_append]; rfl

theorem RWays_calls (m : List St) (l : List Int) (v u : Value) (D : Nat → Prop) (w : World) (hD : Lo D w) (h : ModelC w D v m) (hl : Sl (Kind.int .i64) w D u l) (hf : Fine m) (hm : ∀ s ∈ l, 0 ≤ s ∧ s < (m.length : Int)) (hll : l.length ≤ 1000) :
    Calls Tryz.prog 84 #[v, u] w fun e w' => ∃ v', e = .returned v' ∧ Below w.heap.size w w' ∧ Sl (Kind.int .i64) w' (nws w w') v' (Bfs.ways (m.map nextOf) l) := by
  obtain ⟨mv, rfl, hmm⟩ := h
  have HM : Hid (ModelC w D (.agg #[mv]) m) := ⟨mv, rfl, hmm⟩
  obtain ⟨A, c, rfl, h1, h2, -⟩ := hmm.form
  obtain ⟨B, b, rfl, l1, l2, -⟩ := hl.form
  unfold maxLen at h2 l2
  have HLEN := hf.len
  have HF := Lib.hid hf
  have HIN := Lib.hid (Edges.of_fine hf).ins
  have HU := Ints.up hl hD
  have HI := Lib.hid hm
  obtain ⟨next, hnx⟩ : ∃ next, next = m.map nextOf := ⟨_, rfl⟩
  have hnl : next.length = m.length := by rw [hnx, List.length_map]
  rw [← hnx] at HIN ⊢
  have HNX := Lib.hid hnx
  clear hmm hf hl hm hnx
  have HX0 := Lib.hid (heap_alloc_new w (.cells #[.slice A m.length c] 24))
  have hb0 := Lib.hid ((Below.refl w.heap.size w).alloc (Nat.le_refl _) (.cells #[.slice A m.length c] 24))
  go_enter Tryz.func84, Tryz.ntmps84
  go_upto_region 2 with (refine wpList_mk1 elem_i64 rfl _ _ rfl (by intro cs h; cases h) (w.heap.size + 1) _ _ (m.length : Int) (m.length : Int) rfl rfl (by omega) (by omega) (by omega) (by omega) (by simp) ?_; intro w1 hown hb1 hz1 hcells)
  have hown' : OwnInts w1 (w.heap.size + 1) (w.heap.size + 1) m.length (List.replicate m.length 0) := by simpa [OwnInts, ints] using hown
  have HB1 := Lib.hid (hb0.out.trans (hb1.mono (by simp)))
  have hz2 : w.heap.size + 2 ≤ w1.heap.size := by rw [hz1]; simp
  have HX1 := Lib.hid ((hb1.block w.heap.size (by simp)).trans HX0.out)
  clear hown hcells hb1 hz1 hb0 HX0
  go_wp2_with fail
  go_loopw [20] (fun k W => ∃ (j : Nat) (d : List Int), j ≤ m.length ∧ k = .int .i64 (j : Int) ∧ Hid (Below w.heap.size w W) ∧ w.heap.size + 2 ≤ W.heap.size ∧ Hid (W.heap[w.heap.size]? = some (.cells #[.slice A m.length c] 24 (0, 0))) ∧ OwnInts W (w.heap.size + 1) (w.heap.size + 1) m.length d ∧ Hid (d = List.replicate j (-1) ++ List.replicate (m.length - j) 0)) (fun k _ => m.length - (intOf k).toNat)
  case atStart => exact ⟨0, _, Nat.zero_le _, rfl, HB1.out, hz2, HX1.out, hown', Lib.hid (by simp : List.replicate m.length (0 : Int) = List.replicate 0 (-1) ++ List.replicate (m.length - 0) 0)⟩
  case round =>
    obtain ⟨j, d, hj, rfl, HBW, hsW, HXW, hO, HDD⟩ := hrel
    clear hown' HB1 hz2 HX1
    by_cases hlt : j < m.length
    · obtain ⟨k1, k2⟩ := hO.cell (i := j) (x := 0) (by rw [HDD.out, List.getElem?_append_right (by simp), List.length_replicate, Nat.sub_self, List.getElem?_replicate, if_pos (by omega)])
      go_wp2
      refine ⟨⟨j + 1, d.set j (-1), by omega, by go_num, Lib.hid (HBW.out.setCell (by simp) _), by simpa [World.setCell] using hsW, Lib.hid ((Below.heap_setCell _ _ _ _ (by simp)).trans HXW.out), hO.set hlt _, Lib.hid ?_⟩, by simp [intOf]; omega⟩
      rw [HDD.out, List.set_append_right _ _ (by simp)]
      have e : m.length - j = (m.length - (j + 1)) + 1 := by omega
      rw [e, List.replicate_succ (n := m.length - (j + 1)), List.length_replicate, Nat.sub_self, List.set_cons_zero, List.replicate_succ' (n := j)]
      simp
    · obtain rfl : j = m.length := by omega
      have hd : d = List.replicate m.length (-1) := by rw [HDD.out]; simp
      subst hd
      have HM0 := Lib.hid (show List.replicate m.length (-1) = Bfs.marked m.length (l.take 0) by simp [Bfs.marked])
      clear hlt HDD
      go_wp2
      go_loopw [29] (fun k W => ∃ (j : Nat) (d : List Int), j ≤ l.length ∧ k = .int .i64 (j : Int) ∧ Hid (Below w.heap.size w W) ∧ w.heap.size + 2 ≤ W.heap.size ∧ Hid (W.heap[w.heap.size]? = some (.cells #[.slice A m.length c] 24 (0, 0))) ∧ OwnInts W (w.heap.size + 1) (w.heap.size + 1) m.length d ∧ Hid (d = Bfs.marked m.length (l.take j))) (fun k _ => l.length - (intOf k).toNat)
      case atStart => exact ⟨0, _, Nat.zero_le _, rfl, HBW.out, hsW, HXW.out, hO, HM0.out⟩
      case round =>
        clear HBW hsW hO HM0 HXW
        obtain ⟨j, d, hj, rfl, HBW, hsW, HXW, hO, HDD⟩ := hrel
        by_cases hlt : j < l.length
        · obtain ⟨t, ht⟩ : ∃ t, l[j]? = some t := ⟨_, List.getElem?_eq_getElem hlt⟩
          obtain ⟨t1, t2⟩ := HI.out t (List.mem_of_getElem? ht)
          obtain ⟨bd, rfl, hDb, hcs⟩ := HU.out (by omega)
          have q1 := hcs _ HBW.out j _ ht
          obtain ⟨k1, k2⟩ := hO.cellAt t1 t2
          have HTT := Lib.hid ht
          clear hcs ht
          go_wp2
          refine ⟨⟨j + 1, d.set t.toNat 0, by omega, by go_num, Lib.hid (HBW.out.setCell (by simp) _), by simpa [World.setCell] using hsW, Lib.hid ((Below.heap_setCell _ _ _ _ (by simp)).trans HXW.out), hO.set (by omega) _, Lib.hid ?_⟩, by simp [intOf]; omega⟩
          rw [List.take_add_one, HTT.out, Option.toList_some, Bfs.marked_snoc, ← HDD.out]
        · obtain rfl : j = l.length := by omega
          have hdm : d = Bfs.wTo next l 0 := by rw [HDD.out, List.take_length, ← hnl]; rfl
          subst hdm
          clear hlt HDD
          obtain ⟨c0, -⟩ := blk_at HXW.out 0
          go_wp2_with fail
          refine (Rtable_calls m _ D wr (hD.up HBW.out.size) (HM.out.same (hD.same HBW.out)) HF.out).mono ?_
          rintro e w5 ⟨v5, ps, rfl, hb5, hr5, hps⟩
          have hrl := hr5.slS
          rw [hps, ← HNX.out] at hrl
          obtain ⟨NA, nc, hnv, hn1, hn2, -⟩ := hrl.form
          rw [hnv] at hrl
          subst hnv
          rw [hnl] at hrl hn1 ⊢
          unfold maxLen at hn2
          have HN := Lib.hid (hrl.mono (D' := fun k => w.heap.size + 2 ≤ k ∧ k < w5.heap.size) fun k hk => ⟨by omega, hk.2.1⟩)
          have HB5 := Lib.hid (HBW.out.trans (hb5.mono HBW.out.size))
          have HX5 := Lib.hid ((hb5.block w.heap.size (by omega)).trans HXW.out)
          have hO5 := hO.below hb5
          have hs5 : w.heap.size + 2 ≤ w5.heap.size := Nat.le_trans hsW hb5.size
          clear hb5 hr5 hrl hps c0 hO HBW HXW hsW
          obtain ⟨c0, -⟩ := blk_at HX5.out 0
          have hgrefl : w5.grownBy w5 (some (w.heap.size + 1)) := World.grownBy.refl _ _
          go_wp2_with fail
          go_loopw [42] (fun k W => ∃ (K : Nat) (d : List Int), K ≤ m.length ∧ k = .int .i64 (K : Int) ∧ Hid (w5.grownBy W (some (w.heap.size + 1))) ∧ OwnInts W (w.heap.size + 1) (w.heap.size + 1) m.length d ∧ Hid (d = Bfs.wTo next l K)) (fun k _ => m.length - (intOf k).toNat)
          case atStart => exact ⟨0, _, Nat.zero_le _, rfl, hgrefl, hO5, Lib.hid rfl⟩
          case round =>
            clear hgrefl hO5 c0
            obtain ⟨K, d, hK, rfl, HG, hO, HDD⟩ := hrel
            have HXW := Lib.hid ((HG.out.block w.heap.size (by omega) (by simp)).trans HX5.out)
            by_cases hlt : K < m.length
            · obtain ⟨c0, -⟩ := blk_at HXW.out 0
              have HD0 : Hid (d = Bfs.wRound next K (Bfs.wTo next l K) 0) := HDD
              clear HDD
              go_wp2
              go_loopw [48] (fun k W => ∃ (j : Nat) (d : List Int), j ≤ m.length ∧ k = .int .i64 (j : Int) ∧ Hid (w5.grownBy W (some (w.heap.size + 1))) ∧ OwnInts W (w.heap.size + 1) (w.heap.size + 1) m.length d ∧ Hid (d = Bfs.wRound next K (Bfs.wTo next l K) j)) (fun k _ => m.length - (intOf k).toNat)
              case atStart => exact ⟨0, _, Nat.zero_le _, rfl, HG.out, hO, HD0.out⟩
              case round =>
                clear hO HD0 HG HXW c0
                obtain ⟨j, d, hj, rfl, HG, hO, HDD⟩ := hrel
                by_cases hlj : j < m.length
                · obtain ⟨xs, hxs⟩ : ∃ xs, next[j]? = some xs := ⟨_, List.getElem?_eq_getElem (by omega)⟩
                  have HSM : Hid (Same (fun k => w.heap.size + 2 ≤ k ∧ k < w5.heap.size) w5 wr) := Lib.hid fun k hk => HG.out.block k hk.2 (fun e => by injection e with e; omega)
                  obtain ⟨ad, RB, rd, rfl, r0, hrs⟩ := Rows2.at_same HN.out HSM.out j xs hxs
                  have HXS := Lib.hid (show Bfs.row next (j : Int) = xs by unfold Bfs.row; rw [Int.toNat_natCast, List.getD_eq_getElem?_getD, hxs]; rfl)
                  have HXI := Lib.hid (HIN.out xs (List.mem_of_getElem? hxs))
                  have hD0 : Hid (d = (xs.take 0).foldl (Bfs.wVisit K j) (Bfs.wRound next K (Bfs.wTo next l K) j)) := HDD
                  obtain ⟨-, hrl1, hrl2⟩ := hrs.len
                  have HRS := Lib.hid (hrs.same (w' := w5) fun k hk => (HSM.out k hk).symm)
                  unfold maxLen at hrl2
                  clear hxs hrs HDD
                  go_wp2
                  clear r0
                  go_loopw [56] (fun k W => ∃ (i : Nat) (d : List Int), i ≤ xs.length ∧ k = .int .i64 (i : Int) ∧ Hid (w5.grownBy W (some (w.heap.size + 1))) ∧ OwnInts W (w.heap.size + 1) (w.heap.size + 1) m.length d ∧ Hid (d = (xs.take i).foldl (Bfs.wVisit K j) (Bfs.wRound next K (Bfs.wTo next l K) j))) (fun k _ => xs.length - (intOf k).toNat)
                  case atStart => exact ⟨0, _, Nat.zero_le _, rfl, HG.out, hO, hD0.out⟩
                  case round =>
                    clear hO hD0 HG HSM
                    obtain ⟨i, d, hi, rfl, HG, hO, HDD⟩ := hrel
                    by_cases hli : i < xs.length
                    · obtain ⟨t, ht⟩ : ∃ t, xs[i]? = some t := ⟨_, List.getElem?_eq_getElem hli⟩
                      obtain ⟨t0, t1⟩ := HXI.out t (List.mem_of_getElem? ht)
                      rw [hnl] at t1
                      have hsm : Same (fun k => w.heap.size + 2 ≤ k ∧ k < w5.heap.size) w5 wr := fun k hk => HG.out.block k hk.2 (fun e => by injection e with e; omega)
                      obtain ⟨RA', rc', re, -, -, hrc⟩ := (HRS.out.same hsm).ints
                      injection re with e1 e2 e3
                      subst e1 e3
                      obtain ⟨bd, rfl, -, hrc⟩ := hrc (by omega)
                      have r1 := hrc i hli
                      rw [Dig.gd_of ht] at r1
                      obtain ⟨k1, k2⟩ := hO.cellAt t0 t1
                      obtain ⟨k3, k4⟩ := hO.cellAt (t := (j : Int)) (by omega) (by omega)
                      rw [Int.toNat_natCast] at k3 k4
                      have HV := Lib.hid (show (xs.take (i + 1)).foldl (Bfs.wVisit K j) (Bfs.wRound next K (Bfs.wTo next l K) j) = Bfs.wVisit K j d t by rw [wVisit_take ht, ← HDD.out])
                      have HO2 := Lib.hid (hO.set (i := j) hlj ((K : Int) + 1))
                      have HG2 := Lib.hid (grown_trans HG.out (grown_set wr (w.heap.size + 1) j (.int .i64 ((K : Int) + 1))))
                      have HGG := HG
                      have HOO := Lib.hid hO
                      have HW := Lib.hid (show Bfs.wVisit K j d t = if Bfs.at' d j < 0 ∧ Bfs.at' d t = K then d.set j ((K : Int) + 1) else d from rfl)
                      clear hrc ht hsm hO HDD
                      obtain ⟨a, ha⟩ : ∃ a, a = Bfs.at' d j := ⟨_, rfl⟩
                      obtain ⟨b', hb'⟩ : ∃ b, b = Bfs.at' d t := ⟨_, rfl⟩
                      rw [← ha] at k3 HW
                      rw [← hb'] at k1 HW
                      clear ha hb'
                      by_cases h1 : a < 0
                      · by_cases h2 : b' = K
                        · have HE := Lib.hid (show d.set j ((K : Int) + 1) = (xs.take (i + 1)).foldl (Bfs.wVisit K j) (Bfs.wRound next K (Bfs.wTo next l K) j) by rw [HV.out, HW.out, if_pos ⟨h1, h2⟩])
                          subst h2
                          clear HW HV
                          go_wp2
                          exact ⟨⟨i + 1, _, by omega, by go_num, HG2, HO2.out, HE⟩, by simp [intOf]; omega⟩
                        · have HE := Lib.hid (show d = (xs.take (i + 1)).foldl (Bfs.wVisit K j) (Bfs.wRound next K (Bfs.wTo next l K) j) by rw [HV.out, HW.out, if_neg fun h => h2 h.2])
                          have hne : (b' == (K : Int)) = false := by simpa using h2
                          clear HW HV h2
                          go_wp2
                          exact ⟨⟨i + 1, _, by omega, by go_num, HGG, HOO.out, HE⟩, by simp [intOf]; omega⟩
                      · have HE := Lib.hid (show d = (xs.take (i + 1)).foldl (Bfs.wVisit K j) (Bfs.wRound next K (Bfs.wTo next l K) j) by rw [HV.out, HW.out, if_neg fun h => h1 h.1])
                        clear HW HV
                        go_wp2
                        exact ⟨⟨i + 1, _, by omega, by go_num, HGG, HOO.out, HE⟩, by simp [intOf]; omega⟩
                    · obtain rfl : i = xs.length := by omega
                      have HE := Lib.hid (show d = Bfs.wRound next K (Bfs.wTo next l K) (j + 1) by
                        rw [HDD.out, List.take_length, ← HXS.out]; rfl)
                      clear hli HDD
                      go_wp2
                      exact ⟨⟨j + 1, d, by omega, by go_num, HG, hO, HE⟩, by simp [intOf]; omega⟩
                · obtain rfl : j = m.length := by omega
                  have HE := Lib.hid (show d = Bfs.wTo next l (K + 1) by rw [HDD.out, ← hnl]; rfl)
                  clear hlj HDD
                  go_wp2
                  exact ⟨⟨K + 1, d, by omega, by go_num, HG, hO, HE⟩, by simp [intOf]; omega⟩
            · obtain rfl : K = m.length := by omega
              have HE := Lib.hid (show Bfs.ways next l = d by rw [HDD.out, ← hnl]; rfl)
              clear hlt HDD
              go_wp2
              go_ret
              rw [HE.out]
              exact ⟨_, rfl, HB5.out.grown HG.out (by omega) (fun k hk => by injection hk with hk; omega), hO.sl.mono fun k hk => ⟨by omega, hk.2⟩⟩
end Go.Proofs.YtoffbdlgmnpblaaGreat
