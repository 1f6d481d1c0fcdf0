/- Part 43: Pq Rf31. -/
import Derived.Test.YtoffbdlgmnpblaaGreatJ38
import Derived.Test.YtoffbdlgmnpblaaGreatJ42
import Derived.Test.YtoffbdlgmnpblaaGreatJ40

/- Plain laws: the period of a component does not depend on the paths from which it is computed. -/
namespace Go.Proofs.YtoffbdlgmnpblaaGreat.Per
open Bfs (at' row fl depths Depth turn neg)

/-- a path along edges, by its length -/
inductive Walk (next : List (List Int)) (a : Int) : Nat → Int → Prop where
  | nil : Walk next a 0 a
  | snoc {k : Nat} {b c : Int} : Walk next a k b → c ∈ row next b → Walk next a (k + 1) c
theorem Walk.reach {next : List (List Int)} {k : Nat} {a b : Int} (h : Walk next a k b) : Tar.Reach next a b := by
  induction h with
  | nil => exact .refl _
  | snoc _ e ih => exact ih.step e
theorem Walk.dvd {next : List (List Int)} {l : List Int} {d : Int → Int} {g : Int} (hl : ∀ s ∈ l, ∀ t ∈ row next s, t ∈ l) (hd : ∀ s ∈ l, ∀ t ∈ row next s, g ∣ d s + 1 - d t) {k : Nat} {a b : Int} (ha : a ∈ l) (h : Walk next a k b) : b ∈ l ∧ g ∣ d a + k - d b := by
  induction h with
  | nil => exact ⟨ha, 0, by omega⟩
  | @snoc k b c hw e ih =>
    have := Int.dvd_add ih.2 (hd _ ih.1 _ e)
    rw [show d a + (k : Int) - d b + (d b + 1 - d c) = d a + ((k + 1 : Nat) : Int) - d c by omega] at this
    exact ⟨hl _ ih.1 _ e, this⟩
/-- lengths of some paths from root -/
structure Pot (next : List (List Int)) (l : List Int) (root : Int) (d : Int → Int) : Prop where
  zero : d root = 0
  walk : ∀ t ∈ l, ∃ k : Nat, Walk next root k t ∧ d t = k
theorem Pot.dvd {next : List (List Int)} {l : List Int} {root : Int} {d d' : Int → Int} (hl : ∀ s ∈ l, ∀ t ∈ row next s, t ∈ l) (hr : root ∈ l) (h : Pot next l root d) (h' : Pot next l root d') {g : Int}
    (hd : ∀ s ∈ l, ∀ t ∈ row next s, g ∣ d s + 1 - d t) : ∀ s ∈ l, ∀ t ∈ row next s, g ∣ d' s + 1 - d' t := by
  have key : ∀ t ∈ l, g ∣ d' t - d t := by
    intro t ht
    obtain ⟨k, hw, e⟩ := h'.walk t ht
    have := (hw.dvd hl hd hr).2
    rw [h.zero, Int.zero_add, ← e] at this
    exact this
  intro s hs t ht
  have := Int.dvd_sub (Int.dvd_add (hd s hs t ht) (key s hs)) (key t (hl s hs t ht))
  rw [show d s + 1 - d t + (d' s - d s) - (d' t - d t) = d' s + 1 - d' t by omega] at this
  exact this

/-! ### the greatest common divisor of many numbers -/
theorem dvd_gcd_iff {k a b : Int} : k ∣ (Int.gcd a b : Int) ↔ k ∣ a ∧ k ∣ b :=
  ⟨fun h => ⟨Int.dvd_trans h (Int.gcd_dvd_left ..), Int.dvd_trans h (Int.gcd_dvd_right ..)⟩, fun h => Int.dvd_coe_gcd h.1 h.2⟩
/-- a step: t is met from s -/
def gStep (p : Int → Bool) (d : List Int) (s g t : Int) : Int := if p t then (Int.gcd g (at' d s + 1 - at' d t) : Int) else g
def gRow (next : List (List Int)) (p : Int → Bool) (d : List Int) (g s : Int) : Int := (row next s).foldl (gStep p d s) g
def gAll (next : List (List Int)) (p : Int → Bool) (d l : List Int) : Int := l.foldl (gRow next p d) 0
theorem gStep_nonneg (p : Int → Bool) (d : List Int) (s t : Int) {g : Int} (h : 0 ≤ g) : 0 ≤ gStep p d s g t := by unfold gStep; split <;> omega
theorem gSteps (p : Int → Bool) (d : List Int) (s : Int) (r : List Int) : ∀ {g : Int}, 0 ≤ g → 0 ≤ r.foldl (gStep p d s) g ∧ ∀ k : Int, (k ∣ r.foldl (gStep p d s) g ↔ k ∣ g ∧ ∀ t ∈ r, p t = true → k ∣ at' d s + 1 - at' d t) := by
  induction r with
  | nil => intro g h; exact ⟨h, fun k => by simp⟩
  | cons a r ih =>
    intro g h
    obtain ⟨i1, i2⟩ := ih (gStep_nonneg p d s a h)
    rw [List.foldl_cons]
    refine ⟨i1, fun k => ?_⟩
    rw [i2 k]
    unfold gStep
    by_cases hp : p a = true
    · rw [if_pos hp, dvd_gcd_iff]
      constructor
      · rintro ⟨⟨h1, h2⟩, h3⟩
        refine ⟨h1, fun t ht hpt => ?_⟩
        rcases List.mem_cons.1 ht with rfl | ht
        · exact h2
        · exact h3 t ht hpt
      · rintro ⟨h1, h2⟩
        exact ⟨⟨h1, h2 a (List.mem_cons_self ..) hp⟩, fun t ht hpt => h2 t (List.mem_cons_of_mem _ ht) hpt⟩
    · rw [if_neg hp]
      refine and_congr_right fun _ => ⟨fun h2 t ht hpt => ?_, fun h2 t ht hpt => h2 t (List.mem_cons_of_mem _ ht) hpt⟩
      rcases List.mem_cons.1 ht with rfl | ht
      · exact absurd hpt hp
      · exact h2 t ht hpt
theorem gRows (next : List (List Int)) (p : Int → Bool) (d l : List Int) : ∀ {g : Int}, 0 ≤ g → 0 ≤ l.foldl (gRow next p d) g ∧ ∀ k : Int, (k ∣ l.foldl (gRow next p d) g ↔ k ∣ g ∧ ∀ s ∈ l, ∀ t ∈ row next s, p t = true → k ∣ at' d s + 1 - at' d t) := by
  induction l with
  | nil => intro g h; exact ⟨h, fun k => by simp⟩
  | cons a l ih =>
    intro g h
    obtain ⟨j1, j2⟩ := gSteps p d a (row next a) h
    obtain ⟨i1, i2⟩ := ih (g := gRow next p d g a) j1
    rw [List.foldl_cons]
    refine ⟨i1, fun k => ?_⟩
    rw [i2 k]
    unfold gRow
    rw [j2 k]
    constructor
    · rintro ⟨⟨h1, h2⟩, h3⟩
      refine ⟨h1, fun s hs => ?_⟩
      rcases List.mem_cons.1 hs with rfl | hs
      · exact h2
      · exact h3 s hs
    · rintro ⟨h1, h2⟩
      exact ⟨⟨h1, h2 a (List.mem_cons_self ..)⟩, fun s hs => h2 s (List.mem_cons_of_mem _ hs)⟩
theorem gAll_spec (next : List (List Int)) (p : Int → Bool) (d l : List Int) : 0 ≤ gAll next p d l ∧ ∀ k : Int, (k ∣ gAll next p d l ↔ ∀ s ∈ l, ∀ t ∈ row next s, p t = true → k ∣ at' d s + 1 - at' d t) := by
  obtain ⟨h1, h2⟩ := gRows next p d l (g := 0) (Int.le_refl _)
  exact ⟨h1, fun k => (h2 k).trans ⟨fun h => h.2, fun h => ⟨Int.dvd_zero k, h⟩⟩⟩
theorem dvd_ext {a b : Int} (ha : 0 ≤ a) (hb : 0 ≤ b) (h : ∀ k : Int, k ∣ a ↔ k ∣ b) : a = b := by
  have h1 : a ∣ b := (h a).1 (Int.dvd_refl a)
  have h2 : b ∣ a := (h b).2 (Int.dvd_refl b)
  exact Int.dvd_antisymm ha hb h1 h2

/-! ### the edges within a component -/
/-- inn: the edges between states of l -/
structure Inn (next inn : List (List Int)) (l : List Int) : Prop where
  len : inn.length = next.length
  row : ∀ s, 0 ≤ s → s < (next.length : Int) → ∀ t, t ∈ row inn s ↔ (s ∈ l ∧ t ∈ Bfs.row next s ∧ t ∈ l)
  bnd : ∀ s ∈ l, 0 ≤ s ∧ s < (next.length : Int)
  nodup : l.Nodup
/-! ### the reference's lengths -/
def qVisit (p : Int → Bool) (s : Int) (d : List Int) (t : Int) : List Int := if p t = true ∧ 0 ≤ at' d s ∧ at' d t < 0 then d.set t.toNat (at' d s + 1) else d
def qRow (next : List (List Int)) (p : Int → Bool) (d : List Int) (s : Int) : List Int := (row next s).foldl (qVisit p s) d
def qRound (next : List (List Int)) (p : Int → Bool) (d l : List Int) : List Int := l.foldl (qRow next p) d
def qTo (next : List (List Int)) (p : Int → Bool) (l : List Int) (root : Int) : Nat → List Int
  | 0 => (List.replicate next.length (-1)).set root.toNat 0
  | k + 1 => qRound next p (qTo next p l root k) l
section
variable {next inn : List (List Int)} {l : List Int} {root : Int} {p : Int → Bool}
/-- what the reference knows -/
structure Qin (next inn : List (List Int)) (l : List Int) (root : Int) (d : List Int) : Prop where
  len : d.length = next.length
  root0 : at' d root = 0
  walk : ∀ t, 0 ≤ t → t < (next.length : Int) → at' d t < 0 ∨ ∃ k : Nat, Walk inn root k t ∧ at' d t = k
  low : ∀ x ∈ d, -1 ≤ x
theorem Qin.visit (hi : Inn next inn l) (hin : ∀ xs ∈ next, ∀ t ∈ xs, 0 ≤ t ∧ t < (next.length : Int)) (hp : ∀ t, 0 ≤ t → t < (next.length : Int) → p t = decide (t ∈ l)) {d : List Int} {s t : Int} (h : Qin next inn l root d) (hs : s ∈ l) (ht : t ∈ row next s) :
    Qin next inn l root (qVisit p s d t) ∧ (∀ x, 0 ≤ x → 0 ≤ at' d x → 0 ≤ at' (qVisit p s d t) x) ∧ (0 ≤ at' d s → t ∈ l → 0 ≤ at' (qVisit p s d t) t) := by
  obtain ⟨s0, s1⟩ := hi.bnd s hs
  obtain ⟨t0, t1⟩ := Bfs.row_in hin s s0 s1 t ht
  unfold qVisit
  by_cases hc : p t = true ∧ 0 ≤ at' d s ∧ at' d t < 0
  · rw [if_pos hc]
    obtain ⟨c1, c2, c3⟩ := hc
    rw [hp t t0 t1, decide_eq_true_eq] at c1
    have hsame : at' (d.set t.toNat (at' d s + 1)) t = at' d s + 1 := Bfs.at_set_same _ t0 (by rw [h.len]; exact t1)
    refine ⟨⟨by simp [h.len], ?_, fun x x0 x1 => ?_, fun x hx => ?_⟩, fun x x0 hx => ?_, fun _ _ => by rw [hsame]; omega⟩
    · by_cases e : root = t
      · have := h.root0; rw [e] at this; omega
      · by_cases r0 : 0 ≤ root
        · rw [Bfs.at_set_other _ t0 r0 e]; exact h.root0
        · by_cases e2 : t = 0
          · exfalso
            have := h.root0
            unfold at' at this c3
            rw [e2] at c3
            rw [show root.toNat = (0 : Int).toNat by omega] at this
            omega
          · have : at' (d.set t.toNat (at' d s + 1)) root = at' d root := by
              have hne : t.toNat ≠ root.toNat := by omega
              simp [at', List.getD_eq_getElem?_getD, List.getElem?_set_ne hne]
            rw [this]; exact h.root0
    · by_cases e : x = t
      · subst e
        right
        rcases h.walk s s0 s1 with hh | ⟨k, hw, e⟩
        · omega
        · exact ⟨k + 1, hw.snoc ((hi.row s s0 s1 x).2 ⟨hs, ht, c1⟩), by rw [hsame]; omega⟩
      · rw [Bfs.at_set_other _ t0 x0 e]
        exact h.walk x x0 x1
    · rcases List.mem_or_eq_of_mem_set hx with hx | rfl
      · exact h.low x hx
      · omega
    · by_cases e : x = t
      · subst e; rw [hsame]; omega
      · rw [Bfs.at_set_other _ t0 x0 e]; exact hx
  · rw [if_neg hc]
    refine ⟨h, fun _ _ h => h, fun h1 h2 => ?_⟩
    rcases Int.lt_or_le (at' d t) 0 with h3 | h3
    · exact absurd ⟨by rw [hp t t0 t1, decide_eq_true h2], h1, h3⟩ hc
    · exact h3
theorem Qin.visits (hi : Inn next inn l) (hin : ∀ xs ∈ next, ∀ t ∈ xs, 0 ≤ t ∧ t < (next.length : Int)) (hp : ∀ t, 0 ≤ t → t < (next.length : Int) → p t = decide (t ∈ l)) {s : Int} (hs : s ∈ l) (r : List Int) :
    ∀ {d : List Int}, Qin next inn l root d → (∀ t ∈ r, t ∈ row next s) → Qin next inn l root (r.foldl (qVisit p s) d) ∧ (∀ x, 0 ≤ x → 0 ≤ at' d x → 0 ≤ at' (r.foldl (qVisit p s) d) x) ∧ (0 ≤ at' d s → ∀ t ∈ r, t ∈ l → 0 ≤ at' (r.foldl (qVisit p s) d) t) := by
  have s0 := (hi.bnd s hs).1
  induction r with
  | nil => intro d h _; exact ⟨h, fun _ _ h => h, fun _ t ht => (List.not_mem_nil ht).elim⟩
  | cons a r ih =>
    intro d h hr
    obtain ⟨v1, v2, v3⟩ := h.visit hi hin hp hs (hr a (List.mem_cons_self ..))
    obtain ⟨w1, w2, w3⟩ := ih v1 (fun t ht => hr t (List.mem_cons_of_mem _ ht))
    rw [List.foldl_cons]
    refine ⟨w1, fun x x0 hx => w2 x x0 (v2 x x0 hx), fun h0 t ht hl => ?_⟩
    rcases List.mem_cons.1 ht with rfl | ht
    · exact w2 _ (hi.bnd _ hl).1 (v3 h0 hl)
    · exact w3 (v2 s s0 h0) t ht hl
theorem Qin.rows (hi : Inn next inn l) (hin : ∀ xs ∈ next, ∀ t ∈ xs, 0 ≤ t ∧ t < (next.length : Int)) (hp : ∀ t, 0 ≤ t → t < (next.length : Int) → p t = decide (t ∈ l)) (r : List Int) :
    ∀ {d : List Int}, Qin next inn l root d → (∀ t ∈ r, t ∈ l) → Qin next inn l root (r.foldl (qRow next p) d) ∧ (∀ x, 0 ≤ x → 0 ≤ at' d x → 0 ≤ at' (r.foldl (qRow next p) d) x) ∧ (∀ s ∈ r, 0 ≤ at' d s → ∀ t ∈ row inn s, 0 ≤ at' (r.foldl (qRow next p) d) t) := by
  induction r with
  | nil => intro d h _; exact ⟨h, fun _ _ h => h, fun t ht => (List.not_mem_nil ht).elim⟩
  | cons a r ih =>
    intro d h hr
    have ha := hr a (List.mem_cons_self ..)
    obtain ⟨v1, v2, v3⟩ := Qin.visits (root := root) hi hin hp ha (row next a) h (fun _ h => h)
    obtain ⟨w1, w2, w3⟩ := ih (d := qRow next p d a) v1 (fun t ht => hr t (List.mem_cons_of_mem _ ht))
    rw [List.foldl_cons]
    refine ⟨w1, fun x x0 hx => w2 x x0 (v2 x x0 hx), fun s hs h0 t ht => ?_⟩
    rcases List.mem_cons.1 hs with rfl | hs
    · obtain ⟨m1, m2, m3⟩ := (hi.row s (hi.bnd s ha).1 (hi.bnd s ha).2 t).1 ht
      exact w2 t (hi.bnd t m3).1 (v3 h0 t m2 m3)
    · have hsl := hi.bnd s (hr s (List.mem_cons_of_mem _ hs))
      exact w3 s hs (v2 s hsl.1 h0) t ht
/-- after k rounds: what lies at most k steps away is known -/
theorem Qin.to (hi : Inn next inn l) (hin : ∀ xs ∈ next, ∀ t ∈ xs, 0 ≤ t ∧ t < (next.length : Int)) (hp : ∀ t, 0 ≤ t → t < (next.length : Int) → p t = decide (t ∈ l)) (hr : root ∈ l) {dd : List Int} (hd : Depth inn next.length [root] dd) :
    ∀ k : Nat, Qin next inn l root (qTo next p l root k) ∧ ∀ x, 0 ≤ x → x < (next.length : Int) → 0 ≤ at' dd x → at' dd x ≤ k → 0 ≤ at' (qTo next p l root k) x
  | 0 => by
    obtain ⟨r0, r1⟩ := hi.bnd root hr
    have hs : at' ((List.replicate next.length (-1 : Int)).set root.toNat 0) root = 0 := Bfs.at_set_same _ r0 (by simpa using r1)
    refine ⟨⟨by simp [qTo], hs, fun t t0 t1 => ?_, fun x hx => ?_⟩, fun x x0 x1 h0 h1 => ?_⟩
    · by_cases e : t = root
      · subst e; exact .inr ⟨0, .nil, hs⟩
      · left
        rw [qTo, Bfs.at_set_other _ r0 t0 e]
        have : t.toNat < next.length := by omega
        simp [at', List.getD_eq_getElem?_getD, this]
    · rcases List.mem_or_eq_of_mem_set hx with hx | rfl
      · rw [List.eq_of_mem_replicate hx]; decide
      · decide
    · rcases hd.from' x x0 x1 h0 with ⟨m, -⟩ | ⟨m, -⟩
      · rw [List.mem_singleton] at m; rw [m, qTo, hs]; decide
      · omega
  | k + 1 => by
    obtain ⟨h1, h2⟩ := Qin.to hi hin hp hr hd k
    obtain ⟨w1, w2, w3⟩ := Qin.rows hi hin hp l h1 (fun _ h => h)
    refine ⟨w1, fun x x0 x1 h0 hk => ?_⟩
    by_cases hk2 : at' dd x ≤ (k : Int)
    · exact w2 x x0 (h2 x x0 x1 h0 hk2)
    · rcases hd.from' x x0 x1 h0 with ⟨m, e⟩ | ⟨m, u, u0, u1, m2, m3, m4⟩
      · omega
      · have hu := ((hi.row u u0 u1 x).1 m2).1
        exact w3 u hu (h2 u u0 u1 m3 (by omega)) x m2
end

/-! ### a component -/
theorem inner_walk {next inn : List (List Int)} {l : List Int} (hi : Inn next inn l) (hs : ∀ x ∈ l, ∀ y, y ∈ l ↔ (Tar.Reach next x y ∧ Tar.Reach next y x)) {root x : Int} (hr : root ∈ l) (h : Tar.Reach next root x) (hx : x ∈ l) : ∃ k, Walk inn root k x := by
  induction h with
  | refl => exact ⟨0, .nil⟩
  | @step u y h e ih =>
    have hback := ((hs root hr y).1 hx).2
    have hu : u ∈ l := (hs root hr u).2 ⟨h, (Tar.Reach.edge e).trans hback⟩
    obtain ⟨k, hw⟩ := ih hu
    exact ⟨k + 1, hw.snoc ((hi.row u (hi.bnd u hu).1 (hi.bnd u hu).2 _).2 ⟨hu, e, hx⟩)⟩
theorem walk_mem {inn : List (List Int)} {next : List (List Int)} {l : List Int} (hi : Inn next inn l) {root : Int} (hr : root ∈ l) {k : Nat} {x : Int} (h : Walk inn root k x) : x ∈ l := by
  induction h with
  | nil => exact hr
  | @snoc k b c _ e ih => exact ((hi.row b (hi.bnd b ih).1 (hi.bnd b ih).2 c).1 e).2.2
theorem walk_depth {inn next : List (List Int)} {l dd : List Int} (hi : Inn next inn l) {root : Int} (hr : root ∈ l) (hd : Depth inn next.length [root] dd) {k : Nat} {x : Int} (h : Walk inn root k x) : 0 ≤ at' dd x := by
  induction h with
  | nil => rw [hd.goal root (List.mem_cons_self ..)]; decide
  | @snoc k b c hw e ih =>
    have hb := hi.bnd b (walk_mem hi hr hw)
    exact (hd.done b hb.1 hb.2 ih c e).1
theorem depth_walk {inn next : List (List Int)} {root : Int} {d : List Int} (hd : Depth inn next.length [root] d) : ∀ (f : Nat) (x : Int), 0 ≤ x → x < (next.length : Int) → 0 ≤ at' d x → (at' d x).toNat ≤ f → ∃ k : Nat, Walk inn root k x ∧ at' d x = k := by
  intro f
  induction f with
  | zero =>
    intro x h0 h1 hx hf
    rcases hd.from' x h0 h1 hx with ⟨m, e⟩ | ⟨m, -⟩
    · rw [List.mem_singleton] at m; rw [e, m]; exact ⟨0, .nil, rfl⟩
    · omega
  | succ f ih =>
    intro x h0 h1 hx hf
    rcases hd.from' x h0 h1 hx with ⟨m, e⟩ | ⟨m, u, u0, u1, m2, m3, m4⟩
    · rw [List.mem_singleton] at m; rw [e, m]; exact ⟨0, .nil, rfl⟩
    · obtain ⟨k, hw, e⟩ := ih u u0 u1 m3 (by omega)
      exact ⟨k + 1, hw.snoc m2, by omega⟩

/-- lengths within l are at most its length -/
theorem depths_bnd {next : List (List Int)} {l : List Int} (hl : ∀ s ∈ l, 0 ≤ s ∧ s < (next.length : Int)) (hin : ∀ x, 0 ≤ x → x < (next.length : Int) → ∀ y ∈ row next x, 0 ≤ y ∧ y < (next.length : Int)) : ∀ x ∈ depths next l, x + (neg (depths next l) : Int) ≤ (next.length : Int) := by
  obtain ⟨d', e, -, hi⟩ := Bfs.search_wit hl hin _ _ _ (Nat.le_refl _) (Bfs.marked_inv next.length l hl) (Bfs.marked_wit next next.length l hl)
  have : depths next l = d' := e
  rw [this]
  exact fun x hx => (hi.bnd x hx).2
theorem neg_out {d l : List Int} {n : Nat} (hd : d.length = n) (h : ∀ x, 0 ≤ x → x < (n : Int) → x ∉ l → at' d x < 0) : n ≤ neg d + l.length := by
  have h1 : neg d = (List.range n).countP fun i : Nat => decide (at' d (i : Int) < 0) := by
    unfold neg
    have e : d = (List.range n).map fun i : Nat => at' d (i : Int) := by
      refine List.ext_getElem? fun i => ?_
      by_cases hi : i < n
      · have := Bfs.at_get (d := d) (t := (i : Int)) (by omega) (by omega)
        rw [Int.toNat_natCast] at this
        rw [List.getElem?_map, List.getElem?_range hi, this]; rfl
      · rw [List.getElem?_eq_none (by omega), List.getElem?_eq_none (by simpa using hi)]
    conv => lhs; rw [e]
    rw [List.countP_map]
    rfl
  have h2 : (List.range n).countP (fun i : Nat => decide ((i : Int) ∉ l)) ≤ (List.range n).countP fun i : Nat => decide (at' d (i : Int) < 0) :=
    List.countP_mono_left fun i hi hh => by
      have := List.mem_range.1 hi
      rw [decide_eq_true_eq] at hh ⊢
      exact h i (by omega) (by omega) hh
  have h3 : n = (List.range n).countP (fun i : Nat => decide ((i : Int) ∈ l)) + (List.range n).countP (fun i : Nat => decide ((i : Int) ∉ l)) := by
    have := List.length_eq_countP_add_countP (fun i : Nat => decide ((i : Int) ∈ l)) (l := List.range n)
    rw [List.length_range] at this
    refine this.trans (congrArg _ (List.countP_congr fun i _ => ?_))
    simp
  have h4 : (List.range n).countP (fun i : Nat => decide ((i : Int) ∈ l)) ≤ l.length := by
    rw [List.countP_eq_length_filter]
    have hsub : ((List.range n).filter fun i : Nat => decide ((i : Int) ∈ l)).map (fun i : Nat => (i : Int)) ⊆ l := by
      intro x hx
      obtain ⟨i, hi, rfl⟩ := List.mem_map.1 hx
      simpa using (List.mem_filter.1 hi).2
    have hnd : (((List.range n).filter fun i : Nat => decide ((i : Int) ∈ l)).map (fun i : Nat => (i : Int))).Nodup := by
      rw [List.Nodup, List.pairwise_map]
      exact (List.nodup_range.filter _).imp fun h => by omega
    have := hnd.length_le_of_subset hsub
    rwa [List.length_map] at this
  omega

section
variable {next inn : List (List Int)} {l : List Int} {root : Int} {p : Int → Bool}
/-- the period, from the lengths that the program or the reference uses -/
theorem period_same (hi : Inn next inn l) (hin : ∀ xs ∈ next, ∀ t ∈ xs, 0 ≤ t ∧ t < (next.length : Int)) (hinn : ∀ xs ∈ inn, ∀ t ∈ xs, 0 ≤ t ∧ t < (next.length : Int)) (hp : ∀ t, 0 ≤ t → t < (next.length : Int) → p t = decide (t ∈ l)) (hr : root ∈ l)
    (hs : ∀ x ∈ l, ∀ y, y ∈ l ↔ (Tar.Reach next x y ∧ Tar.Reach next y x)) :
    gAll next p (qTo next p l root l.length) l = gAll inn (fun _ => true) (depths inn [root]) l := by
  have hrb := hi.bnd root hr
  have hin2 := Bfs.row_in (xss := inn) (fun xs hxs t ht => by rw [hi.len]; exact hinn xs hxs t ht)
  have hd := Bfs.depths_spec (next := inn) (l := [root]) (fun t ht => by rw [List.mem_singleton] at ht; rw [ht, hi.len]; exact hrb) hin2
  have hbn := depths_bnd (next := inn) (l := [root]) (fun t ht => by rw [List.mem_singleton] at ht; rw [ht, hi.len]; exact hrb) hin2
  rw [hi.len] at hd hbn
  obtain ⟨q1, q2⟩ := Qin.to hi hin hp hr hd l.length
  have hw : ∀ t ∈ l, 0 ≤ at' (depths inn [root]) t := fun t ht => by
    obtain ⟨k, hk⟩ := inner_walk hi hs hr ((hs root hr t).1 ht).1 ht
    exact walk_depth hi hr hd hk
  have hle : ∀ t ∈ l, at' (depths inn [root]) t ≤ l.length := fun t ht => by
    have h1 := hbn _ (Bfs.at_mem (d := depths inn [root]) (hi.bnd t ht).1 (by rw [hd.len]; exact (hi.bnd t ht).2))
    have h2 := neg_out hd.len (fun x x0 x1 hx => by
      rcases Int.lt_or_le (at' (depths inn [root]) x) 0 with h | h
      · exact h
      · obtain ⟨k, hk, -⟩ := depth_walk hd _ x x0 x1 h (Nat.le_refl _)
        exact absurd (walk_mem hi hr hk) hx)
    omega
  have hP : Pot inn l root (at' (depths inn [root])) := ⟨hd.goal root (List.mem_cons_self ..), fun t ht => depth_walk hd _ t (hi.bnd t ht).1 (hi.bnd t ht).2 (hw t ht) (Nat.le_refl _)⟩
  have hQ : Pot inn l root (at' (qTo next p l root l.length)) := ⟨q1.root0, fun t ht => by
    rcases q1.walk t (hi.bnd t ht).1 (hi.bnd t ht).2 with h | h
    · have := q2 t (hi.bnd t ht).1 (hi.bnd t ht).2 (hw t ht) (hle t ht)
      omega
    · exact h⟩
  obtain ⟨a1, a2⟩ := gAll_spec next p (qTo next p l root l.length) l
  obtain ⟨b1, b2⟩ := gAll_spec inn (fun _ => true) (depths inn [root]) l
  have hcl : ∀ s ∈ l, ∀ t ∈ row inn s, t ∈ l := fun s hsl t ht => ((hi.row s (hi.bnd s hsl).1 (hi.bnd s hsl).2 t).1 ht).2.2
  refine dvd_ext a1 b1 fun k => ?_
  rw [a2, b2]
  have e1 : (∀ s ∈ l, ∀ t ∈ row next s, p t = true → k ∣ at' (qTo next p l root l.length) s + 1 - at' (qTo next p l root l.length) t) ↔ ∀ s ∈ l, ∀ t ∈ row inn s, k ∣ at' (qTo next p l root l.length) s + 1 - at' (qTo next p l root l.length) t := by
    constructor
    · intro h s hsl t ht
      obtain ⟨-, m2, m3⟩ := (hi.row s (hi.bnd s hsl).1 (hi.bnd s hsl).2 t).1 ht
      exact h s hsl t m2 (by rw [hp t (hi.bnd t m3).1 (hi.bnd t m3).2, decide_eq_true m3])
    · intro h s hsl t ht hpt
      obtain ⟨t0, t1⟩ := Bfs.row_in hin s (hi.bnd s hsl).1 (hi.bnd s hsl).2 t ht
      rw [hp t t0 t1, decide_eq_true_eq] at hpt
      exact h s hsl t ((hi.row s (hi.bnd s hsl).1 (hi.bnd s hsl).2 t).2 ⟨hsl, ht, hpt⟩)
  rw [e1]
  constructor
  · intro h s hsl t ht _
    exact Pot.dvd hcl hr hQ hP h s hsl t ht
  · intro h
    exact Pot.dvd hcl hr hP hQ (fun s hsl t ht => h s hsl t ht rfl)
end
end Go.Proofs.YtoffbdlgmnpblaaGreat.Per

/- The reference's period of a component. -/
namespace Go.Proofs.YtoffbdlgmnpblaaGreat
open Go.RowKit
set_option maxHeartbeats 8000000
set_option maxRecDepth 100000

/-! ### bounds of the lengths -/
/-- numbers from -1 on, the greater the fewer are unknown -/
def QB (n : Nat) (d : List Int) : Prop := d.length = n ∧ ∀ x ∈ d, -1 ≤ x ∧ x + (Bfs.neg d : Int) ≤ (n : Int)
theorem QB.at' {n : Nat} {d : List Int} (h : QB n d) {t : Int} (h0 : 0 ≤ t) (h1 : t < (n : Int)) : -1 ≤ Bfs.at' d t ∧ Bfs.at' d t ≤ (n : Int) := by
  have := h.2 _ (Bfs.at_mem h0 (by rw [h.1]; exact h1))
  omega
theorem QB.visit {n : Nat} {p : Int → Bool} {d : List Int} {s t : Int} (h : QB n d) (hs : 0 ≤ s ∧ s < (n : Int)) (ht : 0 ≤ t ∧ t < (n : Int)) : QB n (Per.qVisit p s d t) := by
  unfold Per.qVisit
  split
  · rename_i hc
    obtain ⟨-, h1, h2⟩ := hc
    have hg := Bfs.at_get (d := d) ht.1 (by rw [h.1]; exact ht.2)
    have hset := Bfs.neg_set hg h2 (show 0 ≤ Bfs.at' d s + 1 by omega)
    have hsm := h.2 _ (Bfs.at_mem (d := d) hs.1 (by rw [h.1]; exact hs.2))
    refine ⟨by rw [List.length_set]; exact h.1, fun x hx => ?_⟩
    rcases List.mem_or_eq_of_mem_set hx with hx | rfl
    · have := h.2 x hx; omega
    · omega
  · exact h
theorem QB.visits {n : Nat} {p : Int → Bool} {s : Int} (hs : 0 ≤ s ∧ s < (n : Int)) (r : List Int) : ∀ {d : List Int}, QB n d → (∀ t ∈ r, 0 ≤ t ∧ t < (n : Int)) → QB n (r.foldl (Per.qVisit p s) d) := by
  induction r with
  | nil => intro d h _; exact h
  | cons a r ih => intro d h hr; exact ih (h.visit hs (hr a (List.mem_cons_self ..))) (fun t ht => hr t (List.mem_cons_of_mem _ ht))
theorem QB.rows {next : List (List Int)} (hin : ∀ xs ∈ next, ∀ t ∈ xs, 0 ≤ t ∧ t < (next.length : Int)) {p : Int → Bool} (l : List Int) : ∀ {d : List Int}, QB next.length d → (∀ s ∈ l, 0 ≤ s ∧ s < (next.length : Int)) → QB next.length (l.foldl (Per.qRow next p) d) := by
  induction l with
  | nil => intro d h _; exact h
  | cons a l ih =>
    intro d h hl
    have ha := hl a (List.mem_cons_self ..)
    exact ih (QB.visits ha _ h (Bfs.row_in hin a ha.1 ha.2)) (fun t ht => hl t (List.mem_cons_of_mem _ ht))
theorem QB.to {next : List (List Int)} (hin : ∀ xs ∈ next, ∀ t ∈ xs, 0 ≤ t ∧ t < (next.length : Int)) {p : Int → Bool} {l : List Int} {root : Int} (hr : 0 ≤ root ∧ root < (next.length : Int)) (hl : ∀ s ∈ l, 0 ≤ s ∧ s < (next.length : Int)) : ∀ k, QB next.length (Per.qTo next p l root k)
  | 0 => by
    have hg : (List.replicate next.length (-1 : Int))[root.toNat]? = some (-1) := by rw [List.getElem?_replicate, if_pos (by omega)]
    have hset := Bfs.neg_set hg (by decide) (show (0 : Int) ≤ 0 by decide)
    have hn : Bfs.neg (List.replicate next.length (-1 : Int)) ≤ next.length := by
      have := List.countP_le_length (p := fun x : Int => decide (x < 0)) (l := List.replicate next.length (-1 : Int))
      rw [List.length_replicate] at this
      exact this
    refine ⟨by simp [Per.qTo], fun x hx => ?_⟩
    unfold Per.qTo at hx ⊢
    rcases List.mem_or_eq_of_mem_set hx with hx | rfl
    · rw [List.eq_of_mem_replicate hx]; omega
    · omega
  | k + 1 => QB.rows hin l (QB.to hin hr hl k) hl

/-! ### a row gone through by flags -/
def qPart (fs : List Bool) (p : Int → Bool) (s : Int) (d : List Int) : Nat → List Int
  | 0 => d
  | i + 1 => if Bfs.fl fs (i : Int) then Per.qVisit p s (qPart fs p s d i) (i : Int) else qPart fs p s d i
theorem qPart_row (fs : List Bool) (p : Int → Bool) (s : Int) (d : List Int) : ∀ n, qPart fs p s d n = (markedBy n (Bfs.fl fs)).foldl (Per.qVisit p s) d
  | 0 => rfl
  | n + 1 => by
    rw [qPart, markedBy_succ, qPart_row fs p s d n]
    split
    · rw [List.foldl_append]; rfl
    · rfl
def gPart (fs : List Bool) (p : Int → Bool) (d : List Int) (s g : Int) : Nat → Int
  | 0 => g
  | i + 1 => if Bfs.fl fs (i : Int) then Per.gStep p d s (gPart fs p d s g i) (i : Int) else gPart fs p d s g i
theorem gPart_row (fs : List Bool) (p : Int → Bool) (d : List Int) (s g : Int) : ∀ n, gPart fs p d s g n = (markedBy n (Bfs.fl fs)).foldl (Per.gStep p d s) g
  | 0 => rfl
  | n + 1 => by
    rw [gPart, markedBy_succ, gPart_row fs p d s g n]
    split
    · rw [List.foldl_append]; rfl
    · rfl
theorem row_fold {m : List St} (hf : Fine m) {s : Int} {st : St} (hst : m[s.toNat]? = some st) : markedBy m.length (Bfs.fl (Bfs.flags m.length (targets st))) = Bfs.row (m.map nextOf) s := by
  rw [row_of hst, row_marked (hf.targets (List.mem_of_getElem? hst))]
theorem QB.part {n : Nat} {fs : List Bool} {p : Int → Bool} {s : Int} {d : List Int} (hs : 0 ≤ s ∧ s < (n : Int)) (h : QB n d) : ∀ i, i ≤ n → QB n (qPart fs p s d i)
  | 0, _ => h
  | i + 1, hi => by
    unfold qPart
    split
    · exact (QB.part hs h i (by omega)).visit hs (by omega)
    · exact QB.part hs h i (by omega)
theorem gcd_max (g a : Int) : Int.gcd g (max a (-a)) = Int.gcd g a := by
  by_cases h : a ≤ -a
  · rw [show max a (-a) = -a by omega, Int.gcd_neg]
  · rw [show max a (-a) = a by omega]
theorem gStep_bd {n : Nat} {p : Int → Bool} {d : List Int} {s g t : Int} (hq : QB n d) (hn : n ≤ 40) (hs : 0 ≤ s ∧ s < (n : Int)) (ht : 0 ≤ t ∧ t < (n : Int)) (hg : 0 ≤ g ∧ g ≤ 100) : 0 ≤ Per.gStep p d s g t ∧ Per.gStep p d s g t ≤ 100 := by
  unfold Per.gStep
  split
  · have h1 := hq.at' hs.1 hs.2
    have h2 := hq.at' ht.1 ht.2
    exact perStep_bd (d := d) ⟨h1.1, by omega⟩ ⟨h2.1, by omega⟩ hg
  · exact hg
end Go.Proofs.YtoffbdlgmnpblaaGreat
