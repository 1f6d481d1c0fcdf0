/- Part 37 of 55: Bfs2. -/
import Derived.Test.YtoffbdlgmnpblaaGreatJ22

/- Plain laws: what the search in breadth finds are the lengths of shortest paths. -/
namespace Go.Proofs.YtoffbdlgmnpblaaGreat.Bfs

/-- what is known of the depths while the search runs; q: the queue -/
structure Wit (next : List (List Int)) (n : Nat) (l d q : List Int) : Prop where
  from' : ∀ x, 0 ≤ x → x < (n : Int) → 0 ≤ at' d x → (x ∈ l ∧ at' d x = 0) ∨ (0 < at' d x ∧ ∃ u, 0 ≤ u ∧ u < (n : Int) ∧ x ∈ row next u ∧ 0 ≤ at' d u ∧ at' d x = at' d u + 1)
  goal : ∀ x ∈ l, at' d x = 0
  sorted : List.Pairwise (fun a b => at' d a ≤ at' d b) q
  top : ∀ x, 0 ≤ x → x < (n : Int) → ∀ h ∈ q, at' d x ≤ at' d h + 1
  done : ∀ x, 0 ≤ x → x < (n : Int) → 0 ≤ at' d x → x ∉ q → ∀ y ∈ row next x, 0 ≤ at' d y ∧ at' d y ≤ at' d x + 1

theorem marked_no (n : Nat) (l : List Int) (hl : ∀ s ∈ l, 0 ≤ s ∧ s < (n : Int)) : ∀ x, 0 ≤ x → x < (n : Int) → x ∉ l → at' (marked n l) x = -1 := by
  have : ∀ (l d : List Int), d.length = n → (∀ s ∈ l, 0 ≤ s ∧ s < (n : Int)) → ∀ u, 0 ≤ u → u < (n : Int) → u ∉ l → at' d u = -1 → at' (l.foldl (fun d s => d.set s.toNat 0) d) u = -1 := by
    intro l
    induction l with
    | nil => intro d _ _ u _ _ _ h; exact h
    | cons a l ih =>
      intro d hd hl u h0 h1 hn h
      have ha := hl a (List.mem_cons_self ..)
      refine ih _ (by simpa using hd) (fun s hs => hl s (List.mem_cons_of_mem _ hs)) u h0 h1 (fun h => hn (List.mem_cons_of_mem _ h)) ?_
      rw [at_set_other _ ha.1 h0 (fun e => hn (e ▸ List.mem_cons_self ..))]
      exact h
  intro x h0 h1 hx
  refine this l _ (by simp) hl x h0 h1 hx ?_
  have hlt : x.toNat < n := by omega
  simp [at', List.getD_eq_getElem?_getD, hlt]

theorem marked_wit (next : List (List Int)) (n : Nat) (l : List Int) (hl : ∀ s ∈ l, 0 ≤ s ∧ s < (n : Int)) : Wit next n l (marked n l) l := by
  have h0 := marked_at n l hl
  have hle : ∀ x, 0 ≤ x → x < (n : Int) → at' (marked n l) x ≤ 0 := by
    intro x a b
    by_cases hx : x ∈ l
    · rw [h0 x hx]; exact Int.le_refl _
    · rw [marked_no n l hl x a b hx]; decide
  refine ⟨fun x a b h => .inl ?_, h0, ?_, fun x a b h hh => ?_, fun x a b h hn => ?_⟩
  · have hx : x ∈ l := by
      by_cases hx : x ∈ l
      · exact hx
      · rw [marked_no n l hl x a b hx] at h; exact absurd h (by decide)
    exact ⟨hx, h0 x hx⟩
  · exact List.pairwise_of_forall_mem_list (fun a ha b hb => by rw [h0 a ha, h0 b hb]; exact Int.le_refl _)
  · have := hle x a b; rw [h0 h hh]; omega
  · rw [marked_no n l hl x a b hn] at h; exact absurd h (by decide)

/-- while the row of s is gone through: s is off the queue, its row is not done -/
structure Mid (next : List (List Int)) (n : Nat) (l : List Int) (s : Int) (d q : List Int) : Prop where
  from' : ∀ x, 0 ≤ x → x < (n : Int) → 0 ≤ at' d x → (x ∈ l ∧ at' d x = 0) ∨ (0 < at' d x ∧ ∃ u, 0 ≤ u ∧ u < (n : Int) ∧ x ∈ row next u ∧ 0 ≤ at' d u ∧ at' d x = at' d u + 1)
  goal : ∀ x ∈ l, at' d x = 0
  sorted : List.Pairwise (fun a b => at' d a ≤ at' d b) q
  low : ∀ h ∈ q, at' d s ≤ at' d h
  top : ∀ x, 0 ≤ x → x < (n : Int) → at' d x ≤ at' d s + 1
  done : ∀ x, 0 ≤ x → x < (n : Int) → 0 ≤ at' d x → x ∉ q → x ≠ s → ∀ y ∈ row next x, 0 ≤ at' d y ∧ at' d y ≤ at' d x + 1

theorem visit_mid {next : List (List Int)} {n : Nat} {l d q : List Int} {s t : Int} (hi : Inv n d q) (h : Mid next n l s d q) (hs : 0 ≤ s ∧ s < (n : Int) ∧ 0 ≤ at' d s) (ht : 0 ≤ t ∧ t < (n : Int)) (hl : ∀ s ∈ l, 0 ≤ s ∧ s < (n : Int)) (hr : t ∈ row next s) (hin : ∀ x, 0 ≤ x → x < (n : Int) → ∀ y ∈ row next x, 0 ≤ y ∧ y < (n : Int)) :
    Mid next n l s (visit s (d, q) t).1 (visit s (d, q) t).2 ∧ at' (visit s (d, q) t).1 s = at' d s ∧ 0 ≤ at' (visit s (d, q) t).1 t ∧ ∀ u, 0 ≤ u → 0 ≤ at' d u → at' (visit s (d, q) t).1 u = at' d u := by
  have hlen := hi.len
  unfold visit
  by_cases hn : at' d t < 0
  · simp only [if_pos hn]
    have hts : s ≠ t := fun e => by subst e; omega
    have same : ∀ u, 0 ≤ u → u ≠ t → at' (d.set t.toNat (at' d s + 1)) u = at' d u := fun u h0 hu => at_set_other _ ht.1 h0 hu
    have self : at' (d.set t.toNat (at' d s + 1)) t = at' d s + 1 := at_set_same _ ht.1 (by omega)
    have ess := same s hs.1 hts
    have old : ∀ u, 0 ≤ u → 0 ≤ at' d u → at' (d.set t.toNat (at' d s + 1)) u = at' d u := fun u h0 hu => same u h0 (fun e => by subst e; omega)
    have hq : ∀ u ∈ q, at' (d.set t.toNat (at' d s + 1)) u = at' d u := fun u hu => old u (hi.que u hu).1 (hi.que u hu).2.2
    refine ⟨⟨?_, ?_, ?_, ?_, ?_, ?_⟩, ess, by rw [self]; omega, old⟩
    · intro x h0 h1 hx
      by_cases e : x = t
      · subst e
        rw [self]
        exact .inr ⟨by omega, s, hs.1, hs.2.1, hr, by rw [ess]; exact hs.2.2, by rw [ess]⟩
      · rw [same x h0 e] at hx ⊢
        rcases h.from' x h0 h1 hx with k | ⟨k1, u, u0, u1, k2, k3, k4⟩
        · exact .inl k
        · exact .inr ⟨k1, u, u0, u1, k2, by rw [old u u0 k3]; exact k3, by rw [old u u0 k3]; exact k4⟩
    · intro x hx
      have := h.goal x hx
      rw [old x (hl x hx).1 (by omega)]
      exact this
    · rw [List.pairwise_append]
      refine ⟨h.sorted.imp_of_mem fun {a b} ha hb hab => by rw [hq a ha, hq b hb]; exact hab, List.pairwise_singleton _ _, fun a ha b hb => ?_⟩
      have : b = t := by simpa using hb
      subst this
      rw [hq a ha, self]
      exact h.top a (hi.que a ha).1 (hi.que a ha).2.1
    · intro b hb
      rcases List.mem_append.1 hb with hb | hb
      · rw [ess, hq b hb]; exact h.low b hb
      · have : b = t := by simpa using hb
        subst this
        rw [ess, self]; omega
    · intro x h0 h1
      by_cases e : x = t
      · subst e; rw [self, ess]; omega
      · rw [same x h0 e, ess]; exact h.top x h0 h1
    · intro x h0 h1 hx hnq hxs y hy
      have hxt : x ≠ t := fun e => hnq (List.mem_append_right _ (by simp [e]))
      rw [same x h0 hxt] at hx ⊢
      obtain ⟨k1, k2⟩ := h.done x h0 h1 hx (fun hh => hnq (List.mem_append_left _ hh)) hxs y hy
      rw [old y (hin x h0 h1 y hy).1 k1]
      exact ⟨k1, k2⟩
  · simp only [if_neg hn]
    exact ⟨h, by trivial, by omega, fun _ _ _ => by trivial⟩

theorem fold_mid {next : List (List Int)} {n : Nat} {l : List Int} {s : Int} (hl : ∀ s ∈ l, 0 ≤ s ∧ s < (n : Int)) (hin : ∀ x, 0 ≤ x → x < (n : Int) → ∀ y ∈ row next x, 0 ≤ y ∧ y < (n : Int)) (r : List Int) :
    ∀ {d q : List Int}, Inv n d q → Mid next n l s d q → (0 ≤ s ∧ s < (n : Int) ∧ 0 ≤ at' d s) → (∀ t ∈ r, t ∈ row next s) →
    Mid next n l s (r.foldl (visit s) (d, q)).1 (r.foldl (visit s) (d, q)).2 ∧ at' (r.foldl (visit s) (d, q)).1 s = at' d s ∧ (∀ t ∈ r, 0 ≤ at' (r.foldl (visit s) (d, q)).1 t) ∧ ∀ u, 0 ≤ u → 0 ≤ at' d u → at' (r.foldl (visit s) (d, q)).1 u = at' d u := by
  induction r with
  | nil => intro d q _ h _ _; exact ⟨h, rfl, fun t ht => (List.not_mem_nil ht).elim, fun _ _ _ => rfl⟩
  | cons t r ih =>
    intro d q hi h hs hr
    have htr := hr t (List.mem_cons_self ..)
    have ht := hin s hs.1 hs.2.1 t htr
    obtain ⟨k1, k2, k3, k4⟩ := visit_mid hi h hs ht hl htr hin
    obtain ⟨j1, _, _⟩ := visit_inv hi hs ht
    obtain ⟨m1, m2, m3, m4⟩ := ih j1 k1 ⟨hs.1, hs.2.1, by rw [k2]; exact hs.2.2⟩ (fun u hu => hr u (List.mem_cons_of_mem _ hu))
    refine ⟨m1, m2.trans k2, fun u hu => ?_, fun u h0 hu => ?_⟩
    · rcases List.mem_cons.1 hu with rfl | hu
      · have := m4 u ht.1 k3
        rw [List.foldl_cons, this]; exact k3
      · exact m3 u hu
    · have e1 := k4 u h0 hu
      have e2 := m4 u h0 (by rw [e1]; exact hu)
      exact e2.trans e1

theorem Wit.mid {next : List (List Int)} {n : Nat} {l d q : List Int} {s : Int} (h : Wit next n l d (s :: q)) : Mid next n l s d q :=
  ⟨h.from', h.goal, (List.pairwise_cons.1 h.sorted).2, (List.pairwise_cons.1 h.sorted).1, fun x h0 h1 => h.top x h0 h1 s (List.mem_cons_self ..), fun x h0 h1 hx hq hs => h.done x h0 h1 hx (fun hm => by
    rcases List.mem_cons.1 hm with e | e
    · exact hs e
    · exact hq e)⟩

theorem search_wit {next : List (List Int)} {n : Nat} {l : List Int} (hl : ∀ s ∈ l, 0 ≤ s ∧ s < (n : Int)) (hin : ∀ x, 0 ≤ x → x < (n : Int) → ∀ y ∈ row next x, 0 ≤ y ∧ y < (n : Int)) :
    ∀ (f : Nat) (d q : List Int), q.length + neg d ≤ f → Inv n d q → Wit next n l d q → ∃ d', run next d q = d' ∧ Wit next n l d' [] ∧ Inv n d' [] := by
  intro f
  induction f with
  | zero =>
    intro d q hf hi h
    cases q with
    | nil => exact ⟨d, run_nil next d, h, hi⟩
    | cons s q => simp at hf
  | succ f ih =>
    intro d q hf hi h
    cases q with
    | nil => exact ⟨d, run_nil next d, h, hi⟩
    | cons s q =>
      have hs := hi.que s (List.mem_cons_self ..)
      have hq : Inv n d q := ⟨hi.len, hi.bnd, fun u hu => hi.que u (List.mem_cons_of_mem _ hu)⟩
      have hrow := hin s hs.1 hs.2.1
      obtain ⟨m1, m2, m3, m4⟩ := fold_mid hl hin (row next s) hq h.mid hs (fun t ht => ht)
      obtain ⟨j1, j2, j3⟩ := fold_inv (row next s) hq hs hrow
      rw [run_cons hi hrow]
      refine ih _ _ (by simp only [List.length_cons] at hf; omega) j1 ⟨m1.from', m1.goal, m1.sorted, fun x h0 h1 b hb => ?_, fun x h0 h1 hx hnq y hy => ?_⟩
      · have := m1.top x h0 h1
        have := m1.low b hb
        omega
      · by_cases e : x = s
        · subst e
          exact ⟨m3 y hy, m1.top y (hrow y hy).1 (hrow y hy).2⟩
        · exact m1.done x h0 h1 hx hnq e y hy

/-- what the depths are -/
structure Depth (next : List (List Int)) (n : Nat) (l d : List Int) : Prop where
  len : d.length = n
  low : ∀ x, 0 ≤ x → x < (n : Int) → -1 ≤ at' d x ∧ at' d x ≤ (n : Int)
  goal : ∀ x ∈ l, at' d x = 0
  from' : ∀ x, 0 ≤ x → x < (n : Int) → 0 ≤ at' d x → (x ∈ l ∧ at' d x = 0) ∨ (0 < at' d x ∧ ∃ u, 0 ≤ u ∧ u < (n : Int) ∧ x ∈ row next u ∧ 0 ≤ at' d u ∧ at' d x = at' d u + 1)
  done : ∀ x, 0 ≤ x → x < (n : Int) → 0 ≤ at' d x → ∀ y ∈ row next x, 0 ≤ at' d y ∧ at' d y ≤ at' d x + 1
theorem depths_spec {next : List (List Int)} {l : List Int} (hl : ∀ s ∈ l, 0 ≤ s ∧ s < (next.length : Int)) (hin : ∀ x, 0 ≤ x → x < (next.length : Int) → ∀ y ∈ row next x, 0 ≤ y ∧ y < (next.length : Int)) :
    Depth next next.length l (depths next l) := by
  obtain ⟨d', e, h, hi⟩ := search_wit hl hin _ _ _ (Nat.le_refl _) (marked_inv next.length l hl) (marked_wit next next.length l hl)
  have : depths next l = d' := e
  rw [this]
  refine ⟨hi.len, fun x h0 h1 => ?_, h.goal, h.from', fun x h0 h1 hx => h.done x h0 h1 hx (fun hh => (List.not_mem_nil hh).elim)⟩
  have := hi.bnd _ (at_mem h0 (by rw [hi.len]; exact h1))
  omega

/-! ### the rows of the turned edges -/
theorem push_row {o : List (List Int)} {s t u x : Int} (ht0 : 0 ≤ t) (ht1 : t < (o.length : Int)) (hu : 0 ≤ u) : x ∈ row (push o s t) u ↔ x ∈ row o u ∨ (u = t ∧ x = s) := by
  have hlt : t.toNat < o.length := by omega
  unfold push row
  by_cases e : u = t
  · subst e
    simp [List.getD_eq_getElem?_getD, hlt]
  · have hne : t.toNat ≠ u.toNat := by omega
    simp [List.getD_eq_getElem?_getD, List.getElem?_set_ne hne, e]
theorem fold_push_row (l : List Int) {s u x : Int} (hu : 0 ≤ u) : ∀ {o : List (List Int)}, (∀ t ∈ l, 0 ≤ t ∧ t < (o.length : Int)) → (x ∈ row (l.foldl (fun o t => push o s t) o) u ↔ x ∈ row o u ∨ (u ∈ l ∧ x = s)) := by
  induction l with
  | nil => intro o _; simp
  | cons a l ih =>
    intro o h
    have ha := h a (List.mem_cons_self ..)
    rw [List.foldl_cons, ih (fun t ht => by rw [push_len]; exact h t (List.mem_cons_of_mem _ ht)), push_row ha.1 ha.2 hu, List.mem_cons]
    constructor
    · rintro ((h | ⟨rfl, h1⟩) | ⟨h1, h2⟩)
      · exact .inl h
      · exact .inr ⟨.inl rfl, h1⟩
      · exact .inr ⟨.inr h1, h2⟩
    · rintro (h | ⟨rfl | h1, h2⟩)
      · exact .inl (.inl h)
      · exact .inl (.inr ⟨rfl, h2⟩)
      · exact .inr ⟨h1, h2⟩
theorem turnTo_row {xss : List (List Int)} (hin : ∀ xs ∈ xss, ∀ t ∈ xs, 0 ≤ t ∧ t < (xss.length : Int)) {u x : Int} (hu : 0 ≤ u) : ∀ j, j ≤ xss.length → (x ∈ row (turnTo xss j) u ↔ (0 ≤ x ∧ x < (j : Int) ∧ u ∈ row xss x))
  | 0, _ => by
    have : row (turnTo xss 0) u = [] := by
      unfold row turnTo
      rw [List.getD_eq_getElem?_getD, List.getElem?_replicate]
      split <;> rfl
    rw [this]
    constructor
    · intro h; cases h
    · intro h; omega
  | j + 1, hj => by
    have hg : xss.getD j [] ∈ xss := by
      rw [List.getD_eq_getElem?_getD, List.getElem?_eq_getElem (by omega)]
      exact List.getElem_mem _
    have hrow : row xss (j : Int) = xss.getD j [] := by unfold row; rw [Int.toNat_natCast]
    rw [turnTo, fold_push_row _ hu (fun t ht => by rw [turnTo_len]; exact hin _ hg t ht), turnTo_row hin hu j (by omega)]
    constructor
    · rintro (⟨h0, h1, h2⟩ | ⟨h1, rfl⟩)
      · exact ⟨h0, by omega, h2⟩
      · exact ⟨by omega, by omega, by rw [hrow]; exact h1⟩
    · rintro ⟨h0, h1, h2⟩
      by_cases e : x = (j : Int)
      · subst e; rw [hrow] at h2; exact .inr ⟨h2, rfl⟩
      · exact .inl ⟨h0, by omega, h2⟩
theorem turn_len (xss : List (List Int)) : (turn xss).length = xss.length := turnTo_len _ _
theorem turn_row {xss : List (List Int)} (hin : ∀ xs ∈ xss, ∀ t ∈ xs, 0 ≤ t ∧ t < (xss.length : Int)) {u x : Int} (hu : 0 ≤ u) : x ∈ row (turn xss) u ↔ (0 ≤ x ∧ x < (xss.length : Int) ∧ u ∈ row xss x) := turnTo_row hin hu _ (Nat.le_refl _)
theorem row_in {xss : List (List Int)} (hin : ∀ xs ∈ xss, ∀ t ∈ xs, 0 ≤ t ∧ t < (xss.length : Int)) : ∀ x, 0 ≤ x → x < (xss.length : Int) → ∀ y ∈ row xss x, 0 ≤ y ∧ y < (xss.length : Int) := by
  intro x h0 h1 y hy
  unfold row at hy
  rw [List.getD_eq_getElem?_getD, List.getElem?_eq_getElem (by omega)] at hy
  exact hin _ (List.getElem_mem _) y hy
theorem turn_in {xss : List (List Int)} (hin : ∀ xs ∈ xss, ∀ t ∈ xs, 0 ≤ t ∧ t < (xss.length : Int)) : ∀ x, 0 ≤ x → x < ((turn xss).length : Int) → ∀ y ∈ row (turn xss) x, 0 ≤ y ∧ y < ((turn xss).length : Int) := by
  intro x h0 h1 y hy
  rw [turn_len] at h1 ⊢
  have := (turn_row hin h0).1 hy
  exact ⟨this.1, this.2.1⟩

/-! ### the least shortest path -/
/-- the first next state that is nearer -/
def nearer (next : List (List Int)) (d : List Int) (s : Int) : Int := ((row next s).find? fun u => decide (at' d u = at' d s - 1)).getD 0
def pathTo (next : List (List Int)) (d : List Int) : Nat → Int → List Int
  | 0, s => [s]
  | f + 1, s => s :: pathTo next d f (nearer next d s)
theorem pathTo_len (next : List (List Int)) (d : List Int) : ∀ (f : Nat) (s : Int), (pathTo next d f s).length = f + 1
  | 0, _ => rfl
  | f + 1, s => by simp [pathTo, pathTo_len next d f]
/-- some next state is nearer -/
theorem nearer_spec {xss : List (List Int)} {t s : Int} (hin : ∀ xs ∈ xss, ∀ t ∈ xs, 0 ≤ t ∧ t < (xss.length : Int)) (ht : 0 ≤ t ∧ t < (xss.length : Int)) (hs : 0 ≤ s ∧ s < (xss.length : Int)) (hd : 0 < at' (depths (turn xss) [t]) s) :
    ∃ i, i < (row xss s).length ∧ (row xss s)[i]? = some (nearer xss (depths (turn xss) [t]) s) ∧ (row xss s).findIdx? (fun u => decide (at' (depths (turn xss) [t]) u = at' (depths (turn xss) [t]) s - 1)) = some i ∧ at' (depths (turn xss) [t]) (nearer xss (depths (turn xss) [t]) s) = at' (depths (turn xss) [t]) s - 1 ∧ nearer xss (depths (turn xss) [t]) s ∈ row xss s := by
  have hsp := depths_spec (next := turn xss) (l := [t]) (fun x hx => by
    have e : x = t := by simpa using hx
    rw [turn_len, e]; exact ht) (turn_in hin)
  have h1 := hsp.from' s hs.1 (by rw [turn_len]; exact hs.2) (by omega)
  rcases h1 with ⟨_, h1⟩ | ⟨_, u, u0, u1, h2, h3, h4⟩
  · omega
  · have hu := (turn_row hin u0).1 h2
    generalize depths (turn xss) [t] = d at *
    have hfi : (row xss s).findIdx? (fun u => decide (at' d u = at' d s - 1)) ≠ none := by
      intro hh
      have := List.findIdx?_eq_none_iff.1 hh u hu.2.2
      have h5 : at' d u = at' d s - 1 := by omega
      simp [h5] at this
    cases hi : (row xss s).findIdx? (fun u => decide (at' d u = at' d s - 1)) with
    | none => exact absurd hi hfi
    | some i =>
      obtain ⟨hlt, hp, hmin⟩ := List.findIdx?_eq_some_iff_getElem.1 hi
      have hn : nearer xss d s = (row xss s)[i] := by
        unfold nearer
        have : (row xss s).find? (fun u => decide (at' d u = at' d s - 1)) = some (row xss s)[i] := by
          rw [List.find?_eq_some_iff_getElem]
          exact ⟨hp, i, hlt, rfl, fun j hj => by simpa using hmin j hj⟩
        rw [this]; rfl
      exact ⟨i, hlt, by rw [List.getElem?_eq_getElem hlt, hn], rfl, by rw [hn]; simpa using hp, by rw [hn]; exact List.getElem_mem _⟩

end Go.Proofs.YtoffbdlgmnpblaaGreat.Bfs
