/- Part 30: Wy Rf22. -/
import Derived.Test.YtoffbdlgmnpblaaGreatJ29

/- Plain laws: the reference's lengths of shortest paths and its reached states are the program's. -/
namespace Go.Proofs.YtoffbdlgmnpblaaGreat.Bfs

/-- a step of the reference's search for lengths -/
def wVisit (k s : Int) (d : List Int) (t : Int) : List Int := if at' d s < 0 ∧ at' d t = k then d.set s.toNat (k + 1) else d
def wRow (next : List (List Int)) (k s : Int) (d : List Int) : List Int := (row next s).foldl (wVisit k s) d
def wRound (next : List (List Int)) (k : Int) (d : List Int) : Nat → List Int
  | 0 => d
  | j + 1 => wRow next k j (wRound next k d j)
def wTo (next : List (List Int)) (l : List Int) : Nat → List Int
  | 0 => marked next.length l
  | k + 1 => wRound next k (wTo next l k) next.length
def ways (next : List (List Int)) (l : List Int) : List Int := wTo next l next.length

theorem wVisit_len (k s : Int) (d : List Int) (t : Int) : (wVisit k s d t).length = d.length := by unfold wVisit; split <;> simp
theorem wVisits_len (k s : Int) (r : List Int) : ∀ d, (r.foldl (wVisit k s) d).length = d.length := by
  induction r with
  | nil => intro d; rfl
  | cons a r ih => intro d; rw [List.foldl_cons, ih, wVisit_len]
theorem wRow_len (next : List (List Int)) (k s : Int) (d : List Int) : (wRow next k s d).length = d.length := wVisits_len k s _ d
theorem wRound_len (next : List (List Int)) (k : Int) (d : List Int) : ∀ j, (wRound next k d j).length = d.length
  | 0 => rfl
  | j + 1 => by rw [wRound, wRow_len, wRound_len]
theorem wTo_len (next : List (List Int)) (l : List Int) : ∀ k, (wTo next l k).length = next.length
  | 0 => marked_len _ _
  | k + 1 => by rw [wTo, wRound_len, wTo_len]
theorem ways_len (next : List (List Int)) (l : List Int) : (ways next l).length = next.length := wTo_len next l _

/-- numbers lie between -1 and k -/
def Band (k : Int) (d : List Int) : Prop := ∀ x ∈ d, -1 ≤ x ∧ x ≤ k
theorem Band.mono {k k' : Int} {d : List Int} (h : Band k d) (hk : k ≤ k') : Band k' d := fun x hx => by have := h x hx; omega
theorem Band.set {k : Int} {d : List Int} (h : Band k d) (i : Nat) {y : Int} (h1 : -1 ≤ y) (h2 : y ≤ k) : Band k (d.set i y) := fun x hx => by
  rcases List.mem_or_eq_of_mem_set hx with hx | rfl
  · exact h x hx
  · exact ⟨h1, h2⟩
theorem Band.visit {k s t : Int} {d : List Int} (h : Band (k + 1) d) (hk : 0 ≤ k) : Band (k + 1) (wVisit k s d t) := by
  unfold wVisit; split
  · exact h.set _ (by omega) (by omega)
  · exact h
theorem Band.visits {k s : Int} (hk : 0 ≤ k) (r : List Int) : ∀ {d : List Int}, Band (k + 1) d → Band (k + 1) (r.foldl (wVisit k s) d) := by
  induction r with
  | nil => intro d h; exact h
  | cons a r ih => intro d h; exact ih (h.visit hk)
theorem Band.round {next : List (List Int)} {k : Int} (hk : 0 ≤ k) {d : List Int} (h : Band (k + 1) d) : ∀ j, Band (k + 1) (wRound next k d j)
  | 0 => h
  | j + 1 => (Band.round hk h j).visits hk _
theorem Band.marked (n : Nat) (l : List Int) : Band 0 (marked n l) := fun x hx => by rcases marked_mem n l x hx with rfl | rfl <;> omega
theorem Band.wTo (next : List (List Int)) (l : List Int) : ∀ k : Nat, Band (k : Int) (wTo next l k)
  | 0 => Band.marked _ _
  | k + 1 => by have := Band.round (next := next) (k := (k : Int)) (by omega) ((Band.wTo next l k).mono (by omega)) next.length; exact this.mono (by omega)

/-! ### the law -/
/-- once set, a state stays; an unset one is set where a neighbour has k -/
theorem wVisits_at {k s : Int} (r : List Int) (hs : 0 ≤ s) (hk : 0 ≤ k) : ∀ {d : List Int}, s < (d.length : Int) → (∀ t ∈ r, 0 ≤ t) →
    (∀ x, 0 ≤ x → x ≠ s → at' (r.foldl (wVisit k s) d) x = at' d x) ∧
    at' (r.foldl (wVisit k s) d) s = (if at' d s < 0 ∧ (∃ t ∈ r, at' d t = k) then k + 1 else at' d s) := by
  induction r with
  | nil => intro d _ _; exact ⟨fun _ _ _ => rfl, by simp⟩
  | cons a r ih =>
    intro d hd hr
    have ha := hr a (List.mem_cons_self ..)
    have hr' : ∀ t ∈ r, 0 ≤ t := fun t ht => hr t (List.mem_cons_of_mem _ ht)
    obtain ⟨i1, i2⟩ := ih (d := wVisit k s d a) (by rw [wVisit_len]; exact hd) hr'
    rw [List.foldl_cons]
    by_cases hc : at' d s < 0 ∧ at' d a = k
    · have e : wVisit k s d a = d.set s.toNat (k + 1) := by unfold wVisit; rw [if_pos hc]
      rw [e] at i1 i2 ⊢
      have es : at' (d.set s.toNat (k + 1)) s = k + 1 := at_set_same _ hs hd
      refine ⟨fun x h0 hx => ?_, ?_⟩
      · rw [i1 x h0 hx, at_set_other _ hs h0 hx]
      · rw [i2, es, if_neg (by omega), if_pos ⟨hc.1, a, List.mem_cons_self .., hc.2⟩]
    · have e : wVisit k s d a = d := by unfold wVisit; rw [if_neg hc]
      rw [e] at i1 i2 ⊢
      refine ⟨i1, i2.trans ?_⟩
      by_cases h : at' d s < 0
      · have ha' : at' d a ≠ k := fun h' => hc ⟨h, h'⟩
        by_cases h2 : ∃ t ∈ r, at' d t = k
        · obtain ⟨t, ht, e'⟩ := h2
          rw [if_pos ⟨h, t, ht, e'⟩, if_pos ⟨h, t, List.mem_cons_of_mem _ ht, e'⟩]
        · rw [if_neg fun h' => h2 h'.2, if_neg]
          rintro ⟨-, t, ht, e'⟩
          rcases List.mem_cons.1 ht with rfl | ht
          · exact ha' e'
          · exact h2 ⟨t, ht, e'⟩
      · rw [if_neg fun h' => h h'.1, if_neg fun h' => h h'.1]

/-- a number that is known where it is at most b -/
def cap (b v : Int) : Int := if 0 ≤ v ∧ v ≤ b then v else -1
theorem cap_in {b v : Int} (h : 0 ≤ v ∧ v ≤ b) : cap b v = v := if_pos h
theorem cap_out {b v : Int} (h : ¬ (0 ≤ v ∧ v ≤ b)) : cap b v = -1 := if_neg h
theorem cap_eq {b v k : Int} (hk : 0 ≤ k) (hb : k ≤ b) : cap b v = k ↔ v = k := by unfold cap; split <;> omega

section
variable {next : List (List Int)} {l dd : List Int}
/-- what the reference has found: dd are the lengths -/
structure Upto (n : Nat) (dd : List Int) (k j : Int) (d : List Int) : Prop where
  len : d.length = n
  at_ : ∀ x, 0 ≤ x → x < (n : Int) → at' d x = cap (if x < j then k + 1 else k) (at' dd x)

theorem Upto.row (hd : Depth (turn next) next.length l dd) (hin : ∀ xs ∈ next, ∀ t ∈ xs, 0 ≤ t ∧ t < (next.length : Int)) {k : Int} (hk : 0 ≤ k) {j : Nat} (hj : j < next.length) {d : List Int}
    (h : Upto next.length dd k j d) : Upto next.length dd k ((j + 1 : Nat) : Int) (wRow next k j d) := by
  obtain ⟨hl, ha⟩ := h
  have hr : ∀ t ∈ Bfs.row next j, 0 ≤ t ∧ t < (next.length : Int) := row_in hin j (by omega) (by omega)
  obtain ⟨i1, i2⟩ := wVisits_at (k := k) (s := (j : Int)) (Bfs.row next j) (by omega) hk (d := d) (by omega) (fun t ht => (hr t ht).1)
  refine ⟨by rw [wRow_len]; exact hl, fun x h0 h1 => ?_⟩
  by_cases hx : x = (j : Int)
  · subst hx
    have hj0 := ha j h0 h1
    rw [if_neg (Int.lt_irrefl _)] at hj0
    rw [if_pos (show ((j : Nat) : Int) < ((j + 1 : Nat) : Int) by omega)]
    unfold wRow
    rw [i2]
    have hlow := hd.low j h0 h1
    have hiff : ∀ t ∈ Bfs.row next j, (at' d t = k ↔ at' dd t = k) := by
      intro t ht
      obtain ⟨t0, t1⟩ := hr t ht
      rw [ha t t0 t1]
      exact cap_eq hk (by split <;> omega)
    by_cases hset : 0 ≤ at' dd j ∧ at' dd j ≤ k
    · rw [cap_in hset] at hj0
      rw [if_neg (by intro h; omega), cap_in (by omega), hj0]
    · rw [cap_out hset] at hj0
      by_cases he : ∃ t ∈ Bfs.row next j, at' d t = k
      · rw [if_pos ⟨by omega, he⟩]
        obtain ⟨t, ht, e⟩ := he
        obtain ⟨t0, t1⟩ := hr t ht
        have e' := (hiff t ht).1 e
        obtain ⟨b1, b2⟩ := hd.done t t0 t1 (by omega) j ((turn_row hin t0).2 ⟨h0, h1, ht⟩)
        rw [cap_in (by omega)]; omega
      · rw [if_neg fun h => he h.2, hj0, cap_out]
        rintro ⟨c1, c2⟩
        rcases hd.from' j h0 h1 c1 with ⟨m1, m2⟩ | ⟨m1, u, u0, u1, m2, m3, m4⟩
        · omega
        · have hu := ((turn_row hin u0).1 m2).2.2
          exact he ⟨u, hu, (hiff u hu).2 (by omega)⟩
  · unfold wRow
    rw [i1 x h0 hx, ha x h0 h1]
    by_cases hxj : x < (j : Int)
    · rw [if_pos hxj, if_pos (show x < ((j + 1 : Nat) : Int) by omega)]
    · rw [if_neg hxj, if_neg (show ¬ x < ((j + 1 : Nat) : Int) by omega)]
theorem Upto.round (hd : Depth (turn next) next.length l dd) (hin : ∀ xs ∈ next, ∀ t ∈ xs, 0 ≤ t ∧ t < (next.length : Int)) {k : Int} (hk : 0 ≤ k) {d : List Int}
    (h : Upto next.length dd k (0 : Nat) d) : ∀ j, j ≤ next.length → Upto next.length dd k (j : Int) (wRound next k d j)
  | 0, _ => h
  | j + 1, hj => Upto.row hd hin hk hj (Upto.round hd hin hk h j (by omega))
theorem Upto.to (hd : Depth (turn next) next.length l dd) (hin : ∀ xs ∈ next, ∀ t ∈ xs, 0 ≤ t ∧ t < (next.length : Int)) (hl : ∀ s ∈ l, 0 ≤ s ∧ s < (next.length : Int)) : ∀ k : Nat, Upto next.length dd k (0 : Nat) (wTo next l k)
  | 0 => by
    refine ⟨marked_len _ _, fun x h0 h1 => ?_⟩
    rw [if_neg (show ¬ x < ((0 : Nat) : Int) by omega)]
    show at' (marked next.length l) x = _
    by_cases hx : x ∈ l
    · rw [marked_at _ _ hl x hx, hd.goal x hx]; rfl
    · rw [marked_no _ _ hl x h0 h1 hx, cap_out]
      rintro ⟨c1, c2⟩
      rcases hd.from' x h0 h1 c1 with ⟨m1, -⟩ | ⟨m1, -⟩
      · exact hx m1
      · omega
  | k + 1 => by
    obtain ⟨h1, h2⟩ := Upto.round hd hin (k := (k : Int)) (by omega) (Upto.to hd hin hl k) next.length (Nat.le_refl _)
    refine ⟨h1, fun x a b => ?_⟩
    show at' (wRound next k (wTo next l k) next.length) x = _
    rw [h2 x a b, if_pos b, if_neg (show ¬ x < ((0 : Nat) : Int) by omega)]
    rfl
end
theorem list_at {d e : List Int} {n : Nat} (h1 : d.length = n) (h2 : e.length = n) (h : ∀ x, 0 ≤ x → x < (n : Int) → at' d x = at' e x) : d = e := by
  refine List.ext_getElem? fun i => ?_
  by_cases hi : i < n
  · have := h i (by omega) (by omega)
    have e1 := at_get (d := d) (t := (i : Int)) (by omega) (by omega)
    have e2 := at_get (d := e) (t := (i : Int)) (by omega) (by omega)
    rw [Int.toNat_natCast] at e1 e2
    rw [e1, e2, this]
  · rw [List.getElem?_eq_none (by omega), List.getElem?_eq_none (by omega)]
/-- the reference's lengths are the program's -/
theorem ways_depths {next : List (List Int)} {l : List Int} (hin : ∀ xs ∈ next, ∀ t ∈ xs, 0 ≤ t ∧ t < (next.length : Int)) (hl : ∀ s ∈ l, 0 ≤ s ∧ s < (next.length : Int)) : ways next l = depths (turn next) l := by
  have hd := depths_spec (next := turn next) (l := l) (by rw [turn_len]; exact hl) (turn_in hin)
  rw [turn_len] at hd
  refine list_at (ways_len _ _) hd.len fun x h0 h1 => ?_
  have := (Upto.to hd hin hl next.length).at_ x h0 h1
  rw [if_neg (show ¬ x < ((0 : Nat) : Int) by omega)] at this
  have hlow := hd.low x h0 h1
  show at' (wTo next l next.length) x = _
  rw [this]
  unfold cap; split <;> omega

/-! ### flags -/
def fl (f : List Bool) (s : Int) : Bool := f.getD s.toNat false
def flags (n : Nat) (l : List Int) : List Bool := l.foldl (fun f s => f.set s.toNat true) (List.replicate n false)
theorem fl_set_same {f : List Bool} {t : Int} (y : Bool) (h0 : 0 ≤ t) (h1 : t < (f.length : Int)) : fl (f.set t.toNat y) t = y := by
  have : t.toNat < f.length := by omega
  simp [fl, List.getD_eq_getElem?_getD, this]
theorem fl_set_other {f : List Bool} {t s : Int} (y : Bool) (h0 : 0 ≤ t) (h1 : 0 ≤ s) (h : s ≠ t) : fl (f.set t.toNat y) s = fl f s := by
  have : t.toNat ≠ s.toNat := by omega
  simp [fl, List.getD_eq_getElem?_getD, List.getElem?_set_ne this]
theorem fl_get {f : List Bool} {t : Int} (h0 : 0 ≤ t) (h1 : t < (f.length : Int)) : f[t.toNat]? = some (fl f t) := by
  have : t.toNat < f.length := by omega
  unfold fl
  rw [List.getElem?_eq_getElem this, List.getD_eq_getElem?_getD, List.getElem?_eq_getElem this]
  rfl
theorem flags_snoc (n : Nat) (l : List Int) (s : Int) : flags n (l ++ [s]) = (flags n l).set s.toNat true := by simp [flags, List.foldl_append]
theorem sets_len (l : List Int) : ∀ f : List Bool, (l.foldl (fun f s => f.set s.toNat true) f).length = f.length := by
  induction l with
  | nil => intro f; rfl
  | cons a l ih => intro f; rw [List.foldl_cons, ih]; simp
theorem flags_len (n : Nat) (l : List Int) : (flags n l).length = n := by unfold flags; rw [sets_len]; simp
theorem fl_flags {n : Nat} {l : List Int} (hl : ∀ s ∈ l, 0 ≤ s ∧ s < (n : Int)) {x : Int} (h0 : 0 ≤ x) (h1 : x < (n : Int)) : fl (flags n l) x = decide (x ∈ l) := by
  have : ∀ (l : List Int) (f : List Bool), f.length = n → (∀ s ∈ l, 0 ≤ s ∧ s < (n : Int)) → fl (l.foldl (fun f s => f.set s.toNat true) f) x = (decide (x ∈ l) || fl f x) := by
    intro l
    induction l with
    | nil => intro f _ _; simp
    | cons a l ih =>
      intro f hf hl
      have ha := hl a (List.mem_cons_self ..)
      rw [List.foldl_cons, ih _ (by simpa using hf) (fun s hs => hl s (List.mem_cons_of_mem _ hs))]
      by_cases e : x = a
      · subst e; rw [fl_set_same _ h0 (by omega)]; simp
      · rw [fl_set_other _ ha.1 h0 e]; simp [e]
  unfold flags
  rw [this l _ (by simp) hl]
  have hlt : x.toNat < n := by omega
  simp [fl, List.getD_eq_getElem?_getD, hlt]

/-- a step of the reference's search for reached states -/
def rVisit (s : Int) (f : List Bool) (t : Int) : List Bool := f.set t.toNat (fl f t || fl f s)
def rRow (next : List (List Int)) (s : Int) (f : List Bool) : List Bool := (row next s).foldl (rVisit s) f
def rRound (next : List (List Int)) (f : List Bool) : Nat → List Bool
  | 0 => f
  | j + 1 => rRow next j (rRound next f j)
def rTo (next : List (List Int)) (l : List Int) : Nat → List Bool
  | 0 => flags next.length l
  | k + 1 => rRound next (rTo next l k) next.length
def reached (next : List (List Int)) (l : List Int) : List Bool := rTo next l next.length
theorem rVisits_len (s : Int) (r : List Int) : ∀ f, (r.foldl (rVisit s) f).length = f.length := by
  induction r with
  | nil => intro f; rfl
  | cons a r ih => intro f; rw [List.foldl_cons, ih]; simp [rVisit]
theorem rRow_len (next : List (List Int)) (s : Int) (f : List Bool) : (rRow next s f).length = f.length := rVisits_len s _ f
theorem rRound_len (next : List (List Int)) (f : List Bool) : ∀ j, (rRound next f j).length = f.length
  | 0 => rfl
  | j + 1 => by rw [rRound, rRow_len, rRound_len]
theorem rTo_len (next : List (List Int)) (l : List Int) : ∀ k, (rTo next l k).length = next.length
  | 0 => flags_len _ _
  | k + 1 => by rw [rTo, rRound_len, rTo_len]
theorem reached_len (next : List (List Int)) (l : List Int) : (reached next l).length = next.length := rTo_len next l _

theorem rVisits_at {n : Nat} {s : Int} (hs : 0 ≤ s ∧ s < (n : Int)) (r : List Int) : ∀ {f : List Bool}, f.length = n → (∀ t ∈ r, 0 ≤ t ∧ t < (n : Int)) →
    ∀ x, 0 ≤ x → x < (n : Int) → fl (r.foldl (rVisit s) f) x = (fl f x || (fl f s && decide (x ∈ r))) := by
  induction r with
  | nil => intro f _ _ x _ _; simp
  | cons a r ih =>
    intro f hf hr x h0 h1
    have ha := hr a (List.mem_cons_self ..)
    have hl : (rVisit s f a).length = n := by simpa [rVisit] using hf
    rw [List.foldl_cons, ih hl (fun t ht => hr t (List.mem_cons_of_mem _ ht)) x h0 h1]
    have hsame : ∀ y, 0 ≤ y → fl (rVisit s f a) y = if y = a then (fl f a || fl f s) else fl f y := by
      intro y hy
      unfold rVisit
      by_cases e : y = a
      · subst e; rw [fl_set_same _ ha.1 (by omega), if_pos rfl]
      · rw [fl_set_other _ ha.1 hy e, if_neg e]
    rw [hsame x h0, hsame s hs.1]
    by_cases e : x = a
    · subst e
      rw [if_pos rfl]
      split
      · rename_i e2; subst e2; simp only [Bool.or_self]; cases fl f s <;> simp
      · cases fl f x <;> cases fl f s <;> simp
    · rw [if_neg e]
      split
      · rename_i e2; subst e2; simp [e]
      · simp [e]
section
variable {next : List (List Int)} {l dd : List Int}
structure Rup (n : Nat) (dd : List Int) (k j : Int) (f : List Bool) (next : List (List Int)) : Prop where
  len : f.length = n
  sound : ∀ x, 0 ≤ x → x < (n : Int) → fl f x = true → 0 ≤ at' dd x
  low : ∀ x, 0 ≤ x → x < (n : Int) → 0 ≤ at' dd x → at' dd x ≤ k → fl f x = true
  edge : ∀ s, 0 ≤ s → s < j → s < (n : Int) → 0 ≤ at' dd s → at' dd s ≤ k → ∀ x ∈ Bfs.row next s, fl f x = true
theorem Rup.row (hd : Depth next next.length l dd) (hin : ∀ xs ∈ next, ∀ t ∈ xs, 0 ≤ t ∧ t < (next.length : Int)) {k : Int} {j : Nat} (hj : j < next.length) {f : List Bool}
    (h : Rup next.length dd k j f next) : Rup next.length dd k ((j + 1 : Nat) : Int) (rRow next j f) next := by
  have hr : ∀ t ∈ Bfs.row next j, 0 ≤ t ∧ t < (next.length : Int) := row_in hin j (by omega) (by omega)
  have ha := rVisits_at (n := next.length) (s := (j : Int)) (by omega) (Bfs.row next j) h.len hr
  refine ⟨by rw [rRow_len]; exact h.len, fun x h0 h1 hx => ?_, fun x h0 h1 hx hk => ?_, fun s h0 hs h1 hd0 hk x hx => ?_⟩
  · unfold rRow at hx
    rw [ha x h0 h1, Bool.or_eq_true, Bool.and_eq_true, decide_eq_true_eq] at hx
    rcases hx with hx | ⟨hx, hm⟩
    · exact h.sound x h0 h1 hx
    · exact (hd.done j (by omega) (by omega) (h.sound j (by omega) (by omega) hx) x hm).1
  · unfold rRow
    rw [ha x h0 h1, h.low x h0 h1 hx hk]; rfl
  · obtain ⟨x0, x1⟩ := row_in hin s h0 h1 x hx
    unfold rRow
    rw [ha x x0 x1]
    by_cases e : s = (j : Int)
    · subst e
      rw [h.low j h0 h1 hd0 hk, decide_eq_true hx]; simp
    · rw [h.edge s h0 (by omega) h1 hd0 hk x hx]; rfl
theorem Rup.round (hd : Depth next next.length l dd) (hin : ∀ xs ∈ next, ∀ t ∈ xs, 0 ≤ t ∧ t < (next.length : Int)) {k : Int} {f : List Bool}
    (h : Rup next.length dd k (0 : Nat) f next) : ∀ j, j ≤ next.length → Rup next.length dd k (j : Int) (rRound next f j) next
  | 0, _ => h
  | j + 1, hj => Rup.row hd hin hj (Rup.round hd hin h j (by omega))
theorem Rup.to (hd : Depth next next.length l dd) (hin : ∀ xs ∈ next, ∀ t ∈ xs, 0 ≤ t ∧ t < (next.length : Int)) (hl : ∀ s ∈ l, 0 ≤ s ∧ s < (next.length : Int)) : ∀ k : Nat, Rup next.length dd k (0 : Nat) (rTo next l k) next
  | 0 => by
    refine ⟨flags_len _ _, fun x h0 h1 hx => ?_, fun x h0 h1 hx hk => ?_, fun s h0 hs => by omega⟩
    · rw [rTo, fl_flags hl h0 h1, decide_eq_true_eq] at hx
      rw [hd.goal x hx]; decide
    · rw [rTo, fl_flags hl h0 h1, decide_eq_true_eq]
      rcases hd.from' x h0 h1 hx with ⟨m, -⟩ | ⟨m, -⟩
      · exact m
      · omega
  | k + 1 => by
    have h := Rup.round hd hin (k := (k : Int)) (Rup.to hd hin hl k) next.length (Nat.le_refl _)
    refine ⟨h.len, h.sound, fun x h0 h1 hx hk => ?_, fun s h0 hs => by omega⟩
    by_cases hk2 : at' dd x ≤ (k : Int)
    · exact h.low x h0 h1 hx hk2
    · rcases hd.from' x h0 h1 hx with ⟨-, m⟩ | ⟨-, u, u0, u1, m2, m3, m4⟩
      · omega
      · exact h.edge u u0 u1 u1 m3 (by omega) x m2
end
/-- the reference's reached states are the program's -/
theorem reached_depths {next : List (List Int)} {l : List Int} (hin : ∀ xs ∈ next, ∀ t ∈ xs, 0 ≤ t ∧ t < (next.length : Int)) (hl : ∀ s ∈ l, 0 ≤ s ∧ s < (next.length : Int)) {x : Int} (h0 : 0 ≤ x) (h1 : x < (next.length : Int)) :
    fl (reached next l) x = decide (0 ≤ at' (depths next l) x) := by
  have hd := depths_spec (next := next) (l := l) hl (row_in hin)
  have h := Rup.to hd hin hl next.length
  have hlow := hd.low x h0 h1
  rw [Bool.eq_iff_iff, decide_eq_true_eq]
  exact ⟨h.sound x h0 h1, fun hx => h.low x h0 h1 hx (by omega)⟩
end Go.Proofs.YtoffbdlgmnpblaaGreat.Bfs

/- The reference's flags, lists and next states. -/
namespace Go.Proofs.YtoffbdlgmnpblaaGreat
open Go.RowKit
set_option maxHeartbeats 4000000
set_option maxRecDepth 100000

abbrev bls (f : List Bool) : List Value := f.map .bool
/-- flags in a block of the call's own -/
def OwnFl (W : World) (B g n : Nat) (f : List Bool) : Prop := W.ownsRow B 4 1 (.slice (some ⟨g, 0, none⟩) n n) n (bls f)
theorem bls_set (f : List Bool) (i : Nat) (y : Bool) : (bls f).set i (.bool y) = bls (f.set i y) := by simp [bls, List.map_set]
section
variable {W W' : World} {B g n : Nat} {f : List Bool}
theorem OwnFl.len (h : OwnFl W B g n f) : f.length = n := by have := h.1; simpa using this
theorem OwnFl.cell (h : OwnFl W B g n f) {i : Nat} {x : Bool} (hx : f[i]? = some x) : W.cell? ⟨g, i, none⟩ = some (.bool x) ∧ W.frozen? ⟨g, i, none⟩ = false := own_cell h i _ (by simp [hx])
theorem OwnFl.cellAt (h : OwnFl W B g n f) {t : Int} (h0 : 0 ≤ t) (h1 : t < (n : Int)) : W.cell? ⟨g, t.toNat, none⟩ = some (.bool (Bfs.fl f t)) ∧ W.frozen? ⟨g, t.toNat, none⟩ = false := h.cell (Bfs.fl_get h0 (by rw [h.len]; exact h1))
theorem OwnFl.set (h : OwnFl W B g n f) {i : Nat} (hi : i < n) (y : Bool) : OwnFl (W.setCell ⟨g, i, none⟩ (.bool y)) B g n (f.set i y) := by
  have := own_set h i hi (.bool y)
  rw [bls_set] at this
  exact this
theorem OwnFl.lt (h : OwnFl W B g n f) : B ≤ g ∧ g < W.heap.size := World.ownsRow.lt h g rfl
theorem OwnFl.kept (h : OwnFl W B g n f) (hb : W'.heap[g]? = W.heap[g]?) : OwnFl W' B g n f := own_kept h fun k hk => by
  have e : g = k := by simpa [Value.ownBlock] using hk
  rw [← e]; exact hb
theorem OwnFl.below (h : OwnFl W B g n f) (hb : Below W.heap.size W W') : OwnFl W' B g n f := h.kept (hb.block g h.lt.2)
theorem OwnFl.sl (h : OwnFl W B g n f) (hn : n ≤ maxLen) : Sl Kind.bool W (fun b => B ≤ b ∧ b < W.heap.size ∧ Soft W b) (.slice (some ⟨g, 0, none⟩) n n) f := by
  have hl := h.len
  have hs := own_soft h g rfl
  have hlt := h.lt
  subst hl
  refine ⟨some ⟨g, 0, none⟩, f.length, rfl, Nat.le_refl _, hn, fun i x hx => ⟨⟨g, 0, none⟩, [.bool x], rfl, ⟨hlt.1, hlt.2, hs⟩, rfl, fun j u hu => ?_⟩⟩
  cases j with
  | zero =>
    simp only [List.getElem?_cons_zero, Option.some.injEq] at hu
    subst hu
    have := (h.cell hx).1
    rw [add_of_add]
    have e : (⟨g, 0, none⟩ : Addr).add (i * Kind.bool.sz + 0) = ⟨g, i, none⟩ := by
      show (⟨g, 0, none⟩ : Addr).add (i * 1 + 0) = _
      rw [Nat.mul_one, Nat.add_zero]; unfold Addr.add; split <;> simp_all
    rw [e]; exact this
  | succ j => simp at hu
end
/-- flags that came in, in each later world -/
theorem Fls.up {w : World} {D : Nat → Prop} {A : Option Addr} {n c : Nat} {f : List Bool} (h : Sl Kind.bool w D (.slice A n c) f) (hD : Lo D w) :
    Hid (0 < f.length → ∃ bd, A = some bd ∧ D bd.block ∧ ∀ W, Below w.heap.size w W → ∀ j x, f[j]? = some x → W.cell? (bd.add j) = some (.bool x)) := by
  obtain ⟨A', c', e, h1, h2, h3⟩ := h
  injection e with e1 e2 e3
  subst e1 e3
  refine Lib.hid fun hp => ?_
  obtain ⟨ad, _, ea, hd, _, _⟩ := h3 0 f[0] (List.getElem?_eq_getElem hp)
  refine ⟨ad, ea, hd, fun W hW j x hx => ?_⟩
  obtain ⟨ad', cs, ea', hd', hr, ha⟩ := h3 j x hx
  rw [ea] at ea'; injection ea' with ea'; subst ea'
  have hr : cs = [.bool x] := hr
  subst hr
  have := ha 0 (.bool x) rfl
  rw [add_of_add] at this
  have e : ad.add (j * Kind.bool.sz + 0) = ad.add j := by show ad.add (j * 1 + 0) = _; rw [Nat.mul_one, Nat.add_zero]
  rw [e] at this
  exact (hW.cell (by rw [block_of_add]; exact hD _ hd)).trans this

theorem RFlags_calls (n : Nat) (l : List Int) (u : Value) (D : Nat → Prop) (w : World) (hD : Lo D w) (hl : Sl (Kind.int .i64) w D u l) (hm : ∀ s ∈ l, 0 ≤ s ∧ s < (n : Int)) (hn : n ≤ 100) (hll : l.length ≤ 1000) :
    Calls Tryz.prog 99 #[.int .i64 (n : Int), u] w fun e w' => e = .returned (.slice (some ⟨w.heap.size, 0, none⟩) n n) ∧ Below w.heap.size w w' ∧ OwnFl w' w.heap.size w.heap.size n (Bfs.flags n l) := by
  obtain ⟨B, b, rfl, l1, l2, -⟩ := hl.form
  unfold maxLen at l2
  have HU := Ints.up hl hD
  have HM := Lib.hid hm
  clear hl hm
  go_enter Tryz.func99, Tryz.ntmps99
  go_wp2_with (refine wpList_mk1 elem_bool rfl _ _ rfl (by intro cs h; cases h) w.heap.size _ _ (n : Int) (n : Int) rfl rfl (by omega) (by omega) (by omega) (by omega) (by simp) ?_; intro w1 hown hb1 hz1 hcells)
  have hown' : OwnFl w1 w.heap.size w.heap.size n (List.replicate n false) := by simpa [OwnFl, bls] using hown
  clear hown hcells
  go_loopw [12] (fun k W => ∃ (j : Nat) (f : List Bool), j ≤ l.length ∧ k = .int .i64 (j : Int) ∧ Below w.heap.size w W ∧ w.heap.size + 1 ≤ W.heap.size ∧ OwnFl W w.heap.size w.heap.size n f ∧ Hid (f = Bfs.flags n (l.take j))) (fun k _ => l.length - (intOf k).toNat)
  case atStart => exact ⟨0, _, Nat.zero_le _, rfl, hb1, by omega, hown', Lib.hid rfl⟩
  case round =>
    obtain ⟨j, f, hj, rfl, hBW, hsW, hO, HF⟩ := hrel
    clear hown' hb1 hz1
    by_cases hlt : j < l.length
    · obtain ⟨t, ht⟩ : ∃ t, l[j]? = some t := ⟨_, List.getElem?_eq_getElem hlt⟩
      obtain ⟨t1, t2⟩ := HM.out t (List.mem_of_getElem? ht)
      obtain ⟨bd, rfl, hDb, hcs⟩ := HU.out (by omega)
      have q1 := hcs _ hBW j _ ht
      obtain ⟨k1, k2⟩ := hO.cellAt t1 t2
      have HT := Lib.hid (show Bfs.flags n (l.take (j + 1)) = f.set t.toNat true by rw [List.take_add_one, ht, HF.out]; exact Bfs.flags_snoc _ _ _)
      clear hcs ht
      go_wp2
      exact ⟨⟨j + 1, f.set t.toNat true, by omega, by go_num, hBW.setCell (by simp) _, by simpa [World.setCell] using hsW, hO.set (by omega) _, Lib.hid HT.out.symm⟩, by simp [intOf]; omega⟩
    · obtain rfl : j = l.length := by omega
      have HF2 := Lib.hid (show Bfs.flags n l = f by rw [HF.out, List.take_length])
      clear hlt
      go_wp2
      go_ret
      rw [HF2.out]
      exact ⟨rfl, hBW, hO⟩

theorem RList_calls (f : List Bool) (u : Value) (D : Nat → Prop) (w : World) (hD : Lo D w) (hl : Sl Kind.bool w D u f) (hll : f.length ≤ 1000) :
    Calls Tryz.prog 52 #[u] w fun e w' => ∃ v', e = .returned v' ∧ Below w.heap.size w w' ∧ w'.ownsRow w.heap.size 3 1 v' (markedBy f.length (Bfs.fl f)).length (ints (markedBy f.length (Bfs.fl f))) := by
  obtain ⟨B, b, rfl, l1, l2, -⟩ := hl.form
  unfold maxLen at l2
  have HU := Fls.up hl hD
  clear hl
  go_enter Tryz.func52, Tryz.ntmps52
  go_wp2
  go_loopw [3, 8] (fun o k W => ∃ (j : Nat) (L : List Int), j ≤ f.length ∧ k = .int .i64 (j : Int) ∧ Below w.heap.size w W ∧ W.ownsRow w.heap.size 3 1 o L.length (ints L) ∧ L.length ≤ j ∧ Hid (L = markedBy j (Bfs.fl f))) (fun _ k _ => f.length - (intOf k).toNat)
  case atStart => exact ⟨0, [], Nat.zero_le _, rfl, Below.refl _ _, World.ownsRow_nil _ _ _ _, Nat.le_refl _, rfl⟩
  case round =>
    obtain ⟨j, L, hj, rfl, hBW, hO, hL, HL⟩ := hrel
    have hsz := hBW.size
    by_cases hlt : j < f.length
    · obtain ⟨x, hx⟩ : ∃ x, f[j]? = some x := ⟨_, List.getElem?_eq_getElem hlt⟩
      obtain ⟨bd, rfl, hDb, hcs⟩ := HU.out (by omega)
      have q1 := hcs _ hBW j _ hx
      have hfx : Bfs.fl f (j : Int) = x := by unfold Bfs.fl; rw [Int.toNat_natCast, List.getD_eq_getElem?_getD, hx]; rfl
      have HX := Lib.hid hfx
      clear hcs hx hfx
      cases x with
      | false =>
        have HS := Lib.hid (show L = markedBy (j + 1) (Bfs.fl f) by rw [markedBy_succ, HX.out, HL.out]; rfl)
        go_wp2
        exact ⟨⟨j + 1, L, by omega, by go_num, hBW, hO, by omega, HS⟩, by simp [intOf]; omega⟩
      | true =>
        have HS := Lib.hid (show L ++ [(j : Int)] = markedBy (j + 1) (Bfs.fl f) by rw [markedBy_succ, HX.out, HL.out]; rfl)
        go_wp2_with (at_builtin; refine wpList_app1 elem_i64 rfl _ _ rfl w.heap.size _ L.length (ints L) rfl (hO.alloc _) ⟨_, 0, none⟩ 1 _ rfl (cell_new1 _ _ _) rfl (by omega) (by omega) (by simp; omega) ?_; intro v3 w3 ho3 hg3 ha3)
        refine ⟨⟨j + 1, L ++ [(j : Int)], by omega, by go_num, below_app hBW hsz hO hg3, by simpa using ho3, by simp; omega, HS⟩, by simp [intOf]; omega⟩
    · obtain rfl : j = f.length := by omega
      clear hlt
      go_wp2
      go_ret
      rw [← HL.out]
      exact ⟨_, rfl, hBW, hO⟩

/-- flags of the targets of the first choices -/
theorem RNext_calls (m : List St) (s : Int) (st : St) (v : Value) (D : Nat → Prop) (w : World) (hD : Lo D w) (h : ModelC w D v m) (hf : Fine m) (hs0 : 0 ≤ s) (hs1 : s < (m.length : Int)) (hst : m[s.toNat]? = some st) :
    Calls Tryz.prog 93 #[v, .int .i64 s] w fun e w' => ∃ v', e = .returned v' ∧ Below w.heap.size w w' ∧ Sl Kind.bool w' (nws w w') v' (Bfs.flags m.length (targets st)) := by
  obtain ⟨u, rfl, h⟩ := h
  obtain ⟨A, c, rfl, h1, h2, -⟩ := h.form
  unfold maxLen at h2
  obtain ⟨ad, B, p, d, rfl, hDa, q0, q1, q2, hsc⟩ := h.st_at s.toNat st hst
  obtain ⟨rfl, hp1, hp2⟩ := hsc.len
  unfold maxLen at hp2
  have HC := Lib.hid hsc
  have HLEN := hf.len
  have hmem := List.mem_of_getElem? hst
  have HCH := hf.chs st hmem
  have HBR := Lib.hid (hf.brs st hmem)
  have HTO := Lib.hid (hf.tos st hmem)
  have hb0 : Below w.heap.size w (w.alloc (.cells #[.slice (some ad) m.length c] 24)) := (Below.refl w.heap.size w).alloc (Nat.le_refl _) _
  have c2 : (w.alloc (.cells #[.slice (some ad) m.length c] 24)).cell? ⟨(ad.add (s.toNat * 3)).block, (ad.add (s.toNat * 3)).off + 2, none⟩ = some (.slice B st.chs.length d) :=
    (hb0.cell (p := ⟨(ad.add (s.toNat * 3)).block, (ad.add (s.toNat * 3)).off + 2, none⟩) (by rw [block_of_add]; exact hD _ hDa)).trans q2
  clear h hf hst hsc q0 q1 q2 hmem
  go_enter Tryz.func93, Tryz.ntmps93
  go_upto_region 2 with (refine wpList_mk1 elem_bool rfl _ _ rfl (by intro cs h; cases h) (w.heap.size + 1) _ _ (m.length : Int) (m.length : Int) rfl rfl (by omega) (by omega) (by omega) (by omega) (by simp) ?_; intro w1 hown hb1 hz1 hcells)
  have hown' : OwnFl w1 (w.heap.size + 1) (w.heap.size + 1) m.length (List.replicate m.length false) := by simpa [OwnFl, bls] using hown
  have HB1 := Lib.hid (hb0.trans (hb1.mono (by simp)))
  have hz2 : w.heap.size + 2 ≤ w1.heap.size := by rw [hz1]; simp
  have c0 : w1.cell? ⟨w.heap.size, 0, none⟩ = some (.slice (some ad) m.length c) := (hb1.cell (p := ⟨w.heap.size, 0, none⟩) (by simp)).trans (by simp)
  have c2' := (hb1.cell (p := ⟨(ad.add (s.toNat * 3)).block, (ad.add (s.toNat * 3)).off + 2, none⟩) (by rw [block_of_add]; have := hD _ hDa; simp; omega)).trans c2
  clear hown hcells hb1 hz1 hb0 c2
  go_wp2_with fail
  clear c2' c0
  go_loopw [21] (fun k W => ∃ (j : Nat) (f : List Bool), j ≤ st.chs.length ∧ k = .int .i64 (j : Int) ∧ Hid (Below w.heap.size w W) ∧ w.heap.size + 2 ≤ W.heap.size ∧ OwnFl W (w.heap.size + 1) (w.heap.size + 1) m.length f ∧ Hid (f = Bfs.flags m.length ((st.chs.take j).flatMap tos))) (fun k _ => st.chs.length - (intOf k).toNat)
  case atStart => exact ⟨0, _, Nat.zero_le _, rfl, HB1.out, hz2, hown', Lib.hid rfl⟩
  case round =>
    obtain ⟨j, f, hj, rfl, HBW, hsW, hO, HF⟩ := hrel
    clear hown' HB1 hz2
    by_cases hlt : j < st.chs.length
    · obtain ⟨x, hx⟩ : ∃ x, st.chs[j]? = some x := ⟨_, List.getElem?_eq_getElem hlt⟩
      obtain ⟨ad2, B2, p2, d2, rfl, hDa2, r0, r1, r2, hxc⟩ := HC.out.ch_up hD HBW.out j x hx
      obtain ⟨rfl, hx1, hx2⟩ := hxc.len
      unfold maxLen at hx2
      have HXC := Lib.hid hxc
      have hxm := List.mem_of_getElem? hx
      have HXB := HBR.out x hxm
      have HXT := Lib.hid (HTO.out x hxm)
      have HT := Lib.hid (show (st.chs.take (j + 1)).flatMap tos = (st.chs.take j).flatMap tos ++ tos x by rw [List.take_add_one, hx, List.flatMap_append]; simp)
      have hB2 := Lib.hid (HBW.out.alloc HBW.out.size (.cells #[.int .i64 x.rw.top, .int .i64 x.rw.low, .slice B2 x.brs.length d2] 97))
      have hO2 := hO.below ((Below.refl wr.heap.size wr).alloc (Nat.le_refl _) (.cells #[.int .i64 x.rw.top, .int .i64 x.rw.low, .slice B2 x.brs.length d2] 97))
      have hF0 : Hid (f = Bfs.flags m.length ((st.chs.take j).flatMap tos ++ (tos x).take 0)) := Lib.hid (by rw [HF.out]; simp)
      clear hx hxc hxm hO
      go_wp2
      go_loopw [28] (fun k W => ∃ (i : Nat) (f : List Bool), i ≤ x.brs.length ∧ k = .int .i64 (i : Int) ∧ Hid (Below w.heap.size w W) ∧ w.heap.size + 2 ≤ W.heap.size ∧ OwnFl W (w.heap.size + 1) (w.heap.size + 1) m.length f ∧ Hid (f = Bfs.flags m.length ((st.chs.take j).flatMap tos ++ (tos x).take i))) (fun k _ => x.brs.length - (intOf k).toNat)
      case atStart => exact ⟨0, _, Nat.zero_le _, rfl, hB2.out, by simp; omega, hO2, hF0.out⟩
      case round =>
        clear hF0 hO2 hB2
        obtain ⟨i, f, hi, rfl, HBW2, hsW2, hO, HF2⟩ := hrel
        by_cases hlt2 : i < x.brs.length
        · obtain ⟨b, hb⟩ : ∃ b, x.brs[i]? = some b := ⟨_, List.getElem?_eq_getElem hlt2⟩
          obtain ⟨ad3, rfl, hDa3, s0, s1, s2⟩ := HXC.out.br_up hD HBW2.out i b hb
          obtain ⟨t1, t2⟩ := HXT.out b (List.mem_of_getElem? hb)
          have hO3 := hO.below ((Below.refl wr.heap.size wr).alloc (Nat.le_refl _) (.cells #[.int .i64 b.to, .int .i64 b.ch.top, .int .i64 b.ch.low] 103))
          have hB3 := Lib.hid (HBW2.out.alloc HBW2.out.size (.cells #[.int .i64 b.to, .int .i64 b.ch.top, .int .i64 b.ch.low] 103))
          obtain ⟨k1, k2⟩ := hO3.cellAt t1 t2
          have HT2 := Lib.hid (show Bfs.flags m.length ((st.chs.take j).flatMap tos ++ (tos x).take (i + 1)) = f.set b.to.toNat true by
            have e : (tos x)[i]? = some b.to := by unfold tos; rw [List.getElem?_map, hb]; rfl
            rw [List.take_add_one, e, HF2.out, ← List.append_assoc]
            exact Bfs.flags_snoc _ _ _)
          have HO3 := Lib.hid (hO3.set (i := b.to.toNat) (by omega) true)
          clear hb hO hO3
          go_wp2
          exact ⟨⟨i + 1, f.set b.to.toNat true, by omega, by go_num, Lib.hid (hB3.out.setCell (by simp) _), by simp [World.setCell]; omega, HO3.out, Lib.hid HT2.out.symm⟩, by simp [intOf]; omega⟩
        · obtain rfl : i = x.brs.length := by omega
          have HF3 := Lib.hid (show f = Bfs.flags m.length ((st.chs.take (j + 1)).flatMap tos) by
            rw [HF2.out, HT.out, List.take_of_length_le (l := tos x) (by unfold tos; simp)])
          clear hlt2 HF2
          go_wp2
          exact ⟨⟨j + 1, f, by omega, by go_num, HBW2, hsW2, hO, HF3⟩, by simp [intOf]; omega⟩
    · obtain rfl : j = st.chs.length := by omega
      have HF3 := Lib.hid (show Bfs.flags m.length (targets st) = f by rw [HF.out, List.take_length]; rfl)
      clear hlt HF
      go_wp2
      go_ret
      rw [HF3.out]
      exact ⟨_, rfl, HBW.out, (hO.sl (by unfold maxLen; omega)).mono fun k hk => ⟨by omega, hk.2⟩⟩
end Go.Proofs.YtoffbdlgmnpblaaGreat
