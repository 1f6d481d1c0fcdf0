/- Part 1 of 55: Dig Div. -/

/- Plain laws on lists of digits in a base b, the lowest digit first: values, sums, differences, products, quotients. No program in sight. -/
namespace Go.Proofs.YtoffbdlgmnpblaaGreat.Dig

/-- element i of a list; a name that simp does not look behind -/
def gd {α : Type} [Inhabited α] (l : List α) (i : Nat) : α := l.getD i default
theorem gd_int (l : List Int) (i : Nat) : gd l i = l.getD i 0 := rfl
theorem gd_of {α : Type} [Inhabited α] {l : List α} {i : Nat} {x : α} (h : l[i]? = some x) : gd l i = x := by simp [gd, List.getD_eq_getElem?_getD, h]
theorem gd_lt {α : Type} [Inhabited α] {l : List α} {i : Nat} (h : i < l.length) : l[i]? = some (gd l i) := by simp [gd, List.getD_eq_getElem?_getD, List.getElem?_eq_getElem h]
theorem gd_mem {α : Type} [Inhabited α] {l : List α} {i : Nat} (h : i < l.length) : gd l i ∈ l := List.mem_of_getElem? (gd_lt h)
theorem gd_ge {α : Type} [Inhabited α] {l : List α} {i : Nat} (h : l.length ≤ i) : gd l i = default := by simp [gd, List.getD_eq_getElem?_getD, List.getElem?_eq_none h]

/-- the value of digits in base b -/
def val (b : Int) : List Int → Int
  | [] => 0
  | d :: ds => d + b * val b ds

/-- all digits lie in the base -/
def ok (b : Int) (l : List Int) : Prop := ∀ d ∈ l, 0 ≤ d ∧ d < b

/-- no zero at the end -/
def trimmed (l : List Int) : Prop := ∀ h : l ≠ [], l.getLast h ≠ 0

theorem ok_nil (b : Int) : ok b [] := fun _ h => by cases h
theorem ok_cons {b d : Int} {l : List Int} : ok b (d :: l) ↔ (0 ≤ d ∧ d < b) ∧ ok b l := by
  unfold ok; simp
theorem ok_append {b : Int} {l m : List Int} : ok b (l ++ m) ↔ ok b l ∧ ok b m := by
  unfold ok; simp only [List.mem_append]
  exact ⟨fun h => ⟨fun d hd => h d (.inl hd), fun d hd => h d (.inr hd)⟩, fun h d hd => hd.elim (h.1 d) (h.2 d)⟩
theorem ok_get {b : Int} {l : List Int} (h : ok b l) (hb : 0 < b) (i : Nat) : 0 ≤ l.getD i 0 ∧ l.getD i 0 < b := by
  by_cases hi : i < l.length
  · rw [List.getD_eq_getElem?_getD, List.getElem?_eq_getElem hi]; exact h _ (List.getElem_mem hi)
  · rw [List.getD_eq_getElem?_getD, List.getElem?_eq_none (by omega)]; exact ⟨Int.le_refl _, hb⟩
theorem ok_take {b : Int} {l : List Int} (h : ok b l) (n : Nat) : ok b (l.take n) := fun d hd => h d (List.mem_of_mem_take hd)
theorem ok_drop {b : Int} {l : List Int} (h : ok b l) (n : Nat) : ok b (l.drop n) := fun d hd => h d (List.mem_of_mem_drop hd)
theorem ok_replicate {b : Int} (hb : 0 < b) (n : Nat) : ok b (List.replicate n 0) := fun d hd => by
  rw [List.eq_of_mem_replicate hd]; exact ⟨Int.le_refl _, hb⟩
theorem ok_set {b : Int} {l : List Int} (h : ok b l) (n : Nat) {d : Int} (hd : 0 ≤ d ∧ d < b) : ok b (l.set n d) := fun x hx => by
  rcases List.mem_or_eq_of_mem_set hx with hx | rfl
  · exact h x hx
  · exact hd

theorem val_append (b : Int) (l m : List Int) : val b (l ++ m) = val b l + b ^ l.length * val b m := by
  induction l with
  | nil => simp [val]
  | cons d l ih => simp only [List.cons_append, val, ih, List.length_cons, Int.pow_succ]; grind
theorem val_snoc (b : Int) (l : List Int) (d : Int) : val b (l ++ [d]) = val b l + b ^ l.length * d := by
  rw [val_append]; simp [val]
theorem val_nonneg {b : Int} (hb : 0 < b) {l : List Int} (h : ok b l) : 0 ≤ val b l := by
  induction l with
  | nil => simp [val]
  | cons d l ih =>
    have h' := ok_cons.1 h
    have := ih h'.2
    have h2 := Int.mul_nonneg (Int.le_of_lt hb) this
    simp only [val]; omega
theorem val_lt {b : Int} (hb : 0 < b) {l : List Int} (h : ok b l) : val b l < b ^ l.length := by
  induction l with
  | nil => simp [val]
  | cons d l ih =>
    have h' := ok_cons.1 h
    have := ih h'.2
    have h2 : b * (val b l + 1) ≤ b * b ^ l.length := Int.mul_le_mul_of_nonneg_left (by omega) (Int.le_of_lt hb)
    simp only [val, List.length_cons, Int.pow_succ]
    have h3 : b * (val b l + 1) = b * val b l + b := by grind
    have h4 : b ^ l.length * b = b * b ^ l.length := Int.mul_comm _ _
    omega
theorem pow_pos' {b : Int} (hb : 0 < b) (n : Nat) : 0 < b ^ n := Int.pow_pos hb
theorem val_replicate (b : Int) (n : Nat) : val b (List.replicate n 0) = 0 := by
  induction n with
  | zero => simp [val]
  | succ n ih => simp [List.replicate_succ, val, ih]
theorem val_snoc_zero (b : Int) (l : List Int) : val b (l ++ [0]) = val b l := by rw [val_snoc]; simp

/-- a number with a digit at the end that is not 0 is great -/
theorem val_ge {b : Int} (hb : 0 < b) {l : List Int} (h : ok b l) (ht : trimmed l) (hn : l ≠ []) : b ^ (l.length - 1) ≤ val b l := by
  have e : l = l.dropLast ++ [l.getLast hn] := (List.dropLast_concat_getLast hn).symm
  have hl := ht hn
  have ho : 0 ≤ l.getLast hn ∧ l.getLast hn < b := h _ (List.getLast_mem hn)
  have hd : 0 ≤ val b l.dropLast := val_nonneg hb (fun d hd => h d (List.dropLast_subset l hd))
  have hv : val b l = val b l.dropLast + b ^ l.dropLast.length * l.getLast hn := by
    conv => lhs; rw [e]
    rw [val_snoc]
  rw [hv, List.length_dropLast]
  have hp := pow_pos' hb (l.length - 1)
  have : b ^ (l.length - 1) * 1 ≤ b ^ (l.length - 1) * l.getLast hn := Int.mul_le_mul_of_nonneg_left (by omega) (Int.le_of_lt hp)
  omega

theorem pow_mono {b : Int} (hb : 1 ≤ b) {m n : Nat} (h : m ≤ n) : b ^ m ≤ b ^ n := by
  obtain ⟨k, rfl⟩ := Nat.exists_eq_add_of_le h
  rw [Int.pow_add]
  have h1 := pow_pos' (b := b) (by omega) m
  have h2 : 1 ≤ b ^ k := by have := pow_pos' (b := b) (by omega) k; omega
  have := Int.mul_le_mul_of_nonneg_left h2 (Int.le_of_lt h1)
  omega

/-- fewer digits: a lesser number -/
theorem val_lt_of_length {b : Int} (hb : 1 < b) {l m : List Int} (hl : ok b l) (hm : ok b m) (ht : trimmed m) (h : l.length < m.length) : val b l < val b m := by
  have h1 := val_lt (by omega) hl
  have hn : m ≠ [] := by intro e; subst e; simp at h
  have h2 := val_ge (by omega) hm ht hn
  have h3 := pow_mono (b := b) (by omega) (show l.length ≤ m.length - 1 by omega)
  omega

/-- the greatest place at which two numbers differ decides -/
theorem val_lt_of_top {b : Int} (hb : 0 < b) (i : Nat) : ∀ {l m : List Int}, ok b l → ok b m → l.length = m.length → i < l.length →
    (∀ j, i < j → l.getD j 0 = m.getD j 0) → l.getD i 0 < m.getD i 0 → val b l < val b m := by
  induction i with
  | zero =>
    intro l m hl hm he hi hj hlt
    match l, m with
    | d :: l, e :: m =>
      have h' := ok_cons.1 hl
      have : l = m := by
        apply List.ext_getElem?
        intro k
        have hk := hj (k + 1) (by omega)
        simp only [List.length_cons] at he
        simp only [List.getD_cons_succ] at hk
        by_cases h : k < l.length
        · rw [List.getElem?_eq_getElem h, List.getElem?_eq_getElem (by omega)]
          simp only [List.getD_eq_getElem?_getD, List.getElem?_eq_getElem h, List.getElem?_eq_getElem (show k < m.length by omega), Option.getD_some] at hk
          rw [hk]
        · rw [List.getElem?_eq_none (by omega), List.getElem?_eq_none (by omega)]
      subst this
      simp only [List.getD_cons_zero] at hlt
      simp only [val]; omega
    | [], _ => simp at hi
    | _ :: _, [] => simp at he
  | succ i ih =>
    intro l m hl hm he hi hj hlt
    match l, m with
    | d :: l, e :: m =>
      have h1 := ok_cons.1 hl
      have h2 := ok_cons.1 hm
      simp only [List.length_cons] at he hi
      have := ih h1.2 h2.2 (by omega) (by omega) (fun j hij => by simpa using hj (j + 1) (by omega)) (by simpa using hlt)
      have h3 : b * (val b l + 1) ≤ b * val b m := Int.mul_le_mul_of_nonneg_left (by omega) (Int.le_of_lt hb)
      have h4 : b * (val b l + 1) = b * val b l + b := by grind
      simp only [val]; omega
    | [], _ => simp at hi
    | _ :: _, [] => simp at he

theorem val_eq_of_all {b : Int} : ∀ {l m : List Int}, l.length = m.length → (∀ j, l.getD j 0 = m.getD j 0) → val b l = val b m := by
  intro l m he hj
  have : l = m := by
    apply List.ext_getElem?
    intro k
    have hk := hj k
    by_cases h : k < l.length
    · rw [List.getElem?_eq_getElem h, List.getElem?_eq_getElem (by omega)]
      simp only [List.getD_eq_getElem?_getD, List.getElem?_eq_getElem h, List.getElem?_eq_getElem (show k < m.length by omega), Option.getD_some] at hk
      rw [hk]
    · rw [List.getElem?_eq_none (by omega), List.getElem?_eq_none (by omega)]
  rw [this]

/-- -1, 0 or 1 -/
def sgn (x : Int) : Int := if x < 0 then -1 else if 0 < x then 1 else 0

theorem sgn_lt {x : Int} (h : x < 0) : sgn x = -1 := by unfold sgn; rw [if_pos h]
theorem sgn_gt {x : Int} (h : 0 < x) : sgn x = 1 := by unfold sgn; rw [if_neg (by omega), if_pos h]
/-- the absolute value -/
def ab (x : Int) : Int := if x < 0 then -x else x
theorem ab_nonneg (x : Int) : 0 ≤ ab x := by unfold ab; split <;> omega
theorem ab_of_pos {x : Int} (h : 0 ≤ x) : ab x = x := by unfold ab; rw [if_neg (by omega)]
theorem ab_of_neg {x : Int} (h : x < 0) : ab x = -x := by unfold ab; rw [if_pos h]
theorem sgn_ab (x : Int) : sgn x * ab x = x := by
  unfold sgn ab
  split
  · omega
  · split <;> omega
theorem sgn_range (x : Int) : -1 ≤ sgn x ∧ sgn x ≤ 1 := by
  unfold sgn
  split
  · omega
  · split <;> omega
theorem sgn_zero : sgn 0 = 0 := rfl

/-- what 'trim' gives -/
def trim : List Int → List Int
  | [] => []
  | d :: ds => let r := trim ds; if r = [] ∧ d = 0 then [] else d :: r

theorem trim_snoc_zero (l : List Int) : trim (l ++ [0]) = trim l := by
  induction l with
  | nil => simp [trim]
  | cons d l ih => simp only [List.cons_append, trim, ih]
theorem trim_of_trimmed {l : List Int} (h : trimmed l) : trim l = l := by
  induction l with
  | nil => rfl
  | cons d l ih =>
    have hl : trimmed l := fun hn => by have := h (by simp); rwa [List.getLast_cons hn] at this
    simp only [trim, ih hl]
    rw [if_neg]
    rintro ⟨rfl, rfl⟩
    exact h (by simp) (by simp)
theorem trim_trimmed (l : List Int) : trimmed (trim l) := by
  induction l with
  | nil => intro h; exact absurd rfl h
  | cons d l ih =>
    simp only [trim]
    split
    · intro h; exact absurd rfl h
    · rename_i h
      intro hn
      by_cases hr : trim l = []
      · have hd : d ≠ 0 := fun e => h ⟨hr, e⟩
        simp [hr, hd]
      · rw [List.getLast_cons hr]; exact ih hr
theorem val_trim (b : Int) (l : List Int) : val b (trim l) = val b l := by
  induction l with
  | nil => rfl
  | cons d l ih =>
    simp only [trim]
    split
    · rename_i h
      have : val b (trim l) = 0 := by rw [h.1]; rfl
      simp only [val]; rw [← ih, this, h.2]; simp
    · simp only [val, ih]
theorem ok_trim {b : Int} {l : List Int} (h : ok b l) : ok b (trim l) := by
  induction l with
  | nil => exact h
  | cons d l ih =>
    simp only [trim]
    split
    · exact ok_nil b
    · exact ok_cons.2 ⟨(ok_cons.1 h).1, ih (ok_cons.1 h).2⟩
theorem trim_prefix (l : List Int) : ∃ n, n ≤ l.length ∧ trim l = l.take n := by
  induction l with
  | nil => exact ⟨0, Nat.le_refl _, rfl⟩
  | cons d l ih =>
    obtain ⟨n, hn, e⟩ := ih
    simp only [trim]
    split
    · exact ⟨0, by simp, rfl⟩
    · exact ⟨n + 1, by simpa using hn, by simp [e]⟩
/-- two trimmed lists of one value are one -/
theorem eq_of_val {b : Int} (hb : 1 < b) : ∀ {l m : List Int}, ok b l → ok b m → trimmed l → trimmed m → val b l = val b m → l = m := by
  intro l
  induction l with
  | nil =>
    intro m _ hm _ ht hv
    cases m with
    | nil => rfl
    | cons e m =>
      have := val_ge (by omega) hm ht (by simp)
      have hp := pow_pos' (b := b) (by omega) ((e :: m).length - 1)
      simp only [val] at hv
      simp only [val] at this
      omega
  | cons d l ih =>
    intro m hl hm htl htm hv
    cases m with
    | nil =>
      have := val_ge (by omega) hl htl (by simp)
      have hp := pow_pos' (b := b) (by omega) ((d :: l).length - 1)
      simp only [val] at hv this
      omega
    | cons e m =>
      have h1 := ok_cons.1 hl
      have h2 := ok_cons.1 hm
      simp only [val] at hv
      have hde : d = e := by
        have e1 : (d + b * val b l) % b = d := by rw [Int.add_mul_emod_self_left]; exact Int.emod_eq_of_lt h1.1.1 h1.1.2
        have e2 : (e + b * val b m) % b = e := by rw [Int.add_mul_emod_self_left]; exact Int.emod_eq_of_lt h2.1.1 h2.1.2
        rw [← e1, ← e2, hv]
      subst hde
      have hv' : val b l = val b m := by
        have : b * val b l = b * val b m := by omega
        exact Int.eq_of_mul_eq_mul_left (by omega) this
      have t1 : trimmed l := fun hn => by have := htl (by simp); rwa [List.getLast_cons hn] at this
      have t2 : trimmed m := fun hn => by have := htm (by simp); rwa [List.getLast_cons hn] at this
      rw [ih h1.2 h2.2 t1 t2 hv']

end Go.Proofs.YtoffbdlgmnpblaaGreat.Dig

/- Plain laws on digits: a digit replaced; sums and differences place by place; products; the quotient digit of long division. No program in sight. -/
namespace Go.Proofs.YtoffbdlgmnpblaaGreat.Dig

theorem getD_cons_succ (d : Int) (l : List Int) (i : Nat) : (d :: l).getD (i + 1) 0 = l.getD i 0 := by simp
theorem take_succ_getD (l : List Int) (i : Nat) (h : i < l.length) : l.take (i + 1) = l.take i ++ [l.getD i 0] := by
  rw [List.take_succ_eq_append_getElem h]; simp [List.getD_eq_getElem?_getD, List.getElem?_eq_getElem h]
theorem drop_getD (l : List Int) (i : Nat) (h : i < l.length) : l.drop i = l.getD i 0 :: l.drop (i + 1) := by
  rw [List.drop_eq_getElem_cons h]; simp [List.getD_eq_getElem?_getD, List.getElem?_eq_getElem h]
theorem val_take_succ (b : Int) (l : List Int) (i : Nat) (h : i < l.length) : val b (l.take (i + 1)) = val b (l.take i) + b ^ i * l.getD i 0 := by
  rw [take_succ_getD l i h, val_snoc, List.length_take, Nat.min_eq_left (by omega)]
theorem gd_take_succ {b : Int} (l : List Int) (i : Nat) (h : i < l.length) : val b (l.take (i + 1)) = val b (l.take i) + b ^ i * gd l i := val_take_succ b l i h
theorem val_take_of_le (b : Int) (l : List Int) (i : Nat) (h : l.length ≤ i) : val b (l.take i) = val b l := by rw [List.take_of_length_le h]
theorem val_take_drop (b : Int) (l : List Int) (i : Nat) (h : i ≤ l.length) : val b l = val b (l.take i) + b ^ i * val b (l.drop i) := by
  conv => lhs; rw [← List.take_append_drop i l]
  rw [val_append, List.length_take, Nat.min_eq_left h]
theorem val_drop (b : Int) (l : List Int) (i : Nat) (h : i < l.length) : val b (l.drop i) = l.getD i 0 + b * val b (l.drop (i + 1)) := by
  rw [drop_getD l i h]; rfl

theorem val_set (b : Int) (d : Int) : ∀ (l : List Int) (i : Nat), i < l.length → val b (l.set i d) = val b l + b ^ i * (d - l.getD i 0)
  | [], _, h => by simp at h
  | x :: l, 0, _ => by simp only [List.set_cons_zero, val, List.getD_cons_zero, Int.pow_zero]; omega
  | x :: l, i + 1, h => by
    have := val_set b d l i (by simpa using h)
    simp only [List.set_cons_succ, val, this, List.getD_cons_succ, Int.pow_succ]
    grind
theorem getD_set_same (l : List Int) (i : Nat) (d : Int) (h : i < l.length) : (l.set i d).getD i 0 = d := by
  simp [List.getD_eq_getElem?_getD, h]
theorem getD_set_other (l : List Int) (i j : Nat) (d : Int) (h : i ≠ j) : (l.set i d).getD j 0 = l.getD j 0 := by
  simp [List.getD_eq_getElem?_getD, List.getElem?_set_ne h]
theorem getD_replicate (n i : Nat) : (List.replicate n (0 : Int)).getD i 0 = 0 := by
  simp only [List.getD_eq_getElem?_getD, List.getElem?_replicate]; split <;> rfl
/-- where all digits from a place on are 0 they do not count -/
theorem val_zero_of_all (b : Int) : ∀ (l : List Int), (∀ j, l.getD j 0 = 0) → val b l = 0
  | [], _ => rfl
  | d :: l, h => by
    have h0 := h 0
    simp only [List.getD_cons_zero] at h0
    have := val_zero_of_all b l (fun j => by simpa using h (j + 1))
    simp [val, h0, this]
theorem getD_drop' (l : List Int) (i j : Nat) : (l.drop i).getD j 0 = l.getD (i + j) 0 := by simp [List.getD_eq_getElem?_getD]
theorem getD_take_lt (l : List Int) (n j : Nat) (h : j < n) : (l.take n).getD j 0 = l.getD j 0 := by simp [List.getD_eq_getElem?_getD, h]
theorem getD_of_ge (l : List Int) (j : Nat) (h : l.length ≤ j) : l.getD j 0 = 0 := by simp [List.getD_eq_getElem?_getD, List.getElem?_eq_none h]

/-! ### Steps of sums, differences -/
theorem plus_step {b : Int} (hb : 0 < b) {zs : List Int} {k : Nat} {c x y X Y : Int} (ho : ok b zs) (hz : zs.length = k) (h : val b zs + b ^ k * c = X + Y) :
    ok b (zs ++ [(x + y + c) % b]) ∧ val b (zs ++ [(x + y + c) % b]) + b ^ (k + 1) * ((x + y + c) / b) = (X + b ^ k * x) + (Y + b ^ k * y) := by
  subst hz
  refine ⟨ok_append.2 ⟨ho, fun d hd => ?_⟩, ?_⟩
  · simp only [List.mem_singleton] at hd; subst hd
    exact ⟨Int.emod_nonneg _ (by omega), Int.emod_lt_of_pos _ hb⟩
  · rw [val_snoc, Int.pow_succ]
    have e := Int.mul_ediv_add_emod (x + y + c) b
    have e2 : b ^ zs.length * (b * ((x + y + c) / b) + (x + y + c) % b) = b ^ zs.length * (x + y + c) := by rw [e]
    grind
theorem minus_step {b : Int} {zs : List Int} {k : Nat} {c x y X Y d c' : Int} (ho : ok b zs) (hz : zs.length = k) (h : val b zs - b ^ k * c = X - Y) (hd : 0 ≤ d ∧ d < b) (he : d - b * c' = x - y - c) :
    ok b (zs ++ [d]) ∧ val b (zs ++ [d]) - b ^ (k + 1) * c' = (X + b ^ k * x) - (Y + b ^ k * y) := by
  subst hz
  refine ⟨ok_append.2 ⟨ho, fun d' hd' => ?_⟩, ?_⟩
  · simp only [List.mem_singleton] at hd'; subst hd'; exact hd
  · rw [val_snoc, Int.pow_succ]
    have e2 : b ^ zs.length * (d - b * c') = b ^ zs.length * (x - y - c) := by rw [he]
    grind

/-! ### Steps of a product: row i of the first number, place k of the second -/
theorem mul_step {b : Int} (hb : 0 < b) {zs ys : List Int} {i k : Nat} {c p t V : Int} (ho : ok b zs) (hi : i + k < zs.length) (hk : k < ys.length) (ht : t = c + (p * gd ys k + gd zs (i + k)))
    (h : val b zs + b ^ (i + k) * c = V + b ^ i * (p * val b (ys.take k))) :
    ok b (zs.set (i + k) (t % b)) ∧ val b (zs.set (i + k) (t % b)) + b ^ (i + (k + 1)) * (t / b) = V + b ^ i * (p * val b (ys.take (k + 1))) := by
  refine ⟨ok_set ho _ ⟨Int.emod_nonneg _ (by omega), Int.emod_lt_of_pos _ hb⟩, ?_⟩
  rw [val_set b _ zs (i + k) hi, gd_take_succ ys k hk, ← gd_int]
  have e := Int.mul_ediv_add_emod t b
  have e2 : b ^ (i + k) * (b * (t / b) + t % b) = b ^ (i + k) * t := by rw [e]
  have e3 : b ^ (i + (k + 1)) = b ^ (i + k) * b := by rw [← Nat.add_assoc, Int.pow_succ]
  have e4 : b ^ (i + k) = b ^ i * b ^ k := Int.pow_add _ _ _
  rw [e3]
  rw [ht] at e2 ⊢
  grind
theorem mul_row {b : Int} {zs xs ys : List Int} {i : Nat} {c : Int} (ho : ok b zs) (hc : 0 ≤ c ∧ c < b) (hi : i < xs.length) (hl : i + ys.length < zs.length) (hz : gd zs (i + ys.length) = 0)
    (h : val b zs + b ^ (i + ys.length) * c = val b (xs.take i) * val b ys + b ^ i * (gd xs i * val b (ys.take ys.length))) :
    ok b (zs.set (i + ys.length) c) ∧ val b (zs.set (i + ys.length) c) = val b (xs.take (i + 1)) * val b ys := by
  refine ⟨ok_set ho _ hc, ?_⟩
  rw [val_set b _ zs _ hl, gd_take_succ xs i hi, ← gd_int, hz]
  rw [List.take_length] at h
  grind
theorem gd_set_same (l : List Int) (i : Nat) (d : Int) (h : i < l.length) : gd (l.set i d) i = d := getD_set_same l i d h
theorem gd_set_other (l : List Int) (i j : Nat) (d : Int) (h : i ≠ j) : gd (l.set i d) j = gd l j := getD_set_other l i j d h
theorem gd_replicate (n i : Nat) : gd (List.replicate n (0 : Int)) i = 0 := getD_replicate n i

/-! ### A step of the division by one digit -/
theorem short_step {b : Int} (hb : 0 < b) {xs zs : List Int} {k : Nat} {y r t : Int} (ho : ok b zs) (ox : ok b xs) (hx : k < xs.length) (hz : k < zs.length) (hr : 0 ≤ r ∧ r < y) (ht : t = r * b + gd xs k)
    (h : val b (xs.drop (k + 1)) = y * val b (zs.drop (k + 1)) + r) :
    ok b (zs.set k (t / y)) ∧ val b (xs.drop k) = y * val b ((zs.set k (t / y)).drop k) + t % y ∧ 0 ≤ t % y ∧ t % y < y := by
  have hx0 := ok_get ox hb k
  have hg : gd xs k = xs.getD k 0 := rfl
  have hq : t / y < b := by
    apply Int.ediv_lt_of_lt_mul (by omega)
    have : (r + 1) * b ≤ y * b := Int.mul_le_mul_of_nonneg_right (by omega) (Int.le_of_lt hb)
    have e : (r + 1) * b = r * b + b := by grind
    have e2 : y * b = b * y := Int.mul_comm _ _
    omega
  have ht0 : 0 ≤ t := by
    have := Int.mul_nonneg hr.1 (Int.le_of_lt hb)
    omega
  refine ⟨ok_set ho _ ⟨Int.ediv_nonneg ht0 (by omega), hq⟩, ?_, Int.emod_nonneg _ (by omega), Int.emod_lt_of_pos _ (by omega)⟩
  rw [val_drop b xs k hx, val_drop b (zs.set k (t / y)) k (by simpa using hz), getD_set_same _ _ _ hz, h, ← hg]
  have e1 : (zs.set k (t / y)).drop (k + 1) = zs.drop (k + 1) := by rw [List.drop_set_of_lt (by omega)]
  rw [e1]
  have e := Int.mul_ediv_add_emod t y
  grind

/-! ### The quotient digit of long division -/

/-- an estimate that is too great by the test of three digits is too great -/
theorem est_down {B q r v1 v2 u2 U V t P V2 U2 : Int} (hP : 0 < P) (hq : 0 ≤ q) (hr : r = t - q * v1) (hV : V = (v1 * B + v2) * P + V2) (hV2 : 0 ≤ V2) (hU : U = (t * B + u2) * P + U2) (hU2 : U2 < P)
    (h : r * B + u2 < q * v2) : U < q * V := by
  subst hr hV hU
  have h1 : t * B + u2 + 1 ≤ q * (v1 * B + v2) := by
    have e : q * (v1 * B + v2) = q * v1 * B + q * v2 := by grind
    have e2 : (t - q * v1) * B = t * B - q * v1 * B := by grind
    omega
  have h2 : (t * B + u2 + 1) * P ≤ q * (v1 * B + v2) * P := Int.mul_le_mul_of_nonneg_right h1 (Int.le_of_lt hP)
  have h3 : 0 ≤ q * V2 := Int.mul_nonneg hq hV2
  have e3 : q * ((v1 * B + v2) * P + V2) = q * (v1 * B + v2) * P + q * V2 := by grind
  have e4 : (t * B + u2 + 1) * P = (t * B + u2) * P + P := by grind
  omega

/-- an estimate below the base that passes the test of three digits is at most one too great -/
theorem est_near {B q r v1 v2 u2 U V t P V2 U2 : Int} (hB : 0 < B) (hP : 0 < P) (hq : 0 ≤ q) (hqB : q < B) (hr : r = t - q * v1) (hv1 : 1 ≤ v1) (hv2 : 0 ≤ v2) (hV : V = (v1 * B + v2) * P + V2) (hV2 : V2 < P) (hV0 : 0 ≤ V2) (hU : U = (t * B + u2) * P + U2) (hU2 : 0 ≤ U2)
    (h : q * v2 ≤ r * B + u2) : q * V < U + V := by
  subst hr hV hU
  have h1 : q * (v1 * B + v2) ≤ t * B + u2 := by
    have e : q * (v1 * B + v2) = q * v1 * B + q * v2 := by grind
    have e2 : (t - q * v1) * B = t * B - q * v1 * B := by grind
    omega
  have h2 : q * (v1 * B + v2) * P ≤ (t * B + u2) * P := Int.mul_le_mul_of_nonneg_right h1 (Int.le_of_lt hP)
  have h3 : q * V2 ≤ q * P := Int.mul_le_mul_of_nonneg_left (by omega) hq
  have h4 : q * P ≤ (B - 1) * P := Int.mul_le_mul_of_nonneg_right (by omega) (Int.le_of_lt hP)
  have h5 : B * P ≤ v1 * B * P := by
    have := Int.mul_le_mul_of_nonneg_right hv1 (Int.le_of_lt (Int.mul_pos hB hP))
    have e : v1 * (B * P) = v1 * B * P := by grind
    omega
  have h6 : 0 ≤ v2 * P := Int.mul_nonneg hv2 (Int.le_of_lt hP)
  have e3 : q * ((v1 * B + v2) * P + V2) = q * (v1 * B + v2) * P + q * V2 := by grind
  have e5 : (v1 * B + v2) * P = v1 * B * P + v2 * P := by grind
  have e4 : (B - 1) * P = B * P - P := by grind
  omega

/-- the remainder and the quotient -/
theorem quot_of {U V q R : Int} (hV : 0 < V) (h : U = q * V + R) (h0 : 0 ≤ R) (h1 : R < V) : U / V = q ∧ U % V = R := by
  subst h
  constructor
  · rw [Int.add_comm, Int.add_mul_ediv_right _ _ (by omega), Int.ediv_eq_zero_of_lt h0 h1]; omega
  · rw [Int.add_comm, Int.add_mul_emod_self_right]; exact Int.emod_eq_of_lt h0 h1

end Go.Proofs.YtoffbdlgmnpblaaGreat.Dig
