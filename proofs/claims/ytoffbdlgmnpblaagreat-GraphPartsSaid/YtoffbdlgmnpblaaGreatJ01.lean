/- Part 1: Dig Div Lib. -/
import Derived.Test.YtoffbdlgmnpblaaGreatProg
import Derived.Below
import Derived.WalkKit
import Derived.KernelRfl
import Derived.Deep.QuietTactic
import Derived.BigQuiet
import Derived.Deep.Draws
import Derived.Lib.Hide
import Derived.Laws.AppendOwn
import Derived.Laws.MakeOwn
import Derived.Laws.OwnMore
import Derived.Maps.AppendAt
import Derived.OwnWalk

/- Plain laws on lists of digits in a base b, the lowest digit first: values, sums, differences, products, quotients. No program in sight. -/
namespace Go.Proofs.YtoffbdlgmnpblaaGreat.Dig

/-- element i of a list; a name that simp does not look behind -/
def gd {α : Type} [Inhabited α] (l : List α) (i : Nat) : α := l.getD i default
theorem gd_int (l : List Int) (i : Nat) : gd l i = l.getD i 0 := rfl
theorem gd_of {α : Type} [Inhabited α] {l : List α} {i : Nat} {x : α} (h : l[i]? = some x) : gd l i = x := by simp [gd, List.getD_eq_getElem?_getD, h]
theorem gd_lt {α : Type} [Inhabited α] {l : List α} {i : Nat} (h : i < l.length) : l[i]? = some (gd l i) := by simp [gd, List.getD_eq_getElem?_getD, List.getElem?_eq_getElem h]
theorem gd_ge {α : Type} [Inhabited α] {l : List α} {i : Nat} (h : l.length ≤ i) : gd l i = default := by simp [gd, List.getD_eq_getElem?_getD, List.getElem?_eq_none h]

/-- the value of digits in base b -/
def val (b : Int) : List Int → Int
  | [] => 0
  | d :: ds => d + b * val b ds

/-- all digits lie in the base -/
def ok (b : Int) (l : List Int) : Prop := ∀ d ∈ l, 0 ≤ d ∧ d < b

/-- no zero at the end -/
def trimmed (l : List Int) : Prop := ∀ h : l ≠ [], l.getLast h ≠ 0

theorem ok_nil (b : Int) : ok b [] := fun _ h => by cases h
theorem ok_cons {b d : Int} {l : List Int} : ok b (d :: l) ↔ (0 ≤ d ∧ d < b) ∧ ok b l := by
  unfold ok; simp
theorem ok_append {b : Int} {l m : List Int} : ok b (l ++ m) ↔ ok b l ∧ ok b m := by
  unfold ok; simp only [List.mem_append]
  exact ⟨fun h => ⟨fun d hd => h d (.inl hd), fun d hd => h d (.inr hd)⟩, fun h d hd => hd.elim (h.1 d) (h.2 d)⟩
theorem ok_get {b : Int} {l : List Int} (h : ok b l) (hb : 0 < b) (i : Nat) : 0 ≤ l.getD i 0 ∧ l.getD i 0 < b := by
  by_cases hi : i < l.length
  · rw [List.getD_eq_getElem?_getD, List.getElem?_eq_getElem hi]; exact h _ (List.getElem_mem hi)
  · rw [List.getD_eq_getElem?_getD, List.getElem?_eq_none (by omega)]; exact ⟨Int.le_refl _, hb⟩
theorem ok_take {b : Int} {l : List Int} (h : ok b l) (n : Nat) : ok b (l.take n) := fun d hd => h d (List.mem_of_mem_take hd)
theorem ok_drop {b : Int} {l : List Int} (h : ok b l) (n : Nat) : ok b (l.drop n) := fun d hd => h d (List.mem_of_mem_drop hd)
theorem ok_replicate {b : Int} (hb : 0 < b) (n : Nat) : ok b (List.replicate n 0) := fun d hd => by
  rw [List.eq_of_mem_replicate hd]; exact ⟨Int.le_refl _, hb⟩
theorem ok_set {b : Int} {l : List Int} (h : ok b l) (n : Nat) {d : Int} (hd : 0 ≤ d ∧ d < b) : ok b (l.set n d) := fun x hx => by
  rcases List.mem_or_eq_of_mem_set hx with hx | rfl
  · exact h x hx
  · exact hd

theorem val_append (b : Int) (l m : List Int) : val b (l ++ m) = val b l + b ^ l.length * val b m := by
  induction l with
  | nil => simp [val]
  | cons d l ih => simp only [List.cons_append, val, ih, List.length_cons, Int.pow_succ]; grind
theorem val_snoc (b : Int) (l : List Int) (d : Int) : val b (l ++ [d]) = val b l + b ^ l.length * d := by
  rw [val_append]; simp [val]
theorem val_nonneg {b : Int} (hb : 0 < b) {l : List Int} (h : ok b l) : 0 ≤ val b l := by
  induction l with
  | nil => simp [val]
  | cons d l ih =>
    have h' := ok_cons.1 h
    have := ih h'.2
    have h2 := Int.mul_nonneg (Int.le_of_lt hb) this
    simp only [val]; omega
theorem val_lt {b : Int} (hb : 0 < b) {l : List Int} (h : ok b l) : val b l < b ^ l.length := by
  induction l with
  | nil => simp [val]
  | cons d l ih =>
    have h' := ok_cons.1 h
    have := ih h'.2
    have h2 : b * (val b l + 1) ≤ b * b ^ l.length := Int.mul_le_mul_of_nonneg_left (by omega) (Int.le_of_lt hb)
    simp only [val, List.length_cons, Int.pow_succ]
    have h3 : b * (val b l + 1) = b * val b l + b := by grind
    have h4 : b ^ l.length * b = b * b ^ l.length := Int.mul_comm _ _
    omega
theorem pow_pos' {b : Int} (hb : 0 < b) (n : Nat) : 0 < b ^ n := Int.pow_pos hb
theorem val_replicate (b : Int) (n : Nat) : val b (List.replicate n 0) = 0 := by
  induction n with
  | zero => simp [val]
  | succ n ih => simp [List.replicate_succ, val, ih]
/-- a number with a digit at the end that is not 0 is great -/
theorem val_ge {b : Int} (hb : 0 < b) {l : List Int} (h : ok b l) (ht : trimmed l) (hn : l ≠ []) : b ^ (l.length - 1) ≤ val b l := by
  have e : l = l.dropLast ++ [l.getLast hn] := (List.dropLast_concat_getLast hn).symm
  have hl := ht hn
  have ho : 0 ≤ l.getLast hn ∧ l.getLast hn < b := h _ (List.getLast_mem hn)
  have hd : 0 ≤ val b l.dropLast := val_nonneg hb (fun d hd => h d (List.dropLast_subset l hd))
  have hv : val b l = val b l.dropLast + b ^ l.dropLast.length * l.getLast hn := by
    conv => lhs; rw [e]
    rw [val_snoc]
  rw [hv, List.length_dropLast]
  have hp := pow_pos' hb (l.length - 1)
  have : b ^ (l.length - 1) * 1 ≤ b ^ (l.length - 1) * l.getLast hn := Int.mul_le_mul_of_nonneg_left (by omega) (Int.le_of_lt hp)
  omega

theorem pow_mono {b : Int} (hb : 1 ≤ b) {m n : Nat} (h : m ≤ n) : b ^ m ≤ b ^ n := by
  obtain ⟨k, rfl⟩ := Nat.exists_eq_add_of_le h
  rw [Int.pow_add]
  have h1 := pow_pos' (b := b) (by omega) m
  have h2 : 1 ≤ b ^ k := by have := pow_pos' (b := b) (by omega) k; omega
  have := Int.mul_le_mul_of_nonneg_left h2 (Int.le_of_lt h1)
  omega

/-- fewer digits: a lesser number -/
theorem val_lt_of_length {b : Int} (hb : 1 < b) {l m : List Int} (hl : ok b l) (hm : ok b m) (ht : trimmed m) (h : l.length < m.length) : val b l < val b m := by
  have h1 := val_lt (by omega) hl
  have hn : m ≠ [] := by intro e; subst e; simp at h
  have h2 := val_ge (by omega) hm ht hn
  have h3 := pow_mono (b := b) (by omega) (show l.length ≤ m.length - 1 by omega)
  omega

/-- the greatest place at which two numbers differ decides -/
theorem val_lt_of_top {b : Int} (hb : 0 < b) (i : Nat) : ∀ {l m : List Int}, ok b l → ok b m → l.length = m.length → i < l.length →
    (∀ j, i < j → l.getD j 0 = m.getD j 0) → l.getD i 0 < m.getD i 0 → val b l < val b m := by
  induction i with
  | zero =>
    intro l m hl hm he hi hj hlt
    match l, m with
    | d :: l, e :: m =>
      have h' := ok_cons.1 hl
      have : l = m := by
        apply List.ext_getElem?
        intro k
        have hk := hj (k + 1) (by omega)
        simp only [List.length_cons] at he
        simp only [List.getD_cons_succ] at hk
        by_cases h : k < l.length
        · rw [List.getElem?_eq_getElem h, List.getElem?_eq_getElem (by omega)]
          simp only [List.getD_eq_getElem?_getD, List.getElem?_eq_getElem h, List.getElem?_eq_getElem (show k < m.length by omega), Option.getD_some] at hk
          rw [hk]
        · rw [List.getElem?_eq_none (by omega), List.getElem?_eq_none (by omega)]
      subst this
      simp only [List.getD_cons_zero] at hlt
      simp only [val]; omega
    | [], _ => simp at hi
    | _ :: _, [] => simp at he
  | succ i ih =>
    intro l m hl hm he hi hj hlt
    match l, m with
    | d :: l, e :: m =>
      have h1 := ok_cons.1 hl
      have h2 := ok_cons.1 hm
      simp only [List.length_cons] at he hi
      have := ih h1.2 h2.2 (by omega) (by omega) (fun j hij => by simpa using hj (j + 1) (by omega)) (by simpa using hlt)
      have h3 : b * (val b l + 1) ≤ b * val b m := Int.mul_le_mul_of_nonneg_left (by omega) (Int.le_of_lt hb)
      have h4 : b * (val b l + 1) = b * val b l + b := by grind
      simp only [val]; omega
    | [], _ => simp at hi
    | _ :: _, [] => simp at he

theorem val_eq_of_all {b : Int} : ∀ {l m : List Int}, l.length = m.length → (∀ j, l.getD j 0 = m.getD j 0) → val b l = val b m := by
  intro l m he hj
  have : l = m := by
    apply List.ext_getElem?
    intro k
    have hk := hj k
    by_cases h : k < l.length
    · rw [List.getElem?_eq_getElem h, List.getElem?_eq_getElem (by omega)]
      simp only [List.getD_eq_getElem?_getD, List.getElem?_eq_getElem h, List.getElem?_eq_getElem (show k < m.length by omega), Option.getD_some] at hk
      rw [hk]
    · rw [List.getElem?_eq_none (by omega), List.getElem?_eq_none (by omega)]
  rw [this]

/-- -1, 0 or 1 -/
def sgn (x : Int) : Int := if x < 0 then -1 else if 0 < x then 1 else 0

theorem sgn_lt {x : Int} (h : x < 0) : sgn x = -1 := by unfold sgn; rw [if_pos h]
theorem sgn_gt {x : Int} (h : 0 < x) : sgn x = 1 := by unfold sgn; rw [if_neg (by omega), if_pos h]
/-- the absolute value -/
def ab (x : Int) : Int := if x < 0 then -x else x
theorem ab_nonneg (x : Int) : 0 ≤ ab x := by unfold ab; split <;> omega
theorem ab_of_pos {x : Int} (h : 0 ≤ x) : ab x = x := by unfold ab; rw [if_neg (by omega)]
theorem ab_of_neg {x : Int} (h : x < 0) : ab x = -x := by unfold ab; rw [if_pos h]
theorem sgn_ab (x : Int) : sgn x * ab x = x := by
  unfold sgn ab
  split
  · omega
  · split <;> omega
theorem sgn_range (x : Int) : -1 ≤ sgn x ∧ sgn x ≤ 1 := by
  unfold sgn
  split
  · omega
  · split <;> omega
/-- what 'trim' gives -/
def trim : List Int → List Int
  | [] => []
  | d :: ds => let r := trim ds; if r = [] ∧ d = 0 then [] else d :: r

theorem trim_snoc_zero (l : List Int) : trim (l ++ [0]) = trim l := by
  induction l with
  | nil => simp [trim]
  | cons d l ih => simp only [List.cons_append, trim, ih]
theorem trim_of_trimmed {l : List Int} (h : trimmed l) : trim l = l := by
  induction l with
  | nil => rfl
  | cons d l ih =>
    have hl : trimmed l := fun hn => by have := h (by simp); rwa [List.getLast_cons hn] at this
    simp only [trim, ih hl]
    rw [if_neg]
    rintro ⟨rfl, rfl⟩
    exact h (by simp) (by simp)
theorem trim_trimmed (l : List Int) : trimmed (trim l) := by
  induction l with
  | nil => intro h; exact absurd rfl h
  | cons d l ih =>
    simp only [trim]
    split
    · intro h; exact absurd rfl h
    · rename_i h
      intro hn
      by_cases hr : trim l = []
      · have hd : d ≠ 0 := fun e => h ⟨hr, e⟩
        simp [hr, hd]
      · rw [List.getLast_cons hr]; exact ih hr
theorem val_trim (b : Int) (l : List Int) : val b (trim l) = val b l := by
  induction l with
  | nil => rfl
  | cons d l ih =>
    simp only [trim]
    split
    · rename_i h
      have : val b (trim l) = 0 := by rw [h.1]; rfl
      simp only [val]; rw [← ih, this, h.2]; simp
    · simp only [val, ih]
theorem ok_trim {b : Int} {l : List Int} (h : ok b l) : ok b (trim l) := by
  induction l with
  | nil => exact h
  | cons d l ih =>
    simp only [trim]
    split
    · exact ok_nil b
    · exact ok_cons.2 ⟨(ok_cons.1 h).1, ih (ok_cons.1 h).2⟩
end Go.Proofs.YtoffbdlgmnpblaaGreat.Dig

/- Plain laws on digits: a digit replaced; sums and differences place by place; products; the quotient digit of long division. No program in sight. -/
namespace Go.Proofs.YtoffbdlgmnpblaaGreat.Dig

theorem getD_cons_succ (d : Int) (l : List Int) (i : Nat) : (d :: l).getD (i + 1) 0 = l.getD i 0 := by simp
theorem take_succ_getD (l : List Int) (i : Nat) (h : i < l.length) : l.take (i + 1) = l.take i ++ [l.getD i 0] := by
  rw [List.take_succ_eq_append_getElem h]; simp [List.getD_eq_getElem?_getD, List.getElem?_eq_getElem h]
theorem drop_getD (l : List Int) (i : Nat) (h : i < l.length) : l.drop i = l.getD i 0 :: l.drop (i + 1) := by
  rw [List.drop_eq_getElem_cons h]; simp [List.getD_eq_getElem?_getD, List.getElem?_eq_getElem h]
theorem val_take_succ (b : Int) (l : List Int) (i : Nat) (h : i < l.length) : val b (l.take (i + 1)) = val b (l.take i) + b ^ i * l.getD i 0 := by
  rw [take_succ_getD l i h, val_snoc, List.length_take, Nat.min_eq_left (by omega)]
theorem gd_take_succ {b : Int} (l : List Int) (i : Nat) (h : i < l.length) : val b (l.take (i + 1)) = val b (l.take i) + b ^ i * gd l i := val_take_succ b l i h
theorem val_take_of_le (b : Int) (l : List Int) (i : Nat) (h : l.length ≤ i) : val b (l.take i) = val b l := by rw [List.take_of_length_le h]
theorem val_take_drop (b : Int) (l : List Int) (i : Nat) (h : i ≤ l.length) : val b l = val b (l.take i) + b ^ i * val b (l.drop i) := by
  conv => lhs; rw [← List.take_append_drop i l]
  rw [val_append, List.length_take, Nat.min_eq_left h]
theorem val_drop (b : Int) (l : List Int) (i : Nat) (h : i < l.length) : val b (l.drop i) = l.getD i 0 + b * val b (l.drop (i + 1)) := by
  rw [drop_getD l i h]; rfl

theorem val_set (b : Int) (d : Int) : ∀ (l : List Int) (i : Nat), i < l.length → val b (l.set i d) = val b l + b ^ i * (d - l.getD i 0)
  | [], _, h => by simp at h
  | x :: l, 0, _ => by simp only [List.set_cons_zero, val, List.getD_cons_zero, Int.pow_zero]; omega
  | x :: l, i + 1, h => by
    have := val_set b d l i (by simpa using h)
    simp only [List.set_cons_succ, val, this, List.getD_cons_succ, Int.pow_succ]
    grind
theorem getD_set_same (l : List Int) (i : Nat) (d : Int) (h : i < l.length) : (l.set i d).getD i 0 = d := by
  simp [List.getD_eq_getElem?_getD, h]
theorem getD_set_other (l : List Int) (i j : Nat) (d : Int) (h : i ≠ j) : (l.set i d).getD j 0 = l.getD j 0 := by
  simp [List.getD_eq_getElem?_getD, List.getElem?_set_ne h]
theorem getD_replicate (n i : Nat) : (List.replicate n (0 : Int)).getD i 0 = 0 := by
  simp only [List.getD_eq_getElem?_getD, List.getElem?_replicate]; split <;> rfl
/-- where all digits from a place on are 0 they do not count -/
theorem val_zero_of_all (b : Int) : ∀ (l : List Int), (∀ j, l.getD j 0 = 0) → val b l = 0
  | [], _ => rfl
  | d :: l, h => by
    have h0 := h 0
    simp only [List.getD_cons_zero] at h0
    have := val_zero_of_all b l (fun j => by simpa using h (j + 1))
    simp [val, h0, this]
theorem getD_drop' (l : List Int) (i j : Nat) : (l.drop i).getD j 0 = l.getD (i + j) 0 := by simp [List.getD_eq_getElem?_getD]
theorem getD_take_lt (l : List Int) (n j : Nat) (h : j < n) : (l.take n).getD j 0 = l.getD j 0 := by simp [List.getD_eq_getElem?_getD, h]
theorem getD_of_ge (l : List Int) (j : Nat) (h : l.length ≤ j) : l.getD j 0 = 0 := by simp [List.getD_eq_getElem?_getD, List.getElem?_eq_none h]

/-! ### Steps of sums, differences -/
theorem plus_step {b : Int} (hb : 0 < b) {zs : List Int} {k : Nat} {c x y X Y : Int} (ho : ok b zs) (hz : zs.length = k) (h : val b zs + b ^ k * c = X + Y) :
    ok b (zs ++ [(x + y + c) % b]) ∧ val b (zs ++ [(x + y + c) % b]) + b ^ (k + 1) * ((x + y + c) / b) = (X + b ^ k * x) + (Y + b ^ k * y) := by
  subst hz
  refine ⟨ok_append.2 ⟨ho, fun d hd => ?_⟩, ?_⟩
  · simp only [List.mem_singleton] at hd; subst hd
    exact ⟨Int.emod_nonneg _ (by omega), Int.emod_lt_of_pos _ hb⟩
  · rw [val_snoc, Int.pow_succ]
    have e := Int.mul_ediv_add_emod (x + y + c) b
    have e2 : b ^ zs.length * (b * ((x + y + c) / b) + (x + y + c) % b) = b ^ zs.length * (x + y + c) := by rw [e]
    grind
theorem minus_step {b : Int} {zs : List Int} {k : Nat} {c x y X Y d c' : Int} (ho : ok b zs) (hz : zs.length = k) (h : val b zs - b ^ k * c = X - Y) (hd : 0 ≤ d ∧ d < b) (he : d - b * c' = x - y - c) :
    ok b (zs ++ [d]) ∧ val b (zs ++ [d]) - b ^ (k + 1) * c' = (X + b ^ k * x) - (Y + b ^ k * y) := by
  subst hz
  refine ⟨ok_append.2 ⟨ho, fun d' hd' => ?_⟩, ?_⟩
  · simp only [List.mem_singleton] at hd'; subst hd'; exact hd
  · rw [val_snoc, Int.pow_succ]
    have e2 : b ^ zs.length * (d - b * c') = b ^ zs.length * (x - y - c) := by rw [he]
    grind

/-! ### Steps of a product: row i of the first number, place k of the second -/
theorem mul_step {b : Int} (hb : 0 < b) {zs ys : List Int} {i k : Nat} {c p t V : Int} (ho : ok b zs) (hi : i + k < zs.length) (hk : k < ys.length) (ht : t = c + (p * gd ys k + gd zs (i + k)))
    (h : val b zs + b ^ (i + k) * c = V + b ^ i * (p * val b (ys.take k))) :
    ok b (zs.set (i + k) (t % b)) ∧ val b (zs.set (i + k) (t % b)) + b ^ (i + (k + 1)) * (t / b) = V + b ^ i * (p * val b (ys.take (k + 1))) := by
  refine ⟨ok_set ho _ ⟨Int.emod_nonneg _ (by omega), Int.emod_lt_of_pos _ hb⟩, ?_⟩
  rw [val_set b _ zs (i + k) hi, gd_take_succ ys k hk, ← gd_int]
  have e := Int.mul_ediv_add_emod t b
  have e2 : b ^ (i + k) * (b * (t / b) + t % b) = b ^ (i + k) * t := by rw [e]
  have e3 : b ^ (i + (k + 1)) = b ^ (i + k) * b := by rw [← Nat.add_assoc, Int.pow_succ]
  have e4 : b ^ (i + k) = b ^ i * b ^ k := Int.pow_add _ _ _
  rw [e3]
  rw [ht] at e2 ⊢
  grind
theorem mul_row {b : Int} {zs xs ys : List Int} {i : Nat} {c : Int} (ho : ok b zs) (hc : 0 ≤ c ∧ c < b) (hi : i < xs.length) (hl : i + ys.length < zs.length) (hz : gd zs (i + ys.length) = 0)
    (h : val b zs + b ^ (i + ys.length) * c = val b (xs.take i) * val b ys + b ^ i * (gd xs i * val b (ys.take ys.length))) :
    ok b (zs.set (i + ys.length) c) ∧ val b (zs.set (i + ys.length) c) = val b (xs.take (i + 1)) * val b ys := by
  refine ⟨ok_set ho _ hc, ?_⟩
  rw [val_set b _ zs _ hl, gd_take_succ xs i hi, ← gd_int, hz]
  rw [List.take_length] at h
  grind
theorem gd_set_same (l : List Int) (i : Nat) (d : Int) (h : i < l.length) : gd (l.set i d) i = d := getD_set_same l i d h
theorem gd_set_other (l : List Int) (i j : Nat) (d : Int) (h : i ≠ j) : gd (l.set i d) j = gd l j := getD_set_other l i j d h
theorem gd_replicate (n i : Nat) : gd (List.replicate n (0 : Int)) i = 0 := getD_replicate n i

/-! ### A step of the division by one digit -/
theorem short_step {b : Int} (hb : 0 < b) {xs zs : List Int} {k : Nat} {y r t : Int} (ho : ok b zs) (ox : ok b xs) (hx : k < xs.length) (hz : k < zs.length) (hr : 0 ≤ r ∧ r < y) (ht : t = r * b + gd xs k)
    (h : val b (xs.drop (k + 1)) = y * val b (zs.drop (k + 1)) + r) :
    ok b (zs.set k (t / y)) ∧ val b (xs.drop k) = y * val b ((zs.set k (t / y)).drop k) + t % y ∧ 0 ≤ t % y ∧ t % y < y := by
  have hx0 := ok_get ox hb k
  have hg : gd xs k = xs.getD k 0 := rfl
  have hq : t / y < b := by
    apply Int.ediv_lt_of_lt_mul (by omega)
    have : (r + 1) * b ≤ y * b := Int.mul_le_mul_of_nonneg_right (by omega) (Int.le_of_lt hb)
    have e : (r + 1) * b = r * b + b := by grind
    have e2 : y * b = b * y := Int.mul_comm _ _
    omega
  have ht0 : 0 ≤ t := by
    have := Int.mul_nonneg hr.1 (Int.le_of_lt hb)
    omega
  refine ⟨ok_set ho _ ⟨Int.ediv_nonneg ht0 (by omega), hq⟩, ?_, Int.emod_nonneg _ (by omega), Int.emod_lt_of_pos _ (by omega)⟩
  rw [val_drop b xs k hx, val_drop b (zs.set k (t / y)) k (by simpa using hz), getD_set_same _ _ _ hz, h, ← hg]
  have e1 : (zs.set k (t / y)).drop (k + 1) = zs.drop (k + 1) := by rw [List.drop_set_of_lt (by omega)]
  rw [e1]
  have e := Int.mul_ediv_add_emod t y
  grind

/-! ### The quotient digit of long division -/

/-- an estimate that is too great by the test of three digits is too great -/
theorem est_down {B q r v1 v2 u2 U V t P V2 U2 : Int} (hP : 0 < P) (hq : 0 ≤ q) (hr : r = t - q * v1) (hV : V = (v1 * B + v2) * P + V2) (hV2 : 0 ≤ V2) (hU : U = (t * B + u2) * P + U2) (hU2 : U2 < P)
    (h : r * B + u2 < q * v2) : U < q * V := by
  subst hr hV hU
  have h1 : t * B + u2 + 1 ≤ q * (v1 * B + v2) := by
    have e : q * (v1 * B + v2) = q * v1 * B + q * v2 := by grind
    have e2 : (t - q * v1) * B = t * B - q * v1 * B := by grind
    omega
  have h2 : (t * B + u2 + 1) * P ≤ q * (v1 * B + v2) * P := Int.mul_le_mul_of_nonneg_right h1 (Int.le_of_lt hP)
  have h3 : 0 ≤ q * V2 := Int.mul_nonneg hq hV2
  have e3 : q * ((v1 * B + v2) * P + V2) = q * (v1 * B + v2) * P + q * V2 := by grind
  have e4 : (t * B + u2 + 1) * P = (t * B + u2) * P + P := by grind
  omega

/-- an estimate below the base that passes the test of three digits is at most one too great -/
theorem est_near {B q r v1 v2 u2 U V t P V2 U2 : Int} (hB : 0 < B) (hP : 0 < P) (hq : 0 ≤ q) (hqB : q < B) (hr : r = t - q * v1) (hv1 : 1 ≤ v1) (hv2 : 0 ≤ v2) (hV : V = (v1 * B + v2) * P + V2) (hV2 : V2 < P) (hV0 : 0 ≤ V2) (hU : U = (t * B + u2) * P + U2) (hU2 : 0 ≤ U2)
    (h : q * v2 ≤ r * B + u2) : q * V < U + V := by
  subst hr hV hU
  have h1 : q * (v1 * B + v2) ≤ t * B + u2 := by
    have e : q * (v1 * B + v2) = q * v1 * B + q * v2 := by grind
    have e2 : (t - q * v1) * B = t * B - q * v1 * B := by grind
    omega
  have h2 : q * (v1 * B + v2) * P ≤ (t * B + u2) * P := Int.mul_le_mul_of_nonneg_right h1 (Int.le_of_lt hP)
  have h3 : q * V2 ≤ q * P := Int.mul_le_mul_of_nonneg_left (by omega) hq
  have h4 : q * P ≤ (B - 1) * P := Int.mul_le_mul_of_nonneg_right (by omega) (Int.le_of_lt hP)
  have h5 : B * P ≤ v1 * B * P := by
    have := Int.mul_le_mul_of_nonneg_right hv1 (Int.le_of_lt (Int.mul_pos hB hP))
    have e : v1 * (B * P) = v1 * B * P := by grind
    omega
  have h6 : 0 ≤ v2 * P := Int.mul_nonneg hv2 (Int.le_of_lt hP)
  have e3 : q * ((v1 * B + v2) * P + V2) = q * (v1 * B + v2) * P + q * V2 := by grind
  have e5 : (v1 * B + v2) * P = v1 * B * P + v2 * P := by grind
  have e4 : (B - 1) * P = B * P - P := by grind
  omega

/-- the remainder and the quotient -/
theorem quot_of {U V q R : Int} (hV : 0 < V) (h : U = q * V + R) (h0 : 0 ≤ R) (h1 : R < V) : U / V = q ∧ U % V = R := by
  subst h
  constructor
  · rw [Int.add_comm, Int.add_mul_ediv_right _ _ (by omega), Int.ediv_eq_zero_of_lt h0 h1]; omega
  · rw [Int.add_comm, Int.add_mul_emod_self_right]; exact Int.emod_eq_of_lt h0 h1

end Go.Proofs.YtoffbdlgmnpblaaGreat.Dig

/- Words for memory: slices and structs that read as lists, blocks that are kept. -/
namespace Go.Proofs.YtoffbdlgmnpblaaGreat
open Go.RowKit

theorem block_of_add (a : Addr) (n : Nat) : (a.add n).block = a.block := by unfold Addr.add; split <;> rfl
theorem add_of_add (a : Addr) (i j : Nat) : (a.add i).add j = a.add (i + j) := by
  unfold Addr.add
  by_cases hi : i = 0 <;> by_cases hj : j = 0 <;> simp [hi, hj, Nat.add_assoc]

/-- the cells from ad on are vs -/
def At (w : World) (ad : Addr) (vs : List Value) : Prop := ∀ j u, vs[j]? = some u → w.cell? (ad.add j) = some u

/-- the blocks of D are in w' as they are in w -/
def Same (D : Nat → Prop) (w w' : World) : Prop := ∀ k, D k → w'.heap[k]? = w.heap[k]?

theorem Same.refl (D : Nat → Prop) (w : World) : Same D w w := fun _ _ => rfl
theorem Same.trans {D : Nat → Prop} {a b c : World} (h : Same D a b) (k : Same D b c) : Same D a c := fun i hi => (k i hi).trans (h i hi)
theorem Same.mono {D D' : Nat → Prop} {a b : World} (h : Same D a b) (k : ∀ i, D' i → D i) : Same D' a b := fun i hi => h i (k i hi)
theorem Same.of_below {B : Nat} {a b : World} (h : Below B a b) : Same (· < B) a b := fun i hi => h.block i hi
theorem At.same {w w' : World} {ad : Addr} {vs : List Value} {D : Nat → Prop} (h : At w ad vs) (hd : D ad.block) (hs : Same D w w') : At w' ad vs := fun j u hu =>
  (World.cell?_of_block (w := w) (a := ad.add j) (by rw [block_of_add]; exact hs _ hd)).trans (h j u hu)

/-- a kind of data: how many cells it takes, and when cells read as a datum, through blocks of D alone -/
structure Kind (α : Type) where
  sz : Nat
  R : World → (Nat → Prop) → List Value → α → Prop
  len : ∀ {w D cs x}, R w D cs x → cs.length = sz
  same : ∀ {w w' D cs x}, R w D cs x → Same D w w' → R w' D cs x
  mono : ∀ {w D D' cs x}, R w D cs x → (∀ k, D k → D' k) → R w D' cs x

/-- a slice whose elements read as the list xs -/
def Sl {α : Type} (K : Kind α) (w : World) (D : Nat → Prop) (v : Value) (xs : List α) : Prop :=
  ∃ A c, v = .slice A xs.length c ∧ xs.length ≤ c ∧ c ≤ maxLen ∧ ∀ i x, xs[i]? = some x → ∃ ad cs, A = some ad ∧ D ad.block ∧ K.R w D cs x ∧ At w (ad.add (i * K.sz)) cs

section
variable {α : Type} {K : Kind α} {w w' : World} {D D' : Nat → Prop} {v : Value} {xs : List α}
theorem Sl.same (h : Sl K w D v xs) (hs : Same D w w') : Sl K w' D v xs := by
  obtain ⟨A, c, e, h1, h2, h3⟩ := h
  refine ⟨A, c, e, h1, h2, fun i x hx => ?_⟩
  obtain ⟨ad, cs, ea, hd, hr, ha⟩ := h3 i x hx
  exact ⟨ad, cs, ea, hd, K.same hr hs, ha.same (by rw [block_of_add]; exact hd) hs⟩
theorem Sl.mono (h : Sl K w D v xs) (hs : ∀ k, D k → D' k) : Sl K w D' v xs := by
  obtain ⟨A, c, e, h1, h2, h3⟩ := h
  refine ⟨A, c, e, h1, h2, fun i x hx => ?_⟩
  obtain ⟨ad, cs, ea, hd, hr, ha⟩ := h3 i x hx
  exact ⟨ad, cs, ea, hs _ hd, K.mono hr hs, ha⟩
theorem Sl.nil (K : Kind α) (w : World) (D : Nat → Prop) : Sl K w D (.slice none 0 0) [] :=
  ⟨none, 0, rfl, Nat.le_refl _, Nat.zero_le _, fun i x hx => by simp at hx⟩
theorem Sl.below {B : Nat} (h : Sl K w (· < B) v xs) (hb : Below B w w') : Sl K w' (· < B) v xs := h.same (Same.of_below hb)
end

/-- numbers of a kind -/
def Kind.int (k : IntKind) : Kind Int where
  sz := 1
  R _ _ cs x := cs = [.int k x]
  len h := by subst h; rfl
  same h _ := h
  mono h _ := h
def Kind.bool : Kind Bool where
  sz := 1
  R _ _ cs x := cs = [.bool x]
  len h := by subst h; rfl
  same h _ := h
  mono h _ := h
def Kind.slice {α : Type} (K : Kind α) : Kind (List α) where
  sz := 1
  R w D cs xs := ∃ v, cs = [v] ∧ Sl K w D v xs
  len h := by obtain ⟨v, rfl, _⟩ := h; rfl
  same h hs := by obtain ⟨v, e, h⟩ := h; exact ⟨v, e, h.same hs⟩
  mono h hs := by obtain ⟨v, e, h⟩ := h; exact ⟨v, e, h.mono hs⟩
/-- a slice of numbers: as the walk wants it -/
theorem Sl.ints {k : IntKind} {w : World} {D : Nat → Prop} {v : Value} {xs : List Int} (h : Sl (Kind.int k) w D v xs) :
    ∃ A c, v = .slice A xs.length c ∧ xs.length ≤ c ∧ c ≤ maxLen ∧ (0 < xs.length → ∃ ad, A = some ad ∧ D ad.block ∧ ∀ i, i < xs.length → w.cell? (ad.add i) = some (.int k (Dig.gd xs i))) := by
  obtain ⟨A, c, e, h1, h2, h3⟩ := h
  refine ⟨A, c, e, h1, h2, fun hp => ?_⟩
  obtain ⟨ad, _, ea, hd, _, _⟩ := h3 0 xs[0] (List.getElem?_eq_getElem hp)
  refine ⟨ad, ea, hd, fun i hi => ?_⟩
  obtain ⟨ad', cs, ea', _, hr, ha⟩ := h3 i xs[i] (List.getElem?_eq_getElem hi)
  rw [ea] at ea'; injection ea' with ea'; subst ea'
  have hr : cs = [.int k xs[i]] := hr
  subst hr
  have := ha 0 (.int k xs[i]) rfl
  rw [add_of_add] at this
  rw [Dig.gd_of (List.getElem?_eq_getElem hi)]
  simpa [Kind.int] using this
theorem Sl.of_ints {k : IntKind} {w : World} {D : Nat → Prop} {A : Option Addr} {c : Nat} {xs : List Int} (h1 : xs.length ≤ c) (h2 : c ≤ maxLen)
    (h : 0 < xs.length → ∃ ad, A = some ad ∧ D ad.block ∧ ∀ i, i < xs.length → w.cell? (ad.add i) = some (.int k (Dig.gd xs i))) : Sl (Kind.int k) w D (.slice A xs.length c) xs := by
  refine ⟨A, c, rfl, h1, h2, fun i x hx => ?_⟩
  have hi : i < xs.length := (List.getElem?_eq_some_iff.1 hx).1
  obtain ⟨ad, ea, hd, hc⟩ := h (by omega)
  refine ⟨ad, [.int k x], ea, hd, rfl, fun j u hu => ?_⟩
  cases j with
  | zero =>
    simp at hu; subst hu
    rw [add_of_add]
    have := hc i hi
    rw [Dig.gd_of hx] at this
    simpa [Kind.int] using this
  | succ j => simp at hu

theorem Sl.take {α : Type} {K : Kind α} {w : World} {D : Nat → Prop} {A : Option Addr} {n c m : Nat} {xs : List α} (h : Sl K w D (.slice A n c) xs) (hm : m ≤ n) : Sl K w D (.slice A m c) (xs.take m) := by
  obtain ⟨A', c', e, h1, h2, h3⟩ := h
  injection e with e1 e2 e3
  subst e1 e2 e3
  refine ⟨A, c, by rw [List.length_take, Nat.min_eq_left hm], by rw [List.length_take]; omega, h2, fun i x hx => h3 i x ?_⟩
  rw [List.getElem?_take] at hx
  split at hx
  · exact hx
  · cases hx
theorem Sl.len {α : Type} {K : Kind α} {w : World} {D : Nat → Prop} {A : Option Addr} {n c : Nat} {xs : List α} (h : Sl K w D (.slice A n c) xs) : n = xs.length ∧ n ≤ c ∧ c ≤ maxLen := by
  obtain ⟨A', c', e, h1, h2, h3⟩ := h
  injection e with e1 e2 e3
  subst e1 e2 e3
  exact ⟨rfl, h1, h2⟩
theorem Sl.form {α : Type} {K : Kind α} {w : World} {D : Nat → Prop} {v : Value} {xs : List α} (h : Sl K w D v xs) : ∃ A c, v = .slice A xs.length c ∧ xs.length ≤ c ∧ c ≤ maxLen ∧ (0 < xs.length → ∃ ad, A = some ad ∧ D ad.block) := by
  obtain ⟨A, c, e, h1, h2, h3⟩ := h
  refine ⟨A, c, e, h1, h2, fun hp => ?_⟩
  obtain ⟨ad, _, ea, hd, _, _⟩ := h3 0 xs[0] (List.getElem?_eq_getElem hp)
  exact ⟨ad, ea, hd⟩

/-! ### Rows of the call's own -/

theorem own_form {w : World} {base : Nat} {e : TypeId} {sz : Nat} {v : Value} {n : Nat} {vs : List Value} (h : w.ownsRow base e sz v n vs) :
    ∃ A c, v = .slice A n c ∧ n ≤ c ∧ c ≤ maxLen ∧ (0 < n → ∃ ad, A = some ad ∧ base ≤ ad.block ∧ ad.block < w.heap.size ∧ v.ownBlock = some ad.block ∧ At w ad vs) := by
  obtain ⟨hl, ⟨rfl, rfl⟩ | ⟨g, cap, cur, rfl, hb, hg, hnc, hcm, hcs, ht⟩⟩ := h
  · exact ⟨none, 0, rfl, Nat.le_refl _, Nat.zero_le _, fun h => absurd h (Nat.lt_irrefl _)⟩
  · refine ⟨some ⟨g, 0, none⟩, cap, rfl, hnc, hcm, fun _ => ⟨⟨g, 0, none⟩, rfl, hb, (Array.getElem?_eq_some_iff.1 hg).1, rfl, ?_⟩⟩
    have : w.ownsRow base e sz (.slice (some ⟨g, 0, none⟩) n cap) n vs := ⟨hl, .inr ⟨g, cap, cur, rfl, hb, hg, hnc, hcm, hcs, ht⟩⟩
    exact this.cells (g := g) rfl
/-- a row of one-cell numbers reads as their list -/
theorem own_ints {w : World} {base : Nat} {e : TypeId} {v : Value} {n : Nat} {k : IntKind} {xs : List Int} (h : w.ownsRow base e 1 v n (xs.map (.int k))) :
    n = xs.length ∧ Sl (Kind.int k) w (fun b => base ≤ b ∧ b < w.heap.size) v xs := by
  have hl : n = xs.length := by have := h.1; simpa using this.symm
  obtain ⟨A, c, rfl, h1, h2, h3⟩ := own_form h
  subst hl
  refine ⟨rfl, Sl.of_ints h1 h2 fun hp => ?_⟩
  obtain ⟨ad, e1, hb, hlt, _, hat⟩ := h3 hp
  exact ⟨ad, e1, ⟨hb, hlt⟩, fun i hi => hat i _ (by rw [List.getElem?_map, Dig.gd_lt hi]; rfl)⟩

/-- what the program's tables say of a slice type of one-cell elements -/
structure Elem1 (P : Program) (t e : TypeId) (z : Value) (bytes : Nat) : Prop where
  ht : P.underlying t = some (.slice e)
  hi : ∃ i, P.info? e = some i ∧ i.zero = some z ∧ i.size = 1 ∧ i.bytes = bytes
  hz : z.cells.size = 1
theorem Elem1.mk' {P : Program} {t e : TypeId} {z : Value} {bytes : Nat} (ht : P.underlying t = some (.slice e)) (hi : (P.info? e).map (fun i => (i.zero, i.size, i.bytes)) = some (some z, 1, bytes)) (hz : z.cells.size = 1) : Elem1 P t e z bytes := by
  refine ⟨ht, ?_, hz⟩
  cases h : P.info? e with
  | none => rw [h] at hi; cases hi
  | some i =>
    rw [h] at hi
    simp only [Option.map_some, Option.some.injEq, Prod.mk.injEq] at hi
    exact ⟨i, rfl, hi.1, hi.2.1, hi.2.2⟩

/-- append of one element of one cell onto a row of the call's own -/
theorem wpList_app1 {P : Program} {w : World} {ops : Array Oper} {rest : List Oper} {o : Oper} {a : Act} {Q : Exit → Act → World → Prop} {t e : TypeId} {z : Value} {bytes : Nat} (E : Elem1 P t e z bytes)
    (hgd : o.guard = none) (s x : Operand) (ho : o.op = .call { callee := .builtin .append, args := #[s, x], argTypes := #[t, t] })
    (base : Nat) (v : Value) (n : Nat) (vs : List Value) (hs : a.eval s = v) (hown : w.ownsRow base e 1 v n vs)
    (ad : Addr) (c : Nat) (u : Value) (hx : a.eval x = .slice (some ad) 1 c) (hc : w.cell? ad = some u) (hu : u.oneCell' = true)
    (hb : (n + 1) * bytes ≤ 140737488355328) (hn : n + 1 ≤ 140737488355328) (hbase : base ≤ w.heap.size)
    (h : ∀ v' w', w'.ownsRow base e 1 v' (n + 1) (vs ++ [u]) → w.grownBy w' v.ownBlock → (v'.ownBlock = v.ownBlock ∨ v'.ownBlock = some w.heap.size) → wpList P ops Q rest (a.put o.dst v') w') : wpList P ops Q (o :: rest) a w := by
  obtain ⟨i, hi, hz, hsz, hby⟩ := E.hi
  have hat : ∀ j u', [u][j]? = some u' → w.cell? (ad.add j) = some u' := by
    intro j u' hj
    cases j with
    | zero => simp at hj; subst hj; exact hc
    | succ j => simp at hj
  refine wpList_plain hgd fun _ hK => ?_
  have hlen : ([u] : List Value).length = 1 * 1 := rfl
  obtain ⟨v', w', hr, h2, h3, _, h5⟩ := run_append_own_at (P := P) w base t o.type e i z 1 bytes E.ht hi hz hsz hby E.hz (by decide) v n vs hown ad 1 c [u] hlen hat (by simpa using hu) (by simp only [maxLen]; omega) hb hbase
  unfold Oper.wp execOp
  simp only [ho, resolve, invoke, builtin, Sem.run_bind, Sem.run_pure, Result.andThen_ok, List.map_toArray, List.map_cons, List.map_nil, hs, hx, hr]
  exact hK _ _ (h v' w' h2 h3 h5)

theorem madeCells1 (z : Value) (hz : z.cells.size = 1) (hz' : ∀ cs, z ≠ .agg cs) (n : Nat) : madeCells z.cells n = Array.replicate n z := by
  have e : z.cells = #[z] := by cases z <;> first | rfl | exact absurd rfl (hz' _)
  apply Array.ext
  · simp [madeCells]
  · intro i h1 h2
    simp [madeCells, e, Nat.mod_one]

/-- make of a slice of one-cell elements -/
theorem wpList_mk1 {P : Program} {w : World} {ops : Array Oper} {rest : List Oper} {o : Oper} {a : Act} {Q : Exit → Act → World → Prop} {t e : TypeId} {z : Value} {bytes : Nat} (E : Elem1 P t e z bytes)
    (hgd : o.guard = none) (x y : Operand) (ho : o.op = .makeSlice t x y) (hz' : ∀ cs, z ≠ .agg cs)
    (base : Nat) (kl kc : IntKind) (l c : Int) (hx : a.eval x = .int kl l) (hy : a.eval y = .int kc c) (h0 : 0 ≤ l) (hlc : l ≤ c) (hb : (bytes : Int) * c ≤ 281474976710656) (hc : c ≤ 281474976710656) (hbase : base ≤ w.heap.size)
    (h : ∀ w', w'.ownsRow base e 1 (.slice (some ⟨w.heap.size, 0, none⟩) l.toNat c.toNat) l.toNat (List.replicate l.toNat z) → Below w.heap.size w w' → w'.heap.size = w.heap.size + 1 →
      w'.heap[w.heap.size]? = some (.cells (Array.replicate c.toNat z) e (0, 0)) →
      wpList P ops Q rest (a.put o.dst (.slice (some ⟨w.heap.size, 0, none⟩) l.toNat c.toNat)) w') : wpList P ops Q (o :: rest) a w := by
  obtain ⟨i, hi, hz, hsz, hby⟩ := E.hi
  subst hby
  refine wpList_plain hgd fun _ hK => ?_
  have hr := run_make (P := P) w t e i z E.ht hi hz kl kc l c h0 hlc hb (by omega)
  rw [hsz, Nat.mul_one, madeCells1 z E.hz hz'] at hr
  unfold Oper.wp execOp
  simp only [ho, Sem.run_bind, Sem.run_pure, Result.andThen_ok, hx, hy, hr]
  refine hK _ _ (h _ ⟨by simp, .inr ⟨w.heap.size, c.toNat, _, rfl, hbase, heap_alloc_new w _, by omega, by simp only [maxLen]; omega, by simp, ?_⟩⟩ ((Below.refl _ _).alloc (Nat.le_refl _) _) (by simp) (heap_alloc_new w _))
  simp; omega

/-- a store into a row of the call's own -/
theorem own_set {w : World} {base : Nat} {e : TypeId} {g n cap : Nat} {vs : List Value} (h : w.ownsRow base e 1 (.slice (some ⟨g, 0, none⟩) n cap) n vs) (i : Nat) (_hi : i < n) (u : Value) :
    (w.setCell ⟨g, i, none⟩ u).ownsRow base e 1 (.slice (some ⟨g, 0, none⟩) n cap) n (vs.set i u) := by
  obtain ⟨hl, ⟨h1, _⟩ | ⟨g', cap', cur, hv, hb, hg, hnc, hcm, hcs, ht⟩⟩ := h
  · cases h1
  · simp only [Value.slice.injEq, Option.some.injEq, Addr.mk.injEq, true_and, and_true] at hv
    obtain ⟨rfl, rfl⟩ := hv
    refine ⟨by simpa using hl, .inr ⟨g, cap, cur.setIfInBounds i u, rfl, hb, ?_, hnc, hcm, by simpa using hcs, ?_⟩⟩
    · simp [World.setCell, Array.getElem?_modify, hg]
    · rw [← ht]
      simp only [Array.toList_setIfInBounds, List.take_set]
theorem own_cell {w : World} {base : Nat} {e : TypeId} {g n cap : Nat} {vs : List Value} (h : w.ownsRow base e 1 (.slice (some ⟨g, 0, none⟩) n cap) n vs) (i : Nat) (u : Value) (hi : vs[i]? = some u) : w.cell? ⟨g, i, none⟩ = some u ∧ w.frozen? ⟨g, i, none⟩ = false := by
  have h1 := h.cells (g := g) rfl i u hi
  have e1 : (⟨g, 0, none⟩ : Addr).add i = ⟨g, i, none⟩ := by unfold Addr.add; split <;> simp_all
  rw [e1] at h1
  refine ⟨h1, ?_⟩
  obtain ⟨hl, ⟨h1, _⟩ | ⟨g', cap', cur, hv, hb, hg, hnc, hcm, hcs, ht⟩⟩ := h
  · cases h1
  · simp only [Value.slice.injEq, Option.some.injEq, Addr.mk.injEq, true_and, and_true] at hv
    obtain ⟨rfl, rfl⟩ := hv
    simp [World.frozen?, hg]

theorem cell_new1 (w : World) (x : Value) (t : TypeId) : (w.alloc (.cells #[x] t)).cell? ⟨w.heap.size, 0, none⟩ = some x := by
  have := cell_one_new w x t 0 x rfl
  simp [Addr.add] at this ⊢

/-- below B nothing turns where an own row is appended to -/
theorem below_app {B : Nat} {w wr w2 : World} {e : TypeId} {sz : Nat} {v : Value} {n : Nat} {vs : List Value} {o : Obj} (hb : Below B w wr) (hB : B ≤ wr.heap.size) (ho : wr.ownsRow B e sz v n vs) (hg : (wr.alloc o).grownBy w2 v.ownBlock) : Below B w w2 :=
  (hb.alloc hB o).grown hg (by simp; omega) (fun k hk => (ho.lt k hk).1)

theorem bcell {W w1 : World} (hb : Below W.heap.size W w1) : (∀ b o, b < W.heap.size → w1.cell? ⟨b, o, none⟩ = W.cell? ⟨b, o, none⟩) ∧ (∀ b o, b < W.heap.size → w1.frozen? ⟨b, o, none⟩ = W.frozen? ⟨b, o, none⟩) :=
  ⟨fun b o h => hb.cell (p := ⟨b, o, none⟩) h, fun b o h => hb.frozen (p := ⟨b, o, none⟩) h⟩

/-- an equation of numbers that the walk does not look into -/
structure Is (a b : Int) : Prop where
  out : a = b

theorem ret_int {k : IntKind} {a b : Int} (h : a = b) : Ending.returned (.int k a) = .returned (.int k b) := by rw [h]
theorem ret2_int {k l : IntKind} {a b c d : Int} (h : a = b) (h' : c = d) : Ending.returned (.tuple #[.int k a, .int l c]) = .returned (.tuple #[.int k b, .int l d]) := by rw [h, h']
theorem ret_bool {a b : Bool} (h : a = b) : Ending.returned (.bool a) = .returned (.bool b) := by rw [h]
/-- only draws lie between the worlds -/
def Drawn (w w' : World) : Prop := ∃ n, w' = w.drewN n
theorem Drawn.refl (w : World) : Drawn w w := ⟨0, rfl⟩
theorem Drawn.step {a w : World} (h : Drawn a w) (n : Nat) : Drawn a (w.drewN n) := by
  obtain ⟨m, rfl⟩ := h
  exact ⟨m + n, World.drewN_drewN _ _ _⟩
theorem Drawn.trans {a b c : World} (h : Drawn a b) (k : Drawn b c) : Drawn a c := by
  obtain ⟨n, rfl⟩ := k
  exact h.step n
theorem Drawn.below {w w' : World} (h : Drawn w w') (B : Nat) : Below B w w' := by
  obtain ⟨n, rfl⟩ := h
  exact ⟨rfl, rfl, rfl, Nat.le_refl _, fun _ _ => rfl⟩
theorem Drawn.same {w w' : World} (h : Drawn w w') (D : Nat → Prop) : Same D w w' := by
  obtain ⟨n, rfl⟩ := h
  exact fun _ _ => rfl
theorem below_drewN {B : Nat} {a w : World} (h : Below B a w) (n : Nat) : Below B a (w.drewN n) := ⟨h.os, h.tape, h.output, h.size, h.block⟩
theorem same_drewN (D : Nat → Prop) (w : World) (n : Nat) : Same D w (w.drewN n) := fun _ _ => rfl

end Go.Proofs.YtoffbdlgmnpblaaGreat
