/- Part 29 of 55: Fn2 Lex. -/
import Derived.Test.YtoffbdlgmnpblaaGreatJ26
import Derived.Test.YtoffbdlgmnpblaaGreatJ28
import Derived.Lib.SliceRun
import Derived.Deep.Upon

/- Package slices: DeleteFunc on rows of the call's own. -/
namespace Go.Proofs.YtoffbdlgmnpblaaGreat
open Go.RowKit
set_option maxHeartbeats 4000000
set_option maxRecDepth 100000

theorem below_grown' {w W : World} (h : Below w.heap.size w W) (row : Option Nat) : w.grownBy W row := ⟨h.os, h.tape, h.output, h.size, fun k hk _ => h.block k hk⟩
theorem grown_trans {a b c : World} {row : Option Nat} (h : a.grownBy b row) (k : b.grownBy c row) : a.grownBy c row :=
  ⟨k.os.trans h.os, k.tape.trans h.tape, k.output.trans h.output, Nat.le_trans h.size k.size, fun i hi hne => (k.block i (Nat.lt_of_lt_of_le hi h.size) hne).trans (h.block i hi hne)⟩
/-- the end of an own row is overwritten, and cut off -/
theorem own_cut {W : World} {B : Nat} {e : TypeId} {g n cap i : Nat} {vs : List Value} (h : W.ownsRow B e 1 (.slice (some ⟨g, 0, none⟩) n cap) n vs) (hi : i ≤ n) : ∀ (us : List Value) (o : Nat), i ≤ o →
    (W.setCells g o us).ownsRow B e 1 (.slice (some ⟨g, 0, none⟩) i cap) i (vs.take i) := by
  have base : W.ownsRow B e 1 (.slice (some ⟨g, 0, none⟩) i cap) i (vs.take i) := by
    obtain ⟨hl, ⟨h1, _⟩ | ⟨g', cap', cur, hv, hb, hg, hnc, hcm, hcs, ht⟩⟩ := h
    · cases h1
    · cases hv
      refine ⟨by rw [List.length_take]; omega, .inr ⟨g, cap, cur, rfl, hb, hg, by omega, hcm, hcs, ?_⟩⟩
      rw [← ht, List.take_take, Nat.mul_one, Nat.mul_one, Nat.min_eq_left hi]
  have gen : ∀ (us : List Value) (o : Nat) (W : World), i ≤ o → W.ownsRow B e 1 (.slice (some ⟨g, 0, none⟩) i cap) i (vs.take i) → (W.setCells g o us).ownsRow B e 1 (.slice (some ⟨g, 0, none⟩) i cap) i (vs.take i) := by
    intro us
    induction us with
    | nil => intro o W _ h; exact h
    | cons u us ih =>
      intro o W ho h
      refine ih (o + 1) _ (by omega) ?_
      obtain ⟨hl, ⟨h1, _⟩ | ⟨g', cap', cur, hv, hb, hg, hnc, hcm, hcs, ht⟩⟩ := h
      · cases h1
      · cases hv
        refine ⟨hl, .inr ⟨g, cap, cur.setIfInBounds o u, rfl, hb, ?_, hnc, hcm, by simpa using hcs, ?_⟩⟩
        · simp [World.setCell, Array.getElem?_modify, hg]
        · rw [← ht]
          simp only [Array.toList_setIfInBounds]
          rw [List.take_set_of_le (by omega)]
  exact fun us o ho => gen us o W ho base
theorem setCells_grown (W : World) (g : Nat) : ∀ (us : List Value) (o : Nat), W.grownBy (W.setCells g o us) (some g) := by
  have : ∀ (us : List Value) (o : Nat) (W' : World), W.grownBy W' (some g) → W.grownBy (W'.setCells g o us) (some g) := by
    intro us
    induction us with
    | nil => intro o W' h; exact h
    | cons u us ih =>
      intro o W' h
      refine ih (o + 1) _ ?_
      exact ⟨h.os, h.tape, h.output, by simpa [World.setCell] using h.size, fun k hk hne => (Below.heap_setCell W' ⟨g, o, none⟩ u k (fun e => hne (by rw [e]))).trans (h.block k hk hne)⟩
  exact fun us o => this us o W (World.grownBy.refl _ _)

theorem filter_step {α : Type} {p : α → Bool} {xs ys : List α} {i j : Nat} {x : α} (hx : xs[j]? = some x) (h1 : ys.take i = (xs.take j).filter p) (hij : i ≤ j) (hl : ys.length = xs.length) :
    (p x = true → (ys.set i x).take (i + 1) = (xs.take (j + 1)).filter p) ∧ (p x = false → ys.take i = (xs.take (j + 1)).filter p) := by
  have hj : j < xs.length := (List.getElem?_eq_some_iff.1 hx).1
  have e : xs.take (j + 1) = xs.take j ++ [x] := by rw [List.take_add_one, hx]; rfl
  constructor
  · intro hp
    rw [e, List.filter_append, ← h1]
    have : (ys.set i x)[i]? = some x := by rw [List.getElem?_set_self (by omega)]
    rw [List.take_add_one, this, List.take_set_of_le (Nat.le_refl _)]
    simp [hp]
  · intro hp
    rw [e, List.filter_append, ← h1]
    simp [hp]

theorem DeleteFunc_calls (K : Nat) (is : Int → Bool) (cs : Array Value) (xs : List Int) (v : Value) (B : Nat) (w : World) (eg : ∀ args w, (callFunc K args).run Tryz.prog w = .ok (.enter K args) w) (hO : w.ownsRow B 3 1 v xs.length (ints xs)) (hn : xs.length ≤ 1000000)
    (hc : ∀ (W : World) (s : Int), w.grownBy W v.ownBlock → s ∈ xs → Calls Tryz.prog K (#[.int .i64 s] ++ cs) W fun e w' => e = .returned (.bool (is s)) ∧ Below W.heap.size W w') :
    Calls Tryz.prog 75 #[v, .func (.func K) #[] cs] w fun e w' => ∃ v', e = .returned v' ∧ v'.ownBlock = v.ownBlock ∧ w'.ownsRow B 3 1 v' (xs.filter fun x => !is x).length (ints (xs.filter fun x => !is x)) ∧ w.grownBy w' v.ownBlock := by
  obtain ⟨A, c, rfl, k1, k2, -⟩ := own_form hO
  unfold maxLen at k2
  have hsl := (own_ints hO).2
  have HO := Lib.hid hO
  have HC := Lib.hid hc
  have HSL := Lib.hid hsl
  have hlo : Lo (fun b => B ≤ b ∧ b < w.heap.size) w := fun k hk => hk.2
  have HLO := Lib.hid hlo
  clear hO hc hsl hlo
  cases hany : xs.any is with
  | false =>
    have hall : ∀ x ∈ xs, is x = false := by
      intro x hx
      have := List.any_eq_false.1 hany x hx
      simpa using this
    have HI := Lib.hid (idxI_none hall)
    have HF := Lib.hid (show xs.filter (fun x => !is x) = xs from List.filter_eq_self.2 fun x hx => by rw [hall x hx]; rfl)
    clear hany hall
    go_enter Tryz.func75, Tryz.ntmps75
    go_wp2_with fail
    refine (IndexFunc_calls K is cs xs _ _ w eg HLO.out HSL.out hn (fun W s hW hs => HC.out W s (below_grown' hW _) hs)).mono ?_
    rintro e w2 ⟨rfl, hb2⟩
    rw [HI.out]
    go_wp2_with fail
    go_ret
    refine ⟨_, rfl, rfl, ?_, below_grown' hb2 _⟩
    rw [HF.out]
    exact own_kept HO.out fun k hk => hb2.block k (HO.out.lt k hk).2
  | true =>
    obtain ⟨i0, hi0⟩ : ∃ i0, xs.findIdx? is = some i0 := by
      cases h : xs.findIdx? is with
      | none =>
        have h1 := List.findIdx?_eq_none_iff.1 h
        obtain ⟨x, hx, hp⟩ := List.any_eq_true.1 hany
        rw [h1 x hx] at hp; cases hp
      | some i => exact ⟨i, rfl⟩
    obtain ⟨hlt0, hp0, hmin⟩ := List.findIdx?_eq_some_iff_getElem.1 hi0
    have HI := Lib.hid (show idxI is xs = (i0 : Int) by unfold idxI; rw [hi0])
    obtain ⟨ad, rfl⟩ : ∃ ad, A = some ad := by
      obtain ⟨A', c', e, -, -, h3⟩ := own_form HO.out
      injection e with e1 e2 e3
      subst e1
      obtain ⟨ad, e, _⟩ := h3 (by omega)
      exact ⟨ad, e⟩
    obtain ⟨g, rfl⟩ : ∃ g, ad = ⟨g, 0, none⟩ := by
      obtain ⟨-, ⟨h1, _⟩ | ⟨g, cap, cur, h1, _⟩⟩ := HO.out
      · cases h1
      · injection h1 with h1; injection h1 with h1; exact ⟨g, h1⟩
    have HT0 := Lib.hid (show xs.take i0 = (xs.take (i0 + 1)).filter (fun x => !is x) by
      have h1 : (xs.take i0).filter (fun x => !is x) = xs.take i0 := List.filter_eq_self.2 fun x hx => by
        obtain ⟨j, hj, rfl⟩ := List.getElem_of_mem hx
        rw [List.length_take] at hj
        rw [List.getElem_take]
        have := hmin j (by omega)
        simpa using this
      rw [List.take_add_one, List.getElem?_eq_getElem hlt0, List.filter_append, h1]
      simp [hp0])
    clear hany hi0 hp0 hmin
    go_enter Tryz.func75, Tryz.ntmps75
    go_wp2_with fail
    refine (IndexFunc_calls K is cs xs _ _ w eg HLO.out HSL.out hn (fun W s hW hs => HC.out W s (below_grown' hW _) hs)).mono ?_
    rintro e w2 ⟨rfl, hb2⟩
    rw [HI.out]
    have hne : ((i0 : Int) == -1) = false := beq_eq_false_iff_ne.2 (by omega)
    have hG2 := below_grown' hb2 (some g)
    have hO2 := own_kept HO.out fun k hk => hb2.block k (HO.out.lt k hk).2
    go_wp2_with fail
    clear hne
    go_loopw [5, 6] (fun s5 s6 W => ∃ (i j : Nat) (ys : List Int), s5 = .int .i64 (i : Int) ∧ s6 = .int .i64 (j : Int) ∧ i < j ∧ j ≤ xs.length ∧ ys.length = xs.length ∧ w.grownBy W (some g) ∧ W.ownsRow B 3 1 (.slice (some ⟨g, 0, none⟩) xs.length c) xs.length (ints ys) ∧ Hid (ys.take i = (xs.take j).filter (fun x => !is x)) ∧ Hid (ys.drop j = xs.drop j)) (fun _ s6 _ => xs.length - (intOf s6).toNat)
    case atStart => exact ⟨i0, i0 + 1, xs, rfl, by go_num, by omega, by omega, rfl, hG2, hO2, HT0.out, rfl⟩
    case round =>
      clear hG2 hO2
      obtain ⟨i, j, ys, rfl, rfl, hij, hj, hyl, hG, hO, HT, HDR⟩ := hrel
      by_cases hlt : j < xs.length
      · obtain ⟨x, hx⟩ : ∃ x, xs[j]? = some x := ⟨_, List.getElem?_eq_getElem hlt⟩
        have hyx : ys[j]? = some x := by
          have := congrArg (fun l => l[0]?) HDR.out
          simpa [hx] using this
        obtain ⟨q1, -⟩ := own_cell hO j (.int .i64 x) (by simp [hyx])
        have HX := Lib.hid hx
        have HY := Lib.hid hyx
        have HOO := Lib.hid hO
        clear hx hyx hO
        go_wp2_with fail
        refine (HC.out wr x hG (List.mem_of_getElem? HX.out)).mono ?_
        rintro e w3 ⟨rfl, hb3⟩
        have hG3 := grown_trans hG (below_grown' hb3 (some g))
        have hO3 := own_kept HOO.out fun k hk => hb3.block k (HOO.out.lt k hk).2
        clear q1
        have hfs := filter_step (p := fun x => !is x) HX.out HT.out (by omega) hyl
        have HD2 := Lib.hid (show ys.drop (j + 1) = xs.drop (j + 1) by
          have := congrArg (List.drop 1) HDR.out
          simpa [List.drop_drop, Nat.add_comm] using this)
        cases hi : is x with
        | false =>
          have HS := Lib.hid (hfs.1 (by rw [hi]; rfl))
          obtain ⟨q2, f2⟩ := own_cell hO3 i (.int .i64 (Bfs.at' ys i)) (by
            have := Bfs.at_get (d := ys) (t := (i : Int)) (by omega) (by omega)
            rw [Int.toNat_natCast] at this
            simp [this])
          have hO4 := own_set hO3 i (by omega) (.int .i64 x)
          have hG4 := grown_trans hG3 (grown_set w3 g i (.int .i64 x))
          rw [ints_set] at hO4
          clear hi hfs hO3 hG3
          go_wp2
          refine ⟨⟨i + 1, j + 1, ys.set i x, by go_num, by go_num, by omega, by omega, by simp [hyl], hG4, hO4, HS, ?_⟩, by simp [intOf]; omega⟩
          have : (ys.set i x).drop (j + 1) = xs.drop (j + 1) := by rw [List.drop_set_of_lt (by omega)]; exact HD2.out
          exact this
        | true =>
          have HS := Lib.hid (hfs.2 (by rw [hi]; rfl))
          clear hi hfs
          go_wp2
          exact ⟨⟨i, j + 1, ys, rfl, by go_num, by omega, by omega, hyl, hG3, hO3, HS, HD2⟩, by simp [intOf]; omega⟩
      · obtain rfl : j = xs.length := by omega
        clear hlt
        have hT2 : ys.take i = xs.filter (fun x => !is x) := by have := HT.out; rwa [List.take_length] at this
        have hli : (xs.filter (fun x => !is x)).length = i := by rw [← hT2, List.length_take]; omega
        have HT2 := Lib.hid hT2
        have HLI := Lib.hid hli
        clear hT2 hli
        have hcl : ∀ ty, (Builtin.clear_ #[31] ty #[.slice (some ⟨g, i, none⟩) (xs.length - i) (c - i)]).run Tryz.prog wr = .ok (.tuple #[]) (wr.setCells g i (List.replicate (xs.length - i) (.int .i64 0))) :=
          fun ty => Lib.run_clear_slice wr _ _ ty (.int .i64 0) Tryz.underlying31 (Tryz.zeroValue3) rfl rfl g i _ _ (by omega) (fun t ht => by
            have := (own_cell hO (i + t) (.int .i64 (Bfs.at' ys ((i + t : Nat) : Int))) (by
              have := Bfs.at_get (d := ys) (t := ((i + t : Nat) : Int)) (by omega) (by omega)
              rw [Int.toNat_natCast] at this
              simp [this])).1
            rw [this]; rfl) (fun t ht => (own_cell hO (i + t) (.int .i64 (Bfs.at' ys ((i + t : Nat) : Int))) (by
              have := Bfs.at_get (d := ys) (t := ((i + t : Nat) : Int)) (by omega) (by omega)
              rw [Int.toNat_natCast] at this
              simp [this])).2)
        have HOO := Lib.hid hO
        have HGG := Lib.hid hG
        clear hO hG
        go_wp2
        go_ret
        refine ⟨_, rfl, rfl, ?_, grown_trans HGG.out (setCells_grown wr g _ _)⟩
        rw [HLI.out, ← HT2.out]
        have := own_cut HOO.out (i := i) (by omega) (List.replicate (xs.length - i) (.int .i64 0)) i (Nat.le_refl _)
        rw [show (ints ys).take i = ints (ys.take i) from (List.map_take ..).symm] at this
        exact this

end Go.Proofs.YtoffbdlgmnpblaaGreat

/- Plain laws: the order of lists of numbers, and the one sorted list of lists. -/
namespace Go.Proofs.YtoffbdlgmnpblaaGreat.Lex

def cmpL : List Int → List Int → Int
  | [], [] => 0
  | [], _ :: _ => -1
  | _ :: _, [] => 1
  | a :: l, b :: m => if a < b then -1 else if b < a then 1 else cmpL l m
theorem cmpL_range : ∀ a b, cmpL a b = -1 ∨ cmpL a b = 0 ∨ cmpL a b = 1
  | [], [] => .inr (.inl rfl)
  | [], _ :: _ => .inl rfl
  | _ :: _, [] => .inr (.inr rfl)
  | a :: l, b :: m => by
    unfold cmpL
    split
    · exact .inl rfl
    · split
      · exact .inr (.inr rfl)
      · exact cmpL_range l m
theorem cmpL_neg : ∀ a b, cmpL b a = - cmpL a b
  | [], [] => rfl
  | [], _ :: _ => rfl
  | _ :: _, [] => rfl
  | a :: l, b :: m => by
    unfold cmpL
    by_cases h1 : a < b
    · rw [if_pos h1, if_neg (by omega), if_pos h1]; rfl
    · by_cases h2 : b < a
      · rw [if_pos h2, if_neg h1, if_pos h2]
      · rw [if_neg h1, if_neg h2, if_neg h2, if_neg h1]; exact cmpL_neg l m
theorem cmpL_eq : ∀ a b, cmpL a b = 0 → a = b
  | [], [], _ => rfl
  | [], _ :: _, h => by simp [cmpL] at h
  | _ :: _, [], h => by simp [cmpL] at h
  | a :: l, b :: m, h => by
    unfold cmpL at h
    by_cases h1 : a < b
    · rw [if_pos h1] at h; cases h
    · by_cases h2 : b < a
      · rw [if_neg h1, if_pos h2] at h; cases h
      · rw [if_neg h1, if_neg h2] at h
        rw [cmpL_eq l m h, show a = b by omega]
theorem cmpL_refl : ∀ a, cmpL a a = 0
  | [] => rfl
  | a :: l => by unfold cmpL; rw [if_neg (by omega), if_neg (by omega)]; exact cmpL_refl l
/-- not greater -/
theorem cmpL_le_trans : ∀ a b c, cmpL a b ≤ 0 → cmpL b c ≤ 0 → cmpL a c ≤ 0
  | [], b, [], _, _ => by simp [cmpL]
  | [], b, _ :: _, _, _ => by simp [cmpL]
  | _ :: _, [], c, h, _ => by simp [cmpL] at h
  | _ :: _, _ :: _, [], _, h => by simp [cmpL] at h
  | a :: l, b :: m, c :: n, h, k => by
    unfold cmpL at h k ⊢
    by_cases h1 : a < b
    · by_cases k1 : b < c
      · rw [if_pos (by omega)]; decide
      · by_cases k2 : c < b
        · rw [if_neg k1, if_pos k2] at k; exact absurd k (by decide)
        · rw [if_pos (by omega)]; decide
    · by_cases h2 : b < a
      · rw [if_neg h1, if_pos h2] at h; exact absurd h (by decide)
      · rw [if_neg h1, if_neg h2] at h
        by_cases k1 : b < c
        · rw [if_pos (by omega)]; decide
        · by_cases k2 : c < b
          · rw [if_neg k1, if_pos k2] at k; exact absurd k (by decide)
          · rw [if_neg k1, if_neg k2] at k
            rw [if_neg (by omega), if_neg (by omega)]
            exact cmpL_le_trans l m n h k
def le (a b : List Int) : Bool := decide (cmpL a b ≤ 0)
theorem le_trans (a b c : List Int) (h : le a b = true) (k : le b c = true) : le a c = true := by
  unfold le at *
  simp only [decide_eq_true_eq] at *
  exact cmpL_le_trans a b c h k
theorem le_total (a b : List Int) : (le a b || le b a) = true := by
  unfold le
  have := cmpL_neg a b
  simp only [Bool.or_eq_true, decide_eq_true_eq]
  omega
theorem le_antisymm (a b : List Int) (h : le a b = true) (k : le b a = true) : a = b := by
  unfold le at *
  simp only [decide_eq_true_eq] at *
  have := cmpL_neg a b
  exact cmpL_eq a b (by omega)
/-- sorted in the order of lists -/
def lsort (l : List (List Int)) : List (List Int) := l.mergeSort le
theorem lsort_of {l l' : List (List Int)} (hp : l'.Perm l) (hs : l'.Pairwise fun a b => le a b = true) : l' = lsort l := by
  refine List.Perm.eq_of_pairwise (le := fun a b => le a b = true) (fun a b _ _ h k => le_antisymm a b h k) hs ?_ (hp.trans (List.mergeSort_perm l le).symm)
  exact List.pairwise_mergeSort le_trans (fun a b => le_total a b) l
theorem lsort_perm (l : List (List Int)) : (lsort l).Perm l := List.mergeSort_perm l le
/-- the comparison as the program does it: k numbers are equal -/
theorem cmpL_drop (a b : List Int) (k : Nat) (x y : Int) (ha : a[k]? = some x) (hb : b[k]? = some y) : cmpL (a.drop k) (b.drop k) = if x < y then -1 else if y < x then 1 else cmpL (a.drop (k + 1)) (b.drop (k + 1)) := by
  obtain ⟨h1, rfl⟩ := List.getElem?_eq_some_iff.1 ha
  obtain ⟨h2, rfl⟩ := List.getElem?_eq_some_iff.1 hb
  rw [List.drop_eq_getElem_cons h1, List.drop_eq_getElem_cons h2]
  rfl

end Go.Proofs.YtoffbdlgmnpblaaGreat.Lex
