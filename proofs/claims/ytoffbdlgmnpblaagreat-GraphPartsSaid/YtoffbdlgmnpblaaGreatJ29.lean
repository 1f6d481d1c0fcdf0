/- Part 29: Rf21 Bfs2. -/
import Derived.Test.YtoffbdlgmnpblaaGreatJ28
import Derived.Test.YtoffbdlgmnpblaaGreatJ13
import Derived.Test.YtoffbdlgmnpblaaGreatJ12

/- The reference's tests of a model, of a set. -/
namespace Go.Proofs.YtoffbdlgmnpblaaGreat
open Go.RowKit
set_option maxHeartbeats 4000000
set_option maxRecDepth 100000

theorem RMValid_calls (m : List St) (v : Value) (D : Nat → Prop) (w : World) (hD : Lo D w) (h : ModelC w D v m) :
    Calls Tryz.prog 31 #[v] w fun e w' => e = .returned (.bool (validB m)) ∧ Below w.heap.size w w' := by
  obtain ⟨u, rfl, h⟩ := h
  obtain ⟨A, c, rfl, h1, h2, -⟩ := h.form
  unfold maxLen at h2
  have H := Lib.hid h
  clear h
  by_cases hlen : m.length < 1 ∨ 40 < m.length
  · have HV := Lib.hid (show validB m = false by unfold validB; rw [decide_eq_false (show ¬ (1 ≤ m.length ∧ m.length ≤ 40) by omega)]; rfl)
    rcases hlen with hlen | hlen
    all_goals
      go_enter Tryz.func31, Tryz.ntmps31
      go_wp2
      go_ret
      exact ⟨ret_bool HV.out.symm, (Below.refl _ _).alloc (Nat.le_refl _) _⟩
  · have hl1 : 1 ≤ m.length := by omega
    have hl2 : m.length ≤ 40 := by omega
    have HV := Lib.hid (show validB m = m.all (stB m.length) by unfold validB; rw [decide_eq_true (show (1 ≤ m.length ∧ m.length ≤ 40) by omega)]; rfl)
    clear hlen
    go_enter Tryz.func31, Tryz.ntmps31
    go_wp2
    have hB0 := (Below.refl w.heap.size w).alloc (Nat.le_refl _) (.cells #[.slice A m.length c] 24)
    have HX0 := Lib.hid (heap_alloc_new w (.cells #[.slice A m.length c] 24))
    go_loopw [20] (fun k W => ∃ (j : Nat), j ≤ m.length ∧ k = .int .i64 (j : Int) ∧ Hid ((m.take j).all (stB m.length) = true) ∧ Below w.heap.size w W ∧ w.heap.size < W.heap.size ∧ Hid (W.heap[w.heap.size]? = some (.cells #[.slice A m.length c] 24 (0, 0)))) (fun k _ => m.length - (intOf k).toNat)
    case atStart => exact ⟨0, Nat.zero_le _, rfl, rfl, hB0, by simp, HX0.out⟩
    case round =>
      obtain ⟨j, hj, rfl, HA, hBW, hsW, HXW⟩ := hrel
      by_cases hlt : j < m.length
      · obtain ⟨s, hs⟩ : ∃ s, m[j]? = some s := ⟨_, List.getElem?_eq_getElem hlt⟩
        obtain ⟨ad, B, p, d, rfl, hDa, q0, q1, q2, hsc⟩ := H.out.st_up hD hBW j s hs
        obtain ⟨rfl, hp1, hp2⟩ := hsc.len
        unfold maxLen at hp2
        have HS := Lib.hid hs
        have HC := Lib.hid hsc
        clear hs hsc
        have hBW1 : Below w.heap.size w (wr.alloc (.cells #[.int .i64 s.owner, .int .i64 s.mark, .slice B s.chs.length d] 79)) := hBW.alloc hBW.size _
        have HXW1 := Lib.hid ((heap_alloc_old wr (.cells #[.int .i64 s.owner, .int .i64 s.mark, .slice B s.chs.length d] 79) hsW).trans HXW.out)
        by_cases hok : 0 ≤ s.owner ∧ s.owner ≤ 1 ∧ 0 ≤ s.mark ∧ s.mark ≤ 63 ∧ 1 ≤ s.chs.length ∧ s.chs.length ≤ 8
        · have HOK := Lib.hid (show stB m.length s = s.chs.all (choiceB m.length) by unfold stB; rw [decide_eq_true hok]; rfl)
          obtain ⟨o1, o2, o3, o4, o5, o6⟩ := hok
          go_wp2
          go_loopw [57] (fun k W => ∃ (i : Nat), i ≤ s.chs.length ∧ k = .int .i64 (i : Int) ∧ Hid ((s.chs.take i).all (choiceB m.length) = true) ∧ Below w.heap.size w W ∧ w.heap.size < W.heap.size ∧ Hid (W.heap[w.heap.size]? = some (.cells #[.slice (some ad) m.length c] 24 (0, 0)))) (fun k _ => s.chs.length - (intOf k).toNat)
          case atStart => exact ⟨0, Nat.zero_le _, rfl, rfl, hBW1, by simp; omega, HXW1.out⟩
          case round =>
            obtain ⟨i, hi, rfl, HA2, hBW2, hsW2, HXW2⟩ := hrel
            by_cases hlt2 : i < s.chs.length
            · obtain ⟨x, hx⟩ : ∃ x, s.chs[i]? = some x := ⟨_, List.getElem?_eq_getElem hlt2⟩
              have HX := Lib.hid hx
              obtain ⟨ad2, B2, p2, d2, rfl, hDa2, r0, r1, r2, hxc⟩ := HC.out.ch_up hD hBW2 i x hx
              have hxc' := hxc.same (hD.same (hBW2.alloc hBW2.size (.cells #[.int .i64 x.rw.top, .int .i64 x.rw.low, .slice B2 p2 d2] 97)))
              have HX2 := Lib.hid hxc'
              have hBW3 : Below w.heap.size w (wr.alloc (.cells #[.int .i64 x.rw.top, .int .i64 x.rw.low, .slice B2 p2 d2] 97)) := hBW2.alloc hBW2.size _
              have HXW3 := Lib.hid ((heap_alloc_old wr (.cells #[.int .i64 x.rw.top, .int .i64 x.rw.low, .slice B2 p2 d2] 97) hsW2).trans HXW2.out)
              obtain ⟨c0, -⟩ := blk_at HXW2.out 0
              clear hx hxc hxc'
              go_wp2_with fail
              refine (Rchoice_calls m.length x B2 p2 d2 D _ (hD.up hBW3.size) HX2.out).mono ?_
              rintro e w2 ⟨rfl, hb2⟩
              have hB2 := hBW3.trans (hb2.mono hBW3.size)
              have HXW4 := Lib.hid ((hb2.block w.heap.size (by simp; omega)).trans HXW3.out)
              have hs4 : w.heap.size < w2.heap.size := Nat.lt_of_lt_of_le (by simp; omega) hb2.size
              cases hv : choiceB m.length x with
              | false =>
                have HF := Lib.hid (show validB m = false by rw [HV.out]; exact all_no _ _ _ _ HS.out (by rw [HOK.out]; exact all_no _ _ _ _ HX.out hv))
                clear hv
                go_wp2_with fail
                go_ret
                exact ⟨ret_bool HF.out.symm, hB2⟩
              | true =>
                have HF := Lib.hid (all_take _ _ _ _ HX.out HA2.out hv)
                clear hv
                go_wp2
                exact ⟨⟨i + 1, by omega, by go_num, HF, hB2, hs4, HXW4⟩, by simp [intOf]; omega⟩
            · obtain rfl : i = s.chs.length := by omega
              have HF := Lib.hid (all_take (stB m.length) _ _ _ HS.out HA.out (by rw [HOK.out]; have := HA2.out; rwa [List.take_length] at this))
              clear hlt2
              go_wp2
              exact ⟨⟨j + 1, by omega, by go_num, HF, hBW2, hsW2, HXW2⟩, by simp [intOf]; omega⟩
        · have HF := Lib.hid (show validB m = false by rw [HV.out]; exact all_no _ _ _ _ HS.out (by unfold stB; rw [decide_eq_false hok]; rfl))
          have hok' : s.owner < 0 ∨ (0 ≤ s.owner ∧ 1 < s.owner) ∨ (0 ≤ s.owner ∧ s.owner ≤ 1 ∧ s.mark < 0) ∨ (0 ≤ s.owner ∧ s.owner ≤ 1 ∧ 0 ≤ s.mark ∧ 63 < s.mark) ∨ (0 ≤ s.owner ∧ s.owner ≤ 1 ∧ 0 ≤ s.mark ∧ s.mark ≤ 63 ∧ s.chs.length < 1) ∨ (0 ≤ s.owner ∧ s.owner ≤ 1 ∧ 0 ≤ s.mark ∧ s.mark ≤ 63 ∧ 1 ≤ s.chs.length ∧ 8 < s.chs.length) := by omega
          clear hok
          rcases hok' with o1 | ⟨o1, o2⟩ | ⟨o1, o2, o3⟩ | ⟨o1, o2, o3, o4⟩ | ⟨o1, o2, o3, o4, o5⟩ | ⟨o1, o2, o3, o4, o5, o6⟩
          all_goals
            go_wp2
            go_ret
            exact ⟨ret_bool HF.out.symm, hBW1⟩
      · obtain rfl : j = m.length := by omega
        have HF := Lib.hid (show validB m = true by rw [HV.out, ← HA.out, List.take_length])
        clear hlt
        go_wp2
        go_ret
        exact ⟨ret_bool HF.out.symm, hBW⟩

end Go.Proofs.YtoffbdlgmnpblaaGreat

/- Plain laws: what the search in breadth finds are the lengths of shortest paths. -/
namespace Go.Proofs.YtoffbdlgmnpblaaGreat.Bfs

/-- what is known of the depths while the search runs; q: the queue -/
structure Wit (next : List (List Int)) (n : Nat) (l d q : List Int) : Prop where
  from' : ∀ x, 0 ≤ x → x < (n : Int) → 0 ≤ at' d x → (x ∈ l ∧ at' d x = 0) ∨ (0 < at' d x ∧ ∃ u, 0 ≤ u ∧ u < (n : Int) ∧ x ∈ row next u ∧ 0 ≤ at' d u ∧ at' d x = at' d u + 1)
  goal : ∀ x ∈ l, at' d x = 0
  sorted : List.Pairwise (fun a b => at' d a ≤ at' d b) q
  top : ∀ x, 0 ≤ x → x < (n : Int) → ∀ h ∈ q, at' d x ≤ at' d h + 1
  done : ∀ x, 0 ≤ x → x < (n : Int) → 0 ≤ at' d x → x ∉ q → ∀ y ∈ row next x, 0 ≤ at' d y ∧ at' d y ≤ at' d x + 1

theorem marked_no (n : Nat) (l : List Int) (hl : ∀ s ∈ l, 0 ≤ s ∧ s < (n : Int)) : ∀ x, 0 ≤ x → x < (n : Int) → x ∉ l → at' (marked n l) x = -1 := by
  have : ∀ (l d : List Int), d.length = n → (∀ s ∈ l, 0 ≤ s ∧ s < (n : Int)) → ∀ u, 0 ≤ u → u < (n : Int) → u ∉ l → at' d u = -1 → at' (l.foldl (fun d s => d.set s.toNat 0) d) u = -1 := by
    intro l
    induction l with
    | nil => intro d _ _ u _ _ _ h; exact h
    | cons a l ih =>
      intro d hd hl u h0 h1 hn h
      have ha := hl a (List.mem_cons_self ..)
      refine ih _ (by simpa using hd) (fun s hs => hl s (List.mem_cons_of_mem _ hs)) u h0 h1 (fun h => hn (List.mem_cons_of_mem _ h)) ?_
      rw [at_set_other _ ha.1 h0 (fun e => hn (e ▸ List.mem_cons_self ..))]
      exact h
  intro x h0 h1 hx
  refine this l _ (by simp) hl x h0 h1 hx ?_
  have hlt : x.toNat < n := by omega
  simp [at', List.getD_eq_getElem?_getD, hlt]

theorem marked_wit (next : List (List Int)) (n : Nat) (l : List Int) (hl : ∀ s ∈ l, 0 ≤ s ∧ s < (n : Int)) : Wit next n l (marked n l) l := by
  have h0 := marked_at n l hl
  have hle : ∀ x, 0 ≤ x → x < (n : Int) → at' (marked n l) x ≤ 0 := by
    intro x a b
    by_cases hx : x ∈ l
    · rw [h0 x hx]; exact Int.le_refl _
    · rw [marked_no n l hl x a b hx]; decide
  refine ⟨fun x a b h => .inl ?_, h0, ?_, fun x a b h hh => ?_, fun x a b h hn => ?_⟩
  · have hx : x ∈ l := by
      by_cases hx : x ∈ l
      · exact hx
      · rw [marked_no n l hl x a b hx] at h; exact absurd h (by decide)
    exact ⟨hx, h0 x hx⟩
  · exact List.pairwise_of_forall_mem_list (fun a ha b hb => by rw [h0 a ha, h0 b hb]; exact Int.le_refl _)
  · have := hle x a b; rw [h0 h hh]; omega
  · rw [marked_no n l hl x a b hn] at h; exact absurd h (by decide)

/-- while the row of s is gone through: s is off the queue, its row is not done -/
structure Mid (next : List (List Int)) (n : Nat) (l : List Int) (s : Int) (d q : List Int) : Prop where
  from' : ∀ x, 0 ≤ x → x < (n : Int) → 0 ≤ at' d x → (x ∈ l ∧ at' d x = 0) ∨ (0 < at' d x ∧ ∃ u, 0 ≤ u ∧ u < (n : Int) ∧ x ∈ row next u ∧ 0 ≤ at' d u ∧ at' d x = at' d u + 1)
  goal : ∀ x ∈ l, at' d x = 0
  sorted : List.Pairwise (fun a b => at' d a ≤ at' d b) q
  low : ∀ h ∈ q, at' d s ≤ at' d h
  top : ∀ x, 0 ≤ x → x < (n : Int) → at' d x ≤ at' d s + 1
  done : ∀ x, 0 ≤ x → x < (n : Int) → 0 ≤ at' d x → x ∉ q → x ≠ s → ∀ y ∈ row next x, 0 ≤ at' d y ∧ at' d y ≤ at' d x + 1

theorem visit_mid {next : List (List Int)} {n : Nat} {l d q : List Int} {s t : Int} (hi : Inv n d q) (h : Mid next n l s d q) (hs : 0 ≤ s ∧ s < (n : Int) ∧ 0 ≤ at' d s) (ht : 0 ≤ t ∧ t < (n : Int)) (hl : ∀ s ∈ l, 0 ≤ s ∧ s < (n : Int)) (hr : t ∈ row next s) (hin : ∀ x, 0 ≤ x → x < (n : Int) → ∀ y ∈ row next x, 0 ≤ y ∧ y < (n : Int)) :
    Mid next n l s (visit s (d, q) t).1 (visit s (d, q) t).2 ∧ at' (visit s (d, q) t).1 s = at' d s ∧ 0 ≤ at' (visit s (d, q) t).1 t ∧ ∀ u, 0 ≤ u → 0 ≤ at' d u → at' (visit s (d, q) t).1 u = at' d u := by
  have hlen := hi.len
  unfold visit
  by_cases hn : at' d t < 0
  · simp only [if_pos hn]
    have hts : s ≠ t := fun e => by subst e; omega
    have same : ∀ u, 0 ≤ u → u ≠ t → at' (d.set t.toNat (at' d s + 1)) u = at' d u := fun u h0 hu => at_set_other _ ht.1 h0 hu
    have self : at' (d.set t.toNat (at' d s + 1)) t = at' d s + 1 := at_set_same _ ht.1 (by omega)
    have ess := same s hs.1 hts
    have old : ∀ u, 0 ≤ u → 0 ≤ at' d u → at' (d.set t.toNat (at' d s + 1)) u = at' d u := fun u h0 hu => same u h0 (fun e => by subst e; omega)
    have hq : ∀ u ∈ q, at' (d.set t.toNat (at' d s + 1)) u = at' d u := fun u hu => old u (hi.que u hu).1 (hi.que u hu).2.2
    refine ⟨⟨?_, ?_, ?_, ?_, ?_, ?_⟩, ess, by rw [self]; omega, old⟩
    · intro x h0 h1 hx
      by_cases e : x = t
      · subst e
        rw [self]
        exact .inr ⟨by omega, s, hs.1, hs.2.1, hr, by rw [ess]; exact hs.2.2, by rw [ess]⟩
      · rw [same x h0 e] at hx ⊢
        rcases h.from' x h0 h1 hx with k | ⟨k1, u, u0, u1, k2, k3, k4⟩
        · exact .inl k
        · exact .inr ⟨k1, u, u0, u1, k2, by rw [old u u0 k3]; exact k3, by rw [old u u0 k3]; exact k4⟩
    · intro x hx
      have := h.goal x hx
      rw [old x (hl x hx).1 (by omega)]
      exact this
    · rw [List.pairwise_append]
      refine ⟨h.sorted.imp_of_mem fun {a b} ha hb hab => by rw [hq a ha, hq b hb]; exact hab, List.pairwise_singleton _ _, fun a ha b hb => ?_⟩
      have : b = t := by simpa using hb
      subst this
      rw [hq a ha, self]
      exact h.top a (hi.que a ha).1 (hi.que a ha).2.1
    · intro b hb
      rcases List.mem_append.1 hb with hb | hb
      · rw [ess, hq b hb]; exact h.low b hb
      · have : b = t := by simpa using hb
        subst this
        rw [ess, self]; omega
    · intro x h0 h1
      by_cases e : x = t
      · subst e; rw [self, ess]; omega
      · rw [same x h0 e, ess]; exact h.top x h0 h1
    · intro x h0 h1 hx hnq hxs y hy
      have hxt : x ≠ t := fun e => hnq (List.mem_append_right _ (by simp [e]))
      rw [same x h0 hxt] at hx ⊢
      obtain ⟨k1, k2⟩ := h.done x h0 h1 hx (fun hh => hnq (List.mem_append_left _ hh)) hxs y hy
      rw [old y (hin x h0 h1 y hy).1 k1]
      exact ⟨k1, k2⟩
  · simp only [if_neg hn]
    exact ⟨h, by trivial, by omega, fun _ _ _ => by trivial⟩

theorem fold_mid {next : List (List Int)} {n : Nat} {l : List Int} {s : Int} (hl : ∀ s ∈ l, 0 ≤ s ∧ s < (n : Int)) (hin : ∀ x, 0 ≤ x → x < (n : Int) → ∀ y ∈ row next x, 0 ≤ y ∧ y < (n : Int)) (r : List Int) :
    ∀ {d q : List Int}, Inv n d q → Mid next n l s d q → (0 ≤ s ∧ s < (n : Int) ∧ 0 ≤ at' d s) → (∀ t ∈ r, t ∈ row next s) →
    Mid next n l s (r.foldl (visit s) (d, q)).1 (r.foldl (visit s) (d, q)).2 ∧ at' (r.foldl (visit s) (d, q)).1 s = at' d s ∧ (∀ t ∈ r, 0 ≤ at' (r.foldl (visit s) (d, q)).1 t) ∧ ∀ u, 0 ≤ u → 0 ≤ at' d u → at' (r.foldl (visit s) (d, q)).1 u = at' d u := by
  induction r with
  | nil => intro d q _ h _ _; exact ⟨h, rfl, fun t ht => (List.not_mem_nil ht).elim, fun _ _ _ => rfl⟩
  | cons t r ih =>
    intro d q hi h hs hr
    have htr := hr t (List.mem_cons_self ..)
    have ht := hin s hs.1 hs.2.1 t htr
    obtain ⟨k1, k2, k3, k4⟩ := visit_mid hi h hs ht hl htr hin
    obtain ⟨j1, _, _⟩ := visit_inv hi hs ht
    obtain ⟨m1, m2, m3, m4⟩ := ih j1 k1 ⟨hs.1, hs.2.1, by rw [k2]; exact hs.2.2⟩ (fun u hu => hr u (List.mem_cons_of_mem _ hu))
    refine ⟨m1, m2.trans k2, fun u hu => ?_, fun u h0 hu => ?_⟩
    · rcases List.mem_cons.1 hu with rfl | hu
      · have := m4 u ht.1 k3
        rw [List.foldl_cons, this]; exact k3
      · exact m3 u hu
    · have e1 := k4 u h0 hu
      have e2 := m4 u h0 (by rw [e1]; exact hu)
      exact e2.trans e1

theorem Wit.mid {next : List (List Int)} {n : Nat} {l d q : List Int} {s : Int} (h : Wit next n l d (s :: q)) : Mid next n l s d q :=
  ⟨h.from', h.goal, (List.pairwise_cons.1 h.sorted).2, (List.pairwise_cons.1 h.sorted).1, fun x h0 h1 => h.top x h0 h1 s (List.mem_cons_self ..), fun x h0 h1 hx hq hs => h.done x h0 h1 hx (fun hm => by
    rcases List.mem_cons.1 hm with e | e
    · exact hs e
    · exact hq e)⟩

theorem search_wit {next : List (List Int)} {n : Nat} {l : List Int} (hl : ∀ s ∈ l, 0 ≤ s ∧ s < (n : Int)) (hin : ∀ x, 0 ≤ x → x < (n : Int) → ∀ y ∈ row next x, 0 ≤ y ∧ y < (n : Int)) :
    ∀ (f : Nat) (d q : List Int), q.length + neg d ≤ f → Inv n d q → Wit next n l d q → ∃ d', run next d q = d' ∧ Wit next n l d' [] ∧ Inv n d' [] := by
  intro f
  induction f with
  | zero =>
    intro d q hf hi h
    cases q with
    | nil => exact ⟨d, run_nil next d, h, hi⟩
    | cons s q => simp at hf
  | succ f ih =>
    intro d q hf hi h
    cases q with
    | nil => exact ⟨d, run_nil next d, h, hi⟩
    | cons s q =>
      have hs := hi.que s (List.mem_cons_self ..)
      have hq : Inv n d q := ⟨hi.len, hi.bnd, fun u hu => hi.que u (List.mem_cons_of_mem _ hu)⟩
      have hrow := hin s hs.1 hs.2.1
      obtain ⟨m1, m2, m3, m4⟩ := fold_mid hl hin (row next s) hq h.mid hs (fun t ht => ht)
      obtain ⟨j1, j2, j3⟩ := fold_inv (row next s) hq hs hrow
      rw [run_cons hi hrow]
      refine ih _ _ (by simp only [List.length_cons] at hf; omega) j1 ⟨m1.from', m1.goal, m1.sorted, fun x h0 h1 b hb => ?_, fun x h0 h1 hx hnq y hy => ?_⟩
      · have := m1.top x h0 h1
        have := m1.low b hb
        omega
      · by_cases e : x = s
        · subst e
          exact ⟨m3 y hy, m1.top y (hrow y hy).1 (hrow y hy).2⟩
        · exact m1.done x h0 h1 hx hnq e y hy

/-- what the depths are -/
structure Depth (next : List (List Int)) (n : Nat) (l d : List Int) : Prop where
  len : d.length = n
  low : ∀ x, 0 ≤ x → x < (n : Int) → -1 ≤ at' d x ∧ at' d x ≤ (n : Int)
  goal : ∀ x ∈ l, at' d x = 0
  from' : ∀ x, 0 ≤ x → x < (n : Int) → 0 ≤ at' d x → (x ∈ l ∧ at' d x = 0) ∨ (0 < at' d x ∧ ∃ u, 0 ≤ u ∧ u < (n : Int) ∧ x ∈ row next u ∧ 0 ≤ at' d u ∧ at' d x = at' d u + 1)
  done : ∀ x, 0 ≤ x → x < (n : Int) → 0 ≤ at' d x → ∀ y ∈ row next x, 0 ≤ at' d y ∧ at' d y ≤ at' d x + 1
theorem depths_spec {next : List (List Int)} {l : List Int} (hl : ∀ s ∈ l, 0 ≤ s ∧ s < (next.length : Int)) (hin : ∀ x, 0 ≤ x → x < (next.length : Int) → ∀ y ∈ row next x, 0 ≤ y ∧ y < (next.length : Int)) :
    Depth next next.length l (depths next l) := by
  obtain ⟨d', e, h, hi⟩ := search_wit hl hin _ _ _ (Nat.le_refl _) (marked_inv next.length l hl) (marked_wit next next.length l hl)
  have : depths next l = d' := e
  rw [this]
  refine ⟨hi.len, fun x h0 h1 => ?_, h.goal, h.from', fun x h0 h1 hx => h.done x h0 h1 hx (fun hh => (List.not_mem_nil hh).elim)⟩
  have := hi.bnd _ (at_mem h0 (by rw [hi.len]; exact h1))
  omega

/-! ### the rows of the turned edges -/
theorem push_row {o : List (List Int)} {s t u x : Int} (ht0 : 0 ≤ t) (ht1 : t < (o.length : Int)) (hu : 0 ≤ u) : x ∈ row (push o s t) u ↔ x ∈ row o u ∨ (u = t ∧ x = s) := by
  have hlt : t.toNat < o.length := by omega
  unfold push row
  by_cases e : u = t
  · subst e
    simp [List.getD_eq_getElem?_getD, hlt]
  · have hne : t.toNat ≠ u.toNat := by omega
    simp [List.getD_eq_getElem?_getD, List.getElem?_set_ne hne, e]
theorem fold_push_row (l : List Int) {s u x : Int} (hu : 0 ≤ u) : ∀ {o : List (List Int)}, (∀ t ∈ l, 0 ≤ t ∧ t < (o.length : Int)) → (x ∈ row (l.foldl (fun o t => push o s t) o) u ↔ x ∈ row o u ∨ (u ∈ l ∧ x = s)) := by
  induction l with
  | nil => intro o _; simp
  | cons a l ih =>
    intro o h
    have ha := h a (List.mem_cons_self ..)
    rw [List.foldl_cons, ih (fun t ht => by rw [push_len]; exact h t (List.mem_cons_of_mem _ ht)), push_row ha.1 ha.2 hu, List.mem_cons]
    constructor
    · rintro ((h | ⟨rfl, h1⟩) | ⟨h1, h2⟩)
      · exact .inl h
      · exact .inr ⟨.inl rfl, h1⟩
      · exact .inr ⟨.inr h1, h2⟩
    · rintro (h | ⟨rfl | h1, h2⟩)
      · exact .inl (.inl h)
      · exact .inl (.inr ⟨rfl, h2⟩)
      · exact .inr ⟨h1, h2⟩
theorem turnTo_row {xss : List (List Int)} (hin : ∀ xs ∈ xss, ∀ t ∈ xs, 0 ≤ t ∧ t < (xss.length : Int)) {u x : Int} (hu : 0 ≤ u) : ∀ j, j ≤ xss.length → (x ∈ row (turnTo xss j) u ↔ (0 ≤ x ∧ x < (j : Int) ∧ u ∈ row xss x))
  | 0, _ => by
    have : row (turnTo xss 0) u = [] := by
      unfold row turnTo
      rw [List.getD_eq_getElem?_getD, List.getElem?_replicate]
      split <;> rfl
    rw [this]
    constructor
    · intro h; cases h
    · intro h; omega
  | j + 1, hj => by
    have hg : xss.getD j [] ∈ xss := by
      rw [List.getD_eq_getElem?_getD, List.getElem?_eq_getElem (by omega)]
      exact List.getElem_mem _
    have hrow : row xss (j : Int) = xss.getD j [] := by unfold row; rw [Int.toNat_natCast]
    rw [turnTo, fold_push_row _ hu (fun t ht => by rw [turnTo_len]; exact hin _ hg t ht), turnTo_row hin hu j (by omega)]
    constructor
    · rintro (⟨h0, h1, h2⟩ | ⟨h1, rfl⟩)
      · exact ⟨h0, by omega, h2⟩
      · exact ⟨by omega, by omega, by rw [hrow]; exact h1⟩
    · rintro ⟨h0, h1, h2⟩
      by_cases e : x = (j : Int)
      · subst e; rw [hrow] at h2; exact .inr ⟨h2, rfl⟩
      · exact .inl ⟨h0, by omega, h2⟩
theorem turn_len (xss : List (List Int)) : (turn xss).length = xss.length := turnTo_len _ _
theorem turn_row {xss : List (List Int)} (hin : ∀ xs ∈ xss, ∀ t ∈ xs, 0 ≤ t ∧ t < (xss.length : Int)) {u x : Int} (hu : 0 ≤ u) : x ∈ row (turn xss) u ↔ (0 ≤ x ∧ x < (xss.length : Int) ∧ u ∈ row xss x) := turnTo_row hin hu _ (Nat.le_refl _)
theorem row_in {xss : List (List Int)} (hin : ∀ xs ∈ xss, ∀ t ∈ xs, 0 ≤ t ∧ t < (xss.length : Int)) : ∀ x, 0 ≤ x → x < (xss.length : Int) → ∀ y ∈ row xss x, 0 ≤ y ∧ y < (xss.length : Int) := by
  intro x h0 h1 y hy
  unfold row at hy
  rw [List.getD_eq_getElem?_getD, List.getElem?_eq_getElem (by omega)] at hy
  exact hin _ (List.getElem_mem _) y hy
theorem turn_in {xss : List (List Int)} (hin : ∀ xs ∈ xss, ∀ t ∈ xs, 0 ≤ t ∧ t < (xss.length : Int)) : ∀ x, 0 ≤ x → x < ((turn xss).length : Int) → ∀ y ∈ row (turn xss) x, 0 ≤ y ∧ y < ((turn xss).length : Int) := by
  intro x h0 h1 y hy
  rw [turn_len] at h1 ⊢
  have := (turn_row hin h0).1 hy
  exact ⟨this.1, this.2.1⟩

/-! ### the least shortest path -/
end Go.Proofs.YtoffbdlgmnpblaaGreat.Bfs
