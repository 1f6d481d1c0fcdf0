/- Part 20 of 55: Md4. -/
import Derived.Test.YtoffbdlgmnpblaaGreatJ19

/- Package model: a model is valid; a set is valid. -/
namespace Go.Proofs.YtoffbdlgmnpblaaGreat
open Go.RowKit
set_option maxHeartbeats 4000000
set_option maxRecDepth 100000

def stB (n : Int) (s : St) : Bool := decide (0 ≤ s.owner ∧ s.owner ≤ 1 ∧ 0 ≤ s.mark ∧ s.mark ≤ 63 ∧ 1 ≤ s.chs.length ∧ s.chs.length ≤ 8) && s.chs.all (choiceB n)
/-- a model is valid -/
def validB (m : List St) : Bool := decide (1 ≤ m.length ∧ m.length ≤ 40) && m.all (stB m.length)

theorem all_take {α : Type} (P : α → Bool) (l : List α) (j : Nat) (x : α) (h : l[j]? = some x) (h1 : (l.take j).all P = true) (h2 : P x = true) : (l.take (j + 1)).all P = true := by
  rw [List.take_add_one, h]
  simp only [List.all_append, h1, Option.toList_some, List.all_cons, h2, List.all_nil, Bool.and_true]
theorem all_no {α : Type} (P : α → Bool) (l : List α) (j : Nat) (x : α) (h : l[j]? = some x) (h2 : P x = false) : l.all P = false := by
  rw [List.all_eq_false]
  exact ⟨x, List.mem_of_getElem? h, by simp [h2]⟩

theorem cells3 {w W : World} {D : Nat → Prop} {ad : Addr} {i : Nat} {a b c : Value} (hD : Lo D w) (hd : D ad.block) (hb : Below w.heap.size w W)
    (h : w.cell? (ad.add (i * 3)) = some a ∧ w.cell? ⟨(ad.add (i * 3)).block, (ad.add (i * 3)).off + 1, none⟩ = some b ∧ w.cell? ⟨(ad.add (i * 3)).block, (ad.add (i * 3)).off + 2, none⟩ = some c) :
    W.cell? (ad.add (i * 3)) = some a ∧ W.cell? ⟨(ad.add (i * 3)).block, (ad.add (i * 3)).off + 1, none⟩ = some b ∧ W.cell? ⟨(ad.add (i * 3)).block, (ad.add (i * 3)).off + 2, none⟩ = some c := by
  have hl : (ad.add (i * 3)).block < w.heap.size := by rw [block_of_add]; exact hD _ hd
  exact ⟨(hb.cell hl).trans h.1, (hb.cell (p := ⟨(ad.add (i * 3)).block, (ad.add (i * 3)).off + 1, none⟩) hl).trans h.2.1, (hb.cell (p := ⟨(ad.add (i * 3)).block, (ad.add (i * 3)).off + 2, none⟩) hl).trans h.2.2⟩
/-- an element's cells in a later world, what it holds in the first one -/
theorem Sl.st_up {w W : World} {D : Nat → Prop} {A : Option Addr} {n c : Nat} {xs : List St} (h : Sl Kind.st w D (.slice A n c) xs) (hD : Lo D w) (hb : Below w.heap.size w W) (i : Nat) (x : St) (hx : xs[i]? = some x) :
    ∃ ad B m d, A = some ad ∧ D ad.block ∧ W.cell? (ad.add (i * 3)) = some (.int .i64 x.owner) ∧ W.cell? ⟨(ad.add (i * 3)).block, (ad.add (i * 3)).off + 1, none⟩ = some (.int .i64 x.mark) ∧ W.cell? ⟨(ad.add (i * 3)).block, (ad.add (i * 3)).off + 2, none⟩ = some (.slice B m d) ∧ Sl Kind.ch w D (.slice B m d) x.chs := by
  obtain ⟨ad, B, m, d, e, hd, q0, q1, q2, hs⟩ := h.st_at i x hx
  obtain ⟨r0, r1, r2⟩ := cells3 hD hd hb ⟨q0, q1, q2⟩
  exact ⟨ad, B, m, d, e, hd, r0, r1, r2, hs⟩
theorem Sl.ch_up {w W : World} {D : Nat → Prop} {A : Option Addr} {n c : Nat} {xs : List Ch} (h : Sl Kind.ch w D (.slice A n c) xs) (hD : Lo D w) (hb : Below w.heap.size w W) (i : Nat) (x : Ch) (hx : xs[i]? = some x) :
    ∃ ad B m d, A = some ad ∧ D ad.block ∧ W.cell? (ad.add (i * 3)) = some (.int .i64 x.rw.top) ∧ W.cell? ⟨(ad.add (i * 3)).block, (ad.add (i * 3)).off + 1, none⟩ = some (.int .i64 x.rw.low) ∧ W.cell? ⟨(ad.add (i * 3)).block, (ad.add (i * 3)).off + 2, none⟩ = some (.slice B m d) ∧ Sl Kind.br w D (.slice B m d) x.brs := by
  obtain ⟨ad, B, m, d, e, hd, q0, q1, q2, hs⟩ := h.ch_at i x hx
  obtain ⟨r0, r1, r2⟩ := cells3 hD hd hb ⟨q0, q1, q2⟩
  exact ⟨ad, B, m, d, e, hd, r0, r1, r2, hs⟩
theorem Sl.br_up {w W : World} {D : Nat → Prop} {A : Option Addr} {n c : Nat} {xs : List Br} (h : Sl Kind.br w D (.slice A n c) xs) (hD : Lo D w) (hb : Below w.heap.size w W) (i : Nat) (x : Br) (hx : xs[i]? = some x) :
    ∃ ad, A = some ad ∧ D ad.block ∧ W.cell? (ad.add (i * 3)) = some (.int .i64 x.to) ∧ W.cell? ⟨(ad.add (i * 3)).block, (ad.add (i * 3)).off + 1, none⟩ = some (.int .i64 x.ch.top) ∧ W.cell? ⟨(ad.add (i * 3)).block, (ad.add (i * 3)).off + 2, none⟩ = some (.int .i64 x.ch.low) := by
  obtain ⟨ad, e, hd, q0, q1, q2⟩ := h.br_at i x hx
  obtain ⟨r0, r1, r2⟩ := cells3 hD hd hb ⟨q0, q1, q2⟩
  exact ⟨ad, e, hd, r0, r1, r2⟩

theorem Valid_calls (m : List St) (v : Value) (D : Nat → Prop) (w : World) (hD : Lo D w) (h : ModelC w D v m) :
    Calls Tryz.prog 71 #[v] w fun e w' => e = .returned (.bool (validB m)) ∧ Below w.heap.size w w' := by
  obtain ⟨u, rfl, h⟩ := h
  obtain ⟨A, c, rfl, h1, h2, -⟩ := h.form
  unfold maxLen at h2
  have H := Lib.hid h
  clear h
  by_cases hlen : m.length < 1 ∨ 40 < m.length
  · have HV := Lib.hid (show validB m = false by unfold validB; rw [decide_eq_false (show ¬ (1 ≤ m.length ∧ m.length ≤ 40) by omega)]; rfl)
    rcases hlen with hlen | hlen
    all_goals
      go_enter Tryz.func71, Tryz.ntmps71
      go_wp2
      go_ret
      exact ⟨ret_bool HV.out.symm, (Below.refl _ _).alloc (Nat.le_refl _) _⟩
  · have hl1 : 1 ≤ m.length := by omega
    have hl2 : m.length ≤ 40 := by omega
    have HV := Lib.hid (show validB m = m.all (stB m.length) by unfold validB; rw [decide_eq_true (show (1 ≤ m.length ∧ m.length ≤ 40) by omega)]; rfl)
    clear hlen
    go_enter Tryz.func71, Tryz.ntmps71
    go_wp2
    have hB0 := (Below.refl w.heap.size w).alloc (Nat.le_refl _) (.cells #[.slice A m.length c] 24)
    go_loopw [20] (fun k W => ∃ (j : Nat), j ≤ m.length ∧ k = .int .i64 (j : Int) ∧ Hid ((m.take j).all (stB m.length) = true) ∧ Below w.heap.size w W) (fun k _ => m.length - (intOf k).toNat)
    case atStart => exact ⟨0, Nat.zero_le _, rfl, rfl, hB0⟩
    case round =>
      obtain ⟨j, hj, rfl, HA, hBW⟩ := hrel
      by_cases hlt : j < m.length
      · obtain ⟨s, hs⟩ : ∃ s, m[j]? = some s := ⟨_, List.getElem?_eq_getElem hlt⟩
        obtain ⟨ad, B, p, d, rfl, hDa, q0, q1, q2, hsc⟩ := H.out.st_up hD hBW j s hs
        obtain ⟨rfl, hp1, hp2⟩ := hsc.len
        unfold maxLen at hp2
        have HS := Lib.hid hs
        have HC := Lib.hid hsc
        clear hs hsc
        have hBW1 : Below w.heap.size w (wr.alloc (.cells #[.int .i64 s.owner, .int .i64 s.mark, .slice B s.chs.length d] 79)) := hBW.alloc hBW.size _
        by_cases hok : 0 ≤ s.owner ∧ s.owner ≤ 1 ∧ 0 ≤ s.mark ∧ s.mark ≤ 63 ∧ 1 ≤ s.chs.length ∧ s.chs.length ≤ 8
        · have HOK := Lib.hid (show stB m.length s = s.chs.all (choiceB m.length) by unfold stB; rw [decide_eq_true hok]; rfl)
          obtain ⟨o1, o2, o3, o4, o5, o6⟩ := hok
          go_wp2
          go_loopw [57] (fun k W => ∃ (i : Nat), i ≤ s.chs.length ∧ k = .int .i64 (i : Int) ∧ Hid ((s.chs.take i).all (choiceB m.length) = true) ∧ Below w.heap.size w W) (fun k _ => s.chs.length - (intOf k).toNat)
          case atStart => exact ⟨0, Nat.zero_le _, rfl, rfl, hBW1⟩
          case round =>
            obtain ⟨i, hi, rfl, HA2, hBW2⟩ := hrel
            by_cases hlt2 : i < s.chs.length
            · obtain ⟨x, hx⟩ : ∃ x, s.chs[i]? = some x := ⟨_, List.getElem?_eq_getElem hlt2⟩
              have HX := Lib.hid hx
              obtain ⟨ad2, B2, p2, d2, rfl, hDa2, r0, r1, r2, hxc⟩ := HC.out.ch_up hD hBW2 i x hx
              have hxc' := hxc.same (hD.same (hBW2.alloc hBW2.size (.cells #[.int .i64 x.rw.top, .int .i64 x.rw.low, .slice B2 p2 d2] 97)))
              have HX2 := Lib.hid hxc'
              have hBW3 : Below w.heap.size w (wr.alloc (.cells #[.int .i64 x.rw.top, .int .i64 x.rw.low, .slice B2 p2 d2] 97)) := hBW2.alloc hBW2.size _
              clear hx hxc hxc'
              go_wp2_with fail
              refine (choice_calls m.length x B2 p2 d2 D _ (hD.up hBW3.size) HX2.out).mono ?_
              rintro e w2 ⟨rfl, hb2⟩
              have hB2 := hBW3.trans (hb2.mono hBW3.size)
              cases hv : choiceB m.length x with
              | false =>
                have HF := Lib.hid (show validB m = false by rw [HV.out]; exact all_no _ _ _ _ HS.out (by rw [HOK.out]; exact all_no _ _ _ _ HX.out hv))
                clear hv
                go_wp2_with fail
                go_ret
                exact ⟨ret_bool HF.out.symm, hB2⟩
              | true =>
                have HF := Lib.hid (all_take _ _ _ _ HX.out HA2.out hv)
                clear hv
                go_wp2
                exact ⟨⟨i + 1, by omega, by go_num, HF, hB2⟩, by simp [intOf]; omega⟩
            · obtain rfl : i = s.chs.length := by omega
              have HF := Lib.hid (all_take (stB m.length) _ _ _ HS.out HA.out (by rw [HOK.out]; have := HA2.out; rwa [List.take_length] at this))
              clear hlt2
              go_wp2
              exact ⟨⟨j + 1, by omega, by go_num, HF, hBW2⟩, by simp [intOf]; omega⟩
        · have HF := Lib.hid (show validB m = false by rw [HV.out]; exact all_no _ _ _ _ HS.out (by unfold stB; rw [decide_eq_false hok]; rfl))
          have hok' : s.owner < 0 ∨ (0 ≤ s.owner ∧ 1 < s.owner) ∨ (0 ≤ s.owner ∧ s.owner ≤ 1 ∧ s.mark < 0) ∨ (0 ≤ s.owner ∧ s.owner ≤ 1 ∧ 0 ≤ s.mark ∧ 63 < s.mark) ∨ (0 ≤ s.owner ∧ s.owner ≤ 1 ∧ 0 ≤ s.mark ∧ s.mark ≤ 63 ∧ s.chs.length < 1) ∨ (0 ≤ s.owner ∧ s.owner ≤ 1 ∧ 0 ≤ s.mark ∧ s.mark ≤ 63 ∧ 1 ≤ s.chs.length ∧ 8 < s.chs.length) := by omega
          clear hok
          rcases hok' with o1 | ⟨o1, o2⟩ | ⟨o1, o2, o3⟩ | ⟨o1, o2, o3, o4⟩ | ⟨o1, o2, o3, o4, o5⟩ | ⟨o1, o2, o3, o4, o5, o6⟩
          all_goals
            go_wp2
            go_ret
            exact ⟨ret_bool HF.out.symm, hBW1⟩
      · obtain rfl : j = m.length := by omega
        have HF := Lib.hid (show validB m = true by rw [HV.out, ← HA.out, List.take_length])
        clear hlt
        go_wp2
        go_ret
        exact ⟨ret_bool HF.out.symm, hBW⟩


/-- a rising list of states -/
def rising (n : Int) : Int → List Int → Bool
  | _, [] => true
  | last, s :: l => decide (last < s ∧ s < n) && rising n s l
def setB (m : List St) (l : List Int) : Bool := rising m.length (-1) l
theorem rising_drop (n last : Int) (l : List Int) (j : Nat) (b : Int) (h : l[j]? = some b) : rising n last (l.drop j) = (decide (last < b ∧ b < n) && rising n b (l.drop (j + 1))) := by
  obtain ⟨hj, rfl⟩ := List.getElem?_eq_some_iff.1 h
  rw [List.drop_eq_getElem_cons hj]
  rfl

theorem Set_calls (m : List St) (l : List Int) (v u : Value) (D : Nat → Prop) (w : World) (hD : Lo D w) (h : ModelC w D v m) (hl : Sl (Kind.int .i64) w D u l) :
    Calls Tryz.prog 114 #[v, u] w fun e w' => e = .returned (.bool (setB m l)) ∧ Below w.heap.size w w' := by
  obtain ⟨vm, rfl, h⟩ := h
  obtain ⟨A, c, rfl, h1, h2, -⟩ := h.form
  obtain ⟨B, d, rfl, l1, l2, hc⟩ := hl.ints
  unfold maxLen at h2 l2
  have HC := Lib.hid hc
  clear h hc hl
  go_enter Tryz.func114, Tryz.ntmps114
  go_wp2
  have hB0 := (Below.refl w.heap.size w).alloc (Nat.le_refl _) (.cells #[.slice A m.length c] 24)
  go_loopw [5, 10] (fun la k W => ∃ (j : Nat) (last : Int), j ≤ l.length ∧ la = .int .i64 last ∧ k = .int .i64 (j : Int) ∧ Hid (setB m l = rising m.length last (l.drop j)) ∧ W = w.alloc (.cells #[.slice A m.length c] 24)) (fun _ k _ => l.length - (intOf k).toNat)
  case atStart => exact ⟨0, -1, Nat.zero_le _, rfl, rfl, rfl, by trivial⟩
  case round =>
    obtain ⟨j, last, hj, rfl, rfl, HA, rfl⟩ := hrel
    by_cases hlt : j < l.length
    · obtain ⟨ad, rfl, hDa, hcell⟩ := HC.out (by omega)
      have q0 := (hB0.cell (p := ad.add j) (by rw [block_of_add]; exact hD _ hDa)).trans (hcell j hlt)
      have hs := Dig.gd_lt hlt
      have HS := Lib.hid (rising_drop m.length last l j _ hs)
      clear hcell hs
      generalize Dig.gd l j = s at *
      by_cases hok : last < s ∧ s < m.length
      · obtain ⟨o1, o2⟩ := hok
        go_wp2
        exact ⟨⟨j + 1, s, by omega, rfl, by go_num, (by rw [HA.out, HS.out, decide_eq_true ⟨o1, o2⟩]; rfl : setB m l = rising m.length s (l.drop (j + 1))), by trivial⟩, by simp [intOf]; omega⟩
      · have HF := Lib.hid (show setB m l = false by rw [HA.out, HS.out, decide_eq_false hok]; rfl)
        have hok' : s ≤ last ∨ (last < s ∧ m.length ≤ s) := by omega
        clear hok
        rcases hok' with o1 | ⟨o1, o2⟩
        all_goals
          go_wp2
          go_ret
          exact ⟨ret_bool HF.out.symm, hB0⟩
    · obtain rfl : j = l.length := by omega
      have HF := Lib.hid (show setB m l = true by rw [HA.out, List.drop_length]; rfl)
      clear hlt
      go_wp2
      go_ret
      exact ⟨ret_bool HF.out.symm, hB0⟩

end Go.Proofs.YtoffbdlgmnpblaaGreat
