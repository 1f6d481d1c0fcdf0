/- Part 20: Cut Few Trn Spl Cps Idn Trm. -/
import Derived.Test.YtoffbdlgmnpblaaGreatJ19
import Derived.Laws.OwnMore

/- Package graph: Cut. -/
namespace Go.Proofs.YtoffbdlgmnpblaaGreat
open Go.RowKit
set_option maxHeartbeats 4000000
set_option maxRecDepth 100000

theorem Sep.one {B : Nat} {W : World} {c : Cmp} (hP : c.P W) (hk : ∀ k, c.blk = some k → B ≤ k ∧ k < W.heap.size) : Sep B W [c] :=
  ⟨fun d hd => by rw [List.mem_singleton] at hd; subst hd; exact ⟨hP, hk⟩, List.pairwise_singleton _ _⟩
theorem Sep.none {B : Nat} {W : World} : Sep B W (stRow B (.slice none 0 0) [] :: stParts B []) := Sep.one (World.ownsRow_nil _ _ _ _) (fun k hk => by cases hk)
theorem Sep.joinM {B B' : Nat} {W : World} {sv : Value} {ss : List SO} {l1 : List Cmp} (h1 : Sep B W l1) (hlt : ∀ c ∈ l1, ∀ k, c.blk = some k → k < B') (h2 : Sep B' W (stRow B' sv ss :: stParts B' ss)) (hB : B ≤ B') : Sep B W (l1 ++ (stRow B sv ss :: stParts B ss)) := by
  have h3 := h2.lowerM hB
  refine ⟨fun c hc => ?_, List.pairwise_append.2 ⟨h1.apart, h3.apart, fun c hc d hd k hk e => ?_⟩⟩
  · rcases List.mem_append.1 hc with hc | hc
    · exact h1.all c hc
    · exact h3.all c hc
  · rw [← stItems_map] at hd h2
    obtain ⟨t, ht, rfl⟩ := List.mem_map.1 hd
    have := (h2.all _ (List.mem_map_of_mem ht)).2 k e
    have := hlt c hc k hk
    omega

/-- what the picking loop holds -/
abbrev CutL (w W : World) (rb hb ob : Nat) (ov : Value) (ps : List SO) (sv : Value) (ss : List SO) : Prop :=
  Sep w.heap.size W (boxC ob #[ov] 24 :: stRow w.heap.size ov ps :: boxC rb #[.slice none 0 0] 24 :: boxC hb #[sv] 24 :: stRow w.heap.size sv ss :: stParts w.heap.size ss)
theorem CutL.start {w w4 : World} {rb : Nat} {sv : Value} {ss : List SO} {B' : Nat} (hr : w4.heap[rb]? = some (.cells #[.slice none 0 0] 24 (0, 0))) (h0 : w.heap.size ≤ rb) (h1 : rb < B') (h2 : Sep B' w4 (stRow B' sv ss :: stParts B' ss)) (hB : w.heap.size ≤ B') (hB' : B' ≤ w4.heap.size) (z : Value) (hz : z = .slice none 0 0) :
    CutL w ((w4.alloc (.cells #[sv] 24)).alloc (.cells #[z] 24)) rb w4.heap.size (w4.heap.size + 1) (.slice none 0 0) [] sv ss := by
  subst hz
  have a1 : Sep w.heap.size w4 [boxC rb #[.slice none 0 0] 24] := Sep.one hr (fun k hk => by cases hk; omega)
  have a2 := a1.joinM (fun c hc k hk => by rw [List.mem_singleton] at hc; subst hc; cases hk; exact h1) h2 hB
  have a3 := a2.add (c := boxC w4.heap.size #[sv] 24) ((Below.refl _ w4).alloc (Nat.le_refl _) (.cells #[sv] 24)) (heap_alloc_new _ _) (fun k hk => by cases hk; simp) (by omega)
  have a4 := a3.perm (List.Perm.swap _ _ _)
  have hB1 : w.heap.size ≤ (w4.alloc (.cells #[sv] 24)).heap.size := by simp; omega
  have a5 := a4.add (c := stRow w.heap.size (.slice none 0 0) []) (Below.refl _ _) (World.ownsRow_nil _ _ _ _) (fun k hk => by cases hk) hB1
  exact a5.add (c := boxC (w4.heap.size + 1) #[.slice none 0 0] 24) ((Below.refl _ _).alloc (Nat.le_refl _) (.cells #[.slice none 0 0] 24)) (by
    have := heap_alloc_new (w4.alloc (.cells #[sv] 24)) (.cells #[.slice none 0 0] 24)
    rwa [World.size_alloc] at this) (fun k hk => by cases hk; simp) hB1

section
variable {w W : World} {rb hb ob : Nat} {ov sv : Value} {ps ss : List SO}
end
def SO.zero : SO := ⟨.slice none 0 0, 0, 0, []⟩
/-- what the turning loops hold -/
abbrev CutF (w W : World) (l : List Int) (rb ob : Nat) (ov : Value) (ps : List SO) (l1 l2 : List CO) : Prop :=
  Sep w.heap.size W ((boxC ob #[ov] 24 :: stRow w.heap.size ov ps :: boxC rb #[.slice none 0 0] 24 :: ps.map (chRow w.heap.size)) ++ ((l1.map (cutCO l)).map (brRow w.heap.size) ++ l2.map (brRow w.heap.size)))
abbrev CutG (w W : World) (l : List Int) (rb ob : Nat) (ov : Value) (ps : List SO) (l1 : List CO) (c : CO) (q : Nat) (l2 : List CO) : Prop :=
  Sep w.heap.size W ((boxC ob #[ov] 24 :: stRow w.heap.size ov ps :: boxC rb #[.slice none 0 0] 24 :: ps.map (chRow w.heap.size)) ++ ((l1.map (cutCO l)).map (brRow w.heap.size) ++ brRow w.heap.size (cutTo l q c) :: l2.map (brRow w.heap.size)))
theorem CutG.of {w W : World} {l : List Int} {rb ob : Nat} {ov : Value} {ps : List SO} {l1 l2 : List CO} {c : CO} (h : CutF w W l rb ob ov ps l1 (c :: l2)) : CutG w W l rb ob ov ps l1 c 0 l2 := h
theorem CutG.all {w W : World} {l : List Int} {rb ob : Nat} {ov : Value} {ps : List SO} {l1 l2 : List CO} {c : CO} (h : CutG w W l rb ob ov ps l1 c c.brs.length l2) : CutF w W l rb ob ov ps (l1 ++ [c]) l2 := by
  unfold CutF
  unfold CutG at h
  rw [cutTo_all] at h
  rw [List.map_append, List.map_append, List.append_assoc]
  exact h
theorem CutF.of {w W : World} {l : List Int} {rb hb ob : Nat} {ov sv : Value} {ps ss : List SO} (h : CutL w W rb hb ob ov ps sv ss) (hs : ps.Sublist ss) : CutF w W l rb ob ov ps [] (ps.flatMap (·.chs)) := by
  have h1 : Sep w.heap.size W (boxC ob #[ov] 24 :: stRow w.heap.size ov ps :: boxC rb #[.slice none 0 0] 24 :: stParts w.heap.size ps) := Sep.sub h (((((flat_sub _ hs).cons _).cons _).cons_cons _).cons_cons _ |>.cons_cons _)
  exact h1.perm (((stParts_perm _ ps).cons _).cons _ |>.cons _)
theorem CutF.done {w W : World} {l : List Int} {rb ob : Nat} {ov : Value} {ps : List SO} (h : CutF w W l rb ob ov ps (ps.flatMap (·.chs)) []) : Sep w.heap.size W (boxC ob #[ov] 24 :: stRow w.heap.size ov (ps.map (cutSO l)) :: boxC rb #[.slice none 0 0] 24 :: stParts w.heap.size (ps.map (cutSO l))) := by
  refine Sep.perm h ?_
  rw [stRow_cut]
  refine List.Perm.cons _ (List.Perm.cons _ (List.Perm.cons _ ?_))
  rw [List.map_nil, List.append_nil]
  exact (stParts_cut _ l ps).symm
end Go.Proofs.YtoffbdlgmnpblaaGreat

/- Reference: Few; the law's few. -/
namespace Go.Proofs.YtoffbdlgmnpblaaGreat
open Go.RowKit
set_option maxHeartbeats 4000000
set_option maxRecDepth 100000

def fewC (c : Ch) : Bool := decide (c.brs.length ≤ 10)
def fewS (s : St) : Bool := decide (s.chs.length ≤ 10) && s.chs.all fewC
/-- a small model -/
def fewB (m : List St) : Bool := decide (m.length ≤ 45) && m.all fewS

theorem Few_calls (m : List St) (v : Value) (D : Nat → Prop) (w : World) (hD : Lo D w) (h : ModelC w D v m) :
    Calls Tryz.prog 67 #[.int .i64 40, v] w fun e w' => e = .returned (.bool (fewB m)) ∧ Below w.heap.size w w' := by
  obtain ⟨u, rfl, h⟩ := h
  obtain ⟨A, c, rfl, h1, h2, -⟩ := h.form
  unfold maxLen at h2
  have H := Lib.hid h
  clear h
  by_cases hlen : 45 < m.length
  · have HV := Lib.hid (show fewB m = false by unfold fewB; rw [decide_eq_false (show ¬ (m.length ≤ 45) by omega)]; rfl)
    have d1 : decide ((40 : Int) < (m.length : Int)) = true := decide_eq_true (by omega)
    have d2 : decide ((m.length : Int) ≤ 40) = false := decide_eq_false (by omega)
    have d3 : decide ((45 : Int) < (m.length : Int)) = true := decide_eq_true (by omega)
    go_enter Tryz.func67, Tryz.ntmps67
    go_wp2
    go_ret
    exact ⟨ret_bool HV.out.symm, (Below.refl _ _).alloc (Nat.le_refl _) _⟩
  · have HV := Lib.hid (show fewB m = m.all fewS by unfold fewB; rw [decide_eq_true (show (m.length ≤ 45) by omega)]; rfl)
    have hl2 : m.length ≤ 45 := by omega
    have hB0 := (Below.refl w.heap.size w).alloc (Nat.le_refl _) (.cells #[.slice A m.length c] 24)
    have d3 : decide ((45 : Int) < (m.length : Int)) = false := decide_eq_false (by omega)
    clear hlen
    go_enter Tryz.func67, Tryz.ntmps67
    go_upto_region 1 with fail
    go_cut [25] from 9 to 25 (fun b wx => b = .bool false ∧ wx = w.alloc (.cells #[.slice A m.length c] 24))
    case first =>
      by_cases h40 : 40 < m.length
      · have d1 : decide ((40 : Int) < (m.length : Int)) = true := decide_eq_true (by omega)
        have d2 : decide ((m.length : Int) ≤ 40) = false := decide_eq_false (by omega)
        go_wp2_with fail
        go_meet
        exact ⟨rfl, rfl⟩
      · have d1 : decide ((40 : Int) < (m.length : Int)) = false := decide_eq_false (by omega)
        go_wp2_with fail
        go_meet
        exact ⟨rfl, rfl⟩
    case rest =>
      obtain ⟨rfl, rfl⟩ := hcut
      go_wp2
      go_loopw [29] (fun k W => ∃ (j : Nat), j ≤ m.length ∧ k = .int .i64 (j : Int) ∧ Hid ((m.take j).all fewS = true) ∧ Below w.heap.size w W) (fun k _ => m.length - (intOf k).toNat)
      case atStart => exact ⟨0, Nat.zero_le _, rfl, rfl, hB0⟩
      case round =>
        obtain ⟨j, hj, rfl, HA, hBW⟩ := hrel
        by_cases hlt : j < m.length
        · obtain ⟨s, hs⟩ : ∃ s, m[j]? = some s := ⟨_, List.getElem?_eq_getElem hlt⟩
          obtain ⟨ad, B, p, d, rfl, hDa, q0, q1, q2, hsc⟩ := H.out.st_up hD hBW j s hs
          obtain ⟨rfl, hp1, hp2⟩ := hsc.len
          unfold maxLen at hp2
          have HS := Lib.hid hs
          have HC := Lib.hid hsc
          clear hs hsc
          have hBW1 : Below w.heap.size w (wr.alloc (.cells #[.int .i64 s.owner, .int .i64 s.mark, .slice B s.chs.length d] 79)) := hBW.alloc hBW.size _
          by_cases hok : s.chs.length ≤ 10
          · have HOK := Lib.hid (show fewS s = s.chs.all fewC by unfold fewS; rw [decide_eq_true hok]; rfl)
            go_wp2
            go_loopw [40] (fun k W => ∃ (i : Nat), i ≤ s.chs.length ∧ k = .int .i64 (i : Int) ∧ Hid ((s.chs.take i).all fewC = true) ∧ Below w.heap.size w W) (fun k _ => s.chs.length - (intOf k).toNat)
            case atStart => exact ⟨0, Nat.zero_le _, rfl, rfl, hBW1⟩
            case round =>
              obtain ⟨i, hi, rfl, HA2, hBW2⟩ := hrel
              by_cases hlt2 : i < s.chs.length
              · obtain ⟨x, hx⟩ : ∃ x, s.chs[i]? = some x := ⟨_, List.getElem?_eq_getElem hlt2⟩
                have HX := Lib.hid hx
                obtain ⟨ad2, B2, p2, d2, rfl, hDa2, r0, r1, r2, hxc⟩ := HC.out.ch_up hD hBW2 i x hx
                obtain ⟨rfl, hx1, hx2⟩ := hxc.len
                unfold maxLen at hx2
                have hBW3 : Below w.heap.size w (wr.alloc (.cells #[.int .i64 x.rw.top, .int .i64 x.rw.low, .slice B2 x.brs.length d2] 97)) := hBW2.alloc hBW2.size _
                clear hx hxc
                by_cases hv : x.brs.length ≤ 10
                · have HF := Lib.hid (all_take fewC _ _ _ HX.out HA2.out (decide_eq_true hv))
                  go_wp2
                  exact ⟨⟨i + 1, by omega, by go_num, HF, hBW3⟩, by simp [intOf]; omega⟩
                · have HF := Lib.hid (show fewB m = false by rw [HV.out]; exact all_no _ _ _ _ HS.out (by rw [HOK.out]; exact all_no fewC _ _ _ HX.out (decide_eq_false hv)))
                  go_wp2
                  go_ret
                  exact ⟨ret_bool HF.out.symm, hBW3⟩
              · obtain rfl : i = s.chs.length := by omega
                have HF := Lib.hid (all_take fewS _ _ _ HS.out HA.out (by rw [HOK.out]; have := HA2.out; rwa [List.take_length] at this))
                clear hlt2
                go_wp2
                exact ⟨⟨j + 1, by omega, by go_num, HF, hBW2⟩, by simp [intOf]; omega⟩
          · have HF := Lib.hid (show fewB m = false by rw [HV.out]; exact all_no _ _ _ _ HS.out (by unfold fewS; rw [decide_eq_false hok]; rfl))
            go_wp2
            go_ret
            exact ⟨ret_bool HF.out.symm, hBW1⟩
        · obtain rfl : j = m.length := by omega
          have HF := Lib.hid (show fewB m = true by rw [HV.out, ← HA.out, List.take_length])
          clear hlt
          go_wp2
          go_ret
          exact ⟨ret_bool HF.out.symm, hBW⟩

def few5 (m : List St) (l : List Int) : Bool := fewB m && decide (l.length ≤ 60)
end Go.Proofs.YtoffbdlgmnpblaaGreat

/- Numbers of a set of blocks are turned; the law's spoil. -/
namespace Go.Proofs.YtoffbdlgmnpblaaGreat
open Go.RowKit
set_option maxHeartbeats 4000000
set_option maxRecDepth 100000

/-- only numbers in the named blocks have turned -/
structure Turned (D : Nat → Prop) (w w' : World) : Prop where
  os : w'.os = w.os
  tape : w'.tape = w.tape
  output : w'.output = w.output
  size : w'.heap.size = w.heap.size
  out : ∀ b, ¬ D b → w'.heap[b]? = w.heap[b]?
  cell : ∀ p : Addr, w'.cell? p = w.cell? p ∨ ∃ x y, w.cell? p = some (.int .i64 x) ∧ w'.cell? p = some (.int .i64 y)
  frozen : ∀ p : Addr, w'.frozen? p = w.frozen? p
theorem Turned.refl (D : Nat → Prop) (w : World) : Turned D w w := ⟨rfl, rfl, rfl, rfl, fun _ _ => rfl, fun _ => .inl rfl, fun _ => rfl⟩
theorem Turned.trans {D : Nat → Prop} {a b c : World} (h : Turned D a b) (k : Turned D b c) : Turned D a c where
  os := k.os.trans h.os
  tape := k.tape.trans h.tape
  output := k.output.trans h.output
  size := k.size.trans h.size
  out b hb := (k.out b hb).trans (h.out b hb)
  cell p := by
    rcases k.cell p with hk | ⟨x, y, h1, h2⟩
    · rw [hk]; exact h.cell p
    · rcases h.cell p with hh | ⟨x', y', h3, h4⟩
      · exact .inr ⟨x, y, by rw [← hh]; exact h1, h2⟩
      · exact .inr ⟨x', y, h3, h2⟩
  frozen p := (k.frozen p).trans (h.frozen p)
theorem Turned.mono {D D' : Nat → Prop} {a b : World} (h : Turned D a b) (hD : ∀ k, D k → D' k) : Turned D' a b := ⟨h.os, h.tape, h.output, h.size, fun b hb => h.out b fun e => hb (hD b e), h.cell, h.frozen⟩
theorem Turned.set {D : Nat → Prop} {w : World} {p : Addr} {x : Int} (hc : w.cell? p = some (.int .i64 x)) (hp : D p.block) (y : Int) : Turned D w (w.setCell p (.int .i64 y)) where
  os := rfl
  tape := rfl
  output := rfl
  size := by simp [World.setCell]
  out b hb := Below.heap_setCell _ _ _ _ (fun e => hb (e ▸ hp))
  cell q := by
    by_cases h : p = q
    · subst h; exact .inr ⟨x, y, hc, World.cell?_setCell_same _ _ _ hc⟩
    · exact .inl (World.cell?_setCell_other _ _ _ _ h)
  frozen q := World.frozen?_setCell _ _ _ _
theorem Turned.below {D : Nat → Prop} {w w' : World} {B : Nat} (h : Turned D w w') (hD : ∀ k, D k → B ≤ k) : Below B w w' :=
  ⟨h.os, h.tape, h.output, Nat.le_of_eq h.size.symm, fun k hk => h.out k fun e => by have := hD k e; omega⟩
theorem Turned.soft {D : Nat → Prop} {w w' : World} (h : Turned D w w') {k : Nat} (hs : Soft w k) : Soft w' k := fun o => (h.frozen _).trans (hs o)
theorem Soft.at {w : World} {p : Addr} (h : Soft w p.block) : w.frozen? p = false := h p.off

/-- numbers still read as numbers -/
theorem Sl.turned {w w' : World} {D D' : Nat → Prop} {v : Value} {xs : List Int} (h : Sl (Kind.int .i64) w D v xs) (ht : Turned D' w w') : ∃ xs' : List Int, xs'.length = xs.length ∧ Sl (Kind.int .i64) w' D v xs' := by
  obtain ⟨A, c, rfl, h1, h2, h3⟩ := h.ints
  by_cases hp : 0 < xs.length
  · obtain ⟨ad, rfl, hd, hc⟩ := h3 hp
    have hex : ∀ i, i < xs.length → ∃ y, w'.cell? (ad.add i) = some (.int .i64 y) := fun i hi => by
      rcases ht.cell (ad.add i) with e | ⟨x, y, -, e⟩
      · exact ⟨_, e.trans (hc i hi)⟩
      · exact ⟨y, e⟩
    let f : Nat → Int := fun i => match w'.cell? (ad.add i) with
      | some (.int _ y) => y
      | _ => 0
    have hf : ∀ i, i < xs.length → w'.cell? (ad.add i) = some (.int .i64 (f i)) := fun i hi => by
      obtain ⟨y, hy⟩ := hex i hi
      have : f i = y := by simp only [f, hy]
      rw [this]; exact hy
    obtain ⟨ys, hys⟩ : ∃ ys : List Int, ys = (List.range xs.length).map f := ⟨_, rfl⟩
    have hl : ys.length = xs.length := by rw [hys]; simp
    refine ⟨ys, hl, ?_⟩
    rw [← hl]
    refine Sl.of_ints (by rw [hl]; exact h1) h2 fun _ => ⟨ad, rfl, hd, fun i hi => ?_⟩
    rw [hl] at hi
    have : Dig.gd ys i = f i := by rw [hys]; simp [Dig.gd, hi]
    rw [this]
    exact hf i hi
  · have : xs = [] := List.eq_nil_of_length_eq_zero (by omega)
    subst this
    exact ⟨[], rfl, ⟨A, c, rfl, h1, h2, fun i x hx => by simp at hx⟩⟩

/-- rows of numbers still read as rows of numbers -/
theorem Rows2.turned {w w' : World} {D D' : Nat → Prop} {v : Value} {xss : List (List Int)} (h : Rows2 w D v xss) (ht : Turned D' w w') : ∃ xss' : List (List Int), xss'.length = xss.length ∧ (∀ (i : Nat) (xs : List Int), xss[i]? = some xs → ∃ xs' : List Int, xss'[i]? = some xs' ∧ xs'.length = xs.length) ∧ Rows2 w' D v xss' := by
  obtain ⟨A, c, rfl, h1, h2, h3⟩ := h
  have hrow : ∀ i, i < xss.length → ∃ xs' : List Int, ∀ xs, xss[i]? = some xs → xs'.length = xs.length ∧ ∃ ad u, A = some ad ∧ D ad.block ∧ w'.cell? ((ad.add (i * 1)).add 0) = some u ∧ Sl (Kind.int .i64) w' D u xs' := by
    intro i hi
    obtain ⟨ad, cs, e, hd, ⟨u, rfl, hu⟩, hat⟩ := h3 i xss[i] (List.getElem?_eq_getElem hi)
    obtain ⟨xs', hl, hs⟩ := hu.turned ht
    refine ⟨xs', fun xs hx => ?_⟩
    rw [List.getElem?_eq_getElem hi] at hx
    injection hx with hx
    subst hx
    refine ⟨hl, ad, u, e, hd, ?_, hs⟩
    have hc := hat 0 u rfl
    obtain ⟨A', n', c', rfl, -⟩ : ∃ A' n' c', u = .slice A' n' c' ∧ True := by
      obtain ⟨A', c', e', -, -, -⟩ := hu.form
      exact ⟨A', _, c', e', trivial⟩
    rcases ht.cell ((ad.add (i * 1)).add 0) with e' | ⟨x, y, e', -⟩
    · exact e'.trans hc
    · rw [show (Kind.slice (Kind.int IntKind.i64)).sz = 1 from rfl] at hc
      rw [hc] at e'
      cases e'
  let f : Nat → List Int := fun i => if hi : i < xss.length then Classical.choose (hrow i hi) else []
  have hf : ∀ i xs, xss[i]? = some xs → (f i).length = xs.length ∧ ∃ ad u, A = some ad ∧ D ad.block ∧ w'.cell? ((ad.add (i * 1)).add 0) = some u ∧ Sl (Kind.int .i64) w' D u (f i) := by
    intro i xs hx
    have hi := (List.getElem?_eq_some_iff.1 hx).1
    have := Classical.choose_spec (hrow i hi) xs hx
    simp only [f, dif_pos hi]
    exact this
  have hg : ∀ i, i < xss.length → ((List.range xss.length).map f)[i]? = some (f i) := fun i hi => by simp [hi]
  refine ⟨(List.range xss.length).map f, by simp, fun i xs hx => ⟨f i, hg i (List.getElem?_eq_some_iff.1 hx).1, (hf i xs hx).1⟩, A, c, by simp, by simpa using h1, h2, fun i y hy => ?_⟩
  have hi : i < xss.length := by have := (List.getElem?_eq_some_iff.1 hy).1; simpa using this
  rw [hg i hi] at hy
  injection hy with hy
  subst hy
  obtain ⟨-, ad, u, e, hd, hc, hs⟩ := hf i xss[i] (List.getElem?_eq_getElem hi)
  refine ⟨ad, [u], e, hd, ⟨u, rfl, hs⟩, fun j z hj => ?_⟩
  cases j with
  | zero => simp at hj; subst hj; exact hc
  | succ j => simp at hj

end Go.Proofs.YtoffbdlgmnpblaaGreat

/- The law's spoil. -/
namespace Go.Proofs.YtoffbdlgmnpblaaGreat
open Go.RowKit
set_option maxHeartbeats 4000000
set_option maxRecDepth 100000

theorem Rows2.at' {w : World} {D : Nat → Prop} {A : Option Addr} {n c : Nat} {xss : List (List Int)} (h : Rows2 w D (.slice A n c) xss) (i : Nat) (xs : List Int) (hx : xss[i]? = some xs) : ∃ ad u, A = some ad ∧ D ad.block ∧ w.cell? (ad.add i) = some u ∧ Sl (Kind.int .i64) w D u xs := by
  obtain ⟨A', c', e, h1, h2, h3⟩ := h
  injection e with e1 e2 e3
  subst e1
  obtain ⟨ad, cs, e, hd, ⟨u, rfl, hu⟩, hat⟩ := h3 i xs hx
  have hc := hat 0 u rfl
  rw [add_of_add, show i * (Kind.slice (Kind.int IntKind.i64)).sz + 0 = i from by show i * 1 + 0 = i; omega] at hc
  exact ⟨ad, u, e, hd, hc, hu⟩

end Go.Proofs.YtoffbdlgmnpblaaGreat

/- The law's copies. -/
namespace Go.Proofs.YtoffbdlgmnpblaaGreat
open Go.RowKit
set_option maxHeartbeats 4000000
set_option maxRecDepth 100000

theorem run_append_none {P : Program} {w : World} (base : Nat) (t ty e : TypeId) (i : TypeInfo) (size : Nat) (ht : P.underlying t = some (.slice e)) (hi : P.info? e = some i)
    (v : Value) (n : Nat) (xs : List Value) (hown : w.ownsRow base e size v n xs) (c : Nat) :
    (Builtin.append_ #[t, t] ty #[v, .slice none 0 c]).run P w = .ok v w := by
  rcases hown.2 with ⟨rfl, rfl⟩ | ⟨g, cap, cur, rfl, _, _, hnc, _⟩
  · simp [Builtin.append_, run_underlying ht, sizeOf, typeInfo, hi, Builtin.lenOf, Builtin.firstCells]
  · simp [Builtin.append_, run_underlying ht, sizeOf, typeInfo, hi, Builtin.lenOf, Builtin.firstCells, hnc, storeCells]

theorem RowsC.snoc {W w3 w5 : World} {B : Nat} {v v3 v5 : Value} {ps : List (Value × List Int)} {xs : List Int} {ob : Obj} (h : RowsC W B v ps) (_hB : B ≤ W.heap.size) (hb : Below W.heap.size W w3)
    (ho3 : w3.ownsRow B 3 1 v3 xs.length (ints xs)) (hk3 : ∀ k, v3.ownBlock = some k → W.heap.size ≤ k)
    (hg5 : (w3.alloc ob).grownBy w5 v.ownBlock) (ho5 : w5.ownsRow B 31 1 v5 (ps.length + 1) (ps.map (·.1) ++ [v3])) (ha5 : v5.ownBlock = v.ownBlock ∨ v5.ownBlock = some (w3.alloc ob).heap.size) :
    RowsC w5 B v5 (ps ++ [(v3, xs)]) := by
  have hs3 := hb.size
  have hz : (w3.alloc ob).heap.size = w3.heap.size + 1 := by simp
  refine ⟨by rw [List.length_append, List.map_append]; exact ho5, fun p hp => ?_⟩
  rcases List.mem_append.1 hp with hp | hp
  · obtain ⟨h1, h2⟩ := h.row p hp
    refine ⟨own_kept h1 fun k hk => ?_, fun k hk e => ?_⟩
    · have hlt := (h1.lt k hk).2
      rw [hg5.block k (by omega) (fun e => h2 k hk e.symm), heap_alloc_old _ _ (by omega)]
      exact hb.block k hlt
    · have hlt := (h1.lt k hk).2
      rcases ha5 with ha | ha
      · exact h2 k hk (ha ▸ e)
      · rw [ha] at e; injection e with e; omega
  · rw [List.mem_singleton] at hp
    subst hp
    refine ⟨own_kept ho3 fun k hk => ?_, fun k hk e => ?_⟩
    · have hlt := (ho3.lt k hk).2
      have hge := hk3 k hk
      rw [hg5.block k (by omega) (fun e => by have := (h.own.lt k e.symm).2; omega), heap_alloc_old _ _ hlt]
    · have hlt := (ho3.lt k hk).2
      have hge := hk3 k hk
      rcases ha5 with ha | ha
      · rw [ha] at e; have := (h.own.lt k e).2; omega
      · rw [ha] at e; injection e with e; omega

end Go.Proofs.YtoffbdlgmnpblaaGreat

/- Reference: Identical, of two readings of one model. -/
namespace Go.Proofs.YtoffbdlgmnpblaaGreat
open Go.RowKit
set_option maxHeartbeats 4000000
set_option maxRecDepth 100000

theorem box2 (w : World) (x y : Obj) : ((w.alloc x).alloc y).heap[w.heap.size]? = some x ∧ ((w.alloc x).alloc y).heap[w.heap.size + 1]? = some y ∧ ((w.alloc x).alloc y).heap.size = w.heap.size + 2 := by
  refine ⟨(heap_alloc_old _ _ (by simp)).trans (heap_alloc_new _ _), ?_, by simp⟩
  have := heap_alloc_new (w.alloc x) y
  rwa [World.size_alloc] at this

theorem Identical_calls (m : List St) (v v' : Value) (D : Nat → Prop) (w : World) (hD : Lo D w) (h : ModelC w D v m) (h' : ModelC w D v' m) :
    Calls Tryz.prog 40 #[v, v'] w fun e w' => e = .returned (.bool true) ∧ Below w.heap.size w w' := by
  obtain ⟨u, rfl, h⟩ := h
  obtain ⟨A, c, rfl, h1, h2, -⟩ := h.form
  obtain ⟨u', rfl, h'⟩ := h'
  obtain ⟨A', c', rfl, h1', h2', -⟩ := h'.form
  unfold maxLen at h2 h2'
  have H := Lib.hid h
  have H' := Lib.hid h'
  clear h h'
  have hB0 := ((Below.refl w.heap.size w).alloc (Nat.le_refl _) (.cells #[.slice A m.length c] 24)).alloc (by simp) (.cells #[.slice A' m.length c'] 24)
  have HBX := Lib.hid (box2 w (.cells #[.slice A m.length c] 24) (.cells #[.slice A' m.length c'] 24))
  go_enter Tryz.func40, Tryz.ntmps40
  go_wp2
  generalize (w.alloc (.cells #[.slice A m.length c] 24)).alloc (.cells #[.slice A' m.length c'] 24) = W0 at *
  go_loopw [23] (fun k W => ∃ (j : Nat), j ≤ m.length ∧ k = .int .i64 (j : Int) ∧ Below W0.heap.size W0 W) (fun k _ => m.length - (intOf k).toNat)
  case atStart => exact ⟨0, Nat.zero_le _, rfl, Below.refl _ _⟩
  case round =>
    obtain ⟨j, hj, rfl, hBW0⟩ := hrel
    obtain ⟨wi, rfl⟩ : ∃ wi : World, wi = wr := ⟨_, rfl⟩
    have hBW : Below w.heap.size w wi := hB0.trans (hBW0.mono hB0.size)
    by_cases hlt : j < m.length
    · obtain ⟨s, hs⟩ : ∃ s, m[j]? = some s := ⟨_, List.getElem?_eq_getElem hlt⟩
      obtain ⟨ad, B, p, d, rfl, hDa, q0, q1, q2, hsc⟩ := H.out.st_up hD hBW j s hs
      obtain ⟨ad', B', p', d', rfl, hDa', q0', q1', q2', hsc'⟩ := H'.out.st_up hD hBW j s hs
      obtain ⟨rfl, hp1, hp2⟩ := hsc.len
      obtain ⟨rfl, hp1', hp2'⟩ := hsc'.len
      unfold maxLen at hp2 hp2'
      have HC := Lib.hid hsc
      have HC' := Lib.hid hsc'
      have b3 := (cells_of ((hBW0.block (w.heap.size + 1) (by have := HBX.out.2.2; omega)).trans HBX.out.2.1) 0).1
      have hz0 : w.heap.size + 1 < wi.heap.size := by have := HBX.out.2.2; have := hBW0.size; omega
      have hBW1 : Below w.heap.size w ((wi.alloc (.cells #[.int .i64 s.owner, .int .i64 s.mark, .slice B s.chs.length d] 79)).alloc (.cells #[.int .i64 s.owner, .int .i64 s.mark, .slice B' s.chs.length d'] 79)) := (hBW.alloc hBW.size _).alloc (by have := hBW.size; simp; omega) _
      have HB01 := Lib.hid ((hBW0.alloc hBW0.size (.cells #[.int .i64 s.owner, .int .i64 s.mark, .slice B s.chs.length d] 79)).alloc (by have := hBW0.size; simp; omega) (.cells #[.int .i64 s.owner, .int .i64 s.mark, .slice B' s.chs.length d'] 79))
      have HS2 := Lib.hid (box2 wi (.cells #[.int .i64 s.owner, .int .i64 s.mark, .slice B s.chs.length d] 79) (.cells #[.int .i64 s.owner, .int .i64 s.mark, .slice B' s.chs.length d'] 79))
      have hbl : (ad'.add (j * 3)).block < wi.heap.size := by rw [block_of_add]; have := hD _ hDa'; have := hBW.size; omega
      clear hs hsc hsc'
      go_wp2
      generalize (wi.alloc (.cells #[.int .i64 s.owner, .int .i64 s.mark, .slice B s.chs.length d] 79)).alloc (.cells #[.int .i64 s.owner, .int .i64 s.mark, .slice B' s.chs.length d'] 79) = W1 at *
      go_loopw [57] (fun k W => ∃ (i : Nat), i ≤ s.chs.length ∧ k = .int .i64 (i : Int) ∧ Below W1.heap.size W1 W) (fun k _ => s.chs.length - (intOf k).toNat)
      case atStart => exact ⟨0, Nat.zero_le _, rfl, Below.refl _ _⟩
      case round =>
        obtain ⟨i, hi, rfl, hBWi⟩ := hrel
        obtain ⟨wj, rfl⟩ : ∃ wj : World, wj = wr := ⟨_, rfl⟩
        have hBW2 : Below w.heap.size w wj := hBW1.trans (hBWi.mono hBW1.size)
        have HB02 := Lib.hid (HB01.out.trans (hBWi.mono HB01.out.size))
        clear q0 q1 q2 q0' q1' q2' b3 hbl
        by_cases hlt2 : i < s.chs.length
        · obtain ⟨x, hx⟩ : ∃ x, s.chs[i]? = some x := ⟨_, List.getElem?_eq_getElem hlt2⟩
          obtain ⟨ad2, B2, p2, d2, rfl, hDa2, r0, r1, r2, hxc⟩ := HC.out.ch_up hD hBW2 i x hx
          obtain ⟨ad2', B2', p2', d2', rfl, hDa2', r0', r1', r2', hxc'⟩ := HC'.out.ch_up hD hBW2 i x hx
          obtain ⟨rfl, hx1, hx2⟩ := hxc.len
          obtain ⟨rfl, hx1', hx2'⟩ := hxc'.len
          unfold maxLen at hx2 hx2'
          have HX := Lib.hid hxc
          have HX' := Lib.hid hxc'
          have b7 := (cells_of ((hBWi.block (wi.heap.size + 1) (by have := HS2.out.2.2; omega)).trans HS2.out.2.1) 2).1
          have hz1 : wi.heap.size + 1 < wj.heap.size := by have := HS2.out.2.2; have := hBWi.size; omega
          have hbl2 : (ad2'.add (i * 3)).block < wj.heap.size := by rw [block_of_add]; have := hD _ hDa2'; have := hBW2.size; omega
          have hBW3 : Below w.heap.size w ((wj.alloc (.cells #[.int .i64 x.rw.top, .int .i64 x.rw.low, .slice B2 x.brs.length d2] 97)).alloc (.cells #[.int .i64 x.rw.top, .int .i64 x.rw.low, .slice B2' x.brs.length d2'] 97)) := (hBW2.alloc hBW2.size _).alloc (by have := hBW2.size; simp; omega) _
          have HBi3 := Lib.hid ((hBWi.alloc hBWi.size (.cells #[.int .i64 x.rw.top, .int .i64 x.rw.low, .slice B2 x.brs.length d2] 97)).alloc (by have := hBWi.size; simp; omega) (.cells #[.int .i64 x.rw.top, .int .i64 x.rw.low, .slice B2' x.brs.length d2'] 97))
          have HS3 := Lib.hid (box2 wj (.cells #[.int .i64 x.rw.top, .int .i64 x.rw.low, .slice B2 x.brs.length d2] 97) (.cells #[.int .i64 x.rw.top, .int .i64 x.rw.low, .slice B2' x.brs.length d2'] 97))
          clear hx hxc hxc'
          go_wp2
          generalize (wj.alloc (.cells #[.int .i64 x.rw.top, .int .i64 x.rw.low, .slice B2 x.brs.length d2] 97)).alloc (.cells #[.int .i64 x.rw.top, .int .i64 x.rw.low, .slice B2' x.brs.length d2'] 97) = W2 at *
          go_loopw [84] (fun k W => ∃ (q : Nat), q ≤ x.brs.length ∧ k = .int .i64 (q : Int) ∧ Below W2.heap.size W2 W) (fun k _ => x.brs.length - (intOf k).toNat)
          case atStart => exact ⟨0, Nat.zero_le _, rfl, Below.refl _ _⟩
          case round =>
            obtain ⟨q, hq, rfl, hBWq⟩ := hrel
            have hBW4 : Below w.heap.size w wr := hBW3.trans (hBWq.mono hBW3.size)
            have HBi4 := Lib.hid (HBi3.out.trans (hBWq.mono HBi3.out.size))
            clear r0 r1 r2 r0' r1' r2' b7 hbl2
            by_cases hlt3 : q < x.brs.length
            · obtain ⟨b, hb⟩ : ∃ b, x.brs[q]? = some b := ⟨_, List.getElem?_eq_getElem hlt3⟩
              obtain ⟨ad3, rfl, hDa3, t0, t1, t2⟩ := HX.out.br_up hD hBW4 q b hb
              obtain ⟨ad3', rfl, hDa3', t0', t1', t2'⟩ := HX'.out.br_up hD hBW4 q b hb
              have b9 := (cells_of ((hBWq.block (wj.heap.size + 1) (by have := HS3.out.2.2; omega)).trans HS3.out.2.1) 2).1
              have hz2 : wj.heap.size + 1 < wr.heap.size := by have := HS3.out.2.2; have := hBWq.size; omega
              have hbl3 : (ad3'.add (q * 3)).block < wr.heap.size := by rw [block_of_add]; have := hD _ hDa3'; have := hBW4.size; omega
              have HBq5 := Lib.hid (hBWq.alloc hBWq.size (.cells #[.int .i64 b.to, .int .i64 b.ch.top, .int .i64 b.ch.low] 103))
              clear hb
              go_wp2_with fail
              go_quiet (fail)
              revert nq; intro n1
              have HBq6 := Lib.hid (show Below W2.heap.size W2 ((wr.alloc (.cells #[.int .i64 b.to, .int .i64 b.ch.top, .int .i64 b.ch.low] 103)).drewN n1) from ⟨HBq5.out.os, HBq5.out.tape, HBq5.out.output, HBq5.out.size, HBq5.out.block⟩)
              go_wp2
              exact ⟨⟨q + 1, by omega, by go_num, HBq6.out⟩, by simp [intOf]; omega⟩
            · obtain rfl : q = x.brs.length := by omega
              clear hlt3
              go_wp2
              exact ⟨⟨i + 1, by omega, by go_num, HBi4.out⟩, by simp [intOf]; omega⟩
        · obtain rfl : i = s.chs.length := by omega
          clear hlt2
          go_wp2
          exact ⟨⟨j + 1, by omega, by go_num, HB02.out⟩, by simp [intOf]; omega⟩
    · obtain rfl : j = m.length := by omega
      clear hlt
      go_wp2
      go_ret
      exact ⟨rfl, hBW⟩

end Go.Proofs.YtoffbdlgmnpblaaGreat

/- Models whose numbers have turned still read as models. -/
namespace Go.Proofs.YtoffbdlgmnpblaaGreat
open Go.RowKit
set_option maxHeartbeats 4000000
set_option maxRecDepth 100000

/-- a kind that still reads after numbers have turned -/
def Kind.Firm {α : Type} (K : Kind α) : Prop := ∀ {w w' : World} {D D' : Nat → Prop} {cs : List Value} {x : α} {ad : Addr}, Turned D' w w' → At w ad cs → K.R w D cs x → ∃ cs' x', At w' ad cs' ∧ K.R w' D cs' x'
theorem Sl.firm {α : Type} {K : Kind α} (hK : K.Firm) {w w' : World} {D D' : Nat → Prop} {v : Value} {xs : List α} (h : Sl K w D v xs) (ht : Turned D' w w') : ∃ xs' : List α, Sl K w' D v xs' ∧ xs'.length = xs.length := by
  obtain ⟨A, c, rfl, h1, h2, h3⟩ := h
  have hrow : ∀ i : Nat, i < xs.length → ∃ x' : α, ∃ ad cs, A = some ad ∧ D ad.block ∧ K.R w' D cs x' ∧ At w' (ad.add (i * K.sz)) cs := by
    intro i hi
    obtain ⟨ad, cs, e, hd, hr, hat⟩ := h3 i xs[i] (List.getElem?_eq_getElem hi)
    obtain ⟨cs', x', h4, h5⟩ := hK ht hat hr
    exact ⟨x', ad, cs', e, hd, h5, h4⟩
  have hne : ∀ i : Nat, i < xs.length → Nonempty α := fun i hi => ⟨xs[i]⟩
  refine ⟨(List.finRange xs.length).map fun i => Classical.choose (hrow i.1 i.2), ⟨A, c, by simp, by simpa using h1, h2, fun i y hy => ?_⟩, by simp⟩
  rw [List.getElem?_map] at hy
  obtain ⟨z, hz, rfl⟩ := Option.map_eq_some_iff.1 hy
  have hi : i < xs.length := by have := (List.getElem?_eq_some_iff.1 hz).1; simpa using this
  have hzi : z = ⟨i, hi⟩ := by
    obtain ⟨hh, rfl⟩ := List.getElem?_eq_some_iff.1 hz
    simp
  subst hzi
  exact Classical.choose_spec (hrow i hi)
theorem at_turn {w w' : World} {D' : Nat → Prop} {ad : Addr} {u : Value} (ht : Turned D' w w') (h : w.cell? ad = some u) : w'.cell? ad = some u ∨ ∃ y, w'.cell? ad = some (.int .i64 y) := by
  rcases ht.cell ad with e | ⟨x, y, -, e⟩
  · exact .inl (e.trans h)
  · exact .inr ⟨y, e⟩
theorem int_turn {w w' : World} {D' : Nat → Prop} {ad : Addr} {x : Int} (ht : Turned D' w w') (h : w.cell? ad = some (.int .i64 x)) : ∃ y, w'.cell? ad = some (.int .i64 y) := by
  rcases at_turn ht h with e | e
  · exact ⟨x, e⟩
  · exact e
theorem slice_turn {w w' : World} {D' : Nat → Prop} {ad : Addr} {A : Option Addr} {n c : Nat} (ht : Turned D' w w') (h : w.cell? ad = some (.slice A n c)) : w'.cell? ad = some (.slice A n c) := by
  rcases ht.cell ad with e | ⟨x, y, e, -⟩
  · exact e.trans h
  · rw [h] at e; cases e
theorem at_cons3 {w : World} {ad : Addr} {a b c : Value} (h0 : w.cell? (ad.add 0) = some a) (h1 : w.cell? (ad.add 1) = some b) (h2 : w.cell? (ad.add 2) = some c) : At w ad [a, b, c] := by
  intro j u hj
  match j, hj with
  | 0, hj => simp at hj; subst hj; exact h0
  | 1, hj => simp at hj; subst hj; exact h1
  | 2, hj => simp at hj; subst hj; exact h2
  | j + 3, hj => simp at hj
theorem br_firm : Kind.br.Firm := by
  intro w w' D D' cs x ad ht hat hr
  have hr : cs = [.int .i64 x.to, .int .i64 x.ch.top, .int .i64 x.ch.low] := hr
  subst hr
  obtain ⟨a, ha⟩ := int_turn ht (hat 0 _ rfl)
  obtain ⟨b, hb⟩ := int_turn ht (hat 1 _ rfl)
  obtain ⟨c, hc⟩ := int_turn ht (hat 2 _ rfl)
  exact ⟨_, ⟨a, ⟨b, c⟩⟩, at_cons3 ha hb hc, rfl⟩
theorem ch_firm : Kind.ch.Firm := by
  intro w w' D D' cs x ad ht hat hr
  obtain ⟨v, rfl, hv⟩ := hr
  obtain ⟨A, c, rfl, -, -, -⟩ := hv.form
  obtain ⟨xs', hs, -⟩ := hv.firm br_firm ht
  obtain ⟨a, ha⟩ := int_turn ht (hat 0 _ rfl)
  obtain ⟨b, hb⟩ := int_turn ht (hat 1 _ rfl)
  have hc := slice_turn ht (hat 2 _ rfl)
  exact ⟨_, ⟨⟨a, b⟩, xs'⟩, at_cons3 ha hb hc, ⟨_, rfl, hs⟩⟩
theorem st_firm : Kind.st.Firm := by
  intro w w' D D' cs x ad ht hat hr
  obtain ⟨v, rfl, hv⟩ := hr
  obtain ⟨A, c, rfl, -, -, -⟩ := hv.form
  obtain ⟨xs', hs, -⟩ := hv.firm ch_firm ht
  obtain ⟨a, ha⟩ := int_turn ht (hat 0 _ rfl)
  obtain ⟨b, hb⟩ := int_turn ht (hat 1 _ rfl)
  have hc := slice_turn ht (hat 2 _ rfl)
  exact ⟨_, ⟨a, b, xs'⟩, at_cons3 ha hb hc, ⟨_, rfl, hs⟩⟩

end Go.Proofs.YtoffbdlgmnpblaaGreat
