/- Part 45 of 55: Few Trn Spl. -/
import Derived.Test.YtoffbdlgmnpblaaGreatJ44

/- Reference: Few; the law's few. -/
namespace Go.Proofs.YtoffbdlgmnpblaaGreat
open Go.RowKit
set_option maxHeartbeats 4000000
set_option maxRecDepth 100000

def fewC (c : Ch) : Bool := decide (c.brs.length ≤ 10)
def fewS (s : St) : Bool := decide (s.chs.length ≤ 10) && s.chs.all fewC
/-- a small model -/
def fewB (m : List St) : Bool := decide (m.length ≤ 45) && m.all fewS

theorem Few_calls (m : List St) (v : Value) (D : Nat → Prop) (w : World) (hD : Lo D w) (h : ModelC w D v m) :
    Calls Tryz.prog 67 #[.int .i64 40, v] w fun e w' => e = .returned (.bool (fewB m)) ∧ Below w.heap.size w w' := by
  obtain ⟨u, rfl, h⟩ := h
  obtain ⟨A, c, rfl, h1, h2, -⟩ := h.form
  unfold maxLen at h2
  have H := Lib.hid h
  clear h
  by_cases hlen : 45 < m.length
  · have HV := Lib.hid (show fewB m = false by unfold fewB; rw [decide_eq_false (show ¬ (m.length ≤ 45) by omega)]; rfl)
    have d1 : decide ((40 : Int) < (m.length : Int)) = true := decide_eq_true (by omega)
    have d2 : decide ((m.length : Int) ≤ 40) = false := decide_eq_false (by omega)
    have d3 : decide ((45 : Int) < (m.length : Int)) = true := decide_eq_true (by omega)
    go_enter Tryz.func67, Tryz.ntmps67
    go_wp2
    go_ret
    exact ⟨ret_bool HV.out.symm, (Below.refl _ _).alloc (Nat.le_refl _) _⟩
  · have HV := Lib.hid (show fewB m = m.all fewS by unfold fewB; rw [decide_eq_true (show (m.length ≤ 45) by omega)]; rfl)
    have hl2 : m.length ≤ 45 := by omega
    have hB0 := (Below.refl w.heap.size w).alloc (Nat.le_refl _) (.cells #[.slice A m.length c] 24)
    have d3 : decide ((45 : Int) < (m.length : Int)) = false := decide_eq_false (by omega)
    clear hlen
    go_enter Tryz.func67, Tryz.ntmps67
    go_upto_region 1 with fail
    go_cut [25] from 9 to 25 (fun b wx => b = .bool false ∧ wx = w.alloc (.cells #[.slice A m.length c] 24))
    case first =>
      by_cases h40 : 40 < m.length
      · have d1 : decide ((40 : Int) < (m.length : Int)) = true := decide_eq_true (by omega)
        have d2 : decide ((m.length : Int) ≤ 40) = false := decide_eq_false (by omega)
        go_wp2_with fail
        go_meet
        exact ⟨rfl, rfl⟩
      · have d1 : decide ((40 : Int) < (m.length : Int)) = false := decide_eq_false (by omega)
        go_wp2_with fail
        go_meet
        exact ⟨rfl, rfl⟩
    case rest =>
      obtain ⟨rfl, rfl⟩ := hcut
      go_wp2
      go_loopw [29] (fun k W => ∃ (j : Nat), j ≤ m.length ∧ k = .int .i64 (j : Int) ∧ Hid ((m.take j).all fewS = true) ∧ Below w.heap.size w W) (fun k _ => m.length - (intOf k).toNat)
      case atStart => exact ⟨0, Nat.zero_le _, rfl, rfl, hB0⟩
      case round =>
        obtain ⟨j, hj, rfl, HA, hBW⟩ := hrel
        by_cases hlt : j < m.length
        · obtain ⟨s, hs⟩ : ∃ s, m[j]? = some s := ⟨_, List.getElem?_eq_getElem hlt⟩
          obtain ⟨ad, B, p, d, rfl, hDa, q0, q1, q2, hsc⟩ := H.out.st_up hD hBW j s hs
          obtain ⟨rfl, hp1, hp2⟩ := hsc.len
          unfold maxLen at hp2
          have HS := Lib.hid hs
          have HC := Lib.hid hsc
          clear hs hsc
          have hBW1 : Below w.heap.size w (wr.alloc (.cells #[.int .i64 s.owner, .int .i64 s.mark, .slice B s.chs.length d] 79)) := hBW.alloc hBW.size _
          by_cases hok : s.chs.length ≤ 10
          · have HOK := Lib.hid (show fewS s = s.chs.all fewC by unfold fewS; rw [decide_eq_true hok]; rfl)
            go_wp2
            go_loopw [40] (fun k W => ∃ (i : Nat), i ≤ s.chs.length ∧ k = .int .i64 (i : Int) ∧ Hid ((s.chs.take i).all fewC = true) ∧ Below w.heap.size w W) (fun k _ => s.chs.length - (intOf k).toNat)
            case atStart => exact ⟨0, Nat.zero_le _, rfl, rfl, hBW1⟩
            case round =>
              obtain ⟨i, hi, rfl, HA2, hBW2⟩ := hrel
              by_cases hlt2 : i < s.chs.length
              · obtain ⟨x, hx⟩ : ∃ x, s.chs[i]? = some x := ⟨_, List.getElem?_eq_getElem hlt2⟩
                have HX := Lib.hid hx
                obtain ⟨ad2, B2, p2, d2, rfl, hDa2, r0, r1, r2, hxc⟩ := HC.out.ch_up hD hBW2 i x hx
                obtain ⟨rfl, hx1, hx2⟩ := hxc.len
                unfold maxLen at hx2
                have hBW3 : Below w.heap.size w (wr.alloc (.cells #[.int .i64 x.rw.top, .int .i64 x.rw.low, .slice B2 x.brs.length d2] 97)) := hBW2.alloc hBW2.size _
                clear hx hxc
                by_cases hv : x.brs.length ≤ 10
                · have HF := Lib.hid (all_take fewC _ _ _ HX.out HA2.out (decide_eq_true hv))
                  go_wp2
                  exact ⟨⟨i + 1, by omega, by go_num, HF, hBW3⟩, by simp [intOf]; omega⟩
                · have HF := Lib.hid (show fewB m = false by rw [HV.out]; exact all_no _ _ _ _ HS.out (by rw [HOK.out]; exact all_no fewC _ _ _ HX.out (decide_eq_false hv)))
                  go_wp2
                  go_ret
                  exact ⟨ret_bool HF.out.symm, hBW3⟩
              · obtain rfl : i = s.chs.length := by omega
                have HF := Lib.hid (all_take fewS _ _ _ HS.out HA.out (by rw [HOK.out]; have := HA2.out; rwa [List.take_length] at this))
                clear hlt2
                go_wp2
                exact ⟨⟨j + 1, by omega, by go_num, HF, hBW2⟩, by simp [intOf]; omega⟩
          · have HF := Lib.hid (show fewB m = false by rw [HV.out]; exact all_no _ _ _ _ HS.out (by unfold fewS; rw [decide_eq_false hok]; rfl))
            go_wp2
            go_ret
            exact ⟨ret_bool HF.out.symm, hBW1⟩
        · obtain rfl : j = m.length := by omega
          have HF := Lib.hid (show fewB m = true by rw [HV.out, ← HA.out, List.take_length])
          clear hlt
          go_wp2
          go_ret
          exact ⟨ret_bool HF.out.symm, hBW⟩

def few5 (m : List St) (l : List Int) : Bool := fewB m && decide (l.length ≤ 60)
theorem few5_calls (m : List St) (l : List Int) (v u : Value) (D : Nat → Prop) (w : World) (hD : Lo D w) (h : ModelC w D v m) (hl : Sl (Kind.int .i64) w D u l) :
    Calls Tryz.prog 13 #[v, u] w fun e w' => e = .returned (.bool (few5 m l)) ∧ Below w.heap.size w w' := by
  obtain ⟨mv, rfl, hmm⟩ := h
  have HM : Hid (ModelC w D (.agg #[mv]) m) := ⟨mv, rfl, hmm⟩
  obtain ⟨A, c, rfl, h1, h2, -⟩ := hmm.form
  obtain ⟨B, d, rfl, l1, l2, -⟩ := hl.ints
  unfold maxLen at h2 l2
  clear hmm hl
  have hB0 := (Below.refl w.heap.size w).alloc (Nat.le_refl _) (.cells #[.slice A m.length c] 24)
  go_enter Tryz.func13, Tryz.ntmps13
  go_wp2_with fail
  refine (Few_calls m _ D _ (hD.up hB0.size) (HM.out.same (hD.same hB0))).mono ?_
  rintro e w1 ⟨rfl, hb1⟩
  have hB1 := hB0.trans (hb1.mono hB0.size)
  cases hv : fewB m with
  | false =>
    have HV := Lib.hid (show few5 m l = false by unfold few5; rw [hv]; rfl)
    clear hv
    go_wp2
    go_ret
    exact ⟨ret_bool HV.out.symm, hB1⟩
  | true =>
    have HV := Lib.hid (show few5 m l = decide (l.length ≤ 60) by unfold few5; rw [hv]; rfl)
    have HI := Lib.hid (show decide ((l.length : Int) ≤ 60) = decide (l.length ≤ 60) from by rw [decide_eq_decide]; omega)
    clear hv
    go_wp2
    go_ret
    exact ⟨ret_bool (by rw [HV.out, ← HI.out]), hB1⟩

end Go.Proofs.YtoffbdlgmnpblaaGreat

/- Numbers of a set of blocks are turned; the law's spoil. -/
namespace Go.Proofs.YtoffbdlgmnpblaaGreat
open Go.RowKit
set_option maxHeartbeats 4000000
set_option maxRecDepth 100000

/-- only numbers in the named blocks have turned -/
structure Turned (D : Nat → Prop) (w w' : World) : Prop where
  os : w'.os = w.os
  tape : w'.tape = w.tape
  output : w'.output = w.output
  size : w'.heap.size = w.heap.size
  out : ∀ b, ¬ D b → w'.heap[b]? = w.heap[b]?
  cell : ∀ p : Addr, w'.cell? p = w.cell? p ∨ ∃ x y, w.cell? p = some (.int .i64 x) ∧ w'.cell? p = some (.int .i64 y)
  frozen : ∀ p : Addr, w'.frozen? p = w.frozen? p
theorem Turned.refl (D : Nat → Prop) (w : World) : Turned D w w := ⟨rfl, rfl, rfl, rfl, fun _ _ => rfl, fun _ => .inl rfl, fun _ => rfl⟩
theorem Turned.trans {D : Nat → Prop} {a b c : World} (h : Turned D a b) (k : Turned D b c) : Turned D a c where
  os := k.os.trans h.os
  tape := k.tape.trans h.tape
  output := k.output.trans h.output
  size := k.size.trans h.size
  out b hb := (k.out b hb).trans (h.out b hb)
  cell p := by
    rcases k.cell p with hk | ⟨x, y, h1, h2⟩
    · rw [hk]; exact h.cell p
    · rcases h.cell p with hh | ⟨x', y', h3, h4⟩
      · exact .inr ⟨x, y, by rw [← hh]; exact h1, h2⟩
      · exact .inr ⟨x', y, h3, h2⟩
  frozen p := (k.frozen p).trans (h.frozen p)
theorem Turned.mono {D D' : Nat → Prop} {a b : World} (h : Turned D a b) (hD : ∀ k, D k → D' k) : Turned D' a b := ⟨h.os, h.tape, h.output, h.size, fun b hb => h.out b fun e => hb (hD b e), h.cell, h.frozen⟩
theorem Turned.set {D : Nat → Prop} {w : World} {p : Addr} {x : Int} (hc : w.cell? p = some (.int .i64 x)) (hp : D p.block) (y : Int) : Turned D w (w.setCell p (.int .i64 y)) where
  os := rfl
  tape := rfl
  output := rfl
  size := by simp [World.setCell]
  out b hb := Below.heap_setCell _ _ _ _ (fun e => hb (e ▸ hp))
  cell q := by
    by_cases h : p = q
    · subst h; exact .inr ⟨x, y, hc, World.cell?_setCell_same _ _ _ hc⟩
    · exact .inl (World.cell?_setCell_other _ _ _ _ h)
  frozen q := World.frozen?_setCell _ _ _ _
theorem Turned.below {D : Nat → Prop} {w w' : World} {B : Nat} (h : Turned D w w') (hD : ∀ k, D k → B ≤ k) : Below B w w' :=
  ⟨h.os, h.tape, h.output, Nat.le_of_eq h.size.symm, fun k hk => h.out k fun e => by have := hD k e; omega⟩
theorem Turned.soft {D : Nat → Prop} {w w' : World} (h : Turned D w w') {k : Nat} (hs : Soft w k) : Soft w' k := fun o => (h.frozen _).trans (hs o)
theorem Soft.at {w : World} {p : Addr} (h : Soft w p.block) : w.frozen? p = false := h p.off

/-- numbers still read as numbers -/
theorem Sl.turned {w w' : World} {D D' : Nat → Prop} {v : Value} {xs : List Int} (h : Sl (Kind.int .i64) w D v xs) (ht : Turned D' w w') : ∃ xs' : List Int, xs'.length = xs.length ∧ Sl (Kind.int .i64) w' D v xs' := by
  obtain ⟨A, c, rfl, h1, h2, h3⟩ := h.ints
  by_cases hp : 0 < xs.length
  · obtain ⟨ad, rfl, hd, hc⟩ := h3 hp
    have hex : ∀ i, i < xs.length → ∃ y, w'.cell? (ad.add i) = some (.int .i64 y) := fun i hi => by
      rcases ht.cell (ad.add i) with e | ⟨x, y, -, e⟩
      · exact ⟨_, e.trans (hc i hi)⟩
      · exact ⟨y, e⟩
    let f : Nat → Int := fun i => match w'.cell? (ad.add i) with
      | some (.int _ y) => y
      | _ => 0
    have hf : ∀ i, i < xs.length → w'.cell? (ad.add i) = some (.int .i64 (f i)) := fun i hi => by
      obtain ⟨y, hy⟩ := hex i hi
      have : f i = y := by simp only [f, hy]
      rw [this]; exact hy
    obtain ⟨ys, hys⟩ : ∃ ys : List Int, ys = (List.range xs.length).map f := ⟨_, rfl⟩
    have hl : ys.length = xs.length := by rw [hys]; simp
    refine ⟨ys, hl, ?_⟩
    rw [← hl]
    refine Sl.of_ints (by rw [hl]; exact h1) h2 fun _ => ⟨ad, rfl, hd, fun i hi => ?_⟩
    rw [hl] at hi
    have : Dig.gd ys i = f i := by rw [hys]; simp [Dig.gd, hi]
    rw [this]
    exact hf i hi
  · have : xs = [] := List.eq_nil_of_length_eq_zero (by omega)
    subst this
    exact ⟨[], rfl, ⟨A, c, rfl, h1, h2, fun i x hx => by simp at hx⟩⟩

/-- rows of numbers still read as rows of numbers -/
theorem Rows2.turned {w w' : World} {D D' : Nat → Prop} {v : Value} {xss : List (List Int)} (h : Rows2 w D v xss) (ht : Turned D' w w') : ∃ xss' : List (List Int), xss'.length = xss.length ∧ (∀ (i : Nat) (xs : List Int), xss[i]? = some xs → ∃ xs' : List Int, xss'[i]? = some xs' ∧ xs'.length = xs.length) ∧ Rows2 w' D v xss' := by
  obtain ⟨A, c, rfl, h1, h2, h3⟩ := h
  have hrow : ∀ i, i < xss.length → ∃ xs' : List Int, ∀ xs, xss[i]? = some xs → xs'.length = xs.length ∧ ∃ ad u, A = some ad ∧ D ad.block ∧ w'.cell? ((ad.add (i * 1)).add 0) = some u ∧ Sl (Kind.int .i64) w' D u xs' := by
    intro i hi
    obtain ⟨ad, cs, e, hd, ⟨u, rfl, hu⟩, hat⟩ := h3 i xss[i] (List.getElem?_eq_getElem hi)
    obtain ⟨xs', hl, hs⟩ := hu.turned ht
    refine ⟨xs', fun xs hx => ?_⟩
    rw [List.getElem?_eq_getElem hi] at hx
    injection hx with hx
    subst hx
    refine ⟨hl, ad, u, e, hd, ?_, hs⟩
    have hc := hat 0 u rfl
    obtain ⟨A', n', c', rfl, -⟩ : ∃ A' n' c', u = .slice A' n' c' ∧ True := by
      obtain ⟨A', c', e', -, -, -⟩ := hu.form
      exact ⟨A', _, c', e', trivial⟩
    rcases ht.cell ((ad.add (i * 1)).add 0) with e' | ⟨x, y, e', -⟩
    · exact e'.trans hc
    · rw [show (Kind.slice (Kind.int IntKind.i64)).sz = 1 from rfl] at hc
      rw [hc] at e'
      cases e'
  let f : Nat → List Int := fun i => if hi : i < xss.length then Classical.choose (hrow i hi) else []
  have hf : ∀ i xs, xss[i]? = some xs → (f i).length = xs.length ∧ ∃ ad u, A = some ad ∧ D ad.block ∧ w'.cell? ((ad.add (i * 1)).add 0) = some u ∧ Sl (Kind.int .i64) w' D u (f i) := by
    intro i xs hx
    have hi := (List.getElem?_eq_some_iff.1 hx).1
    have := Classical.choose_spec (hrow i hi) xs hx
    simp only [f, dif_pos hi]
    exact this
  have hg : ∀ i, i < xss.length → ((List.range xss.length).map f)[i]? = some (f i) := fun i hi => by simp [hi]
  refine ⟨(List.range xss.length).map f, by simp, fun i xs hx => ⟨f i, hg i (List.getElem?_eq_some_iff.1 hx).1, (hf i xs hx).1⟩, A, c, by simp, by simpa using h1, h2, fun i y hy => ?_⟩
  have hi : i < xss.length := by have := (List.getElem?_eq_some_iff.1 hy).1; simpa using this
  rw [hg i hi] at hy
  injection hy with hy
  subst hy
  obtain ⟨-, ad, u, e, hd, hc, hs⟩ := hf i xss[i] (List.getElem?_eq_getElem hi)
  refine ⟨ad, [u], e, hd, ⟨u, rfl, hs⟩, fun j z hj => ?_⟩
  cases j with
  | zero => simp at hj; subst hj; exact hc
  | succ j => simp at hj

end Go.Proofs.YtoffbdlgmnpblaaGreat

/- The law's spoil. -/
namespace Go.Proofs.YtoffbdlgmnpblaaGreat
open Go.RowKit
set_option maxHeartbeats 4000000
set_option maxRecDepth 100000

theorem Rows2.at' {w : World} {D : Nat → Prop} {A : Option Addr} {n c : Nat} {xss : List (List Int)} (h : Rows2 w D (.slice A n c) xss) (i : Nat) (xs : List Int) (hx : xss[i]? = some xs) : ∃ ad u, A = some ad ∧ D ad.block ∧ w.cell? (ad.add i) = some u ∧ Sl (Kind.int .i64) w D u xs := by
  obtain ⟨A', c', e, h1, h2, h3⟩ := h
  injection e with e1 e2 e3
  subst e1
  obtain ⟨ad, cs, e, hd, ⟨u, rfl, hu⟩, hat⟩ := h3 i xs hx
  have hc := hat 0 u rfl
  rw [add_of_add, show i * (Kind.slice (Kind.int IntKind.i64)).sz + 0 = i from by show i * 1 + 0 = i; omega] at hc
  exact ⟨ad, u, e, hd, hc, hu⟩

theorem spoil_calls (xss : List (List Int)) (v : Value) (D : Nat → Prop) (w : World) (h : Rows2 w D v xss) (hs : ∀ k, D k → Soft w k) :
    Calls Tryz.prog 43 #[v] w fun e w' => e = .returned (.tuple #[]) ∧ Turned D w w' := by
  obtain ⟨A, c, rfl, h1, h2, -⟩ := h.form
  unfold maxLen at h2
  have H := Lib.hid h
  have HS := Lib.hid hs
  clear h hs
  go_enter Tryz.func43, Tryz.ntmps43
  go_wp2
  go_loopw [7] (fun k W => ∃ (i : Nat), i ≤ xss.length ∧ k = .int .i64 (i : Int) ∧ Hid (Turned D w W)) (fun k _ => xss.length - (intOf k).toNat)
  case atStart => exact ⟨0, Nat.zero_le _, rfl, Turned.refl _ _⟩
  case round =>
    obtain ⟨i, hi, rfl, HT⟩ := hrel
    by_cases hlt : i < xss.length
    · obtain ⟨xs0, hx0⟩ : ∃ xs, xss[i]? = some xs := ⟨_, List.getElem?_eq_getElem hlt⟩
      obtain ⟨yss, hyl, hyr, hR⟩ := H.out.turned HT.out
      obtain ⟨xs, hx, -⟩ := hyr i xs0 hx0
      obtain ⟨ad, u, rfl, hda, hcu, hu⟩ := hR.at' i xs hx
      obtain ⟨B, d, rfl, l1, l2, -⟩ := hu.ints
      unfold maxLen at l2
      have HU := Lib.hid hu
      obtain ⟨wo, rfl⟩ : ∃ wo : World, wo = wr := ⟨_, rfl⟩
      clear hx0 hyr hR hx hyl hu
      go_wp2
      go_loopw [13] (fun k W => ∃ (j : Nat), j ≤ xs.length ∧ k = .int .i64 (j : Int) ∧ Hid (Turned D wo W)) (fun k _ => xs.length - (intOf k).toNat)
      case atStart => exact ⟨0, Nat.zero_le _, rfl, Turned.refl _ _⟩
      case round =>
        obtain ⟨j, hj, rfl, HT2⟩ := hrel
        by_cases hlt2 : j < xs.length
        · obtain ⟨ys, hyl, hY⟩ := HU.out.turned HT2.out
          obtain ⟨B', d', e', -, -, hc⟩ := hY.ints
          injection e' with e1 e2 e3
          subst e1 e3
          obtain ⟨ad2, rfl, hd2, hcs⟩ := hc (by omega)
          have q0 := hcs j (by omega)
          have q1 : wr.frozen? (ad2.add j) = false := Soft.at (HT2.out.soft (HT.out.soft (HS.out _ (by rw [block_of_add]; exact hd2))))
          have hda2 : D (ad2.add j).block := by rw [block_of_add]; exact hd2
          have HQ := Lib.hid q0
          generalize Dig.gd ys j = y at *
          clear hcs hc hY hyl e2
          go_wp2
          exact ⟨⟨j + 1, by omega, by go_num, HT2.out.trans (Turned.set HQ.out hda2 _)⟩, by simp [intOf]; omega⟩
        · obtain rfl : j = xs.length := by omega
          clear hlt2
          go_wp2
          exact ⟨⟨i + 1, by omega, by go_num, HT.out.trans HT2.out⟩, by simp [intOf]; omega⟩
    · obtain rfl : i = xss.length := by omega
      clear hlt
      go_wp2
      exact ⟨rfl, .tuple #[], by simp [results, Tryz.results43, go_sem], rfl, HT.out⟩

end Go.Proofs.YtoffbdlgmnpblaaGreat
