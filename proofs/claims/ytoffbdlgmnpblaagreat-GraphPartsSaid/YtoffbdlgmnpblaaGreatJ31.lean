/- Part 31: Fn1 Fn2 Lex ShelfB. -/
import Derived.Test.YtoffbdlgmnpblaaGreatJ13
import Derived.Test.YtoffbdlgmnpblaaGreatJ14
import Derived.Lib.SliceRun
import Derived.Deep.Upon
import Derived.Ground.SlsfProg
import Derived.Shelf.SlSortCmp.Insertion
import Derived.Shelf.SlSortCmp.SiftDown1
import Derived.Shelf.SlSortCmp.HeapSort1
import Derived.Shelf.SlSortCmp.Insertion1
import Derived.Shelf.SlSortCmp.Median1
import Derived.Shelf.SlSortCmp.Pivot1
import Derived.Shelf.SlSortCmp.ReverseRange1
import Derived.Shelf.SlSortCmp.PartialInsertion1
import Derived.Shelf.SlSortCmp.PartitionEqual1
import Derived.Shelf.SlSortCmp.Partition1
import Derived.Shelf.SlSortCmp.Pdq1
import Derived.Shelf.SlSortCmp.Whole1
import Derived.Test.YtoffbdlgmnpblaaGreatJ02

/- Package slices: IndexFunc, ContainsFunc with closures that may make memory; package graph: gcd. -/
namespace Go.Proofs.YtoffbdlgmnpblaaGreat
open Go.RowKit
set_option maxHeartbeats 4000000
set_option maxRecDepth 100000

/-- the place of the first element of a kind, or -1 -/
def idxI {α : Type} (is : α → Bool) (xs : List α) : Int := match xs.findIdx? is with
  | some i => (i : Int)
  | none => -1
theorem idxI_at {α : Type} {is : α → Bool} {xs : List α} {j : Nat} {x : α} (h : xs[j]? = some x) (h0 : ∀ y ∈ xs.take j, is y = false) (h1 : is x = true) : idxI is xs = (j : Int) := by
  obtain ⟨hlt, rfl⟩ := List.getElem?_eq_some_iff.1 h
  have : xs.findIdx? is = some j := by
    rw [List.findIdx?_eq_some_iff_getElem]
    refine ⟨hlt, h1, fun i hi => ?_⟩
    have := h0 xs[i] (List.mem_iff_getElem.2 ⟨i, by rw [List.length_take]; omega, by rw [List.getElem_take]⟩)
    rw [this]; decide
  unfold idxI
  rw [this]
theorem idxI_none {α : Type} {is : α → Bool} {xs : List α} (h0 : ∀ y ∈ xs, is y = false) : idxI is xs = -1 := by
  have : xs.findIdx? is = none := List.findIdx?_eq_none_iff.2 h0
  unfold idxI
  rw [this]
theorem take_false {α : Type} {is : α → Bool} {xs : List α} {j : Nat} {x : α} (h : xs[j]? = some x) (h0 : ∀ y ∈ xs.take j, is y = false) (h1 : is x = false) : ∀ y ∈ xs.take (j + 1), is y = false := by
  intro y hy
  rw [List.take_add_one, h] at hy
  rcases List.mem_append.1 hy with hy | hy
  · exact h0 y hy
  · have : y = x := by simpa using hy
    rw [this]; exact h1
theorem idxI_nonneg {α : Type} (is : α → Bool) (xs : List α) : decide (0 ≤ idxI is xs) = xs.any is := by
  unfold idxI
  cases h : xs.findIdx? is with
  | none =>
    have := List.findIdx?_eq_none_iff.1 h
    have e : xs.any is = false := by rw [List.any_eq_false]; intro x hx; rw [this x hx]; decide
    rw [e]; rfl
  | some i =>
    obtain ⟨hlt, hp, _⟩ := List.findIdx?_eq_some_iff_getElem.1 h
    have e : xs.any is = true := List.any_eq_true.2 ⟨xs[i], List.getElem_mem hlt, hp⟩
    rw [e]; simp

theorem IndexFunc_calls (K : Nat) (is : Int → Bool) (cs : Array Value) (xs : List Int) (v : Value) (D : Nat → Prop) (w : World) (eg : ∀ args w, (callFunc K args).run Tryz.prog w = .ok (.enter K args) w) (hD : Lo D w) (hl : Sl (Kind.int .i64) w D v xs) (hn : xs.length ≤ 1000000)
    (hc : ∀ (W : World) (s : Int), Below w.heap.size w W → s ∈ xs → Calls Tryz.prog K (#[.int .i64 s] ++ cs) W fun e w' => e = .returned (.bool (is s)) ∧ Below W.heap.size W w') :
    Calls Tryz.prog 90 #[v, .func (.func K) #[] cs] w fun e w' => e = .returned (.int .i64 (idxI is xs)) ∧ Below w.heap.size w w' := by
  obtain ⟨A, c, rfl, h1, h2, -⟩ := hl.form
  unfold maxLen at h2
  have HU := Ints.up hl hD
  have HC := Lib.hid hc
  clear hl hc
  go_enter Tryz.func90, Tryz.ntmps90
  go_wp2
  go_loopw [8] (fun k W => ∃ (j : Nat), j ≤ xs.length ∧ k = .int .i64 (j : Int) ∧ Below w.heap.size w W ∧ Hid (∀ y ∈ xs.take j, is y = false)) (fun k _ => xs.length - (intOf k).toNat)
  case atStart => exact ⟨0, Nat.zero_le _, rfl, Below.refl _ _, (by intro y hy; simp at hy : ∀ y ∈ xs.take 0, is y = false)⟩
  case round =>
    obtain ⟨j, hj, rfl, hBW, HN⟩ := hrel
    by_cases hlt : j < xs.length
    · obtain ⟨x, hx⟩ : ∃ x, xs[j]? = some x := ⟨_, List.getElem?_eq_getElem hlt⟩
      obtain ⟨bd, rfl, hDb, hcs⟩ := HU.out (by omega)
      have q1 := hcs _ hBW j _ hx
      have HX := Lib.hid hx
      clear hcs hx
      go_wp2_with fail
      refine (HC.out wr x hBW (List.mem_of_getElem? HX.out)).mono ?_
      rintro e w2 ⟨rfl, hb2⟩
      have hB2 := hBW.trans (hb2.mono hBW.size)
      clear q1
      cases hi : is x with
      | false =>
        have HS := Lib.hid (take_false HX.out HN.out hi)
        clear hi
        go_wp2
        exact ⟨⟨j + 1, by omega, by go_num, hB2, HS⟩, by simp [intOf]; omega⟩
      | true =>
        have HS := Lib.hid (idxI_at HX.out HN.out hi)
        clear hi
        go_wp2
        go_ret
        exact ⟨ret_int HS.out.symm, hB2⟩
    · obtain rfl : j = xs.length := by omega
      have HS := Lib.hid (idxI_none (is := is) (xs := xs) (by have := HN.out; rwa [List.take_length] at this))
      clear hlt
      go_wp2
      go_ret
      exact ⟨ret_int HS.out.symm, hBW⟩

theorem ContainsFunc_calls (K : Nat) (is : Int → Bool) (cs : Array Value) (xs : List Int) (v : Value) (D : Nat → Prop) (w : World) (eg : ∀ args w, (callFunc K args).run Tryz.prog w = .ok (.enter K args) w) (hD : Lo D w) (hl : Sl (Kind.int .i64) w D v xs) (hn : xs.length ≤ 1000000)
    (hc : ∀ (W : World) (s : Int), Below w.heap.size w W → s ∈ xs → Calls Tryz.prog K (#[.int .i64 s] ++ cs) W fun e w' => e = .returned (.bool (is s)) ∧ Below W.heap.size W w') :
    Calls Tryz.prog 103 #[v, .func (.func K) #[] cs] w fun e w' => e = .returned (.bool (xs.any is)) ∧ Below w.heap.size w w' := by
  have HC := Lib.hid hc
  have HL := Lib.hid hl
  have HD := Lib.hid hD
  have HE := Lib.hid (idxI_nonneg is xs)
  clear hl hc hD
  go_enter Tryz.func103, Tryz.ntmps103
  go_wp2_with fail
  refine (IndexFunc_calls K is cs xs v D w eg HD.out HL.out hn HC.out).mono ?_
  rintro e w2 ⟨rfl, hb2⟩
  go_wp2
  go_ret
  exact ⟨ret_bool (by rw [← HE.out]), hb2⟩

/-- a slice of rows that are read -/
theorem IndexFuncR_calls (K : Nat) (is : List Int → Bool) (cs : Array Value) (xss : List (List Int)) (v : Value) (D : Nat → Prop) (w : World) (eg : ∀ args w, (callFunc K args).run Tryz.prog w = .ok (.enter K args) w) (hD : Lo D w) (hl : Rows2 w D v xss) (_hn : xss.length ≤ 1000000)
    (hc : ∀ (W : World) (u : Value) (xs : List Int), Below w.heap.size w W → xs ∈ xss → Sl (Kind.int .i64) W D u xs → Calls Tryz.prog K (#[u] ++ cs) W fun e w' => e = .returned (.bool (is xs)) ∧ Below W.heap.size W w') :
    Calls Tryz.prog 144 #[v, .func (.func K) #[] cs] w fun e w' => e = .returned (.int .i64 (idxI is xss)) ∧ Below w.heap.size w w' := by
  obtain ⟨A, c, rfl, h1, h2, -⟩ := hl.form
  unfold maxLen at h2
  have HL := Lib.hid hl
  have HC := Lib.hid hc
  clear hl hc
  go_enter Tryz.func144, Tryz.ntmps144
  go_wp2
  go_loopw [8] (fun k W => ∃ (j : Nat), j ≤ xss.length ∧ k = .int .i64 (j : Int) ∧ Below w.heap.size w W ∧ Hid (∀ y ∈ xss.take j, is y = false)) (fun k _ => xss.length - (intOf k).toNat)
  case atStart => exact ⟨0, Nat.zero_le _, rfl, Below.refl _ _, (by intro y hy; simp at hy : ∀ y ∈ xss.take 0, is y = false)⟩
  case round =>
    obtain ⟨j, hj, rfl, hBW, HN⟩ := hrel
    by_cases hlt : j < xss.length
    · obtain ⟨x, hx⟩ : ∃ x, xss[j]? = some x := ⟨_, List.getElem?_eq_getElem hlt⟩
      obtain ⟨ad, u, rfl, q0, hs⟩ : ∃ ad u, A = some ad ∧ wr.cell? (ad.add j) = some u ∧ Sl (Kind.int .i64) wr D u x := by
        obtain ⟨A', c', e, -, -, h3⟩ := HL.out
        injection e with e1 e2 e3
        subst e1
        obtain ⟨ad, cs', ea, hd, ⟨u, rfl, hu⟩, hat⟩ := h3 j x hx
        have h0 := hat 0 u rfl
        rw [add_of_add, show j * (Kind.slice (Kind.int .i64)).sz + 0 = j from by show j * 1 + 0 = j; omega] at h0
        exact ⟨ad, u, ea, (hBW.cell (p := ad.add j) (by rw [block_of_add]; exact hD _ hd)).trans h0, hu.same (hD.same hBW)⟩
      have HX := Lib.hid hx
      have HSL := Lib.hid hs
      clear hx hs
      go_wp2_with fail
      refine (HC.out wr u x hBW (List.mem_of_getElem? HX.out) HSL.out).mono ?_
      rintro e w2 ⟨rfl, hb2⟩
      have hB2 := hBW.trans (hb2.mono hBW.size)
      clear q0
      cases hi : is x with
      | false =>
        have HS := Lib.hid (take_false HX.out HN.out hi)
        clear hi
        go_wp2
        exact ⟨⟨j + 1, by omega, by go_num, hB2, HS⟩, by simp [intOf]; omega⟩
      | true =>
        have HS := Lib.hid (idxI_at HX.out HN.out hi)
        clear hi
        go_wp2
        go_ret
        exact ⟨ret_int HS.out.symm, hB2⟩
    · obtain rfl : j = xss.length := by omega
      have HS := Lib.hid (idxI_none (is := is) (xs := xss) (by have := HN.out; rwa [List.take_length] at this))
      clear hlt
      go_wp2
      go_ret
      exact ⟨ret_int HS.out.symm, hBW⟩

/-! ### gcd -/
theorem gcd_calls (a b : Int) (w : World) (ha : -1000000 ≤ a) (ha' : a ≤ 1000000) (hb : -1000000 ≤ b) (hb' : b ≤ 1000000) :
    Calls Tryz.prog 80 #[.int .i64 a, .int .i64 b] w fun e w' => e = .returned (.int .i64 (Int.gcd a b)) ∧ Drawn w w' := by
  go_enter Tryz.func80, Tryz.ntmps80
  go_wp2
  go_loopw [0, 1] (fun x y W => ∃ (p q : Int), x = .int .i64 p ∧ y = .int .i64 q ∧ -1000000 ≤ p ∧ p ≤ 1000000 ∧ -1000000 ≤ q ∧ q ≤ 1000000 ∧ Drawn w W ∧ Hid (Int.gcd p q = Int.gcd a b)) (fun _ y _ => (intOf y).natAbs)
  case atStart => exact ⟨a, b, rfl, rfl, ha, ha', hb, hb', Drawn.refl _, rfl⟩
  case round =>
    obtain ⟨p, q, rfl, rfl, hp, hp', hq, hq', hW, HG⟩ := hrel
    by_cases h : q = 0
    · subst h
      have HS := Lib.hid (show (max p (-p) : Int) = (Int.gcd a b : Int) by rw [← HG.out]; simp; omega)
      go_wp2
      go_ret
      exact ⟨ret_int HS.out, hW⟩
    · have hne : (q != 0) = true := by rw [bne_iff_ne]; exact h
      have hlt : (p.tmod q).natAbs < q.natAbs := by rw [Int.natAbs_tmod]; exact Nat.mod_lt _ (by omega)
      have HLT := Lib.hid (show -1000000 ≤ p.tmod q ∧ p.tmod q ≤ 1000000 ∧ (p.tmod q).natAbs < q.natAbs from ⟨by omega, by omega, hlt⟩)
      clear hlt
      have HT := Lib.hid (show Int.gcd q (p.tmod q) = Int.gcd a b by
        rw [← HG.out]; unfold Int.gcd; rw [Int.natAbs_tmod, Nat.gcd_comm, ← Nat.gcd_rec, Nat.gcd_comm])
      go_wp2
      go_quiet (fail)
      go_wp2
      refine ⟨⟨q, p.tmod q, rfl, rfl, hq, hq', HLT.out.1, HLT.out.2.1, ?_, HT⟩, HLT.out.2.2⟩
      exact hW.step _

end Go.Proofs.YtoffbdlgmnpblaaGreat

/- Package slices: DeleteFunc on rows of the call's own. -/
namespace Go.Proofs.YtoffbdlgmnpblaaGreat
open Go.RowKit
set_option maxHeartbeats 4000000
set_option maxRecDepth 100000

theorem below_grown' {w W : World} (h : Below w.heap.size w W) (row : Option Nat) : w.grownBy W row := ⟨h.os, h.tape, h.output, h.size, fun k hk _ => h.block k hk⟩
theorem grown_trans {a b c : World} {row : Option Nat} (h : a.grownBy b row) (k : b.grownBy c row) : a.grownBy c row :=
  ⟨k.os.trans h.os, k.tape.trans h.tape, k.output.trans h.output, Nat.le_trans h.size k.size, fun i hi hne => (k.block i (Nat.lt_of_lt_of_le hi h.size) hne).trans (h.block i hi hne)⟩
/-- the end of an own row is overwritten, and cut off -/
theorem own_cut {W : World} {B : Nat} {e : TypeId} {g n cap i : Nat} {vs : List Value} (h : W.ownsRow B e 1 (.slice (some ⟨g, 0, none⟩) n cap) n vs) (hi : i ≤ n) : ∀ (us : List Value) (o : Nat), i ≤ o →
    (W.setCells g o us).ownsRow B e 1 (.slice (some ⟨g, 0, none⟩) i cap) i (vs.take i) := by
  have base : W.ownsRow B e 1 (.slice (some ⟨g, 0, none⟩) i cap) i (vs.take i) := by
    obtain ⟨hl, ⟨h1, _⟩ | ⟨g', cap', cur, hv, hb, hg, hnc, hcm, hcs, ht⟩⟩ := h
    · cases h1
    · cases hv
      refine ⟨by rw [List.length_take]; omega, .inr ⟨g, cap, cur, rfl, hb, hg, by omega, hcm, hcs, ?_⟩⟩
      rw [← ht, List.take_take, Nat.mul_one, Nat.mul_one, Nat.min_eq_left hi]
  have gen : ∀ (us : List Value) (o : Nat) (W : World), i ≤ o → W.ownsRow B e 1 (.slice (some ⟨g, 0, none⟩) i cap) i (vs.take i) → (W.setCells g o us).ownsRow B e 1 (.slice (some ⟨g, 0, none⟩) i cap) i (vs.take i) := by
    intro us
    induction us with
    | nil => intro o W _ h; exact h
    | cons u us ih =>
      intro o W ho h
      refine ih (o + 1) _ (by omega) ?_
      obtain ⟨hl, ⟨h1, _⟩ | ⟨g', cap', cur, hv, hb, hg, hnc, hcm, hcs, ht⟩⟩ := h
      · cases h1
      · cases hv
        refine ⟨hl, .inr ⟨g, cap, cur.setIfInBounds o u, rfl, hb, ?_, hnc, hcm, by simpa using hcs, ?_⟩⟩
        · simp [World.setCell, Array.getElem?_modify, hg]
        · rw [← ht]
          simp only [Array.toList_setIfInBounds]
          rw [List.take_set_of_le (by omega)]
  exact fun us o ho => gen us o W ho base
theorem setCells_grown (W : World) (g : Nat) : ∀ (us : List Value) (o : Nat), W.grownBy (W.setCells g o us) (some g) := by
  have : ∀ (us : List Value) (o : Nat) (W' : World), W.grownBy W' (some g) → W.grownBy (W'.setCells g o us) (some g) := by
    intro us
    induction us with
    | nil => intro o W' h; exact h
    | cons u us ih =>
      intro o W' h
      refine ih (o + 1) _ ?_
      exact ⟨h.os, h.tape, h.output, by simpa [World.setCell] using h.size, fun k hk hne => (Below.heap_setCell W' ⟨g, o, none⟩ u k (fun e => hne (by rw [e]))).trans (h.block k hk hne)⟩
  exact fun us o => this us o W (World.grownBy.refl _ _)

theorem filter_step {α : Type} {p : α → Bool} {xs ys : List α} {i j : Nat} {x : α} (hx : xs[j]? = some x) (h1 : ys.take i = (xs.take j).filter p) (hij : i ≤ j) (hl : ys.length = xs.length) :
    (p x = true → (ys.set i x).take (i + 1) = (xs.take (j + 1)).filter p) ∧ (p x = false → ys.take i = (xs.take (j + 1)).filter p) := by
  have hj : j < xs.length := (List.getElem?_eq_some_iff.1 hx).1
  have e : xs.take (j + 1) = xs.take j ++ [x] := by rw [List.take_add_one, hx]; rfl
  constructor
  · intro hp
    rw [e, List.filter_append, ← h1]
    have : (ys.set i x)[i]? = some x := by rw [List.getElem?_set_self (by omega)]
    rw [List.take_add_one, this, List.take_set_of_le (Nat.le_refl _)]
    simp [hp]
  · intro hp
    rw [e, List.filter_append, ← h1]
    simp [hp]

theorem DeleteFunc_calls (K : Nat) (is : Int → Bool) (cs : Array Value) (xs : List Int) (v : Value) (B : Nat) (w : World) (eg : ∀ args w, (callFunc K args).run Tryz.prog w = .ok (.enter K args) w) (hO : w.ownsRow B 3 1 v xs.length (ints xs)) (hn : xs.length ≤ 1000000)
    (hc : ∀ (W : World) (s : Int), w.grownBy W v.ownBlock → s ∈ xs → Calls Tryz.prog K (#[.int .i64 s] ++ cs) W fun e w' => e = .returned (.bool (is s)) ∧ Below W.heap.size W w') :
    Calls Tryz.prog 75 #[v, .func (.func K) #[] cs] w fun e w' => ∃ v', e = .returned v' ∧ v'.ownBlock = v.ownBlock ∧ w'.ownsRow B 3 1 v' (xs.filter fun x => !is x).length (ints (xs.filter fun x => !is x)) ∧ w.grownBy w' v.ownBlock := by
  obtain ⟨A, c, rfl, k1, k2, -⟩ := own_form hO
  unfold maxLen at k2
  have hsl := (own_ints hO).2
  have HO := Lib.hid hO
  have HC := Lib.hid hc
  have HSL := Lib.hid hsl
  have hlo : Lo (fun b => B ≤ b ∧ b < w.heap.size) w := fun k hk => hk.2
  have HLO := Lib.hid hlo
  clear hO hc hsl hlo
  cases hany : xs.any is with
  | false =>
    have hall : ∀ x ∈ xs, is x = false := by
      intro x hx
      have := List.any_eq_false.1 hany x hx
      simpa using this
    have HI := Lib.hid (idxI_none hall)
    have HF := Lib.hid (show xs.filter (fun x => !is x) = xs from List.filter_eq_self.2 fun x hx => by rw [hall x hx]; rfl)
    clear hany hall
    go_enter Tryz.func75, Tryz.ntmps75
    go_wp2_with fail
    refine (IndexFunc_calls K is cs xs _ _ w eg HLO.out HSL.out hn (fun W s hW hs => HC.out W s (below_grown' hW _) hs)).mono ?_
    rintro e w2 ⟨rfl, hb2⟩
    rw [HI.out]
    go_wp2_with fail
    go_ret
    refine ⟨_, rfl, rfl, ?_, below_grown' hb2 _⟩
    rw [HF.out]
    exact own_kept HO.out fun k hk => hb2.block k (HO.out.lt k hk).2
  | true =>
    obtain ⟨i0, hi0⟩ : ∃ i0, xs.findIdx? is = some i0 := by
      cases h : xs.findIdx? is with
      | none =>
        have h1 := List.findIdx?_eq_none_iff.1 h
        obtain ⟨x, hx, hp⟩ := List.any_eq_true.1 hany
        rw [h1 x hx] at hp; cases hp
      | some i => exact ⟨i, rfl⟩
    obtain ⟨hlt0, hp0, hmin⟩ := List.findIdx?_eq_some_iff_getElem.1 hi0
    have HI := Lib.hid (show idxI is xs = (i0 : Int) by unfold idxI; rw [hi0])
    obtain ⟨ad, rfl⟩ : ∃ ad, A = some ad := by
      obtain ⟨A', c', e, -, -, h3⟩ := own_form HO.out
      injection e with e1 e2 e3
      subst e1
      obtain ⟨ad, e, _⟩ := h3 (by omega)
      exact ⟨ad, e⟩
    obtain ⟨g, rfl⟩ : ∃ g, ad = ⟨g, 0, none⟩ := by
      obtain ⟨-, ⟨h1, _⟩ | ⟨g, cap, cur, h1, _⟩⟩ := HO.out
      · cases h1
      · injection h1 with h1; injection h1 with h1; exact ⟨g, h1⟩
    have HT0 := Lib.hid (show xs.take i0 = (xs.take (i0 + 1)).filter (fun x => !is x) by
      have h1 : (xs.take i0).filter (fun x => !is x) = xs.take i0 := List.filter_eq_self.2 fun x hx => by
        obtain ⟨j, hj, rfl⟩ := List.getElem_of_mem hx
        rw [List.length_take] at hj
        rw [List.getElem_take]
        have := hmin j (by omega)
        simpa using this
      rw [List.take_add_one, List.getElem?_eq_getElem hlt0, List.filter_append, h1]
      simp [hp0])
    clear hany hi0 hp0 hmin
    go_enter Tryz.func75, Tryz.ntmps75
    go_wp2_with fail
    refine (IndexFunc_calls K is cs xs _ _ w eg HLO.out HSL.out hn (fun W s hW hs => HC.out W s (below_grown' hW _) hs)).mono ?_
    rintro e w2 ⟨rfl, hb2⟩
    rw [HI.out]
    have hne : ((i0 : Int) == -1) = false := beq_eq_false_iff_ne.2 (by omega)
    have hG2 := below_grown' hb2 (some g)
    have hO2 := own_kept HO.out fun k hk => hb2.block k (HO.out.lt k hk).2
    go_wp2_with fail
    clear hne
    go_loopw [5, 6] (fun s5 s6 W => ∃ (i j : Nat) (ys : List Int), s5 = .int .i64 (i : Int) ∧ s6 = .int .i64 (j : Int) ∧ i < j ∧ j ≤ xs.length ∧ ys.length = xs.length ∧ w.grownBy W (some g) ∧ W.ownsRow B 3 1 (.slice (some ⟨g, 0, none⟩) xs.length c) xs.length (ints ys) ∧ Hid (ys.take i = (xs.take j).filter (fun x => !is x)) ∧ Hid (ys.drop j = xs.drop j)) (fun _ s6 _ => xs.length - (intOf s6).toNat)
    case atStart => exact ⟨i0, i0 + 1, xs, rfl, by go_num, by omega, by omega, rfl, hG2, hO2, HT0.out, rfl⟩
    case round =>
      clear hG2 hO2
      obtain ⟨i, j, ys, rfl, rfl, hij, hj, hyl, hG, hO, HT, HDR⟩ := hrel
      by_cases hlt : j < xs.length
      · obtain ⟨x, hx⟩ : ∃ x, xs[j]? = some x := ⟨_, List.getElem?_eq_getElem hlt⟩
        have hyx : ys[j]? = some x := by
          have := congrArg (fun l => l[0]?) HDR.out
          simpa [hx] using this
        obtain ⟨q1, -⟩ := own_cell hO j (.int .i64 x) (by simp [hyx])
        have HX := Lib.hid hx
        have HY := Lib.hid hyx
        have HOO := Lib.hid hO
        clear hx hyx hO
        go_wp2_with fail
        refine (HC.out wr x hG (List.mem_of_getElem? HX.out)).mono ?_
        rintro e w3 ⟨rfl, hb3⟩
        have hG3 := grown_trans hG (below_grown' hb3 (some g))
        have hO3 := own_kept HOO.out fun k hk => hb3.block k (HOO.out.lt k hk).2
        clear q1
        have hfs := filter_step (p := fun x => !is x) HX.out HT.out (by omega) hyl
        have HD2 := Lib.hid (show ys.drop (j + 1) = xs.drop (j + 1) by
          have := congrArg (List.drop 1) HDR.out
          simpa [List.drop_drop, Nat.add_comm] using this)
        cases hi : is x with
        | false =>
          have HS := Lib.hid (hfs.1 (by rw [hi]; rfl))
          obtain ⟨q2, f2⟩ := own_cell hO3 i (.int .i64 (Bfs.at' ys i)) (by
            have := Bfs.at_get (d := ys) (t := (i : Int)) (by omega) (by omega)
            rw [Int.toNat_natCast] at this
            simp [this])
          have hO4 := own_set hO3 i (by omega) (.int .i64 x)
          have hG4 := grown_trans hG3 (grown_set w3 g i (.int .i64 x))
          rw [ints_set] at hO4
          clear hi hfs hO3 hG3
          go_wp2
          refine ⟨⟨i + 1, j + 1, ys.set i x, by go_num, by go_num, by omega, by omega, by simp [hyl], hG4, hO4, HS, ?_⟩, by simp [intOf]; omega⟩
          have : (ys.set i x).drop (j + 1) = xs.drop (j + 1) := by rw [List.drop_set_of_lt (by omega)]; exact HD2.out
          exact this
        | true =>
          have HS := Lib.hid (hfs.2 (by rw [hi]; rfl))
          clear hi hfs
          go_wp2
          exact ⟨⟨i, j + 1, ys, rfl, by go_num, by omega, by omega, hyl, hG3, hO3, HS, HD2⟩, by simp [intOf]; omega⟩
      · obtain rfl : j = xs.length := by omega
        clear hlt
        have hT2 : ys.take i = xs.filter (fun x => !is x) := by have := HT.out; rwa [List.take_length] at this
        have hli : (xs.filter (fun x => !is x)).length = i := by rw [← hT2, List.length_take]; omega
        have HT2 := Lib.hid hT2
        have HLI := Lib.hid hli
        clear hT2 hli
        have hcl : ∀ ty, (Builtin.clear_ #[31] ty #[.slice (some ⟨g, i, none⟩) (xs.length - i) (c - i)]).run Tryz.prog wr = .ok (.tuple #[]) (wr.setCells g i (List.replicate (xs.length - i) (.int .i64 0))) :=
          fun ty => Lib.run_clear_slice wr _ _ ty (.int .i64 0) Tryz.underlying31 (Tryz.zeroValue3) rfl rfl g i _ _ (by omega) (fun t ht => by
            have := (own_cell hO (i + t) (.int .i64 (Bfs.at' ys ((i + t : Nat) : Int))) (by
              have := Bfs.at_get (d := ys) (t := ((i + t : Nat) : Int)) (by omega) (by omega)
              rw [Int.toNat_natCast] at this
              simp [this])).1
            rw [this]; rfl) (fun t ht => (own_cell hO (i + t) (.int .i64 (Bfs.at' ys ((i + t : Nat) : Int))) (by
              have := Bfs.at_get (d := ys) (t := ((i + t : Nat) : Int)) (by omega) (by omega)
              rw [Int.toNat_natCast] at this
              simp [this])).2)
        have HOO := Lib.hid hO
        have HGG := Lib.hid hG
        clear hO hG
        go_wp2
        go_ret
        refine ⟨_, rfl, rfl, ?_, grown_trans HGG.out (setCells_grown wr g _ _)⟩
        rw [HLI.out, ← HT2.out]
        have := own_cut HOO.out (i := i) (by omega) (List.replicate (xs.length - i) (.int .i64 0)) i (Nat.le_refl _)
        rw [show (ints ys).take i = ints (ys.take i) from (List.map_take ..).symm] at this
        exact this

end Go.Proofs.YtoffbdlgmnpblaaGreat

/- Plain laws: the order of lists of numbers, and the one sorted list of lists. -/
namespace Go.Proofs.YtoffbdlgmnpblaaGreat.Lex

def cmpL : List Int → List Int → Int
  | [], [] => 0
  | [], _ :: _ => -1
  | _ :: _, [] => 1
  | a :: l, b :: m => if a < b then -1 else if b < a then 1 else cmpL l m
theorem cmpL_neg : ∀ a b, cmpL b a = - cmpL a b
  | [], [] => rfl
  | [], _ :: _ => rfl
  | _ :: _, [] => rfl
  | a :: l, b :: m => by
    unfold cmpL
    by_cases h1 : a < b
    · rw [if_pos h1, if_neg (by omega), if_pos h1]; rfl
    · by_cases h2 : b < a
      · rw [if_pos h2, if_neg h1, if_pos h2]
      · rw [if_neg h1, if_neg h2, if_neg h2, if_neg h1]; exact cmpL_neg l m
theorem cmpL_eq : ∀ a b, cmpL a b = 0 → a = b
  | [], [], _ => rfl
  | [], _ :: _, h => by simp [cmpL] at h
  | _ :: _, [], h => by simp [cmpL] at h
  | a :: l, b :: m, h => by
    unfold cmpL at h
    by_cases h1 : a < b
    · rw [if_pos h1] at h; cases h
    · by_cases h2 : b < a
      · rw [if_neg h1, if_pos h2] at h; cases h
      · rw [if_neg h1, if_neg h2] at h
        rw [cmpL_eq l m h, show a = b by omega]
theorem cmpL_refl : ∀ a, cmpL a a = 0
  | [] => rfl
  | a :: l => by unfold cmpL; rw [if_neg (by omega), if_neg (by omega)]; exact cmpL_refl l
/-- not greater -/
theorem cmpL_le_trans : ∀ a b c, cmpL a b ≤ 0 → cmpL b c ≤ 0 → cmpL a c ≤ 0
  | [], b, [], _, _ => by simp [cmpL]
  | [], b, _ :: _, _, _ => by simp [cmpL]
  | _ :: _, [], c, h, _ => by simp [cmpL] at h
  | _ :: _, _ :: _, [], _, h => by simp [cmpL] at h
  | a :: l, b :: m, c :: n, h, k => by
    unfold cmpL at h k ⊢
    by_cases h1 : a < b
    · by_cases k1 : b < c
      · rw [if_pos (by omega)]; decide
      · by_cases k2 : c < b
        · rw [if_neg k1, if_pos k2] at k; exact absurd k (by decide)
        · rw [if_pos (by omega)]; decide
    · by_cases h2 : b < a
      · rw [if_neg h1, if_pos h2] at h; exact absurd h (by decide)
      · rw [if_neg h1, if_neg h2] at h
        by_cases k1 : b < c
        · rw [if_pos (by omega)]; decide
        · by_cases k2 : c < b
          · rw [if_neg k1, if_pos k2] at k; exact absurd k (by decide)
          · rw [if_neg k1, if_neg k2] at k
            rw [if_neg (by omega), if_neg (by omega)]
            exact cmpL_le_trans l m n h k
def le (a b : List Int) : Bool := decide (cmpL a b ≤ 0)
theorem le_trans (a b c : List Int) (h : le a b = true) (k : le b c = true) : le a c = true := by
  unfold le at *
  simp only [decide_eq_true_eq] at *
  exact cmpL_le_trans a b c h k
theorem le_total (a b : List Int) : (le a b || le b a) = true := by
  unfold le
  have := cmpL_neg a b
  simp only [Bool.or_eq_true, decide_eq_true_eq]
  omega
theorem le_antisymm (a b : List Int) (h : le a b = true) (k : le b a = true) : a = b := by
  unfold le at *
  simp only [decide_eq_true_eq] at *
  have := cmpL_neg a b
  exact cmpL_eq a b (by omega)
/-- sorted in the order of lists -/
def lsort (l : List (List Int)) : List (List Int) := l.mergeSort le
theorem lsort_of {l l' : List (List Int)} (hp : l'.Perm l) (hs : l'.Pairwise fun a b => le a b = true) : l' = lsort l := by
  refine List.Perm.eq_of_pairwise (le := fun a b => le a b = true) (fun a b _ _ h k => le_antisymm a b h k) hs ?_ (hp.trans (List.mergeSort_perm l le).symm)
  exact List.pairwise_mergeSort le_trans (fun a b => le_total a b) l
theorem lsort_perm (l : List (List Int)) : (lsort l).Perm l := List.mergeSort_perm l le
/-- the comparison as the program does it: k numbers are equal -/
theorem cmpL_drop (a b : List Int) (k : Nat) (x y : Int) (ha : a[k]? = some x) (hb : b[k]? = some y) : cmpL (a.drop k) (b.drop k) = if x < y then -1 else if y < x then 1 else cmpL (a.drop (k + 1)) (b.drop (k + 1)) := by
  obtain ⟨h1, rfl⟩ := List.getElem?_eq_some_iff.1 ha
  obtain ⟨h2, rfl⟩ := List.getElem?_eq_some_iff.1 hb
  rw [List.drop_eq_getElem_cons h1, List.drop_eq_getElem_cons h2]
  rfl

end Go.Proofs.YtoffbdlgmnpblaaGreat.Lex

/- Contracts of slices.SortFunc and what it calls: the lines that the kit's tools lay-shelf.mjs and lay-plain.mjs wrote for this dump. -/
namespace Go.Proofs
open Go.Shelf
def Tryz.laysSlF6_f125_ren : Go.Shelf.Ren := ⟨fun | 6 => 125 | 15 => 162 | 14 => 161 | 28 => 197 | 29 => 198 | 20 => 189 | 21 => 190 | 22 => 191 | 23 => 192 | 24 => 193 | 25 => 194 | 26 => 195 | 27 => 196 | 46 => 240 | 47 => 241 | 48 => 242 | 49 => 243 | 50 => 244 | 57 => 257 | n => n, fun | 22 => 27 | 24 => 31 | 25 => 131 | 3 => 3 | 39 => 172 | 0 => 0 | 53 => 199 | 55 => 201 | 4 => 4 | 46 => 193 | 45 => 192 | 50 => 188 | 5 => 5 | 9 => 9 | 66 => 231 | 70 => 129 | 76 => 249 | 77 => 250 | n => n, fun | n => n⟩
theorem Tryz.laysSlF6_f125 : Go.Proofs.SlLaysF.n6 Tryz.prog Tryz.laysSlF6_f125_ren := {
  mixed := by kernel_rfl
  f6 := ⟨Tryz.f125.name, by decide, Tryz.func125.trans (congrArg some (by kernel_rfl))⟩
  f14 := ⟨Tryz.f161.name, by decide, Tryz.func161.trans (congrArg some (by kernel_rfl))⟩
  f15 := Tryz.func162.trans (congrArg some (by kernel_rfl))
  f20 := ⟨Tryz.f189.name, by decide, Tryz.func189.trans (congrArg some (by kernel_rfl))⟩
  f21 := ⟨Tryz.f190.name, by decide, Tryz.func190.trans (congrArg some (by kernel_rfl))⟩
  f22 := ⟨Tryz.f191.name, by decide, Tryz.func191.trans (congrArg some (by kernel_rfl))⟩
  f23 := ⟨Tryz.f192.name, by decide, Tryz.func192.trans (congrArg some (by kernel_rfl))⟩
  f24 := ⟨Tryz.f193.name, by decide, Tryz.func193.trans (congrArg some (by kernel_rfl))⟩
  f25 := ⟨Tryz.f194.name, by decide, Tryz.func194.trans (congrArg some (by kernel_rfl))⟩
  f26 := ⟨Tryz.f195.name, by decide, Tryz.func195.trans (congrArg some (by kernel_rfl))⟩
  f27 := ⟨Tryz.f196.name, by decide, Tryz.func196.trans (congrArg some (by kernel_rfl))⟩
  f28 := Tryz.func197.trans (congrArg some (by kernel_rfl))
  f29 := Tryz.func198.trans (congrArg some (by kernel_rfl))
  f46 := ⟨Tryz.f240.name, by decide, Tryz.func240.trans (congrArg some (by kernel_rfl))⟩
  f47 := Tryz.func241.trans (congrArg some (by kernel_rfl))
  f48 := Tryz.func242.trans (congrArg some (by kernel_rfl))
  f49 := ⟨Tryz.f243.name, by decide, Tryz.func243.trans (congrArg some (by kernel_rfl))⟩
  f50 := ⟨Tryz.f244.name, by decide, Tryz.func244.trans (congrArg some (by kernel_rfl))⟩
  f57 := ⟨Tryz.f257.name, by decide, Tryz.func257.trans (congrArg some (by kernel_rfl))⟩
  t0 := Tryz.underlying0
  a0 := Tryz.isAgg0
  z0 := Tryz.sizeOf0
  v0 := Tryz.zeroValue0
  t3 := Tryz.underlying3
  a3 := Tryz.isAgg3
  z3 := Tryz.sizeOf3
  v3 := Tryz.zeroValue3
  t4 := Tryz.underlying4
  a4 := Tryz.isAgg4
  z4 := Tryz.sizeOf4
  v4 := Tryz.zeroValue4
  t5 := Tryz.underlying5
  a5 := Tryz.isAgg5
  z5 := Tryz.sizeOf5
  v5 := Tryz.zeroValue5
  t9 := Tryz.underlying9
  a9 := Tryz.isAgg9
  z9 := Tryz.sizeOf9
  v9 := Tryz.zeroValue9
  t22 := Tryz.underlying27
  a22 := Tryz.isAgg27
  z22 := Tryz.sizeOf27
  v22 := Tryz.zeroValue27
  a24 := Tryz.isAgg31
  z24 := Tryz.sizeOf31
  t25 := Tryz.underlying131
  a25 := Tryz.isAgg131
  z25 := Tryz.sizeOf131
  v25 := Tryz.zeroValue131
  t39 := Tryz.underlying172
  a39 := Tryz.isAgg172
  z39 := Tryz.sizeOf172
  v39 := Tryz.zeroValue172
  t45 := Tryz.underlying192
  a45 := Tryz.isAgg192
  z45 := Tryz.sizeOf192
  v45 := Tryz.zeroValue192
  t46 := Tryz.underlying193
  a46 := Tryz.isAgg193
  z46 := Tryz.sizeOf193
  v46 := Tryz.zeroValue193
  t50 := Tryz.underlying188
  a50 := Tryz.isAgg188
  z50 := Tryz.sizeOf188
  v50 := Tryz.zeroValue188
  t53 := Tryz.underlying199
  a53 := Tryz.isAgg199
  z53 := Tryz.sizeOf199
  v53 := Tryz.zeroValue199
  t55 := Tryz.underlying201
  a55 := Tryz.isAgg201
  z55 := Tryz.sizeOf201
  v55 := Tryz.zeroValue201
  t66 := Tryz.underlying231
  a66 := Tryz.isAgg231
  z66 := Tryz.sizeOf231
  v66 := Tryz.zeroValue231
  t70 := Tryz.underlying129
  a70 := Tryz.isAgg129
  z70 := Tryz.sizeOf129
  v70 := Tryz.zeroValue129
  t76 := Tryz.underlying249
  a76 := Tryz.isAgg249
  z76 := Tryz.sizeOf249
  v76 := Tryz.zeroValue249
  t77 := Tryz.underlying250
  a77 := Tryz.isAgg250
  z77 := Tryz.sizeOf250
  v77 := Tryz.zeroValue250 }
open Go.RowKit Go.Lib Go.Sort in
/-- **slices.SortFunc, IN THE DOCUMENTATION's OWN TERMS: A PERMUTATION OF WHAT THE ROW HELD, SORTED BY 'cmp(a, b) < 0'.** Which of two equals comes first is left open ("The sort is not guaranteed to be stable"). (LAID AT THE INSTANCE 'slices.SortFunc[[][]int,[]int]': no walk: one application.) -/
theorem Tryz.slices_SortFunc {α : Type} [Inhabited α] (enc : α → Value) (h1 : OneCell enc) (cf : α → α → Int) (hO : SWO (ltOf cf)) (g : Nat) (cb : Array Value) (blk off cap : Nat) (d : Array α) (w : World) (eg : ∀ args w, (callFunc g args).run Tryz.prog w = .ok (.enter g args) w) (hcmp : CmpLays1 Tryz.prog g cb enc cf blk off d.size w) (hH : Holds enc w blk off d) (hblk : blk < w.heap.size) (hsz : d.size < 4611686018427387904) :
    Calls Tryz.prog 125 #[.slice (some ⟨blk, off, none⟩) d.size cap, .func (.func g) #[] cb] w fun e w' =>
      e = .returned (.tuple #[]) ∧ ∃ d' n os, PermIn 0 d.size d d' ∧ SortedIn (ltOf cf) 0 d.size d' ∧ w' = sortWorld enc w blk off n d' os := Any.slices_SortFunc Tryz.laysSlF6_f125 enc h1 cf hO g cb blk off cap d w eg hcmp hH hblk hsz
end Go.Proofs
