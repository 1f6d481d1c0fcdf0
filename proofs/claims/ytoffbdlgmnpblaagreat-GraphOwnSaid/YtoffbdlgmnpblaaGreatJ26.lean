/- Part 26 of 55: Fn1. -/
import Derived.Test.YtoffbdlgmnpblaaGreatJ25

/- Package slices: IndexFunc, ContainsFunc with closures that may make memory; package graph: gcd. -/
namespace Go.Proofs.YtoffbdlgmnpblaaGreat
open Go.RowKit
set_option maxHeartbeats 4000000
set_option maxRecDepth 100000

/-- the place of the first element of a kind, or -1 -/
def idxI {α : Type} (is : α → Bool) (xs : List α) : Int := match xs.findIdx? is with
  | some i => (i : Int)
  | none => -1
theorem idxI_at {α : Type} {is : α → Bool} {xs : List α} {j : Nat} {x : α} (h : xs[j]? = some x) (h0 : ∀ y ∈ xs.take j, is y = false) (h1 : is x = true) : idxI is xs = (j : Int) := by
  obtain ⟨hlt, rfl⟩ := List.getElem?_eq_some_iff.1 h
  have : xs.findIdx? is = some j := by
    rw [List.findIdx?_eq_some_iff_getElem]
    refine ⟨hlt, h1, fun i hi => ?_⟩
    have := h0 xs[i] (List.mem_iff_getElem.2 ⟨i, by rw [List.length_take]; omega, by rw [List.getElem_take]⟩)
    rw [this]; decide
  unfold idxI
  rw [this]
theorem idxI_none {α : Type} {is : α → Bool} {xs : List α} (h0 : ∀ y ∈ xs, is y = false) : idxI is xs = -1 := by
  have : xs.findIdx? is = none := List.findIdx?_eq_none_iff.2 h0
  unfold idxI
  rw [this]
theorem take_false {α : Type} {is : α → Bool} {xs : List α} {j : Nat} {x : α} (h : xs[j]? = some x) (h0 : ∀ y ∈ xs.take j, is y = false) (h1 : is x = false) : ∀ y ∈ xs.take (j + 1), is y = false := by
  intro y hy
  rw [List.take_add_one, h] at hy
  rcases List.mem_append.1 hy with hy | hy
  · exact h0 y hy
  · have : y = x := by simpa using hy
    rw [this]; exact h1
theorem idxI_nonneg {α : Type} (is : α → Bool) (xs : List α) : decide (0 ≤ idxI is xs) = xs.any is := by
  unfold idxI
  cases h : xs.findIdx? is with
  | none =>
    have := List.findIdx?_eq_none_iff.1 h
    have e : xs.any is = false := by rw [List.any_eq_false]; intro x hx; rw [this x hx]; decide
    rw [e]; rfl
  | some i =>
    obtain ⟨hlt, hp, _⟩ := List.findIdx?_eq_some_iff_getElem.1 h
    have e : xs.any is = true := List.any_eq_true.2 ⟨xs[i], List.getElem_mem hlt, hp⟩
    rw [e]; simp

theorem IndexFunc_calls (K : Nat) (is : Int → Bool) (cs : Array Value) (xs : List Int) (v : Value) (D : Nat → Prop) (w : World) (eg : ∀ args w, (callFunc K args).run Tryz.prog w = .ok (.enter K args) w) (hD : Lo D w) (hl : Sl (Kind.int .i64) w D v xs) (hn : xs.length ≤ 1000000)
    (hc : ∀ (W : World) (s : Int), Below w.heap.size w W → s ∈ xs → Calls Tryz.prog K (#[.int .i64 s] ++ cs) W fun e w' => e = .returned (.bool (is s)) ∧ Below W.heap.size W w') :
    Calls Tryz.prog 90 #[v, .func (.func K) #[] cs] w fun e w' => e = .returned (.int .i64 (idxI is xs)) ∧ Below w.heap.size w w' := by
  obtain ⟨A, c, rfl, h1, h2, -⟩ := hl.form
  unfold maxLen at h2
  have HU := Ints.up hl hD
  have HC := Lib.hid hc
  clear hl hc
  go_enter Tryz.func90, Tryz.ntmps90
  go_wp2
  go_loopw [8] (fun k W => ∃ (j : Nat), j ≤ xs.length ∧ k = .int .i64 (j : Int) ∧ Below w.heap.size w W ∧ Hid (∀ y ∈ xs.take j, is y = false)) (fun k _ => xs.length - (intOf k).toNat)
  case atStart => exact ⟨0, Nat.zero_le _, rfl, Below.refl _ _, (by intro y hy; simp at hy : ∀ y ∈ xs.take 0, is y = false)⟩
  case round =>
    obtain ⟨j, hj, rfl, hBW, HN⟩ := hrel
    by_cases hlt : j < xs.length
    · obtain ⟨x, hx⟩ : ∃ x, xs[j]? = some x := ⟨_, List.getElem?_eq_getElem hlt⟩
      obtain ⟨bd, rfl, hDb, hcs⟩ := HU.out (by omega)
      have q1 := hcs _ hBW j _ hx
      have HX := Lib.hid hx
      clear hcs hx
      go_wp2_with fail
      refine (HC.out wr x hBW (List.mem_of_getElem? HX.out)).mono ?_
      rintro e w2 ⟨rfl, hb2⟩
      have hB2 := hBW.trans (hb2.mono hBW.size)
      clear q1
      cases hi : is x with
      | false =>
        have HS := Lib.hid (take_false HX.out HN.out hi)
        clear hi
        go_wp2
        exact ⟨⟨j + 1, by omega, by go_num, hB2, HS⟩, by simp [intOf]; omega⟩
      | true =>
        have HS := Lib.hid (idxI_at HX.out HN.out hi)
        clear hi
        go_wp2
        go_ret
        exact ⟨ret_int HS.out.symm, hB2⟩
    · obtain rfl : j = xs.length := by omega
      have HS := Lib.hid (idxI_none (is := is) (xs := xs) (by have := HN.out; rwa [List.take_length] at this))
      clear hlt
      go_wp2
      go_ret
      exact ⟨ret_int HS.out.symm, hBW⟩

theorem ContainsFunc_calls (K : Nat) (is : Int → Bool) (cs : Array Value) (xs : List Int) (v : Value) (D : Nat → Prop) (w : World) (eg : ∀ args w, (callFunc K args).run Tryz.prog w = .ok (.enter K args) w) (hD : Lo D w) (hl : Sl (Kind.int .i64) w D v xs) (hn : xs.length ≤ 1000000)
    (hc : ∀ (W : World) (s : Int), Below w.heap.size w W → s ∈ xs → Calls Tryz.prog K (#[.int .i64 s] ++ cs) W fun e w' => e = .returned (.bool (is s)) ∧ Below W.heap.size W w') :
    Calls Tryz.prog 103 #[v, .func (.func K) #[] cs] w fun e w' => e = .returned (.bool (xs.any is)) ∧ Below w.heap.size w w' := by
  have HC := Lib.hid hc
  have HL := Lib.hid hl
  have HD := Lib.hid hD
  have HE := Lib.hid (idxI_nonneg is xs)
  clear hl hc hD
  go_enter Tryz.func103, Tryz.ntmps103
  go_wp2_with fail
  refine (IndexFunc_calls K is cs xs v D w eg HD.out HL.out hn HC.out).mono ?_
  rintro e w2 ⟨rfl, hb2⟩
  go_wp2
  go_ret
  exact ⟨ret_bool (by rw [← HE.out]), hb2⟩

/-- a slice of rows that are read -/
theorem IndexFuncR_calls (K : Nat) (is : List Int → Bool) (cs : Array Value) (xss : List (List Int)) (v : Value) (D : Nat → Prop) (w : World) (eg : ∀ args w, (callFunc K args).run Tryz.prog w = .ok (.enter K args) w) (hD : Lo D w) (hl : Rows2 w D v xss) (_hn : xss.length ≤ 1000000)
    (hc : ∀ (W : World) (u : Value) (xs : List Int), Below w.heap.size w W → xs ∈ xss → Sl (Kind.int .i64) W D u xs → Calls Tryz.prog K (#[u] ++ cs) W fun e w' => e = .returned (.bool (is xs)) ∧ Below W.heap.size W w') :
    Calls Tryz.prog 144 #[v, .func (.func K) #[] cs] w fun e w' => e = .returned (.int .i64 (idxI is xss)) ∧ Below w.heap.size w w' := by
  obtain ⟨A, c, rfl, h1, h2, -⟩ := hl.form
  unfold maxLen at h2
  have HL := Lib.hid hl
  have HC := Lib.hid hc
  clear hl hc
  go_enter Tryz.func144, Tryz.ntmps144
  go_wp2
  go_loopw [8] (fun k W => ∃ (j : Nat), j ≤ xss.length ∧ k = .int .i64 (j : Int) ∧ Below w.heap.size w W ∧ Hid (∀ y ∈ xss.take j, is y = false)) (fun k _ => xss.length - (intOf k).toNat)
  case atStart => exact ⟨0, Nat.zero_le _, rfl, Below.refl _ _, (by intro y hy; simp at hy : ∀ y ∈ xss.take 0, is y = false)⟩
  case round =>
    obtain ⟨j, hj, rfl, hBW, HN⟩ := hrel
    by_cases hlt : j < xss.length
    · obtain ⟨x, hx⟩ : ∃ x, xss[j]? = some x := ⟨_, List.getElem?_eq_getElem hlt⟩
      obtain ⟨ad, u, rfl, q0, hs⟩ : ∃ ad u, A = some ad ∧ wr.cell? (ad.add j) = some u ∧ Sl (Kind.int .i64) wr D u x := by
        obtain ⟨A', c', e, -, -, h3⟩ := HL.out
        injection e with e1 e2 e3
        subst e1
        obtain ⟨ad, cs', ea, hd, ⟨u, rfl, hu⟩, hat⟩ := h3 j x hx
        have h0 := hat 0 u rfl
        rw [add_of_add, show j * (Kind.slice (Kind.int .i64)).sz + 0 = j from by show j * 1 + 0 = j; omega] at h0
        exact ⟨ad, u, ea, (hBW.cell (p := ad.add j) (by rw [block_of_add]; exact hD _ hd)).trans h0, hu.same (hD.same hBW)⟩
      have HX := Lib.hid hx
      have HSL := Lib.hid hs
      clear hx hs
      go_wp2_with fail
      refine (HC.out wr u x hBW (List.mem_of_getElem? HX.out) HSL.out).mono ?_
      rintro e w2 ⟨rfl, hb2⟩
      have hB2 := hBW.trans (hb2.mono hBW.size)
      clear q0
      cases hi : is x with
      | false =>
        have HS := Lib.hid (take_false HX.out HN.out hi)
        clear hi
        go_wp2
        exact ⟨⟨j + 1, by omega, by go_num, hB2, HS⟩, by simp [intOf]; omega⟩
      | true =>
        have HS := Lib.hid (idxI_at HX.out HN.out hi)
        clear hi
        go_wp2
        go_ret
        exact ⟨ret_int HS.out.symm, hB2⟩
    · obtain rfl : j = xss.length := by omega
      have HS := Lib.hid (idxI_none (is := is) (xs := xss) (by have := HN.out; rwa [List.take_length] at this))
      clear hlt
      go_wp2
      go_ret
      exact ⟨ret_int HS.out.symm, hBW⟩

/-! ### gcd -/
def gcdTo : Nat → Int → Int → Int
  | 0, a, _ => a
  | f + 1, a, b => if b = 0 then a else gcdTo f b (a.tmod b)
theorem gcdTo_natAbs : ∀ (f : Nat) (a b : Int), b.natAbs < f → (gcdTo f a b).natAbs = Int.gcd a b
  | 0, _, _, h => absurd h (Nat.not_lt_zero _)
  | f + 1, a, b, h => by
    unfold gcdTo
    by_cases e : b = 0
    · rw [if_pos e, e]; simp
    · rw [if_neg e, gcdTo_natAbs f b (a.tmod b) (by rw [Int.natAbs_tmod]; have := Nat.mod_lt a.natAbs (show 0 < b.natAbs by omega); omega)]
      unfold Int.gcd
      rw [Int.natAbs_tmod, Nat.gcd_comm, ← Nat.gcd_rec, Nat.gcd_comm]
theorem gcd_calls (a b : Int) (w : World) (ha : -1000000 ≤ a) (ha' : a ≤ 1000000) (hb : -1000000 ≤ b) (hb' : b ≤ 1000000) :
    Calls Tryz.prog 80 #[.int .i64 a, .int .i64 b] w fun e w' => e = .returned (.int .i64 (Int.gcd a b)) ∧ Drawn w w' := by
  go_enter Tryz.func80, Tryz.ntmps80
  go_wp2
  go_loopw [0, 1] (fun x y W => ∃ (p q : Int), x = .int .i64 p ∧ y = .int .i64 q ∧ -1000000 ≤ p ∧ p ≤ 1000000 ∧ -1000000 ≤ q ∧ q ≤ 1000000 ∧ Drawn w W ∧ Hid (Int.gcd p q = Int.gcd a b)) (fun _ y _ => (intOf y).natAbs)
  case atStart => exact ⟨a, b, rfl, rfl, ha, ha', hb, hb', Drawn.refl _, rfl⟩
  case round =>
    obtain ⟨p, q, rfl, rfl, hp, hp', hq, hq', hW, HG⟩ := hrel
    by_cases h : q = 0
    · subst h
      have HS := Lib.hid (show (max p (-p) : Int) = (Int.gcd a b : Int) by rw [← HG.out]; simp; omega)
      go_wp2
      go_ret
      exact ⟨ret_int HS.out, hW⟩
    · have hne : (q != 0) = true := by rw [bne_iff_ne]; exact h
      have hlt : (p.tmod q).natAbs < q.natAbs := by rw [Int.natAbs_tmod]; exact Nat.mod_lt _ (by omega)
      have HLT := Lib.hid (show -1000000 ≤ p.tmod q ∧ p.tmod q ≤ 1000000 ∧ (p.tmod q).natAbs < q.natAbs from ⟨by omega, by omega, hlt⟩)
      clear hlt
      have HT := Lib.hid (show Int.gcd q (p.tmod q) = Int.gcd a b by
        rw [← HG.out]; unfold Int.gcd; rw [Int.natAbs_tmod, Nat.gcd_comm, ← Nat.gcd_rec, Nat.gcd_comm])
      go_wp2
      go_quiet (fail)
      go_wp2
      refine ⟨⟨q, p.tmod q, rfl, rfl, hq, hq', HLT.out.1, HLT.out.2.1, ?_, HT⟩, HLT.out.2.2⟩
      exact hW.step _

end Go.Proofs.YtoffbdlgmnpblaaGreat
