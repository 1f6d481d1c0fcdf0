/- Part 14: Lex ShelfB Par1. -/
import Derived.Ground.SlsfProg
import Derived.Shelf.SlSortCmp.Insertion
import Derived.Shelf.SlSortCmp.SiftDown1
import Derived.Shelf.SlSortCmp.HeapSort1
import Derived.Shelf.SlSortCmp.Insertion1
import Derived.Shelf.SlSortCmp.Median1
import Derived.Shelf.SlSortCmp.Pivot1
import Derived.Shelf.SlSortCmp.ReverseRange1
import Derived.Shelf.SlSortCmp.PartialInsertion1
import Derived.Shelf.SlSortCmp.PartitionEqual1
import Derived.Shelf.SlSortCmp.Partition1
import Derived.Shelf.SlSortCmp.Pdq1
import Derived.Shelf.SlSortCmp.Whole1
import Derived.Test.YtoffbdlgmnpblaaGreatJ02
import Derived.Test.YtoffbdlgmnpblaaGreatJ13

/- Plain laws: the order of lists of numbers, and the one sorted list of lists. -/
namespace Go.Proofs.YtoffbdlgmnpblaaGreat.Lex

def cmpL : List Int → List Int → Int
  | [], [] => 0
  | [], _ :: _ => -1
  | _ :: _, [] => 1
  | a :: l, b :: m => if a < b then -1 else if b < a then 1 else cmpL l m
theorem cmpL_neg : ∀ a b, cmpL b a = - cmpL a b
  | [], [] => rfl
  | [], _ :: _ => rfl
  | _ :: _, [] => rfl
  | a :: l, b :: m => by
    unfold cmpL
    by_cases h1 : a < b
    · rw [if_pos h1, if_neg (by omega), if_pos h1]; rfl
    · by_cases h2 : b < a
      · rw [if_pos h2, if_neg h1, if_pos h2]
      · rw [if_neg h1, if_neg h2, if_neg h2, if_neg h1]; exact cmpL_neg l m
theorem cmpL_eq : ∀ a b, cmpL a b = 0 → a = b
  | [], [], _ => rfl
  | [], _ :: _, h => by simp [cmpL] at h
  | _ :: _, [], h => by simp [cmpL] at h
  | a :: l, b :: m, h => by
    unfold cmpL at h
    by_cases h1 : a < b
    · rw [if_pos h1] at h; cases h
    · by_cases h2 : b < a
      · rw [if_neg h1, if_pos h2] at h; cases h
      · rw [if_neg h1, if_neg h2] at h
        rw [cmpL_eq l m h, show a = b by omega]
theorem cmpL_refl : ∀ a, cmpL a a = 0
  | [] => rfl
  | a :: l => by unfold cmpL; rw [if_neg (by omega), if_neg (by omega)]; exact cmpL_refl l
/-- not greater -/
theorem cmpL_le_trans : ∀ a b c, cmpL a b ≤ 0 → cmpL b c ≤ 0 → cmpL a c ≤ 0
  | [], b, [], _, _ => by simp [cmpL]
  | [], b, _ :: _, _, _ => by simp [cmpL]
  | _ :: _, [], c, h, _ => by simp [cmpL] at h
  | _ :: _, _ :: _, [], _, h => by simp [cmpL] at h
  | a :: l, b :: m, c :: n, h, k => by
    unfold cmpL at h k ⊢
    by_cases h1 : a < b
    · by_cases k1 : b < c
      · rw [if_pos (by omega)]; decide
      · by_cases k2 : c < b
        · rw [if_neg k1, if_pos k2] at k; exact absurd k (by decide)
        · rw [if_pos (by omega)]; decide
    · by_cases h2 : b < a
      · rw [if_neg h1, if_pos h2] at h; exact absurd h (by decide)
      · rw [if_neg h1, if_neg h2] at h
        by_cases k1 : b < c
        · rw [if_pos (by omega)]; decide
        · by_cases k2 : c < b
          · rw [if_neg k1, if_pos k2] at k; exact absurd k (by decide)
          · rw [if_neg k1, if_neg k2] at k
            rw [if_neg (by omega), if_neg (by omega)]
            exact cmpL_le_trans l m n h k
def le (a b : List Int) : Bool := decide (cmpL a b ≤ 0)
theorem le_trans (a b c : List Int) (h : le a b = true) (k : le b c = true) : le a c = true := by
  unfold le at *
  simp only [decide_eq_true_eq] at *
  exact cmpL_le_trans a b c h k
theorem le_total (a b : List Int) : (le a b || le b a) = true := by
  unfold le
  have := cmpL_neg a b
  simp only [Bool.or_eq_true, decide_eq_true_eq]
  omega
theorem le_antisymm (a b : List Int) (h : le a b = true) (k : le b a = true) : a = b := by
  unfold le at *
  simp only [decide_eq_true_eq] at *
  have := cmpL_neg a b
  exact cmpL_eq a b (by omega)
/-- sorted in the order of lists -/
def lsort (l : List (List Int)) : List (List Int) := l.mergeSort le
theorem lsort_of {l l' : List (List Int)} (hp : l'.Perm l) (hs : l'.Pairwise fun a b => le a b = true) : l' = lsort l := by
  refine List.Perm.eq_of_pairwise (le := fun a b => le a b = true) (fun a b _ _ h k => le_antisymm a b h k) hs ?_ (hp.trans (List.mergeSort_perm l le).symm)
  exact List.pairwise_mergeSort le_trans (fun a b => le_total a b) l
theorem lsort_perm (l : List (List Int)) : (lsort l).Perm l := List.mergeSort_perm l le
/-- the comparison as the program does it: k numbers are equal -/
theorem cmpL_drop (a b : List Int) (k : Nat) (x y : Int) (ha : a[k]? = some x) (hb : b[k]? = some y) : cmpL (a.drop k) (b.drop k) = if x < y then -1 else if y < x then 1 else cmpL (a.drop (k + 1)) (b.drop (k + 1)) := by
  obtain ⟨h1, rfl⟩ := List.getElem?_eq_some_iff.1 ha
  obtain ⟨h2, rfl⟩ := List.getElem?_eq_some_iff.1 hb
  rw [List.drop_eq_getElem_cons h1, List.drop_eq_getElem_cons h2]
  rfl

end Go.Proofs.YtoffbdlgmnpblaaGreat.Lex

/- Contracts of slices.SortFunc and what it calls: the lines that the kit's tools lay-shelf.mjs and lay-plain.mjs wrote for this dump. -/
namespace Go.Proofs
open Go.Shelf
def Tryz.laysSlF6_f125_ren : Go.Shelf.Ren := ⟨fun | 6 => 125 | 15 => 162 | 14 => 161 | 28 => 197 | 29 => 198 | 20 => 189 | 21 => 190 | 22 => 191 | 23 => 192 | 24 => 193 | 25 => 194 | 26 => 195 | 27 => 196 | 46 => 240 | 47 => 241 | 48 => 242 | 49 => 243 | 50 => 244 | 57 => 257 | n => n, fun | 22 => 27 | 24 => 31 | 25 => 131 | 3 => 3 | 39 => 172 | 0 => 0 | 53 => 199 | 55 => 201 | 4 => 4 | 46 => 193 | 45 => 192 | 50 => 188 | 5 => 5 | 9 => 9 | 66 => 231 | 70 => 129 | 76 => 249 | 77 => 250 | n => n, fun | n => n⟩
theorem Tryz.laysSlF6_f125 : Go.Proofs.SlLaysF.n6 Tryz.prog Tryz.laysSlF6_f125_ren := {
  mixed := by kernel_rfl
  f6 := ⟨Tryz.f125.name, by decide, Tryz.func125.trans (congrArg some (by kernel_rfl))⟩
  f14 := ⟨Tryz.f161.name, by decide, Tryz.func161.trans (congrArg some (by kernel_rfl))⟩
  f15 := Tryz.func162.trans (congrArg some (by kernel_rfl))
  f20 := ⟨Tryz.f189.name, by decide, Tryz.func189.trans (congrArg some (by kernel_rfl))⟩
  f21 := ⟨Tryz.f190.name, by decide, Tryz.func190.trans (congrArg some (by kernel_rfl))⟩
  f22 := ⟨Tryz.f191.name, by decide, Tryz.func191.trans (congrArg some (by kernel_rfl))⟩
  f23 := ⟨Tryz.f192.name, by decide, Tryz.func192.trans (congrArg some (by kernel_rfl))⟩
  f24 := ⟨Tryz.f193.name, by decide, Tryz.func193.trans (congrArg some (by kernel_rfl))⟩
  f25 := ⟨Tryz.f194.name, by decide, Tryz.func194.trans (congrArg some (by kernel_rfl))⟩
  f26 := ⟨Tryz.f195.name, by decide, Tryz.func195.trans (congrArg some (by kernel_rfl))⟩
  f27 := ⟨Tryz.f196.name, by decide, Tryz.func196.trans (congrArg some (by kernel_rfl))⟩
  f28 := Tryz.func197.trans (congrArg some (by kernel_rfl))
  f29 := Tryz.func198.trans (congrArg some (by kernel_rfl))
  f46 := ⟨Tryz.f240.name, by decide, Tryz.func240.trans (congrArg some (by kernel_rfl))⟩
  f47 := Tryz.func241.trans (congrArg some (by kernel_rfl))
  f48 := Tryz.func242.trans (congrArg some (by kernel_rfl))
  f49 := ⟨Tryz.f243.name, by decide, Tryz.func243.trans (congrArg some (by kernel_rfl))⟩
  f50 := ⟨Tryz.f244.name, by decide, Tryz.func244.trans (congrArg some (by kernel_rfl))⟩
  f57 := ⟨Tryz.f257.name, by decide, Tryz.func257.trans (congrArg some (by kernel_rfl))⟩
  t0 := Tryz.underlying0
  a0 := Tryz.isAgg0
  z0 := Tryz.sizeOf0
  v0 := Tryz.zeroValue0
  t3 := Tryz.underlying3
  a3 := Tryz.isAgg3
  z3 := Tryz.sizeOf3
  v3 := Tryz.zeroValue3
  t4 := Tryz.underlying4
  a4 := Tryz.isAgg4
  z4 := Tryz.sizeOf4
  v4 := Tryz.zeroValue4
  t5 := Tryz.underlying5
  a5 := Tryz.isAgg5
  z5 := Tryz.sizeOf5
  v5 := Tryz.zeroValue5
  t9 := Tryz.underlying9
  a9 := Tryz.isAgg9
  z9 := Tryz.sizeOf9
  v9 := Tryz.zeroValue9
  t22 := Tryz.underlying27
  a22 := Tryz.isAgg27
  z22 := Tryz.sizeOf27
  v22 := Tryz.zeroValue27
  a24 := Tryz.isAgg31
  z24 := Tryz.sizeOf31
  t25 := Tryz.underlying131
  a25 := Tryz.isAgg131
  z25 := Tryz.sizeOf131
  v25 := Tryz.zeroValue131
  t39 := Tryz.underlying172
  a39 := Tryz.isAgg172
  z39 := Tryz.sizeOf172
  v39 := Tryz.zeroValue172
  t45 := Tryz.underlying192
  a45 := Tryz.isAgg192
  z45 := Tryz.sizeOf192
  v45 := Tryz.zeroValue192
  t46 := Tryz.underlying193
  a46 := Tryz.isAgg193
  z46 := Tryz.sizeOf193
  v46 := Tryz.zeroValue193
  t50 := Tryz.underlying188
  a50 := Tryz.isAgg188
  z50 := Tryz.sizeOf188
  v50 := Tryz.zeroValue188
  t53 := Tryz.underlying199
  a53 := Tryz.isAgg199
  z53 := Tryz.sizeOf199
  v53 := Tryz.zeroValue199
  t55 := Tryz.underlying201
  a55 := Tryz.isAgg201
  z55 := Tryz.sizeOf201
  v55 := Tryz.zeroValue201
  t66 := Tryz.underlying231
  a66 := Tryz.isAgg231
  z66 := Tryz.sizeOf231
  v66 := Tryz.zeroValue231
  t70 := Tryz.underlying129
  a70 := Tryz.isAgg129
  z70 := Tryz.sizeOf129
  v70 := Tryz.zeroValue129
  t76 := Tryz.underlying249
  a76 := Tryz.isAgg249
  z76 := Tryz.sizeOf249
  v76 := Tryz.zeroValue249
  t77 := Tryz.underlying250
  a77 := Tryz.isAgg250
  z77 := Tryz.sizeOf250
  v77 := Tryz.zeroValue250 }
open Go.RowKit Go.Lib Go.Sort in
/-- **slices.SortFunc: WHAT THE ROW HOLDS, TO THE ELEMENT.** (LAID AT THE INSTANCE 'slices.SortFunc[[][]int,[]int]': no walk: one application.) -/
theorem Tryz.slices_SortFunc_eq {α : Type} [Inhabited α] (enc : α → Value) (h1 : OneCell enc) (cf : α → α → Int) (hO : SWO (ltOf cf)) (g : Nat) (cb : Array Value) (blk off cap : Nat) (d : Array α) (w : World) (eg : ∀ args w, (callFunc g args).run Tryz.prog w = .ok (.enter g args) w) (hcmp : CmpLays1 Tryz.prog g cb enc cf blk off d.size w) (hH : Holds enc w blk off d) (hblk : blk < w.heap.size) (hsz : d.size < 4611686018427387904) :
    Calls Tryz.prog 125 #[.slice (some ⟨blk, off, none⟩) d.size cap, .func (.func g) #[] cb] w fun e w' =>
      e = .returned (.tuple #[]) ∧ ∃ n os, w' = sortWorld enc w blk off n (pdq (ltOf cf) d 0 d.size (Lib.bitLen d.size) true true) os := Any.slices_SortFunc_eq Tryz.laysSlF6_f125 enc h1 cf hO g cb blk off cap d w eg hcmp hH hblk hsz
open Go.RowKit Go.Lib Go.Sort in
/-- **slices.SortFunc, IN THE DOCUMENTATION's OWN TERMS: A PERMUTATION OF WHAT THE ROW HELD, SORTED BY 'cmp(a, b) < 0'.** Which of two equals comes first is left open ("The sort is not guaranteed to be stable"). (LAID AT THE INSTANCE 'slices.SortFunc[[][]int,[]int]': no walk: one application.) -/
theorem Tryz.slices_SortFunc {α : Type} [Inhabited α] (enc : α → Value) (h1 : OneCell enc) (cf : α → α → Int) (hO : SWO (ltOf cf)) (g : Nat) (cb : Array Value) (blk off cap : Nat) (d : Array α) (w : World) (eg : ∀ args w, (callFunc g args).run Tryz.prog w = .ok (.enter g args) w) (hcmp : CmpLays1 Tryz.prog g cb enc cf blk off d.size w) (hH : Holds enc w blk off d) (hblk : blk < w.heap.size) (hsz : d.size < 4611686018427387904) :
    Calls Tryz.prog 125 #[.slice (some ⟨blk, off, none⟩) d.size cap, .func (.func g) #[] cb] w fun e w' =>
      e = .returned (.tuple #[]) ∧ ∃ d' n os, PermIn 0 d.size d d' ∧ SortedIn (ltOf cf) 0 d.size d' ∧ w' = sortWorld enc w blk off n d' os := Any.slices_SortFunc Tryz.laysSlF6_f125 enc h1 cf hO g cb blk off cap d w eg hcmp hH hblk hsz
end Go.Proofs

/- Rows of rows of the call's own, as append makes them; comparing and sorting them. -/
namespace Go.Proofs.YtoffbdlgmnpblaaGreat
open Go.RowKit
set_option maxHeartbeats 4000000
set_option maxRecDepth 100000

theorem Compare_calls (xs ys : List Int) (u v : Value) (D : Nat → Prop) (w : World) (hx : Sl (Kind.int .i64) w D u xs) (hy : Sl (Kind.int .i64) w D v ys) (hn : xs.length ≤ 1000000) (hm : ys.length ≤ 1000000) :
    Calls Tryz.prog 126 #[u, v] w fun e w' => e = .returned (.int .i64 (Lex.cmpL xs ys)) ∧ w = w' := by
  obtain ⟨A, c, rfl, h1, h2, h3⟩ := hx.ints
  obtain ⟨B, d, rfl, k1, k2, k3⟩ := hy.ints
  unfold maxLen at h2 k2
  have H3 := Lib.hid h3
  have K3 := Lib.hid k3
  clear hx hy h3 k3
  go_enter Tryz.func126, Tryz.ntmps126
  go_wp2
  go_loop [11] (fun k => ∃ j : Nat, j ≤ xs.length ∧ k = .int .i64 (j : Int) ∧ j ≤ ys.length ∧ Hid (Lex.cmpL xs ys = Lex.cmpL (xs.drop j) (ys.drop j))) (fun k => xs.length - (intOf k).toNat)
  case atStart => exact ⟨0, Nat.zero_le _, rfl, Nat.zero_le _, rfl⟩
  case round =>
    obtain ⟨j, hj, rfl, hj2, HL⟩ := hrel
    by_cases hlt : j < xs.length
    · obtain ⟨ad, rfl, -, hc⟩ := H3.out (by omega)
      have q1 := hc j hlt
      have hx := List.getElem?_eq_getElem hlt
      rw [Dig.gd_of hx] at q1
      have HX := Lib.hid hx
      generalize xs[j] = x at *
      clear hc hx
      by_cases hlt2 : j < ys.length
      · obtain ⟨bd, rfl, -, hc⟩ := K3.out (by omega)
        have q2 := hc j hlt2
        have hy := List.getElem?_eq_getElem hlt2
        rw [Dig.gd_of hy] at q2
        have HY := Lib.hid hy
        generalize ys[j] = y at *
        clear hc hy
        have HC := Lib.hid (Lex.cmpL_drop xs ys j x y HX.out HY.out)
        go_wp2_with fail
        refine (Tryz.cmp_Compare_int x y w).mono ?_
        rintro e w2 ⟨rfl, rfl⟩
        rcases Int.lt_trichotomy x y with hxy | hxy | hxy
        · have e1 : Lib.compareInt x y = -1 := by unfold Lib.compareInt; rw [if_pos hxy]
          have HS := Lib.hid (show Lex.cmpL xs ys = -1 by rw [HL.out, HC.out, if_pos hxy])
          rw [e1]
          clear e1 hxy q1 q2
          go_wp2
          go_ret
          exact ⟨ret_int HS.out.symm, rfl⟩
        · have e1 : Lib.compareInt x y = 0 := by unfold Lib.compareInt; rw [if_neg (by omega), if_neg (by omega)]
          have HS := Lib.hid (show Lex.cmpL xs ys = Lex.cmpL (xs.drop (j + 1)) (ys.drop (j + 1)) by rw [HL.out, HC.out, if_neg (by omega), if_neg (by omega)])
          rw [e1]
          clear e1 hxy q1 q2
          go_wp2
          go_round
          case rel => exact ⟨j + 1, by omega, by go_num, by omega, HS⟩
          case measure => simp [intOf]; omega
        · have e1 : Lib.compareInt x y = 1 := by unfold Lib.compareInt; rw [if_neg (by omega), if_pos hxy]
          have HS := Lib.hid (show Lex.cmpL xs ys = 1 by rw [HL.out, HC.out, if_neg (by omega), if_pos hxy])
          rw [e1]
          clear e1 hxy q1 q2
          go_wp2
          go_ret
          exact ⟨ret_int HS.out.symm, rfl⟩
      · obtain rfl : j = ys.length := by omega
        have HS := Lib.hid (show Lex.cmpL xs ys = 1 by
          rw [HL.out, List.drop_length]
          obtain ⟨h, e⟩ := List.getElem?_eq_some_iff.1 HX.out
          rw [List.drop_eq_getElem_cons h]; rfl)
        clear hlt2
        go_wp2
        go_ret
        exact ⟨ret_int HS.out.symm, rfl⟩
    · obtain rfl : j = xs.length := by omega
      clear hlt
      by_cases hlt2 : xs.length < ys.length
      · have HS := Lib.hid (show Lex.cmpL xs ys = -1 by
          rw [HL.out, List.drop_length, List.drop_eq_getElem_cons hlt2]; rfl)
        go_wp2
        go_ret
        exact ⟨ret_int HS.out.symm, rfl⟩
      · have HS := Lib.hid (show Lex.cmpL xs ys = 0 by
          rw [HL.out, List.drop_length, List.drop_eq_nil_of_le (by omega)]; rfl)
        go_wp2
        go_ret
        exact ⟨ret_int HS.out.symm, rfl⟩

/-! ### rows -/
/-- v is a list of slices of the call's own; each of them is a row of the call's own, too; ps: the slices with what they read as -/
structure RowsC (W : World) (B : Nat) (v : Value) (ps : List (Value × List Int)) : Prop where
  own : W.ownsRow B 31 1 v ps.length (ps.map (·.1))
  row : ∀ p ∈ ps, W.ownsRow B 3 1 p.1 p.2.length (ints p.2) ∧ ∀ k, p.1.ownBlock = some k → v.ownBlock ≠ some k
section
variable {W W' : World} {B : Nat} {v : Value} {ps : List (Value × List Int)}
theorem RowsC.kept (h : RowsC W B v ps) (hb : ∀ k, B ≤ k → k < W.heap.size → W'.heap[k]? = W.heap[k]?) : RowsC W' B v ps :=
  ⟨own_kept h.own fun k hk => hb k (h.own.lt k hk).1 (h.own.lt k hk).2, fun p hp => ⟨own_kept (h.row p hp).1 fun k hk => hb k ((h.row p hp).1.lt k hk).1 ((h.row p hp).1.lt k hk).2, (h.row p hp).2⟩⟩
theorem RowsC.below (h : RowsC W B v ps) (hb : Below W.heap.size W W') : RowsC W' B v ps := h.kept fun k _ hk => hb.block k hk
theorem RowsC.sl (h : RowsC W B v ps) : Rows2 W (fun b => B ≤ b ∧ b < W.heap.size) v (ps.map (·.2)) := by
  obtain ⟨A, c, rfl, h1, h2, h3⟩ := own_form h.own
  refine ⟨A, c, by rw [List.length_map], by rw [List.length_map]; exact h1, h2, fun i xs hx => ?_⟩
  rw [List.getElem?_map] at hx
  obtain ⟨p, hp, rfl⟩ := Option.map_eq_some_iff.1 hx
  have hlt := (List.getElem?_eq_some_iff.1 hp).1
  obtain ⟨ad, e, hb, hl, -, hat⟩ := h3 (by omega)
  refine ⟨ad, [p.1], e, ⟨hb, hl⟩, ⟨p.1, rfl, (own_ints (h.row p (List.mem_of_getElem? hp)).1).2⟩, fun j u hj => ?_⟩
  cases j with
  | zero =>
    simp at hj; subst hj
    rw [add_of_add, show i * (Kind.slice (Kind.int .i64)).sz + 0 = i from by show i * 1 + 0 = i; omega]
    exact hat i _ (by rw [List.getElem?_map, hp]; rfl)
  | succ j => simp at hj
end

open Go.Lib Go.Sort in
theorem heap_sortWorld {α : Type} [Inhabited α] (enc : α → Value) (w : World) (blk off m : Nat) (dk : Array α) (os : Array Obj) {k : Nat} (hk : k < w.heap.size) (hne : k ≠ blk) : (sortWorld enc w blk off m dk os).heap[k]? = w.heap[k]? := by
  unfold sortWorld grow putRow mapBlock
  simp only
  rw [Array.getElem?_append_left (by simpa [Sort.ahead] using hk)]
  simp [Sort.ahead, Array.getElem?_modify, Ne.symm hne]

section
open Go.Lib Go.Sort
variable {α : Type} [Inhabited α]
theorem take_putCellsE (enc : α → Value) (cur : Array Value) (ts : List α) (h : ts.length ≤ cur.size) : (putCells enc 0 ts.toArray cur).toList.take ts.length = ts.map enc := by
  apply List.ext_getElem?
  intro j
  by_cases hj : j < ts.length
  · rw [List.getElem?_take_of_lt hj, Array.getElem?_toList]
    simp [putCells, hj, show j < cur.size by omega]
  · rw [List.getElem?_take_eq_none (by omega), List.getElem?_eq_none (by simp; omega)]
theorem heap_sortedE (enc : α → Value) {w : World} {g n : Nat} {os : Array Obj} {cur : Array Value} {e : TypeId} {fr : Nat × Nat} (d : Array α) (hb : w.heap[g]? = some (.cells cur e fr)) :
    (sortWorld enc w g 0 n d os).heap[g]? = some (.cells (putCells enc 0 d cur) e fr) := by
  have hg : g < w.heap.size := (Array.getElem?_eq_some_iff.1 hb).1
  unfold sortWorld
  rw [heap_grow_old _ _ (by simpa using hg)]
  simp [putRow, mapBlock, Sort.ahead, Array.getElem?_modify, hb, onCells]
theorem grownBy_sortedE (enc : α → Value) {w : World} {g n : Nat} {os : Array Obj} (d : Array α) : w.grownBy (sortWorld enc w g 0 n d os) (some g) := by
  refine ⟨rfl, rfl, rfl, by simp [sortWorld], fun k hk hne => heap_sortWorld enc w g 0 n d os hk fun e => hne (by rw [e])⟩
end

theorem lt_swo {n : Nat} (f : Fin n → List Int) : Go.Sort.SWO (ltOf fun i j => Lex.cmpL (f i) (f j)) := by
  refine ⟨fun x => ?_, fun x y z h k => ?_, fun x y z h k => ?_⟩
  · simp [ltOf, Lex.cmpL_refl]
  · simp only [ltOf, decide_eq_true_eq] at h k ⊢
    have h1 := Lex.cmpL_le_trans (f x) (f y) (f z) (by omega) (by omega)
    by_cases e : Lex.cmpL (f x) (f z) = 0
    · have e2 := Lex.cmpL_eq _ _ e
      have h2 := Lex.cmpL_neg (f y) (f z)
      rw [← e2] at h2 k
      have h3 := Lex.cmpL_neg (f x) (f y)
      omega
    · omega
  · simp only [ltOf, decide_eq_false_iff_not] at h k ⊢
    have h2 := Lex.cmpL_neg (f x) (f y)
    have h3 := Lex.cmpL_neg (f y) (f z)
    have h4 := Lex.cmpL_neg (f x) (f z)
    have h1 := Lex.cmpL_le_trans (f z) (f y) (f x) (by omega) (by omega)
    omega

theorem enter_cmp : ∀ args w, (callFunc 126 args).run Tryz.prog w = .ok (.enter 126 args) w := enter_of Tryz.func126 (by kernel_rfl) (by kernel_rfl)

open Go.Lib Go.Sort in
theorem SortRows_calls (v : Value) (ps : List (Value × List Int)) (W : World) (B : Nat) (h : RowsC W B v ps) (hp : ps ≠ []) (hl : ps.length ≤ 1000000) (hrl : ∀ p ∈ ps, p.2.length ≤ 1000000) :
    Calls Tryz.prog 125 #[v, .func (.func 126) #[] #[]] W fun e W' => e = .returned (.tuple #[]) ∧ ∃ ps', ps'.Perm ps ∧ ps'.map (·.2) = Lex.lsort (ps.map (·.2)) ∧ RowsC W' B v ps' ∧ W.grownBy W' v.ownBlock := by
  have hpos : 0 < ps.length := List.length_pos_iff.2 hp
  haveI : Inhabited (Fin ps.length) := ⟨⟨0, hpos⟩⟩
  obtain ⟨hown, hrow⟩ := h
  obtain ⟨ho1, ⟨rfl, h2⟩ | ⟨g, cap, cur, rfl, hb, hg, hnc, hcm, hcs, ht⟩⟩ := hown
  · omega
  rw [Nat.mul_one] at ht hcs
  have hgl : g < W.heap.size := (Array.getElem?_eq_some_iff.1 hg).1
  let enc : Fin ps.length → Value := fun i => ps[i].1
  let cf : Fin ps.length → Fin ps.length → Int := fun i j => Lex.cmpL ps[i].2 ps[j].2
  let d : Array (Fin ps.length) := Array.ofFn (fun i => i)
  have hds : d.size = ps.length := Array.size_ofFn
  have hdg : ∀ (j : Nat) (hj : j < ps.length), d[j]! = ⟨j, hj⟩ := fun j hj => by
    rw [getElem!_pos d j (by rw [hds]; exact hj)]
    exact Array.getElem_ofFn _
  have hO : OneCell enc := fun i => by
    obtain ⟨A, c, e, -⟩ := own_form (hrow ps[i] (List.getElem_mem _)).1
    show (ps[i].1).oneCell' = true
    rw [e]; rfl
  have hH : Holds enc W g 0 d := by
    intro j hj
    have hj' : j < ps.length := by omega
    refine ⟨?_, by simp [World.frozen?, hg]⟩
    have h1 : (cur.toList.take ps.length)[j]? = (ps.map (·.1))[j]? := by rw [ht]
    rw [List.getElem?_take_of_lt hj'] at h1
    simp only [World.cell?, hg, Nat.zero_add]
    simp only [Option.isSome_none, Bool.false_eq_true, if_false]
    rw [← Array.getElem?_toList, h1, hdg j hj']
    simp [enc, hj']
  have hcmp : CmpLays1 Tryz.prog 126 #[] enc cf g 0 d.size W := by
    intro m os dk hs x y
    have hsl : ∀ i : Fin ps.length, Sl (Kind.int .i64) (sortWorld enc W g 0 m dk os) (fun b => b < W.heap.size ∧ b ≠ g) ps[i].1 ps[i].2 := by
      intro i
      have hr := hrow ps[i] (List.getElem_mem _)
      have h1 := (own_ints hr.1).2
      obtain ⟨A, c, e, k1, k2, k3⟩ := h1.ints
      rw [e]
      refine Sl.of_ints k1 k2 fun hp0 => ?_
      obtain ⟨ad, ea, hd, hc⟩ := k3 hp0
      have hob : ps[i].1.ownBlock = some ad.block := by
        obtain ⟨A', c', e', -, -, h5⟩ := own_form hr.1
        rw [e] at e'; injection e' with e1 e2 e3
        obtain ⟨ad', ea', -, -, ho, -⟩ := h5 hp0
        rw [← e1, ea] at ea'; injection ea' with ea'
        rw [ea']; exact ho
      have hne : ad.block ≠ g := fun e' => hr.2 _ hob (by rw [e']; rfl)
      refine ⟨ad, ea, ⟨hd.2, hne⟩, fun j hj => ?_⟩
      rw [World.cell?_of_block (w := W) (a := ad.add j) (by rw [block_of_add]; exact heap_sortWorld enc W g 0 m dk os hd.2 hne)]
      exact hc j hj
    refine (Compare_calls ps[x].2 ps[y].2 ps[x].1 ps[y].1 _ _ (hsl x) (hsl y) (hrl _ (List.getElem_mem _)) (hrl _ (List.getElem_mem _))).mono ?_
    rintro e w' ⟨rfl, rfl⟩
    exact ⟨rfl, 0, #[], by rw [grow_empty]; rfl⟩
  have hlen : ps.length = d.size := hds.symm
  have hcall := Tryz.slices_SortFunc enc hO cf (lt_swo fun i => ps[i].2) 126 #[] g 0 cap d W enter_cmp hcmp hH hgl (by omega)
  rw [hds] at hcall
  refine hcall.mono ?_
  rintro e w' ⟨rfl, d', n, os, hperm, hsort, rfl⟩
  obtain ⟨hz, -, hpm⟩ := hperm
  have hz' : d'.size = ps.length := by omega
  have ex : d'.extract 0 ps.length = d' := Array.extract_eq_self_of_le (by omega)
  have ex2 : d.extract 0 ps.length = d := Array.extract_eq_self_of_le (by omega)
  rw [ex, ex2] at hpm
  have hdl : d.toList.map (fun i => ps[i]) = ps := by
    apply List.ext_getElem
    · simp [hds]
    · intro i h1 h2
      simp [d]
  have hl' : (d'.toList.map fun i => ps[i]).length = ps.length := by simp [hz']
  have hpp : (d'.toList.map fun i => ps[i]).Perm ps := by
    have := hpm.map (fun i => ps[i])
    rwa [hdl] at this
  refine ⟨rfl, d'.toList.map fun i => ps[i], hpp, ?_, ⟨?_, fun p hpm' => ?_⟩, grownBy_sortedE enc d'⟩
  · refine Lex.lsort_of (hpp.map _) ?_
    rw [List.pairwise_map, List.pairwise_map, List.pairwise_iff_getElem]
    intro i j hi hj hij
    have hi' : i < d'.size := by simpa using hi
    have hj' : j < d'.size := by simpa using hj
    have := hsort i j (Nat.zero_le _) hij (by omega)
    rw [getElem!_pos d' i hi', getElem!_pos d' j hj'] at this
    simp only [ltOf, decide_eq_false_iff_not] at this
    have h2 := Lex.cmpL_neg ps[d'[i]].2 ps[d'[j]].2
    have h3 : ¬ Lex.cmpL ps[d'[j]].2 ps[d'[i]].2 < 0 := this
    simp only [Lex.le, Array.getElem_toList, decide_eq_true_eq]
    omega
  · have e1 : (d'.toList.map fun i => ps[i]).map (·.1) = d'.toList.map enc := by rw [List.map_map]; rfl
    rw [e1, hl']
    refine ⟨by simp [hz'], .inr ⟨g, cap, _, rfl, hb, heap_sortedE enc d' hg, hnc, hcm, by simp [putCells, hcs], ?_⟩⟩
    have h3 := take_putCellsE enc cur d'.toList (by simp [hz']; omega)
    rw [Array.length_toList, hz'] at h3
    rw [Nat.mul_one]
    exact h3
  · have hp' := hpp.mem_iff.1 hpm'
    have hr := hrow p hp'
    refine ⟨own_kept hr.1 fun k hk => heap_sortWorld enc W g 0 n d' os (hr.1.lt k hk).2 fun e => hr.2 k hk (by rw [e]; rfl), hr.2⟩

theorem DeleteRows_calls (K : Nat) (is : List Int → Bool) (cs : Array Value) (ps : List (Value × List Int)) (v : Value) (B : Nat) (w : World) (eg : ∀ args w, (callFunc K args).run Tryz.prog w = .ok (.enter K args) w) (h : RowsC w B v ps) (hn : ps.length ≤ 1000000)
    (hc : ∀ (W : World) (u : Value) (xs : List Int), w.grownBy W v.ownBlock → xs ∈ ps.map (·.2) → Sl (Kind.int .i64) W (fun b => B ≤ b ∧ b < w.heap.size) u xs → Calls Tryz.prog K (#[u] ++ cs) W fun e w' => e = .returned (.bool (is xs)) ∧ Below W.heap.size W w') :
    Calls Tryz.prog 106 #[v, .func (.func K) #[] cs] w fun e w' => ∃ v', e = .returned v' ∧ RowsC w' B v' (ps.filter fun p => !is p.2) ∧ w.grownBy w' v.ownBlock := by
  have hsl := h.sl
  have hO := h.own
  obtain ⟨A, c, rfl, k1, k2, -⟩ := own_form hO
  unfold maxLen at k2
  have HR := Lib.hid h
  have HO := Lib.hid hO
  have HC := Lib.hid hc
  have HSL := Lib.hid hsl
  have hlo : Lo (fun b => B ≤ b ∧ b < w.heap.size) w := fun k hk => hk.2
  have HLO := Lib.hid hlo
  have HM := Lib.hid (show (ps.map (·.2)).length ≤ 1000000 by rw [List.length_map]; exact hn)
  clear hO hc hsl hlo h
  have hlist : (ps.map (·.2)).any is = ps.any (fun p => is p.2) := by rw [List.any_map]; rfl
  cases hany : ps.any (fun p => is p.2) with
  | false =>
    have hall : ∀ x ∈ ps, is x.2 = false := by
      intro x hx
      have := List.any_eq_false.1 hany x hx
      simpa using this
    have HI := Lib.hid (idxI_none (is := is) (xs := ps.map (·.2)) (fun y hy => by obtain ⟨x, hx, rfl⟩ := List.mem_map.1 hy; exact hall x hx))
    have HF := Lib.hid (show ps.filter (fun p => !is p.2) = ps from List.filter_eq_self.2 fun x hx => by rw [hall x hx]; rfl)
    clear hany hall hlist
    go_enter Tryz.func106, Tryz.ntmps106
    go_wp2_with fail
    refine (IndexFuncR_calls K is cs (ps.map (·.2)) _ _ w eg HLO.out HSL.out HM.out (fun W u xs hW hs hu => HC.out W u xs (below_grown' hW _) hs hu)).mono ?_
    rintro e w2 ⟨rfl, hb2⟩
    rw [HI.out]
    go_wp2_with fail
    go_ret
    refine ⟨_, rfl, ?_, below_grown' hb2 _⟩
    rw [HF.out]
    exact HR.out.below hb2
  | true =>
    obtain ⟨i0, hi0⟩ : ∃ i0, ps.findIdx? (fun p => is p.2) = some i0 := by
      cases h : ps.findIdx? (fun p => is p.2) with
      | none =>
        have h1 := List.findIdx?_eq_none_iff.1 h
        obtain ⟨x, hx, hp⟩ := List.any_eq_true.1 hany
        rw [h1 x hx] at hp; cases hp
      | some i => exact ⟨i, rfl⟩
    obtain ⟨hlt0, hp0, hmin⟩ := List.findIdx?_eq_some_iff_getElem.1 hi0
    have HI := Lib.hid (show idxI is (ps.map (·.2)) = (i0 : Int) by unfold idxI; rw [List.findIdx?_map]; simp only [Function.comp_def]; rw [hi0])
    obtain ⟨ad, rfl⟩ : ∃ ad, A = some ad := by
      obtain ⟨A', c', e, -, -, h3⟩ := own_form HO.out
      injection e with e1 e2 e3
      subst e1
      obtain ⟨ad, e, _⟩ := h3 (by omega)
      exact ⟨ad, e⟩
    obtain ⟨g, rfl⟩ : ∃ g, ad = ⟨g, 0, none⟩ := by
      obtain ⟨-, ⟨h1, _⟩ | ⟨g, cap, cur, h1, _⟩⟩ := HO.out
      · cases h1
      · injection h1 with h1; injection h1 with h1; exact ⟨g, h1⟩
    have HT0 := Lib.hid (show ps.take i0 = (ps.take (i0 + 1)).filter (fun p => !is p.2) by
      have h1 : (ps.take i0).filter (fun p => !is p.2) = ps.take i0 := List.filter_eq_self.2 fun x hx => by
        obtain ⟨j, hj, rfl⟩ := List.getElem_of_mem hx
        rw [List.length_take] at hj
        rw [List.getElem_take]
        have := hmin j (by omega)
        simpa using this
      rw [List.take_add_one, List.getElem?_eq_getElem hlt0, List.filter_append, h1]
      simp [hp0])
    clear hany hi0 hp0 hmin hlist
    go_enter Tryz.func106, Tryz.ntmps106
    go_wp2_with fail
    refine (IndexFuncR_calls K is cs (ps.map (·.2)) _ _ w eg HLO.out HSL.out HM.out (fun W u xs hW hs hu => HC.out W u xs (below_grown' hW _) hs hu)).mono ?_
    rintro e w2 ⟨rfl, hb2⟩
    rw [HI.out]
    have hne : ((i0 : Int) == -1) = false := beq_eq_false_iff_ne.2 (by omega)
    have hG2 := below_grown' hb2 (some g)
    have hO2 := own_kept HO.out fun k hk => hb2.block k (HO.out.lt k hk).2
    go_wp2_with fail
    clear hne
    go_loopw [5, 6] (fun s5 s6 W => ∃ (i j : Nat) (qs : List (Value × List Int)), s5 = .int .i64 (i : Int) ∧ s6 = .int .i64 (j : Int) ∧ i < j ∧ j ≤ ps.length ∧ qs.length = ps.length ∧ w.grownBy W (some g) ∧ W.ownsRow B 31 1 (.slice (some ⟨g, 0, none⟩) ps.length c) ps.length (qs.map (·.1)) ∧ Hid (qs.take i = (ps.take j).filter (fun p => !is p.2)) ∧ Hid (qs.drop j = ps.drop j)) (fun _ s6 _ => ps.length - (intOf s6).toNat)
    case atStart => exact ⟨i0, i0 + 1, ps, rfl, by go_num, by omega, by omega, rfl, hG2, hO2, HT0.out, rfl⟩
    case round =>
      clear hG2 hO2
      obtain ⟨i, j, qs, rfl, rfl, hij, hj, hyl, hG, hO, HT, HDR⟩ := hrel
      by_cases hlt : j < ps.length
      · obtain ⟨x, hx⟩ : ∃ x, ps[j]? = some x := ⟨_, List.getElem?_eq_getElem hlt⟩
        have hyx : qs[j]? = some x := by
          have := congrArg (fun l => l[0]?) HDR.out
          simpa [hx] using this
        obtain ⟨q1, -⟩ := own_cell hO j x.1 (by rw [List.getElem?_map, hyx]; rfl)
        have HX := Lib.hid hx
        have HY := Lib.hid hyx
        have HOO := Lib.hid hO
        have hxs : Sl (Kind.int .i64) wr (fun b => B ≤ b ∧ b < w.heap.size) x.1 x.2 := by
          have hr := HR.out.row x (List.mem_of_getElem? HX.out)
          have h1 := (own_ints hr.1).2
          obtain ⟨A1, c1, e1, m1, m2, m3⟩ := h1.ints
          rw [e1]
          refine Sl.of_ints m1 m2 fun hp0 => ?_
          obtain ⟨ad, ea, hd, hcc⟩ := m3 hp0
          refine ⟨ad, ea, hd, fun q hq => ?_⟩
          have hob : x.1.ownBlock = some ad.block := by
            obtain ⟨A', c', e', -, -, h5⟩ := own_form hr.1
            rw [e1] at e'; injection e' with e2 e3 e4
            obtain ⟨ad', ea', -, -, ho, -⟩ := h5 hp0
            rw [← e2, ea] at ea'; injection ea' with ea'
            rw [ea']; exact ho
          rw [World.cell?_of_block (w := w) (a := ad.add q) (by rw [block_of_add]; exact hG.block _ hd.2 (fun e => hr.2 _ hob e.symm))]
          exact hcc q hq
        have HXS := Lib.hid hxs
        clear hx hyx hO hxs
        go_wp2_with fail
        refine (HC.out wr x.1 x.2 hG (List.mem_map.2 ⟨x, List.mem_of_getElem? HX.out, rfl⟩) HXS.out).mono ?_
        rintro e w3 ⟨rfl, hb3⟩
        have hG3 := grown_trans hG (below_grown' hb3 (some g))
        have hO3 := own_kept HOO.out fun k hk => hb3.block k (HOO.out.lt k hk).2
        clear q1
        have hfs := filter_step (p := fun p : Value × List Int => !is p.2) HX.out HT.out (by omega) hyl
        have HD2 := Lib.hid (show qs.drop (j + 1) = ps.drop (j + 1) by
          have := congrArg (List.drop 1) HDR.out
          simpa [List.drop_drop, Nat.add_comm] using this)
        cases hi : is x.2 with
        | false =>
          have HS := Lib.hid (hfs.1 (by rw [hi]; rfl))
          obtain ⟨u, hu⟩ : ∃ u, (qs.map (·.1))[i]? = some u := ⟨_, List.getElem?_eq_getElem (by rw [List.length_map]; omega)⟩
          obtain ⟨q2, f2⟩ := own_cell hO3 i u hu
          have hO4 := own_set hO3 i (by omega) x.1
          have hG4 := grown_trans hG3 (grown_set w3 g i x.1)
          rw [show (qs.map (·.1)).set i x.1 = (qs.set i x).map (·.1) from by rw [List.map_set]] at hO4
          obtain ⟨A1, c1, hxv, -, -, -⟩ := own_form (HR.out.row x (List.mem_of_getElem? HX.out)).1
          have HXV := Lib.hid hxv
          clear hi hfs hO3 hG3 hu hxv
          rw [HXV.out] at hO4 hG4 ⊢
          go_wp2
          refine ⟨⟨i + 1, j + 1, qs.set i x, by go_num, by go_num, by omega, by omega, by simp [hyl], hG4, hO4, HS, ?_⟩, by simp [intOf]; omega⟩
          have : (qs.set i x).drop (j + 1) = ps.drop (j + 1) := by rw [List.drop_set_of_lt (by omega)]; exact HD2.out
          exact this
        | true =>
          have HS := Lib.hid (hfs.2 (by rw [hi]; rfl))
          clear hi hfs
          go_wp2
          exact ⟨⟨i, j + 1, qs, rfl, by go_num, by omega, by omega, hyl, hG3, hO3, HS, HD2⟩, by simp [intOf]; omega⟩
      · obtain rfl : j = ps.length := by omega
        clear hlt
        have hT2 : qs.take i = ps.filter (fun p => !is p.2) := by have := HT.out; rwa [List.take_length] at this
        have hli : (ps.filter (fun p => !is p.2)).length = i := by rw [← hT2, List.length_take]; omega
        have HT2 := Lib.hid hT2
        have HLI := Lib.hid hli
        clear hT2 hli
        have hcell : ∀ t, i + t < ps.length → ∃ u, wr.cell? ⟨g, i + t, none⟩ = some u ∧ wr.frozen? ⟨g, i + t, none⟩ = false := fun t ht => by
          obtain ⟨u, hu⟩ : ∃ u, (qs.map (·.1))[i + t]? = some u := ⟨_, List.getElem?_eq_getElem (by rw [List.length_map]; omega)⟩
          exact ⟨u, own_cell hO (i + t) u hu⟩
        have hcl : ∀ ty, (Builtin.clear_ #[27] ty #[.slice (some ⟨g, i, none⟩) (ps.length - i) (c - i)]).run Tryz.prog wr = .ok (.tuple #[]) (wr.setCells g i (List.replicate (ps.length - i) (.slice none 0 0))) :=
          fun ty => Lib.run_clear_slice wr _ _ ty (.slice none 0 0) Tryz.underlying27 (Tryz.zeroValue31) rfl rfl g i _ _ (by omega) (fun t ht => by
            obtain ⟨u, h1, -⟩ := hcell t (by omega)
            rw [h1]; rfl) (fun t ht => by
            obtain ⟨u, -, h2⟩ := hcell t (by omega)
            exact h2)
        have HOO := Lib.hid hO
        have HGG := Lib.hid hG
        clear hO hG hcell
        go_wp2
        go_ret
        have hGG := grown_trans HGG.out (setCells_grown wr g (List.replicate (ps.length - i) (.slice none 0 0)) i)
        refine ⟨_, rfl, ⟨?_, fun p hp => ?_⟩, hGG⟩
        · rw [HLI.out, ← HT2.out]
          have := own_cut HOO.out (i := i) (by omega) (List.replicate (ps.length - i) (.slice none 0 0)) i (Nat.le_refl _)
          rw [← List.map_take] at this
          exact this
        · have hp' := (List.mem_filter.1 hp).1
          have hr := HR.out.row p hp'
          exact ⟨own_kept hr.1 fun k hk => hGG.block k (hr.1.lt k hk).2 (fun e => hr.2 k hk e.symm), fun k hk => hr.2 k hk⟩

end Go.Proofs.YtoffbdlgmnpblaaGreat
