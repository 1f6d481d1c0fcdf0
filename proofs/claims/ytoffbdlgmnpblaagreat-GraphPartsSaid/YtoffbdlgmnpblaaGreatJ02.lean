/- Part 2: Md2 Shelf Gr0 Gr1 ShelfS. -/
import Derived.Test.YtoffbdlgmnpblaaGreatJ01
import Derived.Shelf.Small.Bits
import Derived.Shelf.Small.Wraps
import Derived.Shelf.Strconv.Itoa0
import Derived.Shelf.Bits.Mul64
import Derived.Shelf.Slices.Turned
import Derived.Ground.Names2Prog
import Derived.Shelf.Slices.Clone
import Derived.Shelf.Slices.SearchI
import Derived.Ground.SlgnProg
import Derived.Shelf.SlicesE.Clone
import Derived.Test.YtoffbdlgmnpblaaGreatProg
import Derived.Maps.OwnOps
import Derived.Maps.Views
import Derived.Sort.OwnSortedInts
import Derived.Deep.RegionLaw
import Derived.NoCompiler
import Derived.Shelf.Sort.Plain
import Derived.Shelf.Slices.In.SortNone

/- Models as data: numbers, branches, choices, states; how they lie in memory. -/
namespace Go.Proofs.YtoffbdlgmnpblaaGreat
open Go.RowKit

structure Num where
  top : Int
  low : Int
  deriving DecidableEq
structure Br where
  to : Int
  ch : Num
  deriving DecidableEq
structure Ch where
  rw : Num
  brs : List Br
  deriving DecidableEq
structure St where
  owner : Int
  mark : Int
  chs : List Ch
  deriving DecidableEq

def Kind.br : Kind Br where
  sz := 3
  R _ _ cs x := cs = [.int .i64 x.to, .int .i64 x.ch.top, .int .i64 x.ch.low]
  len h := by subst h; rfl
  same h _ := h
  mono h _ := h
def Kind.ch : Kind Ch where
  sz := 3
  R w D cs x := ∃ v, cs = [.int .i64 x.rw.top, .int .i64 x.rw.low, v] ∧ Sl Kind.br w D v x.brs
  len h := by obtain ⟨v, rfl, _⟩ := h; rfl
  same h hs := by obtain ⟨v, e, h⟩ := h; exact ⟨v, e, h.same hs⟩
  mono h hs := by obtain ⟨v, e, h⟩ := h; exact ⟨v, e, h.mono hs⟩
def Kind.st : Kind St where
  sz := 3
  R w D cs x := ∃ v, cs = [.int .i64 x.owner, .int .i64 x.mark, v] ∧ Sl Kind.ch w D v x.chs
  len h := by obtain ⟨v, rfl, _⟩ := h; rfl
  same h hs := by obtain ⟨v, e, h⟩ := h; exact ⟨v, e, h.same hs⟩
  mono h hs := by obtain ⟨v, e, h⟩ := h; exact ⟨v, e, h.mono hs⟩

/-- a model lies in memory -/
def ModelC (w : World) (D : Nat → Prop) (v : Value) (m : List St) : Prop := ∃ u, v = .agg #[u] ∧ Sl Kind.st w D u m
theorem ModelC.same {w w' : World} {D : Nat → Prop} {v : Value} {m : List St} (h : ModelC w D v m) (hs : Same D w w') : ModelC w' D v m := by
  obtain ⟨u, e, h⟩ := h; exact ⟨u, e, h.same hs⟩
theorem ModelC.mono {w : World} {D D' : Nat → Prop} {v : Value} {m : List St} (h : ModelC w D v m) (hs : ∀ k, D k → D' k) : ModelC w D' v m := by
  obtain ⟨u, e, h⟩ := h; exact ⟨u, e, h.mono hs⟩

section
variable {w : World} {D : Nat → Prop} {A : Option Addr} {n c : Nat}
/-- three cells of one element -/
theorem at3 {w : World} {ad : Addr} {i : Nat} {a b c : Value} (h : At w (ad.add (i * 3)) [a, b, c]) : w.cell? (ad.add (i * 3)) = some a ∧ w.cell? ⟨(ad.add (i * 3)).block, (ad.add (i * 3)).off + 1, none⟩ = some b ∧ w.cell? ⟨(ad.add (i * 3)).block, (ad.add (i * 3)).off + 2, none⟩ = some c :=
  ⟨h 0 a rfl, h 1 b rfl, h 2 c rfl⟩
theorem Sl.br_at {xs : List Br} (h : Sl Kind.br w D (.slice A n c) xs) (i : Nat) (x : Br) (hx : xs[i]? = some x) : ∃ ad, A = some ad ∧ D ad.block ∧ w.cell? (ad.add (i * 3)) = some (.int .i64 x.to) ∧ w.cell? ⟨(ad.add (i * 3)).block, (ad.add (i * 3)).off + 1, none⟩ = some (.int .i64 x.ch.top) ∧ w.cell? ⟨(ad.add (i * 3)).block, (ad.add (i * 3)).off + 2, none⟩ = some (.int .i64 x.ch.low) := by
  obtain ⟨A', c', e, h1, h2, h3⟩ := h
  injection e with e1 e2 e3
  subst e1 e3
  obtain ⟨ad, cs, e, hd, hr, ha⟩ := h3 i x hx
  have hr : cs = _ := hr
  subst hr
  exact ⟨ad, e, hd, at3 ha⟩
theorem Sl.ch_at {xs : List Ch} (h : Sl Kind.ch w D (.slice A n c) xs) (i : Nat) (x : Ch) (hx : xs[i]? = some x) : ∃ ad B m d, A = some ad ∧ D ad.block ∧ w.cell? (ad.add (i * 3)) = some (.int .i64 x.rw.top) ∧ w.cell? ⟨(ad.add (i * 3)).block, (ad.add (i * 3)).off + 1, none⟩ = some (.int .i64 x.rw.low) ∧ w.cell? ⟨(ad.add (i * 3)).block, (ad.add (i * 3)).off + 2, none⟩ = some (.slice B m d) ∧ Sl Kind.br w D (.slice B m d) x.brs := by
  obtain ⟨A', c', e, h1, h2, h3⟩ := h
  injection e with e1 e2 e3
  subst e1 e3
  obtain ⟨ad, cs, e, hd, ⟨v, hr, hs⟩, ha⟩ := h3 i x hx
  subst hr
  obtain ⟨B, d, rfl, -, -, -⟩ := hs.form
  obtain ⟨p1, p2, p3⟩ := at3 ha
  exact ⟨ad, B, _, d, e, hd, p1, p2, p3, hs⟩
theorem Sl.st_at {xs : List St} (h : Sl Kind.st w D (.slice A n c) xs) (i : Nat) (x : St) (hx : xs[i]? = some x) : ∃ ad B m d, A = some ad ∧ D ad.block ∧ w.cell? (ad.add (i * 3)) = some (.int .i64 x.owner) ∧ w.cell? ⟨(ad.add (i * 3)).block, (ad.add (i * 3)).off + 1, none⟩ = some (.int .i64 x.mark) ∧ w.cell? ⟨(ad.add (i * 3)).block, (ad.add (i * 3)).off + 2, none⟩ = some (.slice B m d) ∧ Sl Kind.ch w D (.slice B m d) x.chs := by
  obtain ⟨A', c', e, h1, h2, h3⟩ := h
  injection e with e1 e2 e3
  subst e1 e3
  obtain ⟨ad, cs, e, hd, ⟨v, hr, hs⟩, ha⟩ := h3 i x hx
  subst hr
  obtain ⟨B, d, rfl, -, -, -⟩ := hs.form
  obtain ⟨p1, p2, p3⟩ := at3 ha
  exact ⟨ad, B, _, d, e, hd, p1, p2, p3, hs⟩
end

end Go.Proofs.YtoffbdlgmnpblaaGreat

/- Contracts of the library functions that need no sort by a function (bits, cmp, slices.Sort, Index, Contains, Clone): the lines that the kit's tools lay-shelf.mjs and lay-plain.mjs wrote for this dump. -/
namespace Go.Proofs
open Go.Shelf
def Tryz.lays133_ren : Go.Shelf.Ren := ⟨fun | 133 => 264 | 128 => 197 | n => n, fun | 51 => 199 | 3 => 3 | 4 => 4 | 46 => 172 | 5 => 5 | 9 => 9 | n => n, fun | n => n⟩
theorem Tryz.lays133 : Go.Proofs.Lays.n133 Tryz.prog Tryz.lays133_ren := {
  mixed := by kernel_rfl
  f128 := Tryz.func197.trans (congrArg some (by kernel_rfl))
  f133 := Tryz.func264.trans (congrArg some (by kernel_rfl))
  t3 := Tryz.underlying3
  a3 := Tryz.isAgg3
  z3 := Tryz.sizeOf3
  v3 := Tryz.zeroValue3
  t4 := Tryz.underlying4
  a4 := Tryz.isAgg4
  z4 := Tryz.sizeOf4
  v4 := Tryz.zeroValue4
  t5 := Tryz.underlying5
  a5 := Tryz.isAgg5
  z5 := Tryz.sizeOf5
  v5 := Tryz.zeroValue5
  t9 := Tryz.underlying9
  a9 := Tryz.isAgg9
  z9 := Tryz.sizeOf9
  v9 := Tryz.zeroValue9
  t46 := Tryz.underlying172
  a46 := Tryz.isAgg172
  z46 := Tryz.sizeOf172
  v46 := Tryz.zeroValue172
  t51 := Tryz.underlying199
  a51 := Tryz.isAgg199
  z51 := Tryz.sizeOf199
  v51 := Tryz.zeroValue199 }
/-- bits.LeadingZeros32: "LeadingZeros32 returns the number of leading zero bits in x; the result is 32 for x == 0.": IT RETURNS '32 - Lib.bitLen x'; the world is as it was. ITS CALLEE bits.Len32 IS MET BY ITS OWN CONTRACT OFF THE SHELF (lay that first): entered in place it sends the kernel out of memory. (LAID: no walk: one application.) -/
theorem Tryz.bits_LeadingZeros32 (x : Int) (w : World) (h0 : 0 ≤ x) (h1 : x ≤ 4294967295) :
    Calls Tryz.prog 264 #[.int .u32 x] w fun e w' => e = .returned (.int .i64 (32 - (Lib.bitLen x.toNat : Int))) ∧ w' = w := Any.bits_LeadingZeros32 Tryz.lays133 x w h0 h1
def Tryz.lays122_ren : Go.Shelf.Ren := ⟨fun | 122 => 163 | 215 => 199 | n => n, fun | 3 => 3 | 4 => 4 | n => n, fun | n => n⟩
theorem Tryz.lays122 : Go.Proofs.Lays.n122 Tryz.prog Tryz.lays122_ren := {
  mixed := by kernel_rfl
  f122 := Tryz.func163.trans (congrArg some (by kernel_rfl))
  f215 := Tryz.func199.trans (congrArg some (by kernel_rfl))
  t3 := Tryz.underlying3
  a3 := Tryz.isAgg3
  z3 := Tryz.sizeOf3
  v3 := Tryz.zeroValue3
  t4 := Tryz.underlying4
  a4 := Tryz.isAgg4
  z4 := Tryz.sizeOf4
  v4 := Tryz.zeroValue4 }
open Go.RowKit in
/-- cmp.Compare at int: "Compare returns -1 if x is less than y, 0 if x equals y, +1 if x is greater than y.": IT RETURNS 'Lib.compareInt x y'; the world is as it was. (LAID: no walk: one application.) -/
theorem Tryz.cmp_Compare_int (x y : Int) (w : World) :
    Calls Tryz.prog 163 #[.int .i64 x, .int .i64 y] w fun e w' => e = .returned (.int .i64 (Lib.compareInt x y)) ∧ w' = w := Any.cmp_Compare_int Tryz.lays122 x y w
def Tryz.lays264_ren : Go.Shelf.Ren := ⟨fun | 264 => 236 | n => n, fun | 53 => 201 | 46 => 172 | n => n, fun | n => n⟩
theorem Tryz.lays264 : Go.Proofs.Lays.n264 Tryz.prog Tryz.lays264_ren := {
  mixed := by kernel_rfl
  f264 := Tryz.func236.trans (congrArg some (by kernel_rfl))
  t46 := Tryz.underlying172
  a46 := Tryz.isAgg172
  z46 := Tryz.sizeOf172
  v46 := Tryz.zeroValue172
  t53 := Tryz.underlying201
  a53 := Tryz.isAgg201
  z53 := Tryz.sizeOf201
  v53 := Tryz.zeroValue201 }
open Go.RowKit Go.Lib in
theorem Tryz.bits_Mul64 (x y : Nat) (hx : x < 18446744073709551616) (hy : y < 18446744073709551616) (w : World) :
    Calls Tryz.prog 236 #[.int .u64 x, .int .u64 y] w fun e w' => e = .returned (.tuple #[.int .u64 ((x * y / 18446744073709551616 : Nat) : Int), .int .u64 ((x * y % 18446744073709551616 : Nat) : Int)]) ∧ w' = w := Any.bits_Mul64 Tryz.lays264 x y hx hy w
def Tryz.lays107_ren : Go.Shelf.Ren := ⟨fun | 107 => 78 | 108 => 96 | n => n, fun | 28 => 31 | 3 => 3 | 4 => 4 | 0 => 0 | n => n, fun | n => n⟩
theorem Tryz.lays107 : Go.Proofs.Lays.n107 Tryz.prog Tryz.lays107_ren := {
  mixed := by kernel_rfl
  f107 := Tryz.func78.trans (congrArg some (by kernel_rfl))
  f108 := Tryz.func96.trans (congrArg some (by kernel_rfl))
  t0 := Tryz.underlying0
  a0 := Tryz.isAgg0
  z0 := Tryz.sizeOf0
  v0 := Tryz.zeroValue0
  t3 := Tryz.underlying3
  a3 := Tryz.isAgg3
  z3 := Tryz.sizeOf3
  v3 := Tryz.zeroValue3
  t4 := Tryz.underlying4
  a4 := Tryz.isAgg4
  z4 := Tryz.sizeOf4
  v4 := Tryz.zeroValue4
  t28 := Tryz.underlying31
  a28 := Tryz.isAgg31
  z28 := Tryz.sizeOf31
  v28 := Tryz.zeroValue31 }
open Go.Lib in
/-- slices.Contains at []int: "Contains reports whether v is present in s.": IT RETURNS 'elements.contains v'; the world is as it was. ITS CALLEE slices.Index IS MET BY ITS OWN CONTRACT OFF THE SHELF (lay that first): no loop is walked here. (LAID: no walk: one application.) -/
theorem Tryz.slices_Contains_int (b off n c : Nat) (zs : List Int) (x : Int) (w : World) (hz : n ≤ zs.length) (hbig : n ≤ 9223372036854775807) (hc : ∀ j, j < zs.length → w.cell? ⟨b, off + j, none⟩ = some (.int .i64 (zs.getD j 0))) :
    Calls Tryz.prog 78 #[.slice (some ⟨b, off, none⟩) n c, .int .i64 x] w fun e w' => e = .returned (.bool ((zs.take n).contains x)) ∧ w' = w := Any.slices_Contains_int Tryz.lays107 b off n c zs x w hz hbig hc
open Go.Lib in
/-- The same at a slice of length 0, a nil one too. (LAID: no walk: one application.) -/
theorem Tryz.slices_Contains_int_empty (a : Option Addr) (c : Nat) (x : Int) (w : World) :
    Calls Tryz.prog 78 #[.slice a 0 c, .int .i64 x] w fun e w' => e = .returned (.bool false) ∧ w' = w := Any.slices_Contains_int_empty Tryz.lays107 a c x w
def Tryz.laysNm215_ren : Go.Shelf.Ren := ⟨fun | 15 => 76 | n => n, fun | 22 => 31 | 3 => 3 | 4 => 4 | n => n, fun | n => n⟩
theorem Tryz.laysNm215 : Go.Proofs.Lays2.n15 Tryz.prog Tryz.laysNm215_ren := {
  mixed := by kernel_rfl
  f15 := Tryz.func76.trans (congrArg some (by kernel_rfl))
  t3 := Tryz.underlying3
  a3 := Tryz.isAgg3
  z3 := Tryz.sizeOf3
  v3 := Tryz.zeroValue3
  t4 := Tryz.underlying4
  a4 := Tryz.isAgg4
  z4 := Tryz.sizeOf4
  v4 := Tryz.zeroValue4
  t22 := Tryz.underlying31
  a22 := Tryz.isAgg31
  z22 := Tryz.sizeOf31
  v22 := Tryz.zeroValue31
  i3 := by kernel_rfl }
open Go.RowKit Go.Lib in
/-- slices.Clone at []int: "Clone returns a copy of the slice. The elements are copied using assignment, so this is a shallow clone. The result may have additional unused capacity. The result preserves the nilness of s.": OF A SLICE THAT IS NOT nil IT RETURNS A SLICE THAT IS NOT nil, OF THE SAME ELEMENTS, IN MEMORY OF THE CALL's OWN: in the how-to's words (6f): 'w'.ownsRow B e 1 v' n cells': v' begins at the head of a row among the blocks from B on (B: the heap's size at the call), not frozen, whose first cells are the elements · 'Below B w w'': below B all is as it was. The capacity is whatever the run-time gives. 'zs': what the cells behind the slice's address hold; 'zs.take n': its elements. (LAID: no walk: one application.) -/
theorem Tryz.slices_Clone_int (b off n c : Nat) (zs : List Int) (w : World) (hz : n ≤ zs.length) (hbig : n * 8 ≤ 140737488355328) (hc : ∀ j, j < zs.length → w.cell? ⟨b, off + j, none⟩ = some (.int .i64 (zs.getD j 0))) :
    Calls Tryz.prog 76 #[.slice (some ⟨b, off, none⟩) n c] w fun e w' => ∃ v', e = .returned v' ∧ w'.ownsRow w.heap.size 3 1 v' n ((zs.take n).map (Value.int .i64)) ∧ v' ≠ .slice none 0 0 ∧ Below w.heap.size w w' := Any.slices_Clone_int Tryz.laysNm215 b off n c zs w hz hbig hc
open Go.RowKit Go.Lib in
/-- The same at nil: nil comes back; the world is as it was. (LAID: no walk: one application.) -/
theorem Tryz.slices_Clone_int_nil (n c : Nat) (w : World) :
    Calls Tryz.prog 76 #[.slice none n c] w fun e w' => e = .returned (.slice none 0 0) ∧ w' = w := Any.slices_Clone_int_nil Tryz.laysNm215 n c w
open Go.RowKit Go.Lib in
/-- The same at a slice of length 0 that is not nil, WHATEVER ITS ADDRESS (no cell is asked for): a slice that is not nil and owns nothing comes back. (LAID: no walk: one application.) -/
theorem Tryz.slices_Clone_int_zero (a : Addr) (c : Nat) (w : World) :
    Calls Tryz.prog 76 #[.slice (some a) 0 c] w fun e w' => ∃ v', e = .returned v' ∧ w'.ownsRow w.heap.size 3 1 v' 0 [] ∧ v' ≠ .slice none 0 0 ∧ Below w.heap.size w w' := Any.slices_Clone_int_zero Tryz.laysNm215 a c w
end Go.Proofs

/- A list of rows of numbers that the call itself makes; a set of numbers in a map of its own; sorted rows. -/
namespace Go.Proofs.YtoffbdlgmnpblaaGreat
open Go.RowKit
set_option maxHeartbeats 1000000

theorem elem_i64 : Elem1 Tryz.prog 31 3 (.int .i64 0) 8 := Elem1.mk' Tryz.underlying31 (by kernel_rfl) rfl
theorem elem_row : Elem1 Tryz.prog 27 31 (.slice none 0 0) 24 := Elem1.mk' Tryz.underlying27 (by kernel_rfl) rfl
theorem elem_bool : Elem1 Tryz.prog 64 4 (.bool false) 1 := Elem1.mk' Tryz.underlying64 (by kernel_rfl) rfl

abbrev ints (xs : List Int) : List Value := xs.map (.int .i64)

/-- no cell of the block is frozen -/
def Soft (W : World) (k : Nat) : Prop := ∀ o, W.frozen? ⟨k, o, none⟩ = false
/-- blocks that the call has made, and that may be written -/
def nws (w w' : World) (k : Nat) : Prop := w.heap.size ≤ k ∧ k < w'.heap.size ∧ Soft w' k
theorem Soft.same {W W' : World} {k : Nat} (h : Soft W k) (hb : W'.heap[k]? = W.heap[k]?) : Soft W' k := fun o => (World.frozen?_of_block (w := W) (a := ⟨k, o, none⟩) hb).trans (h o)
theorem own_soft {W : World} {B : Nat} {e : TypeId} {sz : Nat} {v : Value} {n : Nat} {vs : List Value} (h : W.ownsRow B e sz v n vs) : ∀ k, v.ownBlock = some k → Soft W k := by
  obtain ⟨hl, ⟨rfl, h2⟩ | ⟨g, cap, cur, rfl, hb, hg, h4⟩⟩ := h
  · intro k hk; simp [Value.ownBlock] at hk
  · intro k hk o
    simp only [Value.ownBlock, Option.some.injEq] at hk
    subst hk
    simp [World.frozen?, hg]
theorem own_intsS {w : World} {base : Nat} {v : Value} {n : Nat} {k : IntKind} {e : TypeId} {xs : List Int} (h : w.ownsRow base e 1 v n (xs.map (.int k))) :
    Sl (Kind.int k) w (fun b => base ≤ b ∧ b < w.heap.size ∧ Soft w b) v xs := by
  obtain ⟨hl, hs⟩ := own_ints h
  obtain ⟨A, c, e1, h1, h2, h3⟩ := hs.ints
  rw [e1]
  refine Sl.of_ints h1 h2 fun hp => ?_
  obtain ⟨ad, ea, hd, hc⟩ := h3 hp
  refine ⟨ad, ea, ⟨hd.1, hd.2, own_soft h ad.block ?_⟩, hc⟩
  obtain ⟨A', c', e', -, -, h5⟩ := own_form h
  rw [e1] at e'; injection e' with e1 e2 e3
  obtain ⟨ad', ea', -, -, ho, -⟩ := h5 (by omega)
  rw [← e1, ea] at ea'; injection ea' with ea'
  rw [ea']
  exact ho

/-- append of one element as a step of a region that draws -/
theorem step_app1 {P : Program} {ops : Array Oper} {o : Oper} {a : Act} {w : World} {K : Act → World → Prop} {Q : Exit → Act → World → Prop} {F : Prop} {t e : TypeId} {z : Value} {bytes : Nat} (E : Elem1 P t e z bytes)
    (hg : o.guard = none) (s x : Operand) (ho : o.op = .call { callee := .builtin .append, args := #[s, x], argTypes := #[t, t] })
    (base : Nat) (v : Value) (n : Nat) (vs : List Value) (hs : a.eval s = v) (hown : w.ownsRow base e 1 v n vs)
    (ad : Addr) (c : Nat) (u : Value) (hx : a.eval x = .slice (some ad) 1 c) (hc : w.cell? ad = some u) (hu : u.oneCell' = true)
    (hb : (n + 1) * bytes ≤ 140737488355328) (hn : n + 1 ≤ 140737488355328) (hbase : base ≤ w.heap.size)
    (h : ∀ v' w', w'.ownsRow base e 1 v' (n + 1) (vs ++ [u]) → w.grownBy w' v.ownBlock → (v'.ownBlock = v.ownBlock ∨ v'.ownBlock = some w.heap.size) → K (a.put o.dst v') w') :
    if Region.wanted o (yielded ops a.tmps) = true then Oper.wp P o a w K Q else F := by
  have hw : Region.wanted o (yielded ops a.tmps) = true := by simp [Region.wanted, hg]
  rw [if_pos hw]
  obtain ⟨i, hi, hz, hsz, hby⟩ := E.hi
  have hat : ∀ j u', [u][j]? = some u' → w.cell? (ad.add j) = some u' := by
    intro j u' hj
    cases j with
    | zero => simp at hj; subst hj; exact hc
    | succ j => simp at hj
  have hlen : ([u] : List Value).length = 1 * 1 := rfl
  obtain ⟨v', w', hr, h2, h3, _, h5⟩ := run_append_own_at (P := P) w base t o.type e i z 1 bytes E.ht hi hz hsz hby E.hz (by decide) v n vs hown ad 1 c [u] hlen hat (by simpa using hu) (by simp only [maxLen]; omega) hb hbase
  unfold Oper.wp execOp
  simp only [ho, resolve, invoke, builtin, Sem.run_bind, Sem.run_pure, Result.andThen_ok, List.map_toArray, List.map_cons, List.map_nil, hs, hx, hr]
  exact h v' w' h2 h3 h5

/-! ### rows -/
/-- block g holds the slices vs, each of them a row of its own that reads as a list of xss -/
structure OwnRows (W : World) (B g : Nat) (vs : List Value) (xss : List (List Int)) : Prop where
  cells : W.heap[g]? = some (.cells vs.toArray 31 (0, 0))
  len : vs.length = xss.length
  low : B ≤ g
  row : ∀ (i : Nat) (v : Value) (xs : List Int), vs[i]? = some v → xss[i]? = some xs → W.ownsRow B 3 1 v xs.length (ints xs) ∧ v.ownBlock ≠ some g
  apart : ∀ (i j : Nat) (v u : Value) (k : Nat), i ≠ j → vs[i]? = some v → vs[j]? = some u → v.ownBlock = some k → u.ownBlock ≠ some k

section
variable {W W' : World} {B g : Nat} {vs : List Value} {xss : List (List Int)}
theorem OwnRows.lt (h : OwnRows W B g vs xss) : g < W.heap.size := (Array.getElem?_eq_some_iff.1 h.cells).1
theorem OwnRows.kept (h : OwnRows W B g vs xss) (hb : ∀ k, k < W.heap.size → B ≤ k → (k = g ∨ ∃ (i : Nat) (v : Value), vs[i]? = some v ∧ v.ownBlock = some k) → W'.heap[k]? = W.heap[k]?) : OwnRows W' B g vs xss := by
  refine ⟨(hb g h.lt h.low (.inl rfl)).trans h.cells, h.len, h.low, fun i v xs hv hx => ?_, h.apart⟩
  obtain ⟨hr, hne⟩ := h.row i v xs hv hx
  refine ⟨?_, hne⟩
  obtain ⟨h1, h2⟩ := hr
  refine ⟨h1, ?_⟩
  rcases h2 with h2 | ⟨k, cap, cur, hvk, hbk, hck, h5⟩
  · exact .inl h2
  · refine .inr ⟨k, cap, cur, hvk, hbk, (hb k (Array.getElem?_eq_some_iff.1 hck).1 hbk (.inr ⟨i, v, hv, by rw [hvk]; rfl⟩)).trans hck, h5⟩
theorem OwnRows.below (h : OwnRows W B g vs xss) (hb : Below W.heap.size W W') : OwnRows W' B g vs xss := h.kept fun k hk _ _ => hb.block k hk
theorem OwnRows.cell (h : OwnRows W B g vs xss) {i : Nat} {v : Value} (hv : vs[i]? = some v) : W.cell? ⟨g, i, none⟩ = some v ∧ W.frozen? ⟨g, i, none⟩ = false := by
  have hi := (List.getElem?_eq_some_iff.1 hv).1
  constructor
  · simp [World.cell?, h.cells, hi, List.getElem?_eq_some_iff.1 hv |>.2]
  · simp [World.frozen?, h.cells]
theorem OwnRows.get (h : OwnRows W B g vs xss) {i : Nat} {xs : List Int} (hx : xss[i]? = some xs) : ∃ v, vs[i]? = some v ∧ W.ownsRow B 3 1 v xs.length (ints xs) ∧ v.ownBlock ≠ some g := by
  have hi : i < vs.length := by have := (List.getElem?_eq_some_iff.1 hx).1; have := h.len; omega
  exact ⟨vs[i], List.getElem?_eq_getElem hi, h.row i _ _ (List.getElem?_eq_getElem hi) hx⟩
/-- row i has become another one, its slice is stored -/
theorem OwnRows.put (h : OwnRows W B g vs xss) {i : Nat} {v v' : Value} {xs ys : List Int} (hx : xss[i]? = some xs) (hv : vs[i]? = some v) {w' : World} (hg : W.grownBy w' v.ownBlock)
    (hr : w'.ownsRow B 3 1 v' ys.length (ints ys)) (hat : v'.ownBlock = v.ownBlock ∨ ∀ k, v'.ownBlock = some k → W.heap.size ≤ k) :
    OwnRows (w'.setCell ⟨g, i, none⟩ v') B g (vs.set i v') (xss.set i ys) := by
  have hgl := h.lt
  obtain ⟨hro, hne⟩ := h.row i v xs hv hx
  have hi : i < vs.length := (List.getElem?_eq_some_iff.1 hv).1
  have hgb : w'.heap[g]? = some (.cells vs.toArray 31 (0, 0)) := (hg.block g hgl (fun e => hne e.symm)).trans h.cells
  have hne' : v'.ownBlock ≠ some g := by
    rcases hat with e | e
    · rw [e]; exact hne
    · intro hh; have := e g hh; omega
  have hset : ∀ k, k ≠ g → (w'.setCell ⟨g, i, none⟩ v').heap[k]? = w'.heap[k]? := fun k hk => Below.heap_setCell w' ⟨g, i, none⟩ v' k hk
  have hapart : ∀ j u k, j ≠ i → vs[j]? = some u → u.ownBlock = some k → v'.ownBlock ≠ some k := by
    intro j u k hj hu hk e
    rcases hat with hh | hh
    · rw [hh] at e; exact h.apart j i u v k hj hu hv hk e
    · have := hh k e
      obtain ⟨ux, hux⟩ : ∃ ux, xss[j]? = some ux := ⟨_, List.getElem?_eq_getElem (by have := (List.getElem?_eq_some_iff.1 hu).1; have := h.len; omega)⟩
      have := ((h.row j u ux hu hux).1.lt k hk).2
      omega
  refine ⟨?_, by simp [h.len], h.low, ?_, ?_⟩
  · simp only [World.setCell, Array.getElem?_modify, if_true, hgb, Option.map_some]
    simp
  · intro j u ys' hu hy
    by_cases hj : i = j
    · subst hj
      rw [List.getElem?_set_self hi] at hu
      rw [List.getElem?_set_self (by have := h.len; omega)] at hy
      cases hu; cases hy
      refine ⟨?_, hne'⟩
      obtain ⟨h1, h2⟩ := hr
      refine ⟨h1, ?_⟩
      rcases h2 with h2 | ⟨k, cap, cur, hvk, hbk, hck, h5⟩
      · exact .inl h2
      · refine .inr ⟨k, cap, cur, hvk, hbk, (hset k (fun e => hne' (by rw [hvk, e]; rfl))).trans hck, h5⟩
    · rw [List.getElem?_set_ne hj] at hu hy
      obtain ⟨hr2, hn2⟩ := h.row j u ys' hu hy
      refine ⟨?_, hn2⟩
      have hk2 : w'.ownsRow B 3 1 u ys'.length (ints ys') := hr2.kept hg (by
        cases hb : u.ownBlock with
        | none => exact .inl rfl
        | some k => right; intro e; exact h.apart j i u v k (fun e => hj e.symm) hu hv hb e.symm)
      obtain ⟨h1, h2⟩ := hk2
      refine ⟨h1, ?_⟩
      rcases h2 with h2 | ⟨k, cap, cur, hvk, hbk, hck, h5⟩
      · exact .inl h2
      · refine .inr ⟨k, cap, cur, hvk, hbk, (hset k (fun e => hn2 (by rw [hvk, e]; rfl))).trans hck, h5⟩
  · intro j l u u' k hjl hu hu' hk
    by_cases hj : i = j
    · subst hj
      rw [List.getElem?_set_self hi] at hu
      rw [List.getElem?_set_ne hjl] at hu'
      cases hu
      intro e
      exact hapart l u' k (fun e => hjl e.symm) hu' e hk
    · rw [List.getElem?_set_ne hj] at hu
      by_cases hl : i = l
      · subst hl
        rw [List.getElem?_set_self hi] at hu'
        cases hu'
        exact hapart j u k (fun e => hj e.symm) hu hk
      · rw [List.getElem?_set_ne hl] at hu'
        exact h.apart j l u u' k hjl hu hu' hk
/-- made -/
theorem OwnRows.new {n : Nat} (hc : W.heap[g]? = some (.cells (Array.replicate n (.slice none 0 0)) 31 (0, 0))) (hb : B ≤ g) : OwnRows W B g (List.replicate n (.slice none 0 0)) (List.replicate n []) := by
  refine ⟨by rw [hc]; simp, by simp, hb, ?_, ?_⟩
  · intro i v xs hv hx
    rw [List.getElem?_replicate] at hv hx
    split at hv
    · rw [if_pos (by assumption)] at hx
      cases hv; cases hx
      exact ⟨⟨rfl, .inl ⟨rfl, rfl⟩⟩, by simp [Value.ownBlock]⟩
    · cases hv
  · intro i j v u k hij hv hu hk
    rw [List.getElem?_replicate] at hv
    split at hv
    · cases hv; simp [Value.ownBlock] at hk
    · cases hv
/-- read back -/
theorem OwnRows.sl (h : OwnRows W B g vs xss) (hl : xss.length ≤ maxLen) (c : Nat) (hc : c = xss.length) : Sl (Kind.slice (Kind.int .i64)) W (fun b => B ≤ b ∧ b < W.heap.size ∧ Soft W b) (.slice (some ⟨g, 0, none⟩) c c) xss := by
  subst hc
  refine ⟨_, _, rfl, Nat.le_refl _, hl, fun i xs hx => ?_⟩
  obtain ⟨v, hv, hr, -⟩ := h.get hx
  refine ⟨⟨g, 0, none⟩, [v], rfl, ⟨h.low, h.lt, fun o => by simp [World.frozen?, h.cells]⟩, ⟨v, rfl, own_intsS hr⟩, fun j u hj => ?_⟩
  cases j with
  | zero =>
    simp at hj; subst hj
    have e1 : ((⟨g, 0, none⟩ : Addr).add (i * (Kind.slice (Kind.int .i64)).sz)).add 0 = ⟨g, i, none⟩ := by
      show ((⟨g, 0, none⟩ : Addr).add (i * 1)).add 0 = _
      rw [add_of_add, Nat.mul_one, Nat.add_zero]
      unfold Addr.add; split <;> simp_all
    rw [e1]
    exact (h.cell hv).1
  | succ j => simp at hj
end

end Go.Proofs.YtoffbdlgmnpblaaGreat

/- A set of numbers in a map of the call's own. -/
namespace Go.Proofs.YtoffbdlgmnpblaaGreat
open Go.RowKit Go.Maps
open Go.WideElems (Fit rd rg pl rd_val elemAt)
set_option maxHeartbeats 1000000

/-- block b is a map that holds the numbers of s; at most n of them -/
def SeenM (W : World) (b n : Nat) (s : Int → Bool) : Prop :=
  ∃ Dm : DataW Unit, W.ownsMap Tryz.prog 3 (plainElem Tryz.prog 4) b n Dm ∧ Maps.IsMap Dm ∧ ∀ x, (Lit.int .i64 x).wf = true → Dm.atKey (.int .i64 x) (.lit (.bool false)) = .lit (.bool (s x))

theorem SeenM.made (W : World) : SeenM (W.alloc (.map #[] 0)) W.heap.size 0 (fun _ => false) :=
  ⟨_, World.ownsMap_made W _ _ _, isMap_empty, fun _ _ => rfl⟩
theorem SeenM.map_at {W : World} {b n : Nat} {s : Int → Bool} (h : SeenM W b n s) : ∃ es clock, W.heap[b]? = some (.map es clock) := by
  obtain ⟨_, ⟨es, clock, hb, _⟩, _⟩ := h; exact ⟨es, clock, hb⟩
theorem SeenM.kept {W W' : World} {b n : Nat} {s : Int → Bool} (h : SeenM W b n s) (hb : W'.heap[b]? = W.heap[b]?) : SeenM W' b n s := by
  obtain ⟨Dm, ⟨es, clock, h1, h2⟩, h3⟩ := h
  exact ⟨Dm, ⟨es, clock, hb.trans h1, h2⟩, h3⟩
theorem SeenM.lt {W : World} {b n : Nat} {s : Int → Bool} (h : SeenM W b n s) : b < W.heap.size := by
  obtain ⟨es, clock, hb⟩ := h.map_at; exact (Array.getElem?_eq_some_iff.1 hb).1
theorem SeenM.below {W W' : World} {b n : Nat} {s : Int → Bool} (h : SeenM W b n s) (hb : Below W.heap.size W W') : SeenM W' b n s := h.kept (hb.block b h.lt)

theorem SeenM.congr {W : World} {b n : Nat} {s s' : Int → Bool} (h : SeenM W b n s) (e : ∀ x, s x = s' x) : SeenM W b n s' := by
  have : s = s' := funext e
  rw [← this]; exact h
theorem plain_bool_inv {P : Program} {e : TypeId} (he : P.underlying e = some .bool) {v : Value} {z : DataW Unit × List MemPlace} (h : plainElem P e v = some z) : ∃ x, v = .bool x ∧ z = (.lit (.bool x), []) := by
  unfold plainElem at h
  rw [he] at h
  cases v <;> simp at h
  exact ⟨_, rfl, h.symm⟩

/-- make of a map -/
theorem wpList_newMap {P : Program} {w : World} {ops : Array Oper} {rest : List Oper} {o : Oper} {a : Act} {Q : Exit → Act → World → Prop} (t : TypeId)
    (hg : o.guard = none) (hop : o.op = Op.makeMap t none) (hK : wpList P ops Q rest (a.put o.dst (.map (some w.heap.size))) (w.alloc (.map #[] 0))) : wpList P ops Q (o :: rest) a w := by
  refine wpList_plain hg fun K' hK' => ?_
  have hrun := run_makeMap (P := P) t w
  unfold Oper.wp
  simp [execOp, hop, hrun, Result.andThen]
  exact hK' _ _ hK

/-- the look-up -/
theorem wpList_seen {w : World} {ops : Array Oper} {rest : List Oper} {o : Oper} {a : Act} {Q : Exit → Act → World → Prop}
    (hg : o.guard = none) (m x : Operand) (hop : o.op = Op.lookup 132 m x false) (b n : Nat) (s : Int → Bool) (hm : a.eval m = .map (some b)) (hown : SeenM w b n s)
    (y : Int) (hx : a.eval x = .int .i64 y) (hy : (Lit.int .i64 y).wf = true) (c : Bool) (hc : s y = c)
    (hK : wpList Tryz.prog ops Q rest (a.put o.dst (.bool c)) w) : wpList Tryz.prog ops Q (o :: rest) a w := by
  refine wpList_plain hg fun K' hK' => ?_
  obtain ⟨Dm, ho, -, hs⟩ := hown
  have hz : (zeroValue 4).run Tryz.prog w = .ok (.bool false) w := Tryz.zeroValue4 w
  obtain ⟨v, ps, hrun, hv⟩ := ho.lookup (int_keyed Tryz.underlying3) Tryz.underlying132 hz (plainElem_bool Tryz.underlying4 false) (keyOf_int_mk Tryz.underlying3 hy)
  subst hc
  obtain ⟨c, rfl, hc⟩ := plain_bool_inv Tryz.underlying4 hv
  rw [hs y hy] at hc
  cases hc
  unfold Oper.wp
  simp [execOp, hop, hm, hx, hrun, Result.andThen]
  exact hK' _ _ hK

/-- the store of true -/
theorem wpList_see {w : World} {ops : Array Oper} {rest : List Oper} {o : Oper} {a : Act} {Q : Exit → Act → World → Prop}
    (hg : o.guard = none) (m x v : Operand) (hop : o.op = Op.mapUpdate 132 m x v) (b n : Nat) (s : Int → Bool) (hm : a.eval m = .map (some b)) (hown : SeenM w b n s) (hn : n < maxLen)
    (y : Int) (hx : a.eval x = .int .i64 y) (hv : a.eval v = .bool true) (hy : (Lit.int .i64 y).wf = true)
    (hK : ∀ w', SeenM w' b (n + 1) (fun z => s z || z == y) → w.grownBy w' (some b) → wpList Tryz.prog ops Q rest (a.put o.dst undef) w') : wpList Tryz.prog ops Q (o :: rest) a w := by
  obtain ⟨Dm, ho, hD, hs⟩ := hown
  refine wpList_mapUpdate_own w hg m x v _ hop _ _ (int_keyed Tryz.underlying3) Tryz.underlying132 _ b n Dm hm ho hn _ _ _ hx hv (keyOf_int_mk Tryz.underlying3 hy) _ _ (plainElem_bool Tryz.underlying4 true) ?_
  intro w' h1 h2
  refine hK w' ⟨_, h1, hD.put _ _, fun z hz => ?_⟩ h2
  by_cases e : z = y
  · subst e
    rw [atKey_put_same hD (by trivial)]
    simp
  · rw [atKey_put_other (by simpa using e), hs z hz]
    simp [e]

/-- clear -/
theorem wpList_clear {w : World} {ops : Array Oper} {rest : List Oper} {o : Oper} {a : Act} {Q : Exit → Act → World → Prop}
    (hg : o.guard = none) (m : Operand) (hop : o.op = .call { callee := .builtin .clear, args := #[m], argTypes := #[132] }) (b n : Nat) (s : Int → Bool) (hm : a.eval m = .map (some b)) (hown : SeenM w b n s)
    (hK : ∀ w', SeenM w' b 0 (fun _ => false) → w.grownBy w' (some b) → ∀ u, wpList Tryz.prog ops Q rest (a.put o.dst u) w') : wpList Tryz.prog ops Q (o :: rest) a w := by
  refine wpList_plain hg fun K' hK' => ?_
  obtain ⟨es, clock, hb⟩ := hown.map_at
  have hrun : (Builtin.clear_ #[132] o.type #[.map (some b)]).run Tryz.prog w = .ok (.tuple #[]) (ChangeMaps.setBlock w b (.map #[] clock)) := by
    simp [Builtin.clear_, run_underlying Tryz.underlying132, MapKept.run_getObj_map hb, MapKept.run_setObj_map _ hb, Result.andThen, ChangeMaps.setBlock]
  unfold Oper.wp
  simp [execOp, hop, resolve, invoke, builtin, hm, hrun, Result.andThen]
  exact hK' _ _ (hK (ChangeMaps.setBlock w b (.map #[] clock)) ⟨.map [], ⟨#[], clock, ChangeMaps.heap_setBlock_same hb _, ⟨by simp, MapKept.stamped_empty clock, by simp⟩, Nat.le_refl _, rfl⟩, isMap_empty, fun _ _ => rfl⟩
    ⟨rfl, rfl, rfl, by simp [ChangeMaps.setBlock], fun i _ hi => ChangeMaps.heap_setBlock_other hb _ (fun e => hi (by rw [e]))⟩ _)

end Go.Proofs.YtoffbdlgmnpblaaGreat

/- Contracts of slices.Sort: the lines that the kit's tools lay-shelf.mjs and lay-plain.mjs wrote for this dump. -/
namespace Go.Proofs
open Go.Shelf
def Tryz.lays189_ren : Go.Shelf.Ren := ⟨fun | 189 => 127 | 125 => 162 | 257 => 164 | 128 => 197 | 129 => 198 | 294 => 200 | 295 => 201 | 296 => 202 | 297 => 203 | 298 => 204 | 299 => 205 | 216 => 206 | 300 => 207 | 301 => 208 | 328 => 245 | 329 => 241 | 330 => 242 | 331 => 246 | 332 => 247 | 215 => 199 | 343 => 258 | n => n, fun | 28 => 31 | 3 => 3 | 46 => 172 | 0 => 0 | 51 => 199 | 53 => 201 | 4 => 4 | 183 => 193 | 182 => 192 | 131 => 188 | 5 => 5 | 9 => 9 | 218 => 231 | 222 => 129 | 228 => 249 | 229 => 250 | n => n, fun | n => n⟩
theorem Tryz.lays189 : Go.Proofs.Lays.n189 Tryz.prog Tryz.lays189_ren := {
  mixed := by kernel_rfl
  f125 := Tryz.func162.trans (congrArg some (by kernel_rfl))
  f128 := Tryz.func197.trans (congrArg some (by kernel_rfl))
  f129 := Tryz.func198.trans (congrArg some (by kernel_rfl))
  f189 := Tryz.func127.trans (congrArg some (by kernel_rfl))
  f215 := Tryz.func199.trans (congrArg some (by kernel_rfl))
  f216 := Tryz.func206.trans (congrArg some (by kernel_rfl))
  f257 := Tryz.func164.trans (congrArg some (by kernel_rfl))
  f294 := Tryz.func200.trans (congrArg some (by kernel_rfl))
  f295 := Tryz.func201.trans (congrArg some (by kernel_rfl))
  f296 := Tryz.func202.trans (congrArg some (by kernel_rfl))
  f297 := Tryz.func203.trans (congrArg some (by kernel_rfl))
  f298 := Tryz.func204.trans (congrArg some (by kernel_rfl))
  f299 := Tryz.func205.trans (congrArg some (by kernel_rfl))
  f300 := Tryz.func207.trans (congrArg some (by kernel_rfl))
  f301 := Tryz.func208.trans (congrArg some (by kernel_rfl))
  f328 := Tryz.func245.trans (congrArg some (by kernel_rfl))
  f329 := Tryz.func241.trans (congrArg some (by kernel_rfl))
  f330 := Tryz.func242.trans (congrArg some (by kernel_rfl))
  f331 := Tryz.func246.trans (congrArg some (by kernel_rfl))
  f332 := Tryz.func247.trans (congrArg some (by kernel_rfl))
  f343 := Tryz.func258.trans (congrArg some (by kernel_rfl))
  t0 := Tryz.underlying0
  a0 := Tryz.isAgg0
  z0 := Tryz.sizeOf0
  v0 := Tryz.zeroValue0
  t3 := Tryz.underlying3
  a3 := Tryz.isAgg3
  z3 := Tryz.sizeOf3
  v3 := Tryz.zeroValue3
  t4 := Tryz.underlying4
  a4 := Tryz.isAgg4
  z4 := Tryz.sizeOf4
  v4 := Tryz.zeroValue4
  t5 := Tryz.underlying5
  a5 := Tryz.isAgg5
  z5 := Tryz.sizeOf5
  v5 := Tryz.zeroValue5
  t9 := Tryz.underlying9
  a9 := Tryz.isAgg9
  z9 := Tryz.sizeOf9
  v9 := Tryz.zeroValue9
  t28 := Tryz.underlying31
  a28 := Tryz.isAgg31
  z28 := Tryz.sizeOf31
  v28 := Tryz.zeroValue31
  t46 := Tryz.underlying172
  a46 := Tryz.isAgg172
  z46 := Tryz.sizeOf172
  v46 := Tryz.zeroValue172
  t51 := Tryz.underlying199
  a51 := Tryz.isAgg199
  z51 := Tryz.sizeOf199
  v51 := Tryz.zeroValue199
  t53 := Tryz.underlying201
  a53 := Tryz.isAgg201
  z53 := Tryz.sizeOf201
  v53 := Tryz.zeroValue201
  t131 := Tryz.underlying188
  a131 := Tryz.isAgg188
  z131 := Tryz.sizeOf188
  v131 := Tryz.zeroValue188
  t182 := Tryz.underlying192
  a182 := Tryz.isAgg192
  z182 := Tryz.sizeOf192
  v182 := Tryz.zeroValue192
  t183 := Tryz.underlying193
  a183 := Tryz.isAgg193
  z183 := Tryz.sizeOf193
  v183 := Tryz.zeroValue193
  t218 := Tryz.underlying231
  a218 := Tryz.isAgg231
  z218 := Tryz.sizeOf231
  v218 := Tryz.zeroValue231
  t222 := Tryz.underlying129
  a222 := Tryz.isAgg129
  z222 := Tryz.sizeOf129
  v222 := Tryz.zeroValue129
  t228 := Tryz.underlying249
  a228 := Tryz.isAgg249
  z228 := Tryz.sizeOf249
  v228 := Tryz.zeroValue249
  t229 := Tryz.underlying250
  a229 := Tryz.isAgg250
  z229 := Tryz.sizeOf250
  v229 := Tryz.zeroValue250 }
open Go.Sort Go.RowKit in
theorem Tryz.slices_Sort_int (blk off cap : Nat) (zs : List Int) (w : World) (hH : Holds (Value.int .i64) w blk off zs.toArray) (hblk : blk < w.heap.size) (hsz : zs.length < 4611686018427387904) :
    Calls Tryz.prog 127 #[.slice (some ⟨blk, off, none⟩) zs.length cap] w fun e w' =>
      e = .returned (.tuple #[]) ∧ ∃ n os, w' = grow (putRow (Value.int .i64) (Sort.ahead w n) blk off (zs.mergeSort fun x y => decide (x ≤ y)).toArray) os := Any.slices_Sort_int Tryz.lays189 blk off cap zs w hH hblk hsz
open Go.RowKit Go.Sort in
/-- .. and plain. (LAID: no walk: one application.) -/
theorem Tryz.slices_Sort_int_none (p : Option Addr) (cap : Nat) (w : World) :
    Calls Tryz.prog 127 #[.slice p 0 cap] w fun e w' => e = .returned (.tuple #[]) ∧ w' = w := Any.slices_Sort_int_none Tryz.lays189 p cap w
end Go.Proofs
