/-
  PROVED HERE: the law GraphSets of package diceboxlaw05 answers true for every model and list: the program's Edges, From, To and Distance return what the reference returns.
  Conditions: none beyond those of the given statement.
-/
import Derived.Test.YtoffbdlgmnpblaaGreatJ41
import Derived.ProofKit
import Derived.OpenShut
import Derived.ChangeOld
import Derived.Deep.Slices
import Derived.Deep.Strs
import Derived.Test.YtoffbdlgmnpblaaGreatRows
import Derived.Test.YtoffbdlgmnpblaaGreatJ42
import Derived.WalkKit
import Derived.ShutString
import Derived.Below

/- What came in reads as a model, and as a list of numbers. -/
namespace Go.Proofs.YtoffbdlgmnpblaaGreat
open Go.RowKit Go.ChangeShapes Go.WideShapes
set_option maxHeartbeats 1000000
set_option maxRecDepth 100000

theorem blk_lt {w : World} {ad : Addr} {u : Value} (h : w.cell? ad = some u) : ad.block < w.heap.size := by
  unfold World.cell? at h
  cases hh : w.heap[ad.block]? with
  | none => rw [hh] at h; cases h
  | some x => exact (Array.getElem?_eq_some_iff.1 hh).1

section
variable {H : Type} {enc : TypeId × Value → H} {P : Program} {w : World}

theorem Sl.of_trod {α : Type} {K : Kind α} {t e : TypeId} {fuel : Nat} {v : Value} {x : DataW H × List MemPlace} (ht : P.underlying t = some (.slice e)) (hsz : P.cellsOf e = K.sz) (hp : 0 < K.sz)
    (hK : ∀ (n : Nat) (cs : List Value) (x : DataW H × List MemPlace), DataW.trod enc P w 0 (fun _ => true) true n e cs = some x → ∃ y : α, K.R w (· < w.heap.size) cs y)
    (h : DataW.trod enc P w 0 (fun _ => true) true fuel t [v] = some x) : ∃ l : List α, Sl K w (· < w.heap.size) v l := by
  rcases Deep.open_slice ht h with ⟨hcs, -⟩ | ⟨a, len, cap, m, n, D, Pl, hcs, -, hl, hm, hmm, -, hx⟩
  · injection hcs with e1 e2
    subst e1
    exact ⟨[], Sl.nil _ _ _⟩
  · injection hcs with e1 e2
    subst e1
    have hone : ∀ i, i < len → ∃ (y : α) (cs : List Value), w.cells? 0 (a.add (i * P.cellsOf e)) (P.cellsOf e) = some cs ∧ K.R w (· < w.heap.size) cs y := fun i hi => by
      obtain ⟨cs, h1, h2⟩ := hx i (by rw [hmm, if_pos rfl]; omega)
      obtain ⟨y, hy⟩ := hK _ _ _ h2
      exact ⟨y, cs, h1, hy⟩
    let l : List α := List.ofFn fun i : Fin len => Classical.choose (hone i.1 i.2)
    have hll : l.length = len := List.length_ofFn
    refine ⟨l, some a, cap, by rw [hll], by rw [hll]; exact hl, hm, fun i y hy => ?_⟩
    have hi : i < len := by have := (List.getElem?_eq_some_iff.1 hy).1; omega
    have hy' : y = Classical.choose (hone i hi) := by
      obtain ⟨h1, h2⟩ := List.getElem?_eq_some_iff.1 hy
      rw [← h2]
      simp [l]
    obtain ⟨cs, h1, h2⟩ := Classical.choose_spec (hone i hi)
    rw [← hy'] at h2
    rw [hsz] at h1
    obtain ⟨-, hlen, hc⟩ := World.cells?_some h1
    have hc' : ∀ j u, cs[j]? = some u → w.cell? ((a.add (i * K.sz)).add j) = some u := fun j u hj => by
      have : j < K.sz := by have := (List.getElem?_eq_some_iff.1 hj).1; omega
      rw [hc j this, hj]
    refine ⟨a, cs, rfl, ?_, h2, hc'⟩
    have h0 := hc' 0 (cs[0]'(by omega)) (List.getElem?_eq_getElem _)
    have := blk_lt h0
    rw [block_of_add, block_of_add] at this
    exact this
end

section
variable {H : Type} {enc : TypeId × Value → H} {w : World}

theorem cells_num : Tryz.prog.cellsOf 94 = 2 := by kernel_rfl
theorem cells_int : Tryz.prog.cellsOf 3 = 1 := by kernel_rfl
theorem cells_br : Tryz.prog.cellsOf 103 = 3 := by kernel_rfl
theorem cells_ch : Tryz.prog.cellsOf 97 = 3 := by kernel_rfl
theorem cells_st : Tryz.prog.cellsOf 79 = 3 := by kernel_rfl
theorem cells_brs : Tryz.prog.cellsOf 95 = 1 := by kernel_rfl
theorem cells_chs : Tryz.prog.cellsOf 77 = 1 := by kernel_rfl
theorem cells_sts : Tryz.prog.cellsOf 22 = 1 := by kernel_rfl
theorem cells_model : Tryz.prog.cellsOf 24 = 1 := by kernel_rfl

theorem num_of_trod {n : Nat} {a b : Value} {x : DataW H × List MemPlace} (h : DataW.trod enc Tryz.prog w 0 (fun _ => true) true n 94 [a, b] = some x) : ∃ p q : Int, a = .int .i64 p ∧ b = .int .i64 q := by
  obtain ⟨y0, y1, m, -, -, h0, h1⟩ := trod_struct2 Tryz.underlying94 h
  obtain ⟨p, h0, -, -⟩ := DataW.trod_int Tryz.underlying3 h0
  obtain ⟨q, h1, -, -⟩ := DataW.trod_int Tryz.underlying3 h1
  simp [cells_int] at h0 h1
  exact ⟨p, q, h0, h1⟩

theorem br_of_trod (n : Nat) (cs : List Value) (x : DataW H × List MemPlace) (h : DataW.trod enc Tryz.prog w 0 (fun _ => true) true n 103 cs = some x) : ∃ y : Br, Kind.br.R w (· < w.heap.size) cs y := by
  obtain ⟨y0, y1, m, -, hl, h0, h1⟩ := trod_struct2 Tryz.underlying103 h
  rw [cells_br] at hl
  match cs, hl with
  | [a, b, c], _ =>
    simp only [cells_int, cells_num, List.drop, List.take] at h0 h1
    obtain ⟨p, h0, -, -⟩ := DataW.trod_int Tryz.underlying3 h0
    obtain ⟨q, r, rfl, rfl⟩ := num_of_trod h1
    injection h0 with h0 _
    subst h0
    exact ⟨⟨p, ⟨q, r⟩⟩, rfl⟩
theorem ch_of_trod (n : Nat) (cs : List Value) (x : DataW H × List MemPlace) (h : DataW.trod enc Tryz.prog w 0 (fun _ => true) true n 97 cs = some x) : ∃ y : Ch, Kind.ch.R w (· < w.heap.size) cs y := by
  obtain ⟨y0, y1, m, -, hl, h0, h1⟩ := trod_struct2 Tryz.underlying97 h
  rw [cells_ch] at hl
  match cs, hl with
  | [a, b, c], _ =>
    simp only [cells_brs, cells_num, List.drop, List.take] at h0 h1
    obtain ⟨q, r, rfl, rfl⟩ := num_of_trod h0
    obtain ⟨l, hl⟩ := Sl.of_trod (K := Kind.br) Tryz.underlying95 cells_br (by decide) br_of_trod h1
    exact ⟨⟨⟨q, r⟩, l⟩, c, rfl, hl⟩
theorem st_of_trod (n : Nat) (cs : List Value) (x : DataW H × List MemPlace) (h : DataW.trod enc Tryz.prog w 0 (fun _ => true) true n 79 cs = some x) : ∃ y : St, Kind.st.R w (· < w.heap.size) cs y := by
  obtain ⟨y0, y1, y2, m, -, hl, h0, h1, h2⟩ := Deep.trod_struct3 Tryz.underlying79 h
  rw [cells_st] at hl
  match cs, hl with
  | [a, b, c], _ =>
    simp only [cells_chs, cells_int, List.drop, List.take] at h0 h1 h2
    obtain ⟨p, h0, -, -⟩ := DataW.trod_int Tryz.underlying3 h0
    obtain ⟨q, h1, -, -⟩ := DataW.trod_int Tryz.underlying3 h1
    injection h0 with h0 _
    injection h1 with h1 _
    subst h0 h1
    obtain ⟨l, hl⟩ := Sl.of_trod (K := Kind.ch) Tryz.underlying77 cells_ch (by decide) ch_of_trod h2
    exact ⟨⟨p, q, l⟩, c, rfl, hl⟩

/-- a model that came in -/
theorem model_of_trod {u : Value} {d : DataW H} {p : List MemPlace} (h : DataW.Trod enc Tryz.prog w 0 (fun _ => true) true 24 (.agg #[u]) d p) : ∃ m : List St, ModelC w (· < w.heap.size) (.agg #[u]) m := by
  obtain ⟨n, h⟩ := h
  obtain ⟨y0, m, -, -, h0⟩ := trod_struct1 Tryz.underlying24 h
  simp only [Value.cells, cells_sts, List.drop, List.take] at h0
  obtain ⟨l, hl⟩ := Sl.of_trod (K := Kind.st) Tryz.underlying22 cells_st (by decide) st_of_trod h0
  exact ⟨l, u, rfl, hl⟩
/-- numbers that came in -/
theorem ints_of_trod {A : Option Addr} {a c : Nat} {d : DataW H} {p : List MemPlace} (h : DataW.Trod enc Tryz.prog w 0 (fun _ => true) true 31 (.slice A a c) d p) : ∃ l : List Int, Sl (Kind.int .i64) w (· < w.heap.size) (.slice A a c) l := by
  obtain ⟨n, h⟩ := h
  simp only [Value.cells] at h
  refine Sl.of_trod (K := Kind.int .i64) Tryz.underlying31 cells_int (by decide) (fun n cs x h => ?_) h
  obtain ⟨p, h0, -, -⟩ := DataW.trod_int Tryz.underlying3 h
  exact ⟨p, h0⟩
end

end Go.Proofs.YtoffbdlgmnpblaaGreat

namespace Go.Proofs.YtoffbdlgmnpblaaGreat
open Go.ChangeShapes Go.WideShapes Go.ChangeAt Go.RowKit

theorem own : ownKnob Tryz.prog.godebug = none := by kernel_rfl
theorem laidOut : laidOutB Tryz.prog = true := by kernel_rfl
theorem one_of_size {α : Type} {cs : Array α} (h : cs.size = 1) : ∃ u, cs = #[u] := by
  obtain ⟨l⟩ := cs
  match l, h with
  | [u], _ => exact ⟨u, rfl⟩

set_option maxRecDepth 100000 in
theorem lifted (os : Os) (started : os.Started) (H : Type) (enc : TypeId × Value → H) :
    ReturnsInHanded {} Tryz.checked os 4 .any (Rows.graphSetsSpec.pre6 enc Tryz.prog Tryz.f4 Rows.graphSetsRow.domain false) (Rows.graphSetsSpec.post enc Tryz.prog Tryz.f4 false true false false) := by
  refine returnsInHanded_of_change (C := Tryz.checked) own started (by kernel_rfl) Tryz.func4
    (ChangeSpec.witness6 (enc := enc) (C := Tryz.checked) false ⟨#[], #[.agg #[.slice none 0 0], .slice none 0 0], []⟩ 8 (by kernel_rfl) (by kernel_rfl) (by kernel_rfl) (by kernel_rfl)) ?_
  intro W base args ds gs before hval0 hW hcnd _
  have hval : ∀ (j : Nat) t v, Tryz.f4.params[j]? = some t → args[j]? = some v → Value.okWide Tryz.prog W .any base t v := hval0
  have hW' := hW
  obtain ⟨p, q, hA0, hV, rfl, hfz, hnd⟩ := hW
  have hA : DataW.TrodAll enc Tryz.prog W 0 (fun _ => true) true Tryz.f4.params.toList args.toList ds p := hA0
  rw [Tryz.params4] at hA hval
  obtain ⟨v0, vs0, d0, ds0, p0, q0, hargs, rfl, rfl, h0, r0⟩ := trodAll_cons hA
  obtain ⟨v1, vs1, d1, ds1, p1, q1, rfl, rfl, rfl, h1, r1⟩ := trodAll_cons r0
  obtain ⟨rfl, rfl, rfl⟩ := trodAll_nil r1
  obtain rfl : args = #[v0, v1] := by cases args; simp_all
  obtain ⟨rfl, rfl⟩ := trodVars_none hV
  obtain ⟨cs, rfl, hsz⟩ := okWide_struct Tryz.underlying24 (hval 0 24 v0 rfl rfl)
  obtain ⟨u, rfl⟩ := one_of_size (hsz.trans cells_model)
  obtain ⟨a1, len1, cap1, rfl⟩ := okWide_slice Tryz.underlying31 (hval 1 31 v1 rfl rfl)
  have k0 := h0
  have k1 := h1
  have lt0 : ∀ x ∈ p0, x.block < W.heap.size := by obtain ⟨m, hm⟩ := k0; exact DataW.trod_lt m _ _ _ hm
  have lt1 : ∀ x ∈ p1, x.block < W.heap.size := by obtain ⟨m, hm⟩ := k1; exact DataW.trod_lt m _ _ _ hm
  obtain ⟨m, hm⟩ := model_of_trod h0
  obtain ⟨l, hl⟩ := ints_of_trod h1
  clear hA0 hval0
  refine (GraphSets_calls m l _ _ W hm hl).mono fun e W' ⟨he, bel⟩ => ?_
  subst he
  exact ⟨_, rfl, _, _, _, [], _, [], hW', trodAll_mk1 (shut_bool Tryz.underlying4 _), (trodAll_cons_mk (Below.trod laidOut (by kernel_rfl) (of_decide_eq_true (by kernel_rfl)) k0 bel lt0) (trodAll_cons_mk (Below.trod laidOut (by kernel_rfl) (of_decide_eq_true (by kernel_rfl)) k1 bel lt1) trodAll_mk0)), rfl, bel.frame _, fun h => by cases h⟩

theorem over : Rows.graphSetsRow.holds Tryz.pinned (OpenSpec.ofChange Rows.graphSetsSpec) :=
  OpenClaim.holds_of_wide 4 Tryz.f4 rfl rfl rfl rfl rfl rfl rfl ⟨rfl, rfl, rfl, rfl, rfl⟩ rfl rfl rfl rfl rfl (by kernel_rfl) Tryz.func4 (by kernel_rfl)
    (of_decide_eq_true (by kernel_rfl)) (by unfold Func.isWrapper; first | (rw [if_pos (by decide +kernel)]; kernel_rfl) | (rw [if_neg (by decide +kernel)]; exact ⟨rfl, rfl⟩))
    (fun os started H enc _ => lifted os started H enc)

theorem graphSets : Rows.GraphSetsSaid := over
#print axioms graphSets

end Go.Proofs.YtoffbdlgmnpblaaGreat
