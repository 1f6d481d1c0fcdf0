/- Part 32: Par1 Tr2. -/
import Derived.Test.YtoffbdlgmnpblaaGreatJ31
import Derived.Test.YtoffbdlgmnpblaaGreatJ14
import Derived.BigRegion
import Derived.Test.YtoffbdlgmnpblaaGreatJ15

/- Rows of rows of the call's own, as append makes them; comparing and sorting them. -/
namespace Go.Proofs.YtoffbdlgmnpblaaGreat
open Go.RowKit
set_option maxHeartbeats 4000000
set_option maxRecDepth 100000

theorem Compare_calls (xs ys : List Int) (u v : Value) (D : Nat → Prop) (w : World) (hx : Sl (Kind.int .i64) w D u xs) (hy : Sl (Kind.int .i64) w D v ys) (hn : xs.length ≤ 1000000) (hm : ys.length ≤ 1000000) :
    Calls Tryz.prog 126 #[u, v] w fun e w' => e = .returned (.int .i64 (Lex.cmpL xs ys)) ∧ w = w' := by
  obtain ⟨A, c, rfl, h1, h2, h3⟩ := hx.ints
  obtain ⟨B, d, rfl, k1, k2, k3⟩ := hy.ints
  unfold maxLen at h2 k2
  have H3 := Lib.hid h3
  have K3 := Lib.hid k3
  clear hx hy h3 k3
  go_enter Tryz.func126, Tryz.ntmps126
  go_wp2
  go_loop [11] (fun k => ∃ j : Nat, j ≤ xs.length ∧ k = .int .i64 (j : Int) ∧ j ≤ ys.length ∧ Hid (Lex.cmpL xs ys = Lex.cmpL (xs.drop j) (ys.drop j))) (fun k => xs.length - (intOf k).toNat)
  case atStart => exact ⟨0, Nat.zero_le _, rfl, Nat.zero_le _, rfl⟩
  case round =>
    obtain ⟨j, hj, rfl, hj2, HL⟩ := hrel
    by_cases hlt : j < xs.length
    · obtain ⟨ad, rfl, -, hc⟩ := H3.out (by omega)
      have q1 := hc j hlt
      have hx := List.getElem?_eq_getElem hlt
      rw [Dig.gd_of hx] at q1
      have HX := Lib.hid hx
      generalize xs[j] = x at *
      clear hc hx
      by_cases hlt2 : j < ys.length
      · obtain ⟨bd, rfl, -, hc⟩ := K3.out (by omega)
        have q2 := hc j hlt2
        have hy := List.getElem?_eq_getElem hlt2
        rw [Dig.gd_of hy] at q2
        have HY := Lib.hid hy
        generalize ys[j] = y at *
        clear hc hy
        have HC := Lib.hid (Lex.cmpL_drop xs ys j x y HX.out HY.out)
        go_wp2_with fail
        refine (Tryz.cmp_Compare_int x y w).mono ?_
        rintro e w2 ⟨rfl, rfl⟩
        rcases Int.lt_trichotomy x y with hxy | hxy | hxy
        · have e1 : Lib.compareInt x y = -1 := by unfold Lib.compareInt; rw [if_pos hxy]
          have HS := Lib.hid (show Lex.cmpL xs ys = -1 by rw [HL.out, HC.out, if_pos hxy])
          rw [e1]
          clear e1 hxy q1 q2
          go_wp2
          go_ret
          exact ⟨ret_int HS.out.symm, rfl⟩
        · have e1 : Lib.compareInt x y = 0 := by unfold Lib.compareInt; rw [if_neg (by omega), if_neg (by omega)]
          have HS := Lib.hid (show Lex.cmpL xs ys = Lex.cmpL (xs.drop (j + 1)) (ys.drop (j + 1)) by rw [HL.out, HC.out, if_neg (by omega), if_neg (by omega)])
          rw [e1]
          clear e1 hxy q1 q2
          go_wp2
          go_round
          case rel => exact ⟨j + 1, by omega, by go_num, by omega, HS⟩
          case measure => simp [intOf]; omega
        · have e1 : Lib.compareInt x y = 1 := by unfold Lib.compareInt; rw [if_neg (by omega), if_pos hxy]
          have HS := Lib.hid (show Lex.cmpL xs ys = 1 by rw [HL.out, HC.out, if_neg (by omega), if_pos hxy])
          rw [e1]
          clear e1 hxy q1 q2
          go_wp2
          go_ret
          exact ⟨ret_int HS.out.symm, rfl⟩
      · obtain rfl : j = ys.length := by omega
        have HS := Lib.hid (show Lex.cmpL xs ys = 1 by
          rw [HL.out, List.drop_length]
          obtain ⟨h, e⟩ := List.getElem?_eq_some_iff.1 HX.out
          rw [List.drop_eq_getElem_cons h]; rfl)
        clear hlt2
        go_wp2
        go_ret
        exact ⟨ret_int HS.out.symm, rfl⟩
    · obtain rfl : j = xs.length := by omega
      clear hlt
      by_cases hlt2 : xs.length < ys.length
      · have HS := Lib.hid (show Lex.cmpL xs ys = -1 by
          rw [HL.out, List.drop_length, List.drop_eq_getElem_cons hlt2]; rfl)
        go_wp2
        go_ret
        exact ⟨ret_int HS.out.symm, rfl⟩
      · have HS := Lib.hid (show Lex.cmpL xs ys = 0 by
          rw [HL.out, List.drop_length, List.drop_eq_nil_of_le (by omega)]; rfl)
        go_wp2
        go_ret
        exact ⟨ret_int HS.out.symm, rfl⟩

/-! ### rows -/
/-- v is a list of slices of the call's own; each of them is a row of the call's own, too; ps: the slices with what they read as -/
structure RowsC (W : World) (B : Nat) (v : Value) (ps : List (Value × List Int)) : Prop where
  own : W.ownsRow B 31 1 v ps.length (ps.map (·.1))
  row : ∀ p ∈ ps, W.ownsRow B 3 1 p.1 p.2.length (ints p.2) ∧ ∀ k, p.1.ownBlock = some k → v.ownBlock ≠ some k
section
variable {W W' : World} {B : Nat} {v : Value} {ps : List (Value × List Int)}
theorem RowsC.kept (h : RowsC W B v ps) (hb : ∀ k, B ≤ k → k < W.heap.size → W'.heap[k]? = W.heap[k]?) : RowsC W' B v ps :=
  ⟨own_kept h.own fun k hk => hb k (h.own.lt k hk).1 (h.own.lt k hk).2, fun p hp => ⟨own_kept (h.row p hp).1 fun k hk => hb k ((h.row p hp).1.lt k hk).1 ((h.row p hp).1.lt k hk).2, (h.row p hp).2⟩⟩
theorem RowsC.below (h : RowsC W B v ps) (hb : Below W.heap.size W W') : RowsC W' B v ps := h.kept fun k _ hk => hb.block k hk
theorem RowsC.sl (h : RowsC W B v ps) : Rows2 W (fun b => B ≤ b ∧ b < W.heap.size) v (ps.map (·.2)) := by
  obtain ⟨A, c, rfl, h1, h2, h3⟩ := own_form h.own
  refine ⟨A, c, by rw [List.length_map], by rw [List.length_map]; exact h1, h2, fun i xs hx => ?_⟩
  rw [List.getElem?_map] at hx
  obtain ⟨p, hp, rfl⟩ := Option.map_eq_some_iff.1 hx
  have hlt := (List.getElem?_eq_some_iff.1 hp).1
  obtain ⟨ad, e, hb, hl, -, hat⟩ := h3 (by omega)
  refine ⟨ad, [p.1], e, ⟨hb, hl⟩, ⟨p.1, rfl, (own_ints (h.row p (List.mem_of_getElem? hp)).1).2⟩, fun j u hj => ?_⟩
  cases j with
  | zero =>
    simp at hj; subst hj
    rw [add_of_add, show i * (Kind.slice (Kind.int .i64)).sz + 0 = i from by show i * 1 + 0 = i; omega]
    exact hat i _ (by rw [List.getElem?_map, hp]; rfl)
  | succ j => simp at hj
end

open Go.Lib Go.Sort in
theorem heap_sortWorld {α : Type} [Inhabited α] (enc : α → Value) (w : World) (blk off m : Nat) (dk : Array α) (os : Array Obj) {k : Nat} (hk : k < w.heap.size) (hne : k ≠ blk) : (sortWorld enc w blk off m dk os).heap[k]? = w.heap[k]? := by
  unfold sortWorld grow putRow mapBlock
  simp only
  rw [Array.getElem?_append_left (by simpa [Sort.ahead] using hk)]
  simp [Sort.ahead, Array.getElem?_modify, Ne.symm hne]

section
open Go.Lib Go.Sort
variable {α : Type} [Inhabited α]
theorem take_putCellsE (enc : α → Value) (cur : Array Value) (ts : List α) (h : ts.length ≤ cur.size) : (putCells enc 0 ts.toArray cur).toList.take ts.length = ts.map enc := by
  apply List.ext_getElem?
  intro j
  by_cases hj : j < ts.length
  · rw [List.getElem?_take_of_lt hj, Array.getElem?_toList]
    simp [putCells, hj, show j < cur.size by omega]
  · rw [List.getElem?_take_eq_none (by omega), List.getElem?_eq_none (by simp; omega)]
theorem heap_sortedE (enc : α → Value) {w : World} {g n : Nat} {os : Array Obj} {cur : Array Value} {e : TypeId} {fr : Nat × Nat} (d : Array α) (hb : w.heap[g]? = some (.cells cur e fr)) :
    (sortWorld enc w g 0 n d os).heap[g]? = some (.cells (putCells enc 0 d cur) e fr) := by
  have hg : g < w.heap.size := (Array.getElem?_eq_some_iff.1 hb).1
  unfold sortWorld
  rw [heap_grow_old _ _ (by simpa using hg)]
  simp [putRow, mapBlock, Sort.ahead, Array.getElem?_modify, hb, onCells]
theorem grownBy_sortedE (enc : α → Value) {w : World} {g n : Nat} {os : Array Obj} (d : Array α) : w.grownBy (sortWorld enc w g 0 n d os) (some g) := by
  refine ⟨rfl, rfl, rfl, by simp [sortWorld], fun k hk hne => heap_sortWorld enc w g 0 n d os hk fun e => hne (by rw [e])⟩
end

theorem lt_swo {n : Nat} (f : Fin n → List Int) : Go.Sort.SWO (ltOf fun i j => Lex.cmpL (f i) (f j)) := by
  refine ⟨fun x => ?_, fun x y z h k => ?_, fun x y z h k => ?_⟩
  · simp [ltOf, Lex.cmpL_refl]
  · simp only [ltOf, decide_eq_true_eq] at h k ⊢
    have h1 := Lex.cmpL_le_trans (f x) (f y) (f z) (by omega) (by omega)
    by_cases e : Lex.cmpL (f x) (f z) = 0
    · have e2 := Lex.cmpL_eq _ _ e
      have h2 := Lex.cmpL_neg (f y) (f z)
      rw [← e2] at h2 k
      have h3 := Lex.cmpL_neg (f x) (f y)
      omega
    · omega
  · simp only [ltOf, decide_eq_false_iff_not] at h k ⊢
    have h2 := Lex.cmpL_neg (f x) (f y)
    have h3 := Lex.cmpL_neg (f y) (f z)
    have h4 := Lex.cmpL_neg (f x) (f z)
    have h1 := Lex.cmpL_le_trans (f z) (f y) (f x) (by omega) (by omega)
    omega

theorem enter_cmp : ∀ args w, (callFunc 126 args).run Tryz.prog w = .ok (.enter 126 args) w := enter_of Tryz.func126 (by kernel_rfl) (by kernel_rfl)

open Go.Lib Go.Sort in
theorem SortRows_calls (v : Value) (ps : List (Value × List Int)) (W : World) (B : Nat) (h : RowsC W B v ps) (hp : ps ≠ []) (hl : ps.length ≤ 1000000) (hrl : ∀ p ∈ ps, p.2.length ≤ 1000000) :
    Calls Tryz.prog 125 #[v, .func (.func 126) #[] #[]] W fun e W' => e = .returned (.tuple #[]) ∧ ∃ ps', ps'.Perm ps ∧ ps'.map (·.2) = Lex.lsort (ps.map (·.2)) ∧ RowsC W' B v ps' ∧ W.grownBy W' v.ownBlock := by
  have hpos : 0 < ps.length := List.length_pos_iff.2 hp
  haveI : Inhabited (Fin ps.length) := ⟨⟨0, hpos⟩⟩
  obtain ⟨hown, hrow⟩ := h
  obtain ⟨ho1, ⟨rfl, h2⟩ | ⟨g, cap, cur, rfl, hb, hg, hnc, hcm, hcs, ht⟩⟩ := hown
  · omega
  rw [Nat.mul_one] at ht hcs
  have hgl : g < W.heap.size := (Array.getElem?_eq_some_iff.1 hg).1
  let enc : Fin ps.length → Value := fun i => ps[i].1
  let cf : Fin ps.length → Fin ps.length → Int := fun i j => Lex.cmpL ps[i].2 ps[j].2
  let d : Array (Fin ps.length) := Array.ofFn (fun i => i)
  have hds : d.size = ps.length := Array.size_ofFn
  have hdg : ∀ (j : Nat) (hj : j < ps.length), d[j]! = ⟨j, hj⟩ := fun j hj => by
    rw [getElem!_pos d j (by rw [hds]; exact hj)]
    exact Array.getElem_ofFn _
  have hO : OneCell enc := fun i => by
    obtain ⟨A, c, e, -⟩ := own_form (hrow ps[i] (List.getElem_mem _)).1
    show (ps[i].1).oneCell' = true
    rw [e]; rfl
  have hH : Holds enc W g 0 d := by
    intro j hj
    have hj' : j < ps.length := by omega
    refine ⟨?_, by simp [World.frozen?, hg]⟩
    have h1 : (cur.toList.take ps.length)[j]? = (ps.map (·.1))[j]? := by rw [ht]
    rw [List.getElem?_take_of_lt hj'] at h1
    simp only [World.cell?, hg, Nat.zero_add]
    simp only [Option.isSome_none, Bool.false_eq_true, if_false]
    rw [← Array.getElem?_toList, h1, hdg j hj']
    simp [enc, hj']
  have hcmp : CmpLays1 Tryz.prog 126 #[] enc cf g 0 d.size W := by
    intro m os dk hs x y
    have hsl : ∀ i : Fin ps.length, Sl (Kind.int .i64) (sortWorld enc W g 0 m dk os) (fun b => b < W.heap.size ∧ b ≠ g) ps[i].1 ps[i].2 := by
      intro i
      have hr := hrow ps[i] (List.getElem_mem _)
      have h1 := (own_ints hr.1).2
      obtain ⟨A, c, e, k1, k2, k3⟩ := h1.ints
      rw [e]
      refine Sl.of_ints k1 k2 fun hp0 => ?_
      obtain ⟨ad, ea, hd, hc⟩ := k3 hp0
      have hob : ps[i].1.ownBlock = some ad.block := by
        obtain ⟨A', c', e', -, -, h5⟩ := own_form hr.1
        rw [e] at e'; injection e' with e1 e2 e3
        obtain ⟨ad', ea', -, -, ho, -⟩ := h5 hp0
        rw [← e1, ea] at ea'; injection ea' with ea'
        rw [ea']; exact ho
      have hne : ad.block ≠ g := fun e' => hr.2 _ hob (by rw [e']; rfl)
      refine ⟨ad, ea, ⟨hd.2, hne⟩, fun j hj => ?_⟩
      rw [World.cell?_of_block (w := W) (a := ad.add j) (by rw [block_of_add]; exact heap_sortWorld enc W g 0 m dk os hd.2 hne)]
      exact hc j hj
    refine (Compare_calls ps[x].2 ps[y].2 ps[x].1 ps[y].1 _ _ (hsl x) (hsl y) (hrl _ (List.getElem_mem _)) (hrl _ (List.getElem_mem _))).mono ?_
    rintro e w' ⟨rfl, rfl⟩
    exact ⟨rfl, 0, #[], by rw [grow_empty]; rfl⟩
  have hlen : ps.length = d.size := hds.symm
  have hcall := Tryz.slices_SortFunc enc hO cf (lt_swo fun i => ps[i].2) 126 #[] g 0 cap d W enter_cmp hcmp hH hgl (by omega)
  rw [hds] at hcall
  refine hcall.mono ?_
  rintro e w' ⟨rfl, d', n, os, hperm, hsort, rfl⟩
  obtain ⟨hz, -, hpm⟩ := hperm
  have hz' : d'.size = ps.length := by omega
  have ex : d'.extract 0 ps.length = d' := Array.extract_eq_self_of_le (by omega)
  have ex2 : d.extract 0 ps.length = d := Array.extract_eq_self_of_le (by omega)
  rw [ex, ex2] at hpm
  have hdl : d.toList.map (fun i => ps[i]) = ps := by
    apply List.ext_getElem
    · simp [hds]
    · intro i h1 h2
      simp [d]
  have hl' : (d'.toList.map fun i => ps[i]).length = ps.length := by simp [hz']
  have hpp : (d'.toList.map fun i => ps[i]).Perm ps := by
    have := hpm.map (fun i => ps[i])
    rwa [hdl] at this
  refine ⟨rfl, d'.toList.map fun i => ps[i], hpp, ?_, ⟨?_, fun p hpm' => ?_⟩, grownBy_sortedE enc d'⟩
  · refine Lex.lsort_of (hpp.map _) ?_
    rw [List.pairwise_map, List.pairwise_map, List.pairwise_iff_getElem]
    intro i j hi hj hij
    have hi' : i < d'.size := by simpa using hi
    have hj' : j < d'.size := by simpa using hj
    have := hsort i j (Nat.zero_le _) hij (by omega)
    rw [getElem!_pos d' i hi', getElem!_pos d' j hj'] at this
    simp only [ltOf, decide_eq_false_iff_not] at this
    have h2 := Lex.cmpL_neg ps[d'[i]].2 ps[d'[j]].2
    have h3 : ¬ Lex.cmpL ps[d'[j]].2 ps[d'[i]].2 < 0 := this
    simp only [Lex.le, Array.getElem_toList, decide_eq_true_eq]
    omega
  · have e1 : (d'.toList.map fun i => ps[i]).map (·.1) = d'.toList.map enc := by rw [List.map_map]; rfl
    rw [e1, hl']
    refine ⟨by simp [hz'], .inr ⟨g, cap, _, rfl, hb, heap_sortedE enc d' hg, hnc, hcm, by simp [putCells, hcs], ?_⟩⟩
    have h3 := take_putCellsE enc cur d'.toList (by simp [hz']; omega)
    rw [Array.length_toList, hz'] at h3
    rw [Nat.mul_one]
    exact h3
  · have hp' := hpp.mem_iff.1 hpm'
    have hr := hrow p hp'
    refine ⟨own_kept hr.1 fun k hk => heap_sortWorld enc W g 0 n d' os (hr.1.lt k hk).2 fun e => hr.2 k hk (by rw [e]; rfl), hr.2⟩

theorem DeleteRows_calls (K : Nat) (is : List Int → Bool) (cs : Array Value) (ps : List (Value × List Int)) (v : Value) (B : Nat) (w : World) (eg : ∀ args w, (callFunc K args).run Tryz.prog w = .ok (.enter K args) w) (h : RowsC w B v ps) (hn : ps.length ≤ 1000000)
    (hc : ∀ (W : World) (u : Value) (xs : List Int), w.grownBy W v.ownBlock → xs ∈ ps.map (·.2) → Sl (Kind.int .i64) W (fun b => B ≤ b ∧ b < w.heap.size) u xs → Calls Tryz.prog K (#[u] ++ cs) W fun e w' => e = .returned (.bool (is xs)) ∧ Below W.heap.size W w') :
    Calls Tryz.prog 106 #[v, .func (.func K) #[] cs] w fun e w' => ∃ v', e = .returned v' ∧ RowsC w' B v' (ps.filter fun p => !is p.2) ∧ w.grownBy w' v.ownBlock := by
  have hsl := h.sl
  have hO := h.own
  obtain ⟨A, c, rfl, k1, k2, -⟩ := own_form hO
  unfold maxLen at k2
  have HR := Lib.hid h
  have HO := Lib.hid hO
  have HC := Lib.hid hc
  have HSL := Lib.hid hsl
  have hlo : Lo (fun b => B ≤ b ∧ b < w.heap.size) w := fun k hk => hk.2
  have HLO := Lib.hid hlo
  have HM := Lib.hid (show (ps.map (·.2)).length ≤ 1000000 by rw [List.length_map]; exact hn)
  clear hO hc hsl hlo h
  have hlist : (ps.map (·.2)).any is = ps.any (fun p => is p.2) := by rw [List.any_map]; rfl
  cases hany : ps.any (fun p => is p.2) with
  | false =>
    have hall : ∀ x ∈ ps, is x.2 = false := by
      intro x hx
      have := List.any_eq_false.1 hany x hx
      simpa using this
    have HI := Lib.hid (idxI_none (is := is) (xs := ps.map (·.2)) (fun y hy => by obtain ⟨x, hx, rfl⟩ := List.mem_map.1 hy; exact hall x hx))
    have HF := Lib.hid (show ps.filter (fun p => !is p.2) = ps from List.filter_eq_self.2 fun x hx => by rw [hall x hx]; rfl)
    clear hany hall hlist
    go_enter Tryz.func106, Tryz.ntmps106
    go_wp2_with fail
    refine (IndexFuncR_calls K is cs (ps.map (·.2)) _ _ w eg HLO.out HSL.out HM.out (fun W u xs hW hs hu => HC.out W u xs (below_grown' hW _) hs hu)).mono ?_
    rintro e w2 ⟨rfl, hb2⟩
    rw [HI.out]
    go_wp2_with fail
    go_ret
    refine ⟨_, rfl, ?_, below_grown' hb2 _⟩
    rw [HF.out]
    exact HR.out.below hb2
  | true =>
    obtain ⟨i0, hi0⟩ : ∃ i0, ps.findIdx? (fun p => is p.2) = some i0 := by
      cases h : ps.findIdx? (fun p => is p.2) with
      | none =>
        have h1 := List.findIdx?_eq_none_iff.1 h
        obtain ⟨x, hx, hp⟩ := List.any_eq_true.1 hany
        rw [h1 x hx] at hp; cases hp
      | some i => exact ⟨i, rfl⟩
    obtain ⟨hlt0, hp0, hmin⟩ := List.findIdx?_eq_some_iff_getElem.1 hi0
    have HI := Lib.hid (show idxI is (ps.map (·.2)) = (i0 : Int) by unfold idxI; rw [List.findIdx?_map]; simp only [Function.comp_def]; rw [hi0])
    obtain ⟨ad, rfl⟩ : ∃ ad, A = some ad := by
      obtain ⟨A', c', e, -, -, h3⟩ := own_form HO.out
      injection e with e1 e2 e3
      subst e1
      obtain ⟨ad, e, _⟩ := h3 (by omega)
      exact ⟨ad, e⟩
    obtain ⟨g, rfl⟩ : ∃ g, ad = ⟨g, 0, none⟩ := by
      obtain ⟨-, ⟨h1, _⟩ | ⟨g, cap, cur, h1, _⟩⟩ := HO.out
      · cases h1
      · injection h1 with h1; injection h1 with h1; exact ⟨g, h1⟩
    have HT0 := Lib.hid (show ps.take i0 = (ps.take (i0 + 1)).filter (fun p => !is p.2) by
      have h1 : (ps.take i0).filter (fun p => !is p.2) = ps.take i0 := List.filter_eq_self.2 fun x hx => by
        obtain ⟨j, hj, rfl⟩ := List.getElem_of_mem hx
        rw [List.length_take] at hj
        rw [List.getElem_take]
        have := hmin j (by omega)
        simpa using this
      rw [List.take_add_one, List.getElem?_eq_getElem hlt0, List.filter_append, h1]
      simp [hp0])
    clear hany hi0 hp0 hmin hlist
    go_enter Tryz.func106, Tryz.ntmps106
    go_wp2_with fail
    refine (IndexFuncR_calls K is cs (ps.map (·.2)) _ _ w eg HLO.out HSL.out HM.out (fun W u xs hW hs hu => HC.out W u xs (below_grown' hW _) hs hu)).mono ?_
    rintro e w2 ⟨rfl, hb2⟩
    rw [HI.out]
    have hne : ((i0 : Int) == -1) = false := beq_eq_false_iff_ne.2 (by omega)
    have hG2 := below_grown' hb2 (some g)
    have hO2 := own_kept HO.out fun k hk => hb2.block k (HO.out.lt k hk).2
    go_wp2_with fail
    clear hne
    go_loopw [5, 6] (fun s5 s6 W => ∃ (i j : Nat) (qs : List (Value × List Int)), s5 = .int .i64 (i : Int) ∧ s6 = .int .i64 (j : Int) ∧ i < j ∧ j ≤ ps.length ∧ qs.length = ps.length ∧ w.grownBy W (some g) ∧ W.ownsRow B 31 1 (.slice (some ⟨g, 0, none⟩) ps.length c) ps.length (qs.map (·.1)) ∧ Hid (qs.take i = (ps.take j).filter (fun p => !is p.2)) ∧ Hid (qs.drop j = ps.drop j)) (fun _ s6 _ => ps.length - (intOf s6).toNat)
    case atStart => exact ⟨i0, i0 + 1, ps, rfl, by go_num, by omega, by omega, rfl, hG2, hO2, HT0.out, rfl⟩
    case round =>
      clear hG2 hO2
      obtain ⟨i, j, qs, rfl, rfl, hij, hj, hyl, hG, hO, HT, HDR⟩ := hrel
      by_cases hlt : j < ps.length
      · obtain ⟨x, hx⟩ : ∃ x, ps[j]? = some x := ⟨_, List.getElem?_eq_getElem hlt⟩
        have hyx : qs[j]? = some x := by
          have := congrArg (fun l => l[0]?) HDR.out
          simpa [hx] using this
        obtain ⟨q1, -⟩ := own_cell hO j x.1 (by rw [List.getElem?_map, hyx]; rfl)
        have HX := Lib.hid hx
        have HY := Lib.hid hyx
        have HOO := Lib.hid hO
        have hxs : Sl (Kind.int .i64) wr (fun b => B ≤ b ∧ b < w.heap.size) x.1 x.2 := by
          have hr := HR.out.row x (List.mem_of_getElem? HX.out)
          have h1 := (own_ints hr.1).2
          obtain ⟨A1, c1, e1, m1, m2, m3⟩ := h1.ints
          rw [e1]
          refine Sl.of_ints m1 m2 fun hp0 => ?_
          obtain ⟨ad, ea, hd, hcc⟩ := m3 hp0
          refine ⟨ad, ea, hd, fun q hq => ?_⟩
          have hob : x.1.ownBlock = some ad.block := by
            obtain ⟨A', c', e', -, -, h5⟩ := own_form hr.1
            rw [e1] at e'; injection e' with e2 e3 e4
            obtain ⟨ad', ea', -, -, ho, -⟩ := h5 hp0
            rw [← e2, ea] at ea'; injection ea' with ea'
            rw [ea']; exact ho
          rw [World.cell?_of_block (w := w) (a := ad.add q) (by rw [block_of_add]; exact hG.block _ hd.2 (fun e => hr.2 _ hob e.symm))]
          exact hcc q hq
        have HXS := Lib.hid hxs
        clear hx hyx hO hxs
        go_wp2_with fail
        refine (HC.out wr x.1 x.2 hG (List.mem_map.2 ⟨x, List.mem_of_getElem? HX.out, rfl⟩) HXS.out).mono ?_
        rintro e w3 ⟨rfl, hb3⟩
        have hG3 := grown_trans hG (below_grown' hb3 (some g))
        have hO3 := own_kept HOO.out fun k hk => hb3.block k (HOO.out.lt k hk).2
        clear q1
        have hfs := filter_step (p := fun p : Value × List Int => !is p.2) HX.out HT.out (by omega) hyl
        have HD2 := Lib.hid (show qs.drop (j + 1) = ps.drop (j + 1) by
          have := congrArg (List.drop 1) HDR.out
          simpa [List.drop_drop, Nat.add_comm] using this)
        cases hi : is x.2 with
        | false =>
          have HS := Lib.hid (hfs.1 (by rw [hi]; rfl))
          obtain ⟨u, hu⟩ : ∃ u, (qs.map (·.1))[i]? = some u := ⟨_, List.getElem?_eq_getElem (by rw [List.length_map]; omega)⟩
          obtain ⟨q2, f2⟩ := own_cell hO3 i u hu
          have hO4 := own_set hO3 i (by omega) x.1
          have hG4 := grown_trans hG3 (grown_set w3 g i x.1)
          rw [show (qs.map (·.1)).set i x.1 = (qs.set i x).map (·.1) from by rw [List.map_set]] at hO4
          obtain ⟨A1, c1, hxv, -, -, -⟩ := own_form (HR.out.row x (List.mem_of_getElem? HX.out)).1
          have HXV := Lib.hid hxv
          clear hi hfs hO3 hG3 hu hxv
          rw [HXV.out] at hO4 hG4 ⊢
          go_wp2
          refine ⟨⟨i + 1, j + 1, qs.set i x, by go_num, by go_num, by omega, by omega, by simp [hyl], hG4, hO4, HS, ?_⟩, by simp [intOf]; omega⟩
          have : (qs.set i x).drop (j + 1) = ps.drop (j + 1) := by rw [List.drop_set_of_lt (by omega)]; exact HD2.out
          exact this
        | true =>
          have HS := Lib.hid (hfs.2 (by rw [hi]; rfl))
          clear hi hfs
          go_wp2
          exact ⟨⟨i, j + 1, qs, rfl, by go_num, by omega, by omega, hyl, hG3, hO3, HS, HD2⟩, by simp [intOf]; omega⟩
      · obtain rfl : j = ps.length := by omega
        clear hlt
        have hT2 : qs.take i = ps.filter (fun p => !is p.2) := by have := HT.out; rwa [List.take_length] at this
        have hli : (ps.filter (fun p => !is p.2)).length = i := by rw [← hT2, List.length_take]; omega
        have HT2 := Lib.hid hT2
        have HLI := Lib.hid hli
        clear hT2 hli
        have hcell : ∀ t, i + t < ps.length → ∃ u, wr.cell? ⟨g, i + t, none⟩ = some u ∧ wr.frozen? ⟨g, i + t, none⟩ = false := fun t ht => by
          obtain ⟨u, hu⟩ : ∃ u, (qs.map (·.1))[i + t]? = some u := ⟨_, List.getElem?_eq_getElem (by rw [List.length_map]; omega)⟩
          exact ⟨u, own_cell hO (i + t) u hu⟩
        have hcl : ∀ ty, (Builtin.clear_ #[27] ty #[.slice (some ⟨g, i, none⟩) (ps.length - i) (c - i)]).run Tryz.prog wr = .ok (.tuple #[]) (wr.setCells g i (List.replicate (ps.length - i) (.slice none 0 0))) :=
          fun ty => Lib.run_clear_slice wr _ _ ty (.slice none 0 0) Tryz.underlying27 (Tryz.zeroValue31) rfl rfl g i _ _ (by omega) (fun t ht => by
            obtain ⟨u, h1, -⟩ := hcell t (by omega)
            rw [h1]; rfl) (fun t ht => by
            obtain ⟨u, -, h2⟩ := hcell t (by omega)
            exact h2)
        have HOO := Lib.hid hO
        have HGG := Lib.hid hG
        clear hO hG hcell
        go_wp2
        go_ret
        have hGG := grown_trans HGG.out (setCells_grown wr g (List.replicate (ps.length - i) (.slice none 0 0)) i)
        refine ⟨_, rfl, ⟨?_, fun p hp => ?_⟩, hGG⟩
        · rw [HLI.out, ← HT2.out]
          have := own_cut HOO.out (i := i) (by omega) (List.replicate (ps.length - i) (.slice none 0 0)) i (Nat.le_refl _)
          rw [← List.map_take] at this
          exact this
        · have hp' := (List.mem_filter.1 hp).1
          have hr := HR.out.row p hp'
          exact ⟨own_kept hr.1 fun k hk => hGG.block k (hr.1.lt k hk).2 (fun e => hr.2 k hk e.symm), fun k hk => hr.2 k hk⟩

end Go.Proofs.YtoffbdlgmnpblaaGreat

/- Package graph: the finder enters a state. -/
namespace Go.Proofs.YtoffbdlgmnpblaaGreat
open Go.RowKit
open Tar (TS)
set_option maxHeartbeats 4000000
set_option maxRecDepth 100000

/-- what holds all through a region that reads the finder's address -/
abbrev HeldF (q F : Nat) (V : World) : Prop := V.cell? ⟨q, 0, none⟩ = some (.pointer (some ⟨F, 0, none⟩)) ∧ q < V.heap.size
theorem heldF_set {q F : Nat} {V : World} {p : Addr} (hne : p.block ≠ q) (h : HeldF q F V) (u : Value) : HeldF q F (V.setCell p u) := by
  obtain ⟨h1, h5⟩ := h
  exact ⟨(World.cell?_of_block (w := V) (a := ⟨q, 0, none⟩) (Below.heap_setCell _ _ _ _ (fun e => hne e.symm))).trans h1, by simpa [World.setCell] using h5⟩

theorem enter_calls (x : Fp) (B : Nat) (W : World) (s : Int) (q1 q2 : Nat) (hx : FinC x B W) (hov : x.ovb = x.ov) (hc1 : W.cell? ⟨q1, 0, none⟩ = some (.pointer (some ⟨x.p, 0, none⟩))) (hc2 : W.cell? ⟨q2, 0, none⟩ = some (.pointer (some ⟨x.F, 0, none⟩)))
    (o1 : Off x q1) (o2 : Off x q2) (h0 : 0 ≤ s) (h1 : s < (x.n : Int)) (_hn : x.n ≤ 100) (hcnt : 0 ≤ x.t.cnt ∧ x.t.cnt ≤ 1000000) (hop : x.t.opn.length ≤ 1000000) (hB : B ≤ W.heap.size) :
    Calls Tryz.prog 159 #[.int .i64 s, .pointer (some ⟨q1, 0, none⟩), .pointer (some ⟨q2, 0, none⟩)] W fun e W' => e = .returned (.tuple #[]) ∧ ∃ ov', FinC { x with t := Tar.enter x.t s, ov := ov', ovb := ov' } B W' ∧ Evo x W { x with t := Tar.enter x.t s, ov := ov', ovb := ov' } W' := by
  have l1 : q1 < W.heap.size := by
    unfold World.cell? at hc1
    cases hh : W.heap[q1]? with
    | none => rw [hh] at hc1; cases hc1
    | some o => exact (Array.getElem?_eq_some_iff.1 hh).1
  have l2 : q2 < W.heap.size := by
    unfold World.cell? at hc2
    cases hh : W.heap[q2]? with
    | none => rw [hh] at hc2; cases hc2
    | some o => exact (Array.getElem?_eq_some_iff.1 hh).1
  obtain ⟨c1, c2⟩ := hcnt
  obtain ⟨k1, k2⟩ := hx.cnt
  have O1 := Lib.hid o1
  have O2 := Lib.hid o2
  have HOV := Lib.hid hov
  have HC1 := Lib.hid hc1
  have HC2 := Lib.hid hc2
  clear o1 o2 hov
  go_enter Tryz.func159, Tryz.ntmps159
  go_upto_region 1 with fail
  obtain ⟨hx1, he1⟩ := hx.setCnt (x.t.cnt + 1)
  have a1 := (he1.cell O1.out l1 0).trans HC1.out
  have a2 := (he1.cell O2.out l2 0).trans HC2.out
  have O1' := Lib.hid (he1.off O1.out l1)
  have O2' := Lib.hid (he1.off O2.out l2)
  have hz1 := he1.size
  generalize W.setCell ⟨x.p, 0, none⟩ (.int .i64 (x.t.cnt + 1)) = W1 at *
  obtain ⟨⟨-, b1, b2, b3, b4, -⟩, bf⟩ := hx1.box
  obtain ⟨k1', k2'⟩ := hx1.cnt
  obtain ⟨i1, i2⟩ := hx1.idx h0 h1
  obtain ⟨j1, j2⟩ := hx1.low h0 h1
  clear k1 k2 hc1 hc2 bf
  obtain ⟨hx2, he2⟩ := hx1.setIdx h0 h1 (x.t.cnt + 1)
  obtain ⟨m1, m2⟩ := hx2.low h0 h1
  obtain ⟨hx3, he3⟩ := hx2.setLow h0 h1 (x.t.cnt + 1)
  go_region
  have hx3 := hx3.drew
  have he3 := (he1.trans (he2.trans he3)).drew
  have a1 := (he3.cell O1.out l1 0).trans HC1.out
  have a2 := (he3.cell O2.out l2 0).trans HC2.out
  generalize ((W1.setCell ⟨x.gi, s.toNat, none⟩ (.int .i64 (x.t.cnt + 1))).setCell ⟨x.gl, s.toNat, none⟩ (.int .i64 (x.t.cnt + 1))).drew = W3 at *
  clear hx1 he1 hx2 he2 b1 b2 b4 k1' k2' i1 i2 j1 j2 m1 m2 b3 O1' O2'
  go_upto_region 2 with fail
  obtain ⟨⟨-, -, -, b3, -, -⟩, bf⟩ := hx3.box
  have b3' : W3.cell? ⟨x.F, 3, none⟩ = some x.ov := by rw [← HOV.out]; exact b3
  clear b3
  have hown : W3.ownsRow B 3 1 x.ov x.t.opn.length (ints x.t.opn.reverse) := hx3.comps 5
  have l3 : q2 < W3.heap.size := Nat.lt_of_lt_of_le l2 he3.size
  have l4 : x.F < W3.heap.size := (hx3.lt (j := 3) rfl).2
  have hB3 : B ≤ W3.heap.size := Nat.le_trans hB he3.size
  have HX3 := Lib.hid hx3
  have HE3 := Lib.hid he3
  have hx3d := (hx3.drew.below ((Below.refl _ _).alloc (Nat.le_refl _) (.cells #[.int .i64 s] 3)))
  have he3d := (Evo.of_below { x with t := { x.t with idx := x.t.idx.set s.toNat (x.t.cnt + 1), low := x.t.low.set s.toNat (x.t.cnt + 1), cnt := x.t.cnt + 1 } } ((Below.refl W3.drew.heap.size W3.drew).alloc (Nat.le_refl _) (.cells #[.int .i64 s] 3)))
  have HXD := Lib.hid hx3d
  have HED := Lib.hid he3d
  clear bf hx3d he3d
  have hFq : x.F ≠ q2 := fun e => O2.out 3 (by rw [← e]; rfl)
  have s0 : HeldF q2 x.F W3.drew := ⟨a2, l3⟩
  clear a1 hx3 he3 hx
  have hS0 : Till 7 (fun V => V.cell? ⟨x.F, 3, none⟩ = some x.ov) (fun V => V.cell? ⟨q2, 0, none⟩ = some (.pointer (some ⟨x.F, 0, none⟩)) ∧ q2 < V.heap.size) (Array.replicate 11 false) W3.drew := ⟨.inr b3', a2, l3⟩
  have HOWN := Lib.hid hown
  clear hown s0
  refine Timed.region (S := Till 7 (fun V => V.cell? ⟨x.F, 3, none⟩ = some x.ov) (fun V => V.cell? ⟨q2, 0, none⟩ = some (.pointer (some ⟨x.F, 0, none⟩)) ∧ q2 < V.heap.size)) (by kernel_rfl) ?_
  refine Till.take (i := 0) (n := 10) (v := .pointer (some ⟨x.F, 0, none⟩)) rfl (by decide) (by kernel_rfl) (by kernel_rfl) (by kernel_rfl) (fun _ _ _ h => h) (Or.inl ⟨by rfl, ?_⟩) hS0 (fun hS1 => ?_)
  · intro w hw; obtain ⟨hw1, hw2⟩ := hw; go_simp
  simp only [Act.put, List.setIfInBounds_toArray]
  clear hS0
  refine Till.take (i := 1) (n := 9) (v := .pointer (some ⟨x.F, 0, none⟩)) rfl (by decide) (by kernel_rfl) (by kernel_rfl) (by kernel_rfl) (fun _ _ _ h => h) (Or.inl ⟨by rfl, ?_⟩) hS1 (fun hS2 => ?_)
  · intro w hw; obtain ⟨hw1, hw2⟩ := hw; go_simp
  simp only [Act.put]
  clear hS1
  refine Till.take (i := 2) (n := 8) (v := .pointer (some ⟨x.F, 0, none⟩)) rfl (by decide) (by kernel_rfl) (by kernel_rfl) (by kernel_rfl) (fun _ _ _ h => h) (Or.inl ⟨by rfl, ?_⟩) hS2 (fun hS3 => ?_)
  · intro w hw; obtain ⟨hw1, hw2⟩ := hw; go_simp
  simp only [Act.put]
  clear hS2
  refine Till.take (i := 3) (n := 7) (v := .pointer (some ⟨x.F, 3, none⟩)) rfl (by decide) (by kernel_rfl) (by kernel_rfl) (by kernel_rfl) (fun _ _ _ h => h) (Or.inl ⟨by rfl, ?_⟩) hS3 (fun hS4 => ?_)
  · intro w hw; obtain ⟨hw1, hw2⟩ := hw; go_simp
  simp only [Act.put]
  clear hS3
  refine Till.takeT (i := 4) (n := 6) (v := x.ov) rfl (by decide) rfl (by kernel_rfl) (by kernel_rfl) (by kernel_rfl) (by kernel_rfl) (by kernel_rfl) (fun _ _ _ h => h) (Or.inl ⟨by rfl, ?_⟩) hS4 (fun hS5 => ?_)
  · intro w hw; go_simp
  simp only [Act.put]
  clear hS4
  refine Till.take (i := 5) (n := 5) (v := .int .i64 s) rfl (by decide) (by kernel_rfl) (by kernel_rfl) (by kernel_rfl) (fun _ _ _ h => h) (Or.inl ⟨by rfl, ?_⟩) hS5 (fun hS6 => ?_)
  · intro w hw; obtain ⟨hw1, hw2⟩ := hw; go_simp
  simp only [Act.put]
  clear hS5
  refine Timed.all (rs := [6]) (n := 4) (by kernel_rfl) (by simp) ?_
  intro j hj
  obtain rfl : j = 6 := by simpa using hj
  refine wpOp_step rfl (fun K' hK => ?_)
  have HK6 := Lib.hid hK
  clear hK hj
  go_simp
  refine HK6.out _ _ ⟨⟨.inr ((World.cell?_alloc_lt _ _ _ l4).trans b3'), (World.cell?_alloc_lt _ _ _ l3).trans a2, by simp; omega⟩, ?_⟩
  try simp only [Act.put, List.setIfInBounds_toArray, List.set_cons_zero, List.set_cons_succ]
  clear HK6 hS6
  refine Timed.all (rs := [7]) (n := 3) (by kernel_rfl) (by simp) ?_
  intro j hj
  obtain rfl : j = 7 := by simpa using hj
  refine wpOp_step rfl (fun K' hK => ?_)
  have HK7 := Lib.hid hK
  clear hK hj
  refine step_app1 elem_i64 rfl _ _ rfl B x.ov x.t.opn.length (ints x.t.opn.reverse) rfl (HOWN.out.alloc _) ⟨_, 0, none⟩ 1 _ rfl (cell_new1 _ _ _) rfl (by omega) (by omega) (by simp; omega) ?_
  intro v4 w4 ho4 hg4 ha4
  have hg4 : (W3.drew.alloc (.cells #[.int .i64 s] 3)).grownBy w4 x.ov.ownBlock := hg4
  have ha4 : v4.ownBlock = x.ov.ownBlock ∨ v4.ownBlock = some (W3.drew.alloc (.cells #[.int .i64 s] 3)).heap.size := ha4
  obtain ⟨hx4, he4⟩ := HXD.out.newOpn (o := s :: x.t.opn) (by simpa [ints] using ho4) hg4 (ha4.imp id fun e k hk => by rw [e] at hk; cases hk; exact Nat.le_refl _)
  have heq := HE3.out.trans ((Evo.of_below _ ((Below.refl W3.heap.size W3).drew)).trans (HED.out.trans he4))
  have s4 : HeldF q2 x.F w4 := ⟨(heq.cell O2.out l2 0).trans HC2.out, Nat.lt_of_lt_of_le l2 heq.size⟩
  have m3 := hx4.box.1.2.2.2.1
  have mf3 := hx4.box.2 3
  obtain ⟨A4, c4, rfl, _, _, _⟩ := own_form ho4
  have HX4 := Lib.hid hx4
  have HEQ := Lib.hid heq
  refine HK7.out _ _ ⟨⟨.inl (by kernel_rfl), s4⟩, ?_⟩
  try simp only [Act.put, List.setIfInBounds_toArray]
  clear HK7 ho4 hg4 ha4 hx4 he4 heq b3' a2
  refine Till.take (i := 8) (n := 2) (v := .pointer (some ⟨x.F, 0, none⟩)) rfl (by decide) (by kernel_rfl) (by kernel_rfl) (by kernel_rfl) (fun _ _ _ h => h) (Or.inl ⟨by rfl, ?_⟩) ⟨.inl (by kernel_rfl), s4⟩ (fun hS8 => ?_)
  · intro w hw; obtain ⟨hw1, hw2⟩ := hw; go_simp
  try simp only [Act.put]
  refine Till.take (i := 9) (n := 1) (v := .pointer (some ⟨x.F, 3, none⟩)) rfl (by decide) (by kernel_rfl) (by kernel_rfl) (by kernel_rfl) (fun _ _ _ h => h) (Or.inl ⟨by rfl, ?_⟩) hS8 (fun hS9 => ?_)
  · intro w hw; obtain ⟨hw1, hw2⟩ := hw; go_simp
  try simp only [Act.put]
  clear hS8 hS9
  refine Timed.all (rs := [10]) (n := 0) (by kernel_rfl) (by simp) ?_
  intro j hj
  obtain rfl : j = 10 := by simpa using hj
  refine wpOp_step rfl (fun K' hK => ?_)
  have HK10 := Lib.hid hK
  clear hK hj
  go_simp
  refine HK10.out _ _ ⟨⟨.inl (by kernel_rfl), heldF_set hFq s4 _⟩, Timed.done (by kernel_rfl) ?_ _⟩
  clear HK10
  obtain ⟨hx5, he5⟩ := HX4.out.boxOpn (.slice A4 (x.t.opn.length + 1) c4)
  have heT := HEQ.out.trans he5
  have a2 := (heT.cell O2.out l2 0).trans HC2.out
  clear HX4 HEQ s4 m3 mf3 he5
  generalize w4.setCell ⟨x.F, 3, none⟩ (.slice A4 (x.t.opn.length + 1) c4) = W5 at *
  obtain ⟨⟨-, -, -, -, b4, -⟩, -⟩ := hx5.box
  obtain ⟨n1, n2⟩ := hx5.on h0 h1
  obtain ⟨hx6, he6⟩ := hx5.setOn h0 h1 true
  have HX6 := Lib.hid hx6
  have HE6 := Lib.hid (heT.trans he6)
  clear hx5 hx6 he6 heT
  go_wp2
  go_end0
  exact ⟨rfl, _, HX6.out, HE6.out⟩

end Go.Proofs.YtoffbdlgmnpblaaGreat
