/- Part 29: Eni. -/
import Derived.Test.YtoffbdlgmnpblaaGreatJ28

/- Package ends: the walk of turned. -/
namespace Go.Proofs.YtoffbdlgmnpblaaGreat
open Go.RowKit
set_option maxHeartbeats 4000000
set_option maxRecDepth 100000

/-- what holds between the parts of turned -/
structure TuR (x : Ch) (bv : Value) (w W : World) : Prop where
  below : Below w.heap.size w W
  box : W.heap[w.heap.size]? = some (.cells #[.int .i64 x.rw.top, .int .i64 x.rw.low, bv] 97 (0, 0))
  res : W.heap[w.heap.size + 1]? = some (.cells #[.int .i64 0, .int .i64 0, .slice none 0 0] 97 (0, 0))
theorem TuR.next {x : Ch} {bv : Value} {w W W' : World} (h : TuR x bv w W) (hb : Below (w.heap.size + 2) W W') : TuR x bv w W' :=
  ⟨h.below.trans (hb.mono (by omega)), (hb.block _ (by omega)).trans h.box, (hb.block _ (by omega)).trans h.res⟩

theorem turnBrs_drop (zs : List (Rat × Nat)) (k : Nat) (y : Rat) (t : Nat) (acc : List Br) (h : zs[k]? = some (y, t)) : turnBrs (zs.drop k) acc = if y.num = 0 then turnBrs (zs.drop (k + 1)) acc else if outOk y then turnBrs (zs.drop (k + 1)) (acc ++ [⟨(t : Int), outN y⟩]) else none := by
  obtain ⟨hlt, e⟩ := List.getElem?_eq_some_iff.1 h
  rw [List.drop_eq_getElem_cons hlt, e]
  rfl
theorem sgn_zero {z : Int} : Dig.sgn z = 0 ↔ z = 0 := by
  unfold Dig.sgn
  split
  · omega
  · split <;> omega

/-- what holds while the branches are laid -/
structure TuB (ob : Nat) (x : Ch) (w3 W : World) (av : Value) (acc : List Br) : Prop where
  below : Below ob w3 W
  size : ob < W.heap.size
  box : W.heap[ob]? = some (.cells #[.int .i64 x.rw.top, .int .i64 x.rw.low, av] 97 (0, 0))
  own : W.ownsRow (ob + 1) 103 3 av acc.length (bcells acc)
theorem TuB.next {ob : Nat} {x : Ch} {w3 W W' : World} {av : Value} {acc : List Br} (h : TuB ob x w3 W av acc) (hb : Below W.heap.size W W') : TuB ob x w3 W' av acc :=
  ⟨h.below.trans (hb.mono (Nat.le_of_lt h.size)), Nat.lt_of_lt_of_le h.size hb.size, (hb.block _ h.size).trans h.box, own_below h.own hb⟩
theorem turn_some {x : Ch} {pl : List Int} {bs : List Br} (h : turnBrs (sumsOf pl x.brs).zipIdx [] = some bs) : turnCh x pl = ⟨x.rw, bs⟩ ∧ turnE x pl = 0 := by
  unfold turnCh turnE turnedOf
  rw [h]; exact ⟨rfl, rfl⟩
theorem turn_none {x : Ch} {pl : List Int} (h : turnBrs (sumsOf pl x.brs).zipIdx [] = none) : turnCh x pl = ⟨⟨0, 0⟩, []⟩ ∧ turnE x pl = 3 := by
  unfold turnCh turnE turnedOf
  rw [h]; exact ⟨rfl, rfl⟩

theorem eturned_calls (x : Ch) (pl : List Int) (A : Option Addr) (n c : Nat) (pv : Value) (D : Nat → Prop) (w : World) (hD : Lo D w) (h : Sl Kind.br w D (.slice A n c) x.brs) (hp : Sl (Kind.int .i64) w D pv pl) (hl : x.brs.length ≤ 8)
    (hto : ∀ b ∈ x.brs, 0 ≤ b.to ∧ b.to < (pl.length : Int)) (hpl : ∀ p ∈ pl, 0 ≤ p ∧ p < 40) (hv : ∀ b ∈ x.brs, validN b.ch.top b.ch.low = true) :
    Calls Tryz.prog 120 #[.agg #[.int .i64 x.rw.top, .int .i64 x.rw.low, .slice A n c], pv] w fun e w' => ∃ bv, e = .returned (.tuple #[.agg #[.int .i64 (turnCh x pl).rw.top, .int .i64 (turnCh x pl).rw.low, bv], .int .i64 (turnE x pl)]) ∧ w'.ownsRow w.heap.size 103 3 bv (turnCh x pl).brs.length (bcells (turnCh x pl).brs) ∧ Below w.heap.size w w' := by
  obtain ⟨rfl, h1, h2⟩ := h.len
  obtain ⟨P, pc, rfl, p1, p2, -⟩ := hp.ints
  unfold maxLen at h2 p2
  have H := Lib.hid h
  have HP := Lib.hid hp
  have HD := Lib.hid hD
  have HTO := Lib.hid hto
  have HPL := Lib.hid hpl
  have HV := Lib.hid hv
  have a1 := (Below.refl w.heap.size w).alloc (Nat.le_refl _) (.cells #[.int .i64 x.rw.top, .int .i64 x.rw.low, .slice A x.brs.length c] 97)
  have hz1 : (w.alloc (.cells #[.int .i64 x.rw.top, .int .i64 x.rw.low, .slice A x.brs.length c] 97)).heap.size = w.heap.size + 1 := by simp
  have a2 := (Below.refl (w.heap.size + 1) (w.alloc (.cells #[.int .i64 x.rw.top, .int .i64 x.rw.low, .slice A x.brs.length c] 97))).alloc (by simp) (.cells #[.int .i64 0, .int .i64 0, .slice none 0 0] 97)
  have hbx := (a2.block w.heap.size (by omega)).trans (heap_alloc_new w _)
  have hbr := heap_alloc_new (w.alloc (.cells #[.int .i64 x.rw.top, .int .i64 x.rw.low, .slice A x.brs.length c] 97)) (.cells #[.int .i64 0, .int .i64 0, .slice none 0 0] 97)
  rw [hz1] at hbr
  obtain ⟨w0, hw0⟩ : ∃ W : World, W = (w.alloc (.cells #[.int .i64 x.rw.top, .int .i64 x.rw.low, .slice A x.brs.length c] 97)).alloc (.cells #[.int .i64 0, .int .i64 0, .slice none 0 0] 97) := ⟨_, rfl⟩
  have hz0 : w0.heap.size = w.heap.size + 2 := by rw [hw0]; simp
  rw [← hw0] at hbx hbr a2
  have HS0 := Lib.hid (SumA.new w0)
  have hT0 : TuR x (.slice A x.brs.length c) w w0 := ⟨a1.trans (a2.mono (by omega)), hbx, hbr⟩
  have HT0 := Lib.hid (hT0.next (hz0 ▸ (Below.refl w0.heap.size w0).alloc (Nat.le_refl _) (.cells Tryz.zeroCells159 159)))
  have HW0 := Lib.hid hw0
  have HZ0 := Lib.hid hz0
  have HZS := Lib.hid (show (w0.alloc (.cells Tryz.zeroCells159 159)).heap.size = w.heap.size + 3 by simp; omega)
  clear h hp hD hto hpl hv a1 a2 hbx hbr hw0 hz1 hT0
  go_enter Tryz.func120, Tryz.ntmps120
  go_upto_region 1 with fail
  rw [← HW0.out]
  clear HW0
  go_upto_region 2 with fail
  rw [HZ0.out] at HS0
  obtain ⟨w1, hw1⟩ : ∃ W : World, W = w0.alloc (.cells Tryz.zeroCells159 159) := ⟨_, rfl⟩
  rw [← hw1] at HS0 HT0 HZS ⊢
  have b2 := (cells_of HT0.out.box 2).1
  clear hw1 hz0
  go_wp2_with fail
  clear b2
  go_loopw [17] (fun k W => ∃ j : Nat, j ≤ x.brs.length ∧ k = .int .i64 (j : Int) ∧ Hid (TuR x (.slice A x.brs.length c) w W) ∧ Hid (SumA W (w.heap.size + 2) (w.heap.size + 2 + 1) (sumsOf pl (x.brs.take j))) ∧ Hid (∀ (i : Nat) (y : Rat), (sumsOf pl (x.brs.take j))[i]? = some y → FitR (1 + 3 * j) y)) (fun k _ => x.brs.length - (intOf k).toNat)
  case atStart =>
    refine ⟨0, Nat.zero_le _, rfl, HT0.out, HS0.out, Lib.hid fun i y hy => ?_⟩
    have hi : i < 40 := by have := (List.getElem?_eq_some_iff.1 hy).1; simpa [sumsOf] using this
    have e : y = 0 := by
      have h9 : (List.replicate 40 (0 : Rat))[i]? = some y := hy
      rw [List.getElem?_replicate, if_pos hi] at h9; injection h9 with h; exact h.symm
    subst e
    exact FitR.zero
  case round =>
    obtain ⟨j, hj, rfl, HT, HS, HFT⟩ := hrel
    by_cases hlt : j < x.brs.length
    · obtain ⟨b, hb⟩ : ∃ b, x.brs[j]? = some b := ⟨_, List.getElem?_eq_getElem hlt⟩
      obtain ⟨ad, rfl, hDa, q0, q1, q2⟩ := (H.out.same (HD.out.same HT.out.below)).br_at j b hb
      have hbm := List.mem_of_getElem? hb
      obtain ⟨t0, t1⟩ := HTO.out b hbm
      obtain ⟨n1, n2, n3, n4⟩ := ValidN.bounds (HV.out b hbm)
      obtain ⟨t, ht⟩ : ∃ t : Nat, b.to = (t : Int) := ⟨b.to.toNat, by omega⟩
      obtain ⟨pv, hpv⟩ : ∃ p, pl[t]? = some p := ⟨_, List.getElem?_eq_getElem (by omega)⟩
      obtain ⟨u0, u1⟩ := HPL.out pv (List.mem_of_getElem? hpv)
      obtain ⟨p, rfl⟩ : ∃ p : Nat, pv = (p : Int) := ⟨pv.toNat, by omega⟩
      obtain ⟨pa, rfl, r0, hpb⟩ : ∃ pa, P = some pa ∧ wr.cell? (pa.add t) = some (.int .i64 (p : Int)) ∧ ∀ i, (pa.add i).block < w.heap.size := by
        obtain ⟨A', c', e, -, -, h3⟩ := (HP.out.same (HD.out.same HT.out.below)).ints
        injection e with e1 e2 e3
        subst e1
        obtain ⟨ad, ea, hd, hc⟩ := h3 (by omega)
        have := hc t (by omega)
        rw [Dig.gd_of hpv] at this
        exact ⟨ad, ea, this, fun i => by rw [block_of_add]; exact HD.out _ hd⟩
      have HPB := Lib.hid hpb
      clear hpb
      have hpe : placeAt pl b = p := by unfold placeAt; rw [ht, Int.toNat_natCast, List.getD_eq_getElem?_getD, hpv]; rfl
      have htl : t < pl.length := by omega
      have hp40 : p < 40 := by omega
      have HPE := Lib.hid hpe
      have HB := Lib.hid hb
      have hst := HS.out.len
      obtain ⟨y, hy⟩ : ∃ y, (sumsOf pl (x.brs.take j))[p]? = some y := ⟨_, List.getElem?_eq_getElem (by omega)⟩
      have HY := Lib.hid hy
      have HFY := Lib.hid (HFT.out p y hy)
      rw [ht] at q0
      have hal := (Below.refl wr.heap.size wr).alloc (Nat.le_refl _) (.cells #[.int .i64 (t : Int), .int .i64 b.ch.top, .int .i64 b.ch.low] 103)
      clear hb hst hpe hpv hy hDa t0 t1 u0 u1 hbm
      go_upto_region 5 with fail
      obtain ⟨bb, hbb⟩ : ∃ n : Nat, n = wr.heap.size := ⟨_, rfl⟩
      obtain ⟨sb, hsb⟩ : ∃ n : Nat, n = w.heap.size + 2 := ⟨_, rfl⟩
      have HSa := Lib.hid (HS.out.below hal)
      have c0 := cells_of (heap_alloc_new wr (.cells #[.int .i64 (t : Int), .int .i64 b.ch.top, .int .i64 b.ch.low] 103))
      have c00 := (c0 0).1
      have c01 := (c0 1).1
      have c02 := (c0 2).1
      have r1 := (hal.cell (cell_lt r0)).trans r0
      have HTa := Lib.hid (HT.out.next (hal.mono (by have := HS.out.low; omega)))
      obtain ⟨w2, hw2⟩ : ∃ W : World, W = wr.alloc (.cells #[.int .i64 (t : Int), .int .i64 b.ch.top, .int .i64 b.ch.low] 103) := ⟨_, rfl⟩
      have hz2 : wr.heap.size < w2.heap.size := by rw [hw2]; simp
      rw [← hw2] at HSa c00 c01 c02 r1 HTa ⊢
      rw [← hbb] at c00 c01 c02 ⊢
      rw [← hsb] at HSa ⊢
      have HSB := Lib.hid hsb
      have hbs : bb ≠ sb := by have h9 := HS.out.block; omega
      have hps : (pa.add t).block ≠ sb := fun e => by have h9 := cell_lt r0; have h8 := HS.out.block; have h7 := HPB.out t; omega
      obtain ⟨s, SA, sn, sc, s', SA', sn', sc', ⟨d0, d1, d2, d3⟩, hrc⟩ := HSa.out.cells HY.out
      have HRC := Lib.hid hrc
      have HU0 : Hid (w2.drew.cell? ⟨bb, 0, none⟩ = some (.int .i64 (t : Int)) ∧ w2.drew.cell? ⟨bb, 1, none⟩ = some (.int .i64 b.ch.top) ∧ w2.drew.cell? ⟨bb, 2, none⟩ = some (.int .i64 b.ch.low) ∧ w2.drew.cell? (pa.add t) = some (.int .i64 (p : Int))) := Lib.hid ⟨c00, c01, c02, r1⟩
      have hS0 : Till 17 (fun V => V.cell? ⟨sb, p * 4, none⟩ = some (.int .i64 s) ∧ V.cell? ⟨sb, p * 4 + 1, none⟩ = some (.slice SA sn sc) ∧ V.cell? ⟨sb, p * 4 + 2, none⟩ = some (.int .i64 s') ∧ V.cell? ⟨sb, p * 4 + 3, none⟩ = some (.slice SA' sn' sc')) (fun V => V.cell? ⟨bb, 0, none⟩ = some (.int .i64 (t : Int)) ∧ V.cell? ⟨bb, 1, none⟩ = some (.int .i64 b.ch.top) ∧ V.cell? ⟨bb, 2, none⟩ = some (.int .i64 b.ch.low) ∧ V.cell? (pa.add t) = some (.int .i64 (p : Int))) (Array.replicate 18 false) w2.drew := ⟨.inr ⟨d0, d1, d2, d3⟩, c00, c01, c02, r1⟩
      have HT9 : Hid (w2.drew.cell? ⟨sb, p * 4, none⟩ = some (.int .i64 s) ∧ w2.drew.cell? ⟨sb, p * 4 + 1, none⟩ = some (.slice SA sn sc) ∧ w2.drew.cell? ⟨sb, p * 4 + 2, none⟩ = some (.int .i64 s') ∧ w2.drew.cell? ⟨sb, p * 4 + 3, none⟩ = some (.slice SA' sn' sc')) := Lib.hid ⟨d0, d1, d2, d3⟩
      clear hw2 hbb hsb hrc c0 c00 c01 c02 r0 r1 q0 q1 q2 hal d0 d1 d2 d3
      refine Timed.region (S := Till 17 (fun V => V.cell? ⟨sb, p * 4, none⟩ = some (.int .i64 s) ∧ V.cell? ⟨sb, p * 4 + 1, none⟩ = some (.slice SA sn sc) ∧ V.cell? ⟨sb, p * 4 + 2, none⟩ = some (.int .i64 s') ∧ V.cell? ⟨sb, p * 4 + 3, none⟩ = some (.slice SA' sn' sc')) (fun V => V.cell? ⟨bb, 0, none⟩ = some (.int .i64 (t : Int)) ∧ V.cell? ⟨bb, 1, none⟩ = some (.int .i64 b.ch.top) ∧ V.cell? ⟨bb, 2, none⟩ = some (.int .i64 b.ch.low) ∧ V.cell? (pa.add t) = some (.int .i64 (p : Int)))) (by kernel_rfl) ?_
      refine Till.take (i := 0) (n := 17) (v := .slice (some pa) pl.length pc) rfl (by decide) (by kernel_rfl) (by kernel_rfl) (by kernel_rfl) (fun _ _ _ h => h) (Or.inl ⟨by rfl, ?_⟩) hS0 (fun hS1 => ?_)
      · intro w hw; obtain ⟨hw1, hw2, hw3, hw4⟩ := hw; go_simp
      simp only [Act.put, List.setIfInBounds_toArray]
      clear hS0
      refine Till.take (i := 1) (n := 16) (v := .pointer (some ⟨bb, 0, none⟩)) rfl (by decide) (by kernel_rfl) (by kernel_rfl) (by kernel_rfl) (fun _ _ _ h => h) (Or.inl ⟨by rfl, ?_⟩) hS1 (fun hS2 => ?_)
      · intro w hw; obtain ⟨hw1, hw2, hw3, hw4⟩ := hw; go_simp
      simp only [Act.put]
      clear hS1
      refine Till.take (i := 2) (n := 15) (v := .int .i64 (t : Int)) rfl (by decide) (by kernel_rfl) (by kernel_rfl) (by kernel_rfl) (fun _ _ _ h => h) (Or.inl ⟨by rfl, ?_⟩) hS2 (fun hS3 => ?_)
      · intro w hw; obtain ⟨hw1, hw2, hw3, hw4⟩ := hw; go_simp
      simp only [Act.put]
      clear hS2
      refine Till.take (i := 3) (n := 14) (v := .pointer (some (pa.add t))) rfl (by decide) (by kernel_rfl) (by kernel_rfl) (by kernel_rfl) (fun _ _ _ h => h) (Or.inl ⟨by rfl, ?_⟩) hS3 (fun hS4 => ?_)
      · intro w hw; obtain ⟨hw1, hw2, hw3, hw4⟩ := hw; go_simp
      simp only [Act.put]
      clear hS3
      refine Till.take (i := 4) (n := 13) (v := .int .i64 (p : Int)) rfl (by decide) (by kernel_rfl) (by kernel_rfl) (by kernel_rfl) (fun _ _ _ h => h) (Or.inl ⟨by rfl, ?_⟩) hS4 (fun hS5 => ?_)
      · intro w hw; obtain ⟨hw1, hw2, hw3, hw4⟩ := hw; go_simp
      simp only [Act.put]
      clear hS4
      refine Till.take (i := 5) (n := 12) (v := .slice (some pa) pl.length pc) rfl (by decide) (by kernel_rfl) (by kernel_rfl) (by kernel_rfl) (fun _ _ _ h => h) (Or.inl ⟨by rfl, ?_⟩) hS5 (fun hS6 => ?_)
      · intro w hw; obtain ⟨hw1, hw2, hw3, hw4⟩ := hw; go_simp
      simp only [Act.put]
      clear hS5
      refine Till.take (i := 6) (n := 11) (v := .pointer (some ⟨bb, 0, none⟩)) rfl (by decide) (by kernel_rfl) (by kernel_rfl) (by kernel_rfl) (fun _ _ _ h => h) (Or.inl ⟨by rfl, ?_⟩) hS6 (fun hS7 => ?_)
      · intro w hw; obtain ⟨hw1, hw2, hw3, hw4⟩ := hw; go_simp
      simp only [Act.put]
      clear hS6
      refine Till.take (i := 7) (n := 10) (v := .int .i64 (t : Int)) rfl (by decide) (by kernel_rfl) (by kernel_rfl) (by kernel_rfl) (fun _ _ _ h => h) (Or.inl ⟨by rfl, ?_⟩) hS7 (fun hS8 => ?_)
      · intro w hw; obtain ⟨hw1, hw2, hw3, hw4⟩ := hw; go_simp
      simp only [Act.put]
      clear hS7
      refine Till.take (i := 8) (n := 9) (v := .pointer (some (pa.add t))) rfl (by decide) (by kernel_rfl) (by kernel_rfl) (by kernel_rfl) (fun _ _ _ h => h) (Or.inl ⟨by rfl, ?_⟩) hS8 (fun hS9 => ?_)
      · intro w hw; obtain ⟨hw1, hw2, hw3, hw4⟩ := hw; go_simp
      simp only [Act.put]
      clear hS8
      refine Till.take (i := 9) (n := 8) (v := .int .i64 (p : Int)) rfl (by decide) (by kernel_rfl) (by kernel_rfl) (by kernel_rfl) (fun _ _ _ h => h) (Or.inl ⟨by rfl, ?_⟩) hS9 (fun hS10 => ?_)
      · intro w hw; obtain ⟨hw1, hw2, hw3, hw4⟩ := hw; go_simp
      simp only [Act.put]
      clear hS9
      refine Till.take (i := 10) (n := 7) (v := .pointer (some ⟨sb, p * 4, none⟩)) rfl (by decide) (by kernel_rfl) (by kernel_rfl) (by kernel_rfl) (fun _ _ _ h => h) (Or.inl ⟨by rfl, ?_⟩) hS10 (fun hS11 => ?_)
      · intro w hw; obtain ⟨hw1, hw2, hw3, hw4⟩ := hw; go_simp; intro h9; omega
      simp only [Act.put]
      clear hS10
      refine Till.takeT (i := 11) (n := 6) (v := .agg #[.int .i64 s, .slice SA sn sc, .int .i64 s', .slice SA' sn' sc']) rfl (by decide) rfl (by kernel_rfl) (by kernel_rfl) (by kernel_rfl) (by kernel_rfl) (by kernel_rfl) (fun _ _ _ h => h) (Or.inl ⟨by rfl, ?_⟩) hS11 (fun hS12 => ?_)
      · intro w hw; obtain ⟨hw1, hw2, hw3, hw4⟩ := hw; go_simp
      simp only [Act.put]
      clear hS11
      refine Till.take (i := 12) (n := 5) (v := .pointer (some ⟨bb, 1, none⟩)) rfl (by decide) (by kernel_rfl) (by kernel_rfl) (by kernel_rfl) (fun _ _ _ h => h) (Or.inl ⟨by rfl, ?_⟩) hS12 (fun hS13 => ?_)
      · intro w hw; obtain ⟨hw1, hw2, hw3, hw4⟩ := hw; go_simp
      simp only [Act.put]
      clear hS12
      refine Till.take (i := 13) (n := 4) (v := .agg #[.int .i64 b.ch.top, .int .i64 b.ch.low]) rfl (by decide) (by kernel_rfl) (by kernel_rfl) (by kernel_rfl) (fun _ _ _ h => h) (Or.inl ⟨by rfl, ?_⟩) hS13 (fun hS14 => ?_)
      · intro w hw; obtain ⟨hw1, hw2, hw3, hw4⟩ := hw; go_simp
      simp only [Act.put]
      clear hS13
      refine Timed.all (rs := [14]) (n := 3) ?_ (by simp) ?_
      · kernel_rfl
      · intro j2 hj2
        have hj3 : j2 = 14 := by simpa using hj2
        subst hj3
        refine wpOp_step (by rfl) (fun K' hK => ?_)
        have HK14 := Lib.hid hK
        clear hK hj2
        go_simp
        refine (NumRat_calls b.ch.top b.ch.low w2.drew n1 n2 n3 n4).mono ?_
        rintro e wq ⟨vq, rfl, hbq, hrq⟩
        obtain ⟨g0, g1, g2, g3⟩ := HU0.out
        obtain ⟨f0, f1, f2, f3⟩ := HT9.out
        have HUq := Lib.hid (show wq.cell? ⟨bb, 0, none⟩ = some (.int .i64 (t : Int)) ∧ wq.cell? ⟨bb, 1, none⟩ = some (.int .i64 b.ch.top) ∧ wq.cell? ⟨bb, 2, none⟩ = some (.int .i64 b.ch.low) ∧ wq.cell? (pa.add t) = some (.int .i64 (p : Int)) from ⟨(hbq.cell (cell_lt g0)).trans g0, (hbq.cell (cell_lt g1)).trans g1, (hbq.cell (cell_lt g2)).trans g2, (hbq.cell (cell_lt g3)).trans g3⟩)
        have HTq := Lib.hid (show wq.cell? ⟨sb, p * 4, none⟩ = some (.int .i64 s) ∧ wq.cell? ⟨sb, p * 4 + 1, none⟩ = some (.slice SA sn sc) ∧ wq.cell? ⟨sb, p * 4 + 2, none⟩ = some (.int .i64 s') ∧ wq.cell? ⟨sb, p * 4 + 3, none⟩ = some (.slice SA' sn' sc') from ⟨(hbq.cell (cell_lt f0)).trans f0, (hbq.cell (cell_lt f1)).trans f1, (hbq.cell (cell_lt f2)).trans f2, (hbq.cell (cell_lt f3)).trans f3⟩)
        have HBq := Lib.hid ((Below.refl w2.heap.size w2).drew.trans hbq)
        have hlow := HSa.out.low
        have HQ := Lib.hid (RatC.mono hrq (D' := fun k => sb + 1 ≤ k ∧ k < wq.heap.size) fun k hk => ⟨Nat.le_trans hlow hk.1, hk.2⟩)
        refine HK14.out _ _ ⟨⟨.inr HTq.out, HUq.out⟩, ?_⟩
        clear HK14 hS14 g0 g1 g2 g3 f0 f1 f2 f3 hbq hrq
        refine Timed.all (rs := [15]) (n := 2) (by kernel_rfl) (by simp) ?_
        intro j2 hj2
        have hj3 : j2 = 15 := by simpa using hj2
        subst hj3
        refine wpOp_step (by rfl) (fun K' hK => ?_)
        have HK15 := Lib.hid hK
        clear hK hj2
        go_simp
        refine (RatAdd_calls (.agg #[.int .i64 s, .slice SA sn sc, .int .i64 s', .slice SA' sn' sc']) vq y (ratOf b.ch) (fun k => sb + 1 ≤ k ∧ k < wq.heap.size) wq (lo_from _ _) ((HRC.out.below (lo_from _ _) HBq.out).mono fun k hk => ⟨hk.1, Nat.lt_of_lt_of_le hk.2 HBq.out.size⟩) HQ.out (2 + 3 * j) (by omega) (HFY.out.mono (by omega)) ((FitR.ofNum n1 n2 n3 n4).mono (by omega))).mono ?_
        rintro e wz ⟨vz, rfl, hbz, hrz⟩
        obtain ⟨g0, g1, g2, g3⟩ := HUq.out
        obtain ⟨f0, f1, f2, f3⟩ := HTq.out
        have HUz := Lib.hid (show wz.cell? ⟨bb, 0, none⟩ = some (.int .i64 (t : Int)) ∧ wz.cell? ⟨bb, 1, none⟩ = some (.int .i64 b.ch.top) ∧ wz.cell? ⟨bb, 2, none⟩ = some (.int .i64 b.ch.low) ∧ wz.cell? (pa.add t) = some (.int .i64 (p : Int)) from ⟨(hbz.cell (cell_lt g0)).trans g0, (hbz.cell (cell_lt g1)).trans g1, (hbz.cell (cell_lt g2)).trans g2, (hbz.cell (cell_lt g3)).trans g3⟩)
        have HTz := Lib.hid (show wz.cell? ⟨sb, p * 4, none⟩ = some (.int .i64 s) ∧ wz.cell? ⟨sb, p * 4 + 1, none⟩ = some (.slice SA sn sc) ∧ wz.cell? ⟨sb, p * 4 + 2, none⟩ = some (.int .i64 s') ∧ wz.cell? ⟨sb, p * 4 + 3, none⟩ = some (.slice SA' sn' sc') from ⟨(hbz.cell (cell_lt f0)).trans f0, (hbz.cell (cell_lt f1)).trans f1, (hbz.cell (cell_lt f2)).trans f2, (hbz.cell (cell_lt f3)).trans f3⟩)
        have hup : ∀ k, gr (fun k => sb + 1 ≤ k ∧ k < wq.heap.size) wq wz k → sb + 1 ≤ k ∧ k < wz.heap.size := by
          have h8 := HBq.out.size
          rintro k (hk | hk)
          · exact ⟨hk.1, Nat.lt_of_lt_of_le hk.2 hbz.size⟩
          · exact ⟨by have := hk.1; omega, hk.2⟩
        have HZ := Lib.hid (hrz.mono hup)
        obtain ⟨zs, zA, zn, zc, zs', zA', zn', zc', zl, rfl, -, -, -⟩ := hrz
        have HBz := Lib.hid (HBq.out.trans (hbz.mono HBq.out.size))
        refine HK15.out _ _ ⟨⟨.inr HTz.out, HUz.out⟩, ?_⟩
        clear HK15 g0 g1 g2 g3 f0 f1 f2 f3 hbz hup HUq HTq HQ
        refine Timed.all (rs := [16]) (n := 1) (by kernel_rfl) (by simp) ?_
        intro j2 hj2
        have hj3 : j2 = 16 := by simpa using hj2
        subst hj3
        refine wpOp_step (by rfl) (fun K' hK => ?_)
        have HK16 := Lib.hid hK
        clear hK hj2
        go_simp
        rw [if_pos (show (p : Int) < 40 by omega)]
        refine HK16.out _ _ ⟨⟨.inr HTz.out, HUz.out⟩, ?_⟩
        clear HK16
        refine Timed.all (rs := [17]) (n := 0) (by kernel_rfl) (by simp) ?_
        intro j2 hj2
        have hj3 : j2 = 17 := by simpa using hj2
        subst hj3
        refine wpOp_step (by rfl) (fun K' hK => ?_)
        have HK17 := Lib.hid hK
        obtain ⟨f0, f1, f2, f3⟩ := HTz.out
        have HSz := Lib.hid (HSa.out.below HBz.out)
        have z0 := HSz.out.soft (p * 4)
        have z1 := HSz.out.soft (p * 4 + 1)
        have z2 := HSz.out.soft (p * 4 + 2)
        have z3 := HSz.out.soft (p * 4 + 3)
        clear hK hj2
        go_simp
        have hF : ∀ k, k ≠ sb → (set4at wz sb (p * 4) (.int .i64 zs) (.slice zA zn zc) (.int .i64 zs') (.slice zA' zn' zc')).heap[k]? = wz.heap[k]? := fun k hne =>
          (Below.heap_setCell _ _ _ _ hne).trans ((Below.heap_setCell _ _ _ _ hne).trans ((Below.heap_setCell _ _ _ _ hne).trans (Below.heap_setCell _ _ _ _ hne)))
        obtain ⟨g0, g1, g2, g3⟩ := HUz.out
        refine HK17.out _ _ ⟨⟨.inl (by rfl), (World.cell?_of_block (hF _ hbs)).trans g0, (World.cell?_of_block (hF _ hbs)).trans g1, (World.cell?_of_block (hF _ hbs)).trans g2, (World.cell?_of_block (hF _ hps)).trans g3⟩, ?_⟩
        refine Timed.done (by kernel_rfl) ?_ _
        clear HK17 g0 g1 g2 g3 f0 f1 f2 f3 z0 z1 z2 z3
        have HT8 := Lib.hid (HTa.out.next ((HBz.out.mono (by have h9 := HSa.out.block; have h8 := HSB.out; omega)).trans ((((((Below.refl (w.heap.size + 2) wz).setCell (p := ⟨sb, p * 4, none⟩) (Nat.le_of_eq HSB.out.symm) (.int .i64 zs)).setCell (p := ⟨sb, p * 4 + 1, none⟩) (Nat.le_of_eq HSB.out.symm) (.slice zA zn zc)).setCell (p := ⟨sb, p * 4 + 2, none⟩) (Nat.le_of_eq HSB.out.symm) (.int .i64 zs')).setCell (p := ⟨sb, p * 4 + 3, none⟩) (Nat.le_of_eq HSB.out.symm) (.slice zA' zn' zc')))))
        have hgy : (sumsOf pl (x.brs.take j)).getD p 0 = y := by rw [List.getD_eq_getElem?_getD, HY.out]; rfl
        have HS8 : Hid (SumA (set4at wz sb (p * 4) (.int .i64 zs) (.slice zA zn zc) (.int .i64 zs') (.slice zA' zn' zc')) sb (sb + 1) (sumsOf pl (x.brs.take (j + 1)))) := Lib.hid (by
          rw [sumsOf_succ pl x.brs j b HB.out, HPE.out, addAt, hgy]
          exact HSz.out.store hp40 HZ.out)
        have HF8 : Hid (∀ (i : Nat) (z : Rat), (sumsOf pl (x.brs.take (j + 1)))[i]? = some z → FitR (1 + 3 * (j + 1)) z) := Lib.hid fun i z hz => by
          rw [sumsOf_succ pl x.brs j b HB.out, HPE.out, addAt, hgy] at hz
          by_cases e : i = p
          · subst e
            rw [List.getElem?_set_self (by have := HSz.out.len; omega)] at hz
            injection hz with hz
            subst hz
            exact (HFY.out.add (FitR.ofNum n1 n2 n3 n4)).mono (by omega)
          · rw [List.getElem?_set_ne (Ne.symm e)] at hz
            exact (HFT.out i z hz).mono (by omega)
        have hsb9 := HSB.out
        subst hsb9
        clear hF
        go_wp2
        exact ⟨⟨j + 1, by omega, by go_num, HT8.out, HS8.out, HF8.out⟩, by simp [intOf]; omega⟩
    · obtain rfl : j = x.brs.length := by omega
      clear hlt
      have e0 := (cells_of HT.out.box 0).1
      have e1 := (cells_of HT.out.box 1).1
      go_upto_region 8 with fail
      clear e0 e1
      have hal := (Below.refl wr.heap.size wr).alloc (Nat.le_refl _) (.cells #[.int .i64 x.rw.top, .int .i64 x.rw.low, .slice none 0 0] 97)
      have HTa := Lib.hid (HT.out.next (hal.mono (by have := HS.out.low; omega)))
      have hob := heap_alloc_new wr (.cells #[.int .i64 x.rw.top, .int .i64 x.rw.low, .slice none 0 0] 97)
      have hlw := HS.out.low
      obtain ⟨cs, hcs0, hcz, hcv⟩ := HS.out.ex
      rw [List.take_length] at hcv
      have hlen := HS.out.len
      rw [List.take_length] at hlen
      have hcs := (hal.block (w.heap.size + 2) (Array.getElem?_eq_some_iff.1 hcs0).1).trans hcs0
      obtain ⟨w3, hw3⟩ : ∃ W : World, W = wr.alloc (.cells #[.int .i64 x.rw.top, .int .i64 x.rw.low, .slice none 0 0] 97) := ⟨_, rfl⟩
      obtain ⟨ob, hoe⟩ : ∃ n : Nat, n = wr.heap.size := ⟨_, rfl⟩
      have hz3 : w3.heap.size = ob + 1 := by rw [hw3, hoe]; simp
      rw [← hw3] at HTa hob hcs hal ⊢
      rw [← hoe] at hob hcv hal ⊢
      have hcv3 : ∀ (i : Nat) (y : Rat), (sumsOf pl x.brs)[i]? = some y → ∃ s A n c s' A' n' c', cs[i * 4]? = some (.int .i64 s) ∧ cs[i * 4 + 1]? = some (.slice A n c) ∧ cs[i * 4 + 2]? = some (.int .i64 s') ∧ cs[i * 4 + 3]? = some (.slice A' n' c') ∧
          RatC w3 (fun k => w.heap.size + 2 + 1 ≤ k ∧ k < ob) (.agg #[.int .i64 s, .slice A n c, .int .i64 s', .slice A' n' c']) y := fun i y hy => by
        obtain ⟨s, A, n, c, s', A', n', c', e0, e1, e2, e3, hr⟩ := hcv i y hy
        exact ⟨s, A, n, c, s', A', n', c', e0, e1, e2, e3, hr.same fun k hk => hal.block k hk.2⟩
      have hoB : w.heap.size + 3 ≤ ob := by omega
      have HCS := Lib.hid hcs
      have HCV := Lib.hid hcv3
      have HTB0 : Hid (TuB ob x w3 w3 (.slice none 0 0) []) := Lib.hid ⟨Below.refl _ _, by omega, hob, World.ownsRow_nil _ _ _ _⟩
      have hi9 : Hid ((Tryz.prog.info? 159).map (·.size) = some cs.size) := Lib.hid (by rw [hcz]; kernel_rfl)
      have HZZ := Lib.hid (show ∀ (i : Nat) (y : Rat), (sumsOf pl x.brs)[i]? = some y → (sumsOf pl x.brs).zipIdx[i]? = some (y, i) from fun i y hy => by rw [List.getElem?_zipIdx, hy]; simp)
      have HLEN := Lib.hid hlen
      clear hal hw3 hoe hlw hcs hcv hob hcs0 hcv3 hlen hz3
      go_wp2_with (refine wpList_load_row rfl 159 (.tmp 6) rfl (w.heap.size + 2) rfl _ cs (0, 0) _ HCS.out Tryz.underlying159 rfl hi9.out ?_)
      go_loopw [43] (fun k W => ∃ (q : Nat) (acc : List Br) (av : Value), q ≤ 40 ∧ k = .int .i64 (q : Int) ∧ Hid (TuB ob x w3 W av acc) ∧ acc.length ≤ q ∧ Hid (turnBrs (sumsOf pl x.brs).zipIdx [] = turnBrs ((sumsOf pl x.brs).zipIdx.drop q) acc)) (fun k _ => 40 - (intOf k).toNat)
      case atStart => exact ⟨0, [], _, by omega, rfl, HTB0.out, Nat.le_refl _, rfl⟩
      case round =>
        obtain ⟨q, acc, av, hq, rfl, HTB, haq, HE⟩ := hrel
        obtain ⟨wo, rfl⟩ : ∃ wo : World, wo = wr := ⟨_, rfl⟩
        have HTo := Lib.hid (HTa.out.next (HTB.out.below.mono (by omega)))
        by_cases hlt : q < 40
        · obtain ⟨y, hy⟩ : ∃ y, (sumsOf pl x.brs)[q]? = some y := ⟨_, List.getElem?_eq_getElem (by have := HLEN.out; omega)⟩
          have HDR := Lib.hid (turnBrs_drop _ q y q acc (HZZ.out q y hy))
          obtain ⟨s, RA, rn, rc, s', RA', rn', rc', e0, e1, e2, e3, hr⟩ := HCV.out q y hy
          have hal := (Below.refl wo.heap.size wo).alloc (Nat.le_refl _) (.cells #[.int .i64 s, .slice RA rn rc, .int .i64 s', .slice RA' rn' rc'] 158)
          have HR := Lib.hid ((hr.same (w' := wo) fun k hk => HTB.out.below.block k hk.2).same fun k hk => hal.block k (Nat.lt_trans hk.2 HTB.out.size))
          have HAL := Lib.hid hal
          have hbx := heap_alloc_new wo (.cells #[.int .i64 s, .slice RA rn rc, .int .i64 s', .slice RA' rn' rc'] 158)
          have HBX := Lib.hid hbx
          have E0 := Lib.hid e0
          have E1 := Lib.hid e1
          have E2 := Lib.hid e2
          have E3 := Lib.hid e3
          have x0 := (cells_of hbx 0).1
          have x1 := (cells_of hbx 1).1
          have x2 := (cells_of hbx 2).1
          have x3 := (cells_of hbx 3).1
          clear hy hr hal hbx e0 e1 e2 e3
          go_wp2_with (refine wpList_index40 rfl _ _ rfl cs rfl q rfl hlt E0.out E1.out E2.out E3.out ?_)
          have hDo : Hid (∀ V : World, wo.heap.size ≤ V.heap.size → Lo (fun k => w.heap.size + 2 + 1 ≤ k ∧ k < ob) V) := Lib.hid fun V hV k hk => Nat.lt_of_lt_of_le (Nat.lt_trans hk.2 HTB.out.size) hV
          refine (RatSign_calls _ y _ _ (hDo.out _ HAL.out.size) HR.out).mono ?_
          rintro e w5 ⟨rfl, hb5⟩
          have HA5 := Lib.hid (HAL.out.trans (hb5.mono HAL.out.size))
          have HR5 := Lib.hid (HR.out.same fun k hk => hb5.block k (Nat.lt_of_lt_of_le (Nat.lt_trans hk.2 HTB.out.size) HAL.out.size))
          have HBX5 := Lib.hid ((hb5.block wo.heap.size (by simp)).trans HBX.out)
          obtain ⟨sg, hsg⟩ : ∃ z : Int, z = Dig.sgn y.num := ⟨_, rfl⟩
          rw [← hsg]
          have HSG := Lib.hid hsg
          clear hsg hb5 x0 x1 x2 x3
          by_cases hs0 : sg = 0
          · have HY0 := Lib.hid (show y.num = 0 from sgn_zero.1 (by rw [← HSG.out]; exact hs0))
            have HE2 := Lib.hid (show turnBrs (sumsOf pl x.brs).zipIdx [] = turnBrs ((sumsOf pl x.brs).zipIdx.drop (q + 1)) acc by rw [HE.out, HDR.out, if_pos HY0.out])
            have HT5 := Lib.hid (HTB.out.next HA5.out)
            clear HSG
            subst hs0
            go_wp2_with fail
            exact ⟨⟨q + 1, acc, av, by omega, by go_num, HT5.out, by omega, HE2.out⟩, by simp [intOf]; omega⟩
          · have HY0 := Lib.hid (show ¬ y.num = 0 from fun h9 => hs0 (by rw [HSG.out, h9]; rfl))
            have x0 := (cells_of HBX5.out 0).1
            have x1 := (cells_of HBX5.out 1).1
            have x2 := (cells_of HBX5.out 2).1
            have x3 := (cells_of HBX5.out 3).1
            clear HSG
            go_wp2_with fail
            refine (Out_calls _ y _ w5 (hDo.out _ HA5.out.size) HR5.out).mono ?_
            rintro e w6 ⟨rfl, hb6⟩
            have HA6 := Lib.hid (HA5.out.trans (hb6.mono HA5.out.size))
            have HT6 := Lib.hid (HTB.out.next HA6.out)
            have HU6 := Lib.hid (HTo.out.next (HA6.out.mono (by have := HTB.out.size; omega)))
            obtain ⟨nt, nl, hn⟩ : ∃ a b, outN y = ⟨a, b⟩ := ⟨_, _, rfl⟩
            rw [hn]
            simp only [numV]
            have HN := Lib.hid hn
            clear hb6 x0 x1 x2 x3 hn
            have hal7 := (Below.refl w6.heap.size w6).alloc (Nat.le_refl _) (.cells #[.int .i64 nt, .int .i64 nl] 94)
            have HT7 := Lib.hid (HT6.out.next hal7)
            have HU7 := Lib.hid (HU6.out.next (hal7.mono (by have h9 := HT6.out.size; omega)))
            have hn7 := heap_alloc_new w6 (.cells #[.int .i64 nt, .int .i64 nl] 94)
            have m0 := (cells_of hn7 0).1
            have m1 := (cells_of hn7 1).1
            have hz7 : ob < w6.heap.size := HT6.out.size
            clear hal7 hn7
            cases hok : outOk y with
            | false =>
              have HNO := Lib.hid (turn_none (show turnBrs (sumsOf pl x.brs).zipIdx [] = none by rw [HE.out, HDR.out, if_neg HY0.out, hok]; rfl))
              have hoe : outE y = 3 := by unfold outE; rw [hok]; rfl
              rw [hoe]
              obtain ⟨p00, p01⟩ := cells_of HU7.out.res 0
              obtain ⟨p10, p11⟩ := cells_of HU7.out.res 1
              obtain ⟨p20, p21⟩ := cells_of HU7.out.res 2
              clear hok hoe
              go_wp2_with fail
              have hs9 := set_of (set_of (set_of HU7.out.res 0 (.int .i64 0)) 1 (.int .i64 0)) 2 (.slice none 0 0)
              have e0 := (cells_of hs9 0).1
              have e1 := (cells_of hs9 1).1
              have e2 := (cells_of hs9 2).1
              refine bodyPost_ret (v := .tuple #[.agg #[.int .i64 0, .int .i64 0, .slice none 0 0], .int .i64 3]) (by simp [results, Tryz.results120, go_sem, e0, e1, e2]) rfl ⟨.slice none 0 0, ?_, ?_, ?_⟩
              · rw [HNO.out.1, HNO.out.2]
              · rw [HNO.out.1]; exact World.ownsRow_nil _ _ _ _
              · exact ((HU7.out.below.setCell (p := ⟨w.heap.size + 1, 0, none⟩) (by show w.heap.size ≤ w.heap.size + 1; omega) _).setCell (p := ⟨w.heap.size + 1, 1, none⟩) (by show w.heap.size ≤ w.heap.size + 1; omega) _).setCell (p := ⟨w.heap.size + 1, 2, none⟩) (by show w.heap.size ≤ w.heap.size + 1; omega) _
            | true =>
              have hoe : outE y = 0 := by unfold outE; rw [hok]; rfl
              rw [hoe]
              have HE2 := Lib.hid (show turnBrs (sumsOf pl x.brs).zipIdx [] = turnBrs ((sumsOf pl x.brs).zipIdx.drop (q + 1)) (acc ++ [⟨(q : Int), ⟨nt, nl⟩⟩]) by rw [HE.out, HDR.out, if_neg HY0.out, hok, if_pos rfl, HN.out])
              have b2 := (cells_of HT7.out.box 2).1
              have hbr8 := heap_alloc_new (w6.alloc (.cells #[.int .i64 nt, .int .i64 nl] 94)) (.cells #[.int .i64 (q : Int), .int .i64 nt, .int .i64 nl] 103)
              rw [World.size_alloc] at hbr8
              have HBR8 := Lib.hid hbr8
              clear hbr8
              have hown := HT7.out.own
              obtain ⟨AA, ac, rfl, -, -, -⟩ := own_form hown
              clear hok hoe hown
              go_wp2_with ((at_builtin); (refine wpList_app3 elem_br rfl _ _ rfl (ob + 1) _ acc.length (bcells acc) rfl (own_below HT7.out.own ((Below.refl _ _).alloc (Nat.le_refl _) _)) (w6.heap.size + 1) 1 (.int .i64 (q : Int)) (.int .i64 nt) (.int .i64 nl) rfl HBR8.out rfl rfl rfl (by omega) (by omega) (by simp; omega) ?_); (intro v8 w8 ho8 hg8 ha8); (have hb8 := hg8.block ob (by simp; omega) (fun e => by have h9 := (HT7.out.own.lt ob e.symm).1; omega)); (have hx8 := (hb8.trans (((Below.refl _ _).alloc (Nat.le_refl _) _).block ob (by simp; omega))).trans HT7.out.box); (obtain ⟨c20, c21⟩ := cells_of hx8 2); (have HX8 := Lib.hid hx8); (have HO8 := Lib.hid ho8); (have HG8 := Lib.hid hg8); (have HA8 := Lib.hid ha8); (obtain ⟨A8, c8, rfl, -, -, -⟩ := own_form ho8); (clear ho8 hg8 ha8 hb8 hx8))
              have hW8 : (w6.alloc (.cells #[.int .i64 nt, .int .i64 nl] 94)).heap.size ≤ ((w6.alloc (.cells #[.int .i64 nt, .int .i64 nl] 94)).alloc (.cells #[.int .i64 (q : Int), .int .i64 nt, .int .i64 nl] 103)).heap.size := by simp
              have hin : (w6.alloc (.cells #[.int .i64 nt, .int .i64 nl] 94)).heap.size = w6.heap.size + 1 := by simp
              have hTB : TuB ob x w3 (w8.setCell ⟨ob, 2, none⟩ (.slice A8 (acc.length + 1) c8)) (.slice A8 (acc.length + 1) c8) (acc ++ [⟨(q : Int), ⟨nt, nl⟩⟩]) := by
                have hz8 := HG8.out.size
                have hob8 : ob < w8.heap.size := (Array.getElem?_eq_some_iff.1 HX8.out).1
                have hbel : Below ob w3 w8 := (HT7.out.below.trans (((Below.refl _ _).alloc (Nat.le_refl _) (.cells #[.int .i64 (q : Int), .int .i64 nt, .int .i64 nl] 103)).mono (Nat.le_of_lt HT7.out.size))).grown HG8.out (by omega) fun k hk => by have h9 := (HT7.out.own.lt k hk).1; omega
                refine ⟨hbel.setCell (p := ⟨ob, 2, none⟩) (Nat.le_refl _) _, by simpa [World.setCell] using hob8, set_of HX8.out 2 _, ?_⟩
                rw [List.length_append]
                have ho9 : w8.ownsRow (ob + 1) 103 3 (.slice A8 (acc.length + 1) c8) (acc.length + 1) (bcells (acc ++ [⟨(q : Int), ⟨nt, nl⟩⟩])) := by
                  rw [show bcells (acc ++ [(⟨(q : Int), ⟨nt, nl⟩⟩ : Br)]) = bcells acc ++ [.int .i64 (q : Int), .int .i64 nt, .int .i64 nl] from by simp [bcells]]
                  exact HO8.out
                exact own_kept ho9 fun k hk => Below.heap_setCell _ _ _ _ (fun e => by have h9 := (ho9.lt k hk).1; have e : k = ob := e; omega)
              have HTB9 := Lib.hid hTB
              clear hTB hW8 hin
              exact ⟨⟨q + 1, acc ++ [(⟨(q : Int), ⟨nt, nl⟩⟩ : Br)], .slice A8 (acc.length + 1) c8, by omega, by go_num, HTB9, by simp; omega, HE2⟩, by simp [intOf]; omega⟩
        · obtain rfl : q = 40 := by omega
          have HF := Lib.hid (turn_some (show turnBrs (sumsOf pl x.brs).zipIdx [] = some acc by
            rw [HE.out, List.drop_of_length_le (by rw [List.length_zipIdx, HLEN.out]; exact Nat.le_refl _)]; rfl))
          obtain ⟨b0, -⟩ := cells_of HTB.out.box 0
          obtain ⟨b1, -⟩ := cells_of HTB.out.box 1
          obtain ⟨b2, -⟩ := cells_of HTB.out.box 2
          obtain ⟨p00, p01⟩ := cells_of HTo.out.res 0
          obtain ⟨p10, p11⟩ := cells_of HTo.out.res 1
          obtain ⟨p20, p21⟩ := cells_of HTo.out.res 2
          have hown := HTB.out.own
          obtain ⟨AA, ac, rfl, -, -, -⟩ := own_form hown
          clear hlt hown
          go_wp2_with fail
          have hs9 := set_of (set_of (set_of HTo.out.res 0 (.int .i64 x.rw.top)) 1 (.int .i64 x.rw.low)) 2 (.slice AA acc.length ac)
          have e0 := (cells_of hs9 0).1
          have e1 := (cells_of hs9 1).1
          have e2 := (cells_of hs9 2).1
          refine bodyPost_ret (v := .tuple #[.agg #[.int .i64 x.rw.top, .int .i64 x.rw.low, .slice AA acc.length ac], .int .i64 0]) (by simp [results, Tryz.results120, go_sem, e0, e1, e2]) rfl ⟨.slice AA acc.length ac, ?_, ?_, ?_⟩
          · rw [HF.out.1, HF.out.2]
          · rw [HF.out.1]
            have ho9 := own_base HTB.out.own (show w.heap.size ≤ ob + 1 by omega)
            refine own_kept ho9 fun k hk => ?_
            have hne : k ≠ w.heap.size + 1 := by have h9 := (HTB.out.own.lt k hk).1; omega
            exact (Below.heap_setCell _ _ _ _ hne).trans ((Below.heap_setCell _ _ _ _ hne).trans (Below.heap_setCell _ _ _ _ hne))
          · exact ((HTo.out.below.setCell (p := ⟨w.heap.size + 1, 0, none⟩) (by show w.heap.size ≤ w.heap.size + 1; omega) _).setCell (p := ⟨w.heap.size + 1, 1, none⟩) (by show w.heap.size ≤ w.heap.size + 1; omega) _).setCell (p := ⟨w.heap.size + 1, 2, none⟩) (by show w.heap.size ≤ w.heap.size + 1; omega) _

end Go.Proofs.YtoffbdlgmnpblaaGreat
