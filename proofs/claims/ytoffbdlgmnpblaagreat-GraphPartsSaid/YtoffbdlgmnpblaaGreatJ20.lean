/- Part 20: Rf11. -/
import Derived.Test.YtoffbdlgmnpblaaGreatJ19
import Derived.Laws.CopyOwn
import Derived.Deep.RegionLaw

/- The reference's long division: words for rows. -/
namespace Go.Proofs.YtoffbdlgmnpblaaGreat
open Go.RowKit
set_option maxHeartbeats 4000000
set_option maxRecDepth 100000

/-- where an own row with something in it lies -/
theorem own_g {w : World} {base : Nat} {e : TypeId} {sz : Nat} {v : Value} {n : Nat} {vs : List Value} (h : w.ownsRow base e sz v n vs) (hn : 0 < n) : ∃ g c, v = .slice (some ⟨g, 0, none⟩) n c ∧ base ≤ g ∧ g < w.heap.size ∧ n ≤ c ∧ c ≤ maxLen := by
  obtain ⟨hl, ⟨-, rfl⟩ | ⟨g, cap, cur, rfl, hb, hg, hnc, hcm, hcs, ht⟩⟩ := h
  · omega
  · exact ⟨g, cap, rfl, hb, (Array.getElem?_eq_some_iff.1 hg).1, hnc, hcm⟩
/-- an own row stays where its block does -/
theorem own_stays {W W' : World} {B : Nat} {e : TypeId} {sz g n c : Nat} {vs : List Value} (h : W.ownsRow B e sz (.slice (some ⟨g, 0, none⟩) n c) n vs) (hb : W'.heap[g]? = W.heap[g]?) : W'.ownsRow B e sz (.slice (some ⟨g, 0, none⟩) n c) n vs := by
  obtain ⟨h1, h2⟩ := h
  refine ⟨h1, ?_⟩
  rcases h2 with h2 | ⟨k, cap, cur, hvk, hbk, hck, h5⟩
  · exact .inl h2
  · injection hvk with e1 e2 e3
    injection e1 with e1
    injection e1 with e1
    subst e1
    exact .inr ⟨g, cap, cur, by rw [e3], hbk, hb.trans hck, h5⟩
/-- some of an own row's numbers -/
theorem own_sub {W : World} {B g n c : Nat} {zs : List Int} {D : Nat → Prop} (h : W.ownsRow B 3 1 (.slice (some ⟨g, 0, none⟩) n c) n (ints zs)) (hD : D g) (j m c' : Nat) (hj : j + m ≤ n) (hm : m ≤ c') (hc : c' ≤ maxLen) :
    Sl (Kind.int .i64) W D (.slice (some ⟨g, j, none⟩) m c') ((zs.drop j).take m) := by
  have hl : zs.length = n := by have := h.1; simpa using this
  have hlen : ((zs.drop j).take m).length = m := by rw [List.length_take, List.length_drop]; omega
  have e := Sl.of_ints (k := .i64) (w := W) (D := D) (A := some ⟨g, j, none⟩) (c := c') (xs := (zs.drop j).take m) (by rw [hlen]; exact hm) hc fun _ => ⟨_, rfl, hD, fun i hi => by
    rw [hlen] at hi
    have := (own_cell h (j + i) (.int .i64 (Dig.gd zs (j + i))) (by rw [List.getElem?_map, Dig.gd_lt (by omega)]; rfl)).1
    have e1 : (⟨g, j, none⟩ : Addr).add i = ⟨g, j + i, none⟩ := by unfold Addr.add; split <;> simp_all
    have e2 : Dig.gd ((zs.drop j).take m) i = Dig.gd zs (j + i) := by simp only [Dig.gd_int]; rw [Dig.getD_take_lt _ _ _ hi, Dig.getD_drop']
    rw [e1, e2]
    exact this⟩
  rw [hlen] at e
  exact e
theorem own_sub0 {W : World} {B g n c : Nat} {zs : List Int} {D : Nat → Prop} (h : W.ownsRow B 3 1 (.slice (some ⟨g, 0, none⟩) n c) n (ints zs)) (hD : D g) (m : Nat) (hm : m ≤ n) : Sl (Kind.int .i64) W D (.slice (some ⟨g, 0, none⟩) m c) (zs.take m) := by
  obtain ⟨-, ⟨hh, -⟩ | ⟨g', cap, cur, hv, hb, hg, hnc, hcm, hcs, ht⟩⟩ := id h
  · cases hh
  · injection hv with e1 e2 e3
    subst e3
    have := own_sub h hD 0 m c (by omega) (by omega) hcm
    rwa [List.drop_zero] at this

/-- an empty row in a new block -/
theorem own_none (w : World) (B : Nat) (hB : B ≤ w.heap.size) (e : TypeId) (sz : Nat) : (w.alloc (.cells #[] e)).ownsRow B e sz (.slice (some ⟨w.heap.size, 0, none⟩) 0 0) 0 [] :=
  ⟨by simp, .inr ⟨w.heap.size, 0, #[], rfl, hB, heap_alloc_new w _, Nat.le_refl _, Nat.zero_le _, by simp, by simp⟩⟩
/-- append of numbers that are read onto an own row -/
theorem Rrun_appInts {w : World} (ty : TypeId) (base : Nat) (v : Value) (l0 xs : List Int) (hown : w.ownsRow base 3 1 v l0.length (ints l0)) {D : Nat → Prop} (u : Value) (hu : Sl (Kind.int .i64) w D u xs)
    (hl : l0.length + xs.length ≤ 17592186044416) (hbase : base ≤ w.heap.size) (hpos : 0 < xs.length) :
    ∃ v' w', (Builtin.append_ #[31, 31] ty #[v, u]).run Tryz.prog w = .ok v' w' ∧ w'.ownsRow base 3 1 v' (l0 ++ xs).length (ints (l0 ++ xs)) ∧ w.grownBy w' v.ownBlock ∧ (v'.ownBlock = v.ownBlock ∨ v'.ownBlock = some w.heap.size) := by
  obtain ⟨i, hi, hz, hsz, hby'⟩ := elem_i64.hi
  obtain ⟨A, c, rfl, h1, h2, h3⟩ := hu.ints
  rcases A with _ | ad
  · obtain ⟨ad, e', _⟩ := h3 hpos
    cases e'
  · have hat : ∀ j u', (ints xs)[j]? = some u' → w.cell? (ad.add j) = some u' := by
      intro j u' hj
      unfold ints at hj
      rw [List.getElem?_map] at hj
      obtain ⟨z, hz', rfl⟩ := Option.map_eq_some_iff.1 hj
      have hlt := (List.getElem?_eq_some_iff.1 hz').1
      obtain ⟨ad', e', -, hc⟩ := h3 (by omega)
      injection e' with e'
      subst e'
      rw [hc j hlt]
      simp [Dig.gd, hz']
    obtain ⟨v', w', hr, r2, r3, _, r5⟩ := run_append_own_at (P := Tryz.prog) w base 31 ty 3 i _ 1 8 elem_i64.ht hi hz hsz hby' elem_i64.hz (by decide) v l0.length (ints l0) hown ad xs.length c (ints xs) (by simp [ints]) hat (by
      intro u hu'
      obtain ⟨z, -, rfl⟩ := List.mem_map.1 hu'
      rfl) (by simp only [maxLen]; omega) (by omega) hbase
    exact ⟨v', w', hr, by rw [List.length_append, show ints (l0 ++ xs) = ints l0 ++ ints xs from by simp [ints]]; exact r2, r3, r5⟩
theorem Rstep_appInts {w : World} {ops : Array Oper} {o : Oper} {a : Act} {K : Act → World → Prop} {Q : Exit → Act → World → Prop} {F : Prop} {D : Nat → Prop}
    (hgd : o.guard = none) (s x : Operand) (ho : o.op = .call { callee := .builtin .append, args := #[s, x], argTypes := #[31, 31] })
    (base : Nat) (v : Value) (l0 xs : List Int) (hs : a.eval s = v) (hown : w.ownsRow base 3 1 v l0.length (ints l0)) (u : Value) (hx : a.eval x = u) (hu : Sl (Kind.int .i64) w D u xs)
    (hl : l0.length + xs.length ≤ 17592186044416) (hbase : base ≤ w.heap.size) (hpos : 0 < xs.length)
    (h : ∀ v' w', w'.ownsRow base 3 1 v' (l0 ++ xs).length (ints (l0 ++ xs)) → w.grownBy w' v.ownBlock → (v'.ownBlock = v.ownBlock ∨ v'.ownBlock = some w.heap.size) → K (a.put o.dst v') w') :
    if Region.wanted o (yielded ops a.tmps) = true then Oper.wp Tryz.prog o a w K Q else F := by
  have hw : Region.wanted o (yielded ops a.tmps) = true := by simp [Region.wanted, hgd]
  rw [if_pos hw]
  obtain ⟨v', w', hr, r2, r3, r5⟩ := Rrun_appInts o.type base v l0 xs hown u hu hl hbase hpos
  unfold Oper.wp execOp
  simp only [ho, resolve, invoke, builtin, Sem.run_bind, Sem.run_pure, Result.andThen_ok, List.map_toArray, List.map_cons, List.map_nil, hs, hx, hr]
  exact h v' w' r2 r3 r5

/-- copy into an own row of numbers -/
theorem wpList_copyRow {w : World} {ops : Array Oper} {rest : List Oper} {o : Oper} {a : Act} {Q : Exit → Act → World → Prop} (hgd : o.guard = none) (d s : Operand)
    (ho : o.op = .call { callee := .builtin .copy, args := #[d, s], argTypes := #[31, 31] }) (base g n cap off dLen dCap : Nat) (ad : Addr) (sCap : Nat) (zs ds : List Int) (hd : a.eval d = .slice (some ⟨g, off, none⟩) dLen dCap) (hs : a.eval s = .slice (some ad) ds.length sCap)
    (hown : w.ownsRow base 3 1 (.slice (some ⟨g, 0, none⟩) n cap) n (ints zs)) (hat : ∀ i, i < ds.length → w.cell? (ad.add i) = some (.int .i64 (Dig.gd ds i))) (hdl : ds.length ≤ dLen) (hfit : off + ds.length ≤ n)
    (h : ∀ w', w'.ownsRow base 3 1 (.slice (some ⟨g, 0, none⟩) n cap) n (ints (zs.take off ++ (ds ++ zs.drop (off + ds.length)))) → (∀ k, k ≠ g → w'.heap[k]? = w.heap[k]?) → w'.heap.size = w.heap.size → Below base w w' → ∀ r, wpList Tryz.prog ops Q rest (a.put o.dst r) w') :
    wpList Tryz.prog ops Q (o :: rest) a w := by
  obtain ⟨hl, ⟨hh, -⟩ | ⟨g', cap', cur, hv, hb, hg, hnc, hcm, hcs, ht⟩⟩ := hown
  · cases hh
  · injection hv with e1 e2 e3
    injection e1 with e1
    injection e1 with e1
    subst e1 e3
    rw [Nat.mul_one] at hcs ht
    have hzl : zs.length = n := by simpa using hl
    have hsz : n ≤ cur.size := by omega
    refine wpList_copy_own hgd d s _ _ ho 3 Tryz.underlying31 (by kernel_rfl) g off dLen dCap ad ds.length sCap hd hs cur 3 hg (ints ds) (by simp [Nat.min_eq_left hdl]) (fun j v hj => ?_) (by simp; omega) (fun v hv => by obtain ⟨x, -, rfl⟩ := List.mem_map.1 hv; rfl) ?_
    · rw [List.getElem?_map] at hj
      obtain ⟨x, hx, rfl⟩ := Option.map_eq_some_iff.1 hj
      have := hat j (List.getElem?_eq_some_iff.1 hx).1
      rwa [Dig.gd_of hx] at this
    · refine h _ ⟨by simp; omega, .inr ⟨g, cap, _, rfl, hb, setRow_heap w g cur _ _ _ hg, hnc, hcm, by simp; omega, ?_⟩⟩ (fun k hk => setRow_other w g k _ hk) (by simp) (below_setRow (Below.refl _ _) hb _) _
      rw [Nat.mul_one]
      have ht' : cur.toList.take n = zs.map (.int .i64) := ht
      have e1 : cur.toList.take off = ints (zs.take off) := by
        rw [ints, List.map_take, ← ht', List.take_take, Nat.min_eq_left (by omega)]
      have e2 : (cur.toList.drop (off + ds.length)).take (n - (off + ds.length)) = ints (zs.drop (off + ds.length)) := by
        rw [ints, List.map_drop, ← ht', List.drop_take]
      have e3 : (ints ds).length = ds.length := by simp
      have e4 : (ints (zs.take off)).length = off := by simp; omega
      show ((cur.toList.take off ++ (ints ds ++ cur.toList.drop (off + (ints ds).length))).toArray.toList).take n = _
      rw [e3, List.toList_toArray, e1, List.take_append, List.take_of_length_le (l := ints (zs.take off)) (by rw [e4]; omega), e4, List.take_append, List.take_of_length_le (l := ints ds) (by rw [e3]; omega), e3, show n - off - ds.length = n - (off + ds.length) by omega, e2]
      simp only [ints, List.map_append]

end Go.Proofs.YtoffbdlgmnpblaaGreat
