/- Part 46 of 55: Cps Idn Trm. -/
import Derived.Test.YtoffbdlgmnpblaaGreatJ45
import Derived.Laws.OwnMore

/- The law's copies. -/
namespace Go.Proofs.YtoffbdlgmnpblaaGreat
open Go.RowKit
set_option maxHeartbeats 4000000
set_option maxRecDepth 100000

theorem run_append_none {P : Program} {w : World} (base : Nat) (t ty e : TypeId) (i : TypeInfo) (size : Nat) (ht : P.underlying t = some (.slice e)) (hi : P.info? e = some i)
    (v : Value) (n : Nat) (xs : List Value) (hown : w.ownsRow base e size v n xs) (c : Nat) :
    (Builtin.append_ #[t, t] ty #[v, .slice none 0 c]).run P w = .ok v w := by
  rcases hown.2 with ⟨rfl, rfl⟩ | ⟨g, cap, cur, rfl, _, _, hnc, _⟩
  · simp [Builtin.append_, run_underlying ht, sizeOf, typeInfo, hi, Builtin.lenOf, Builtin.firstCells]
  · simp [Builtin.append_, run_underlying ht, sizeOf, typeInfo, hi, Builtin.lenOf, Builtin.firstCells, hnc, storeCells]

/-- append of numbers that are read onto an own row -/
theorem wpList_appInts {P : Program} {w : World} {ops : Array Oper} {rest : List Oper} {o : Oper} {a : Act} {Q : Exit → Act → World → Prop} {D : Nat → Prop} {t e : TypeId} {bytes : Nat} (E : Elem1 P t e (.int .i64 0) bytes)
    (hgd : o.guard = none) (s x : Operand) (ho : o.op = .call { callee := .builtin .append, args := #[s, x], argTypes := #[t, t] })
    (base : Nat) (v : Value) (l0 xs : List Int) (hs : a.eval s = v) (hown : w.ownsRow base e 1 v l0.length (ints l0)) (u : Value) (hx : a.eval x = u) (hu : Sl (Kind.int .i64) w D u xs)
    (hl : l0.length + xs.length ≤ 1000000) (hby : bytes ≤ 1000) (hbase : base ≤ w.heap.size)
    (h : ∀ v' w', w'.ownsRow base e 1 v' (l0 ++ xs).length (ints (l0 ++ xs)) → w.grownBy w' v.ownBlock → (v'.ownBlock = v.ownBlock ∨ v'.ownBlock = some w.heap.size) → wpList P ops Q rest (a.put o.dst v') w') : wpList P ops Q (o :: rest) a w := by
  obtain ⟨i, hi, hz, hsz, hby'⟩ := E.hi
  obtain ⟨A, c, rfl, h1, h2, h3⟩ := hu.ints
  refine wpList_plain hgd fun _ hK => ?_
  rcases A with _ | ad
  · have hxs : xs = [] := by
      cases xs with
      | nil => rfl
      | cons b l => obtain ⟨ad, e', _⟩ := h3 (by simp); cases e'
    subst hxs
    have hr := run_append_none (P := P) (w := w) base t o.type e i 1 E.ht hi v l0.length (ints l0) hown c
    unfold Oper.wp execOp
    simp only [List.length_nil] at hx
    simp only [ho, resolve, invoke, builtin, Sem.run_bind, Sem.run_pure, Result.andThen_ok, List.map_toArray, List.map_cons, List.map_nil, hs, hx, hr]
    exact hK _ _ (h v w (by rw [List.append_nil]; exact hown) (World.grownBy.refl _ _) (.inl rfl))
  · have hat : ∀ j u', (ints xs)[j]? = some u' → w.cell? (ad.add j) = some u' := by
      intro j u' hj
      unfold ints at hj
      rw [List.getElem?_map] at hj
      obtain ⟨z, hz', rfl⟩ := Option.map_eq_some_iff.1 hj
      have hlt := (List.getElem?_eq_some_iff.1 hz').1
      obtain ⟨ad', e', -, hc⟩ := h3 (by omega)
      injection e' with e'
      subst e'
      rw [hc j hlt]
      simp [Dig.gd, hz']
    obtain ⟨v', w', hr, r2, r3, _, r5⟩ := run_append_own_at (P := P) w base t o.type e i _ 1 bytes E.ht hi hz hsz hby' E.hz (by decide) v l0.length (ints l0) hown ad xs.length c (ints xs) (by simp [ints]) hat (by
      intro u hu'
      obtain ⟨z, -, rfl⟩ := List.mem_map.1 hu'
      rfl) (by simp only [maxLen]; omega) (Nat.le_trans (Nat.mul_le_mul hl hby) (by decide)) hbase
    unfold Oper.wp execOp
    simp only [ho, resolve, invoke, builtin, Sem.run_bind, Sem.run_pure, Result.andThen_ok, List.map_toArray, List.map_cons, List.map_nil, hs, hx, hr]
    exact hK _ _ (h v' w' (by rw [List.length_append, show ints (l0 ++ xs) = ints l0 ++ ints xs from by simp [ints]]; exact r2) r3 r5)

theorem RowsC.snoc {W w3 w5 : World} {B : Nat} {v v3 v5 : Value} {ps : List (Value × List Int)} {xs : List Int} {ob : Obj} (h : RowsC W B v ps) (_hB : B ≤ W.heap.size) (hb : Below W.heap.size W w3)
    (ho3 : w3.ownsRow B 3 1 v3 xs.length (ints xs)) (hk3 : ∀ k, v3.ownBlock = some k → W.heap.size ≤ k)
    (hg5 : (w3.alloc ob).grownBy w5 v.ownBlock) (ho5 : w5.ownsRow B 31 1 v5 (ps.length + 1) (ps.map (·.1) ++ [v3])) (ha5 : v5.ownBlock = v.ownBlock ∨ v5.ownBlock = some (w3.alloc ob).heap.size) :
    RowsC w5 B v5 (ps ++ [(v3, xs)]) := by
  have hs3 := hb.size
  have hz : (w3.alloc ob).heap.size = w3.heap.size + 1 := by simp
  refine ⟨by rw [List.length_append, List.map_append]; exact ho5, fun p hp => ?_⟩
  rcases List.mem_append.1 hp with hp | hp
  · obtain ⟨h1, h2⟩ := h.row p hp
    refine ⟨own_kept h1 fun k hk => ?_, fun k hk e => ?_⟩
    · have hlt := (h1.lt k hk).2
      rw [hg5.block k (by omega) (fun e => h2 k hk e.symm), heap_alloc_old _ _ (by omega)]
      exact hb.block k hlt
    · have hlt := (h1.lt k hk).2
      rcases ha5 with ha | ha
      · exact h2 k hk (ha ▸ e)
      · rw [ha] at e; injection e with e; omega
  · rw [List.mem_singleton] at hp
    subst hp
    refine ⟨own_kept ho3 fun k hk => ?_, fun k hk e => ?_⟩
    · have hlt := (ho3.lt k hk).2
      have hge := hk3 k hk
      rw [hg5.block k (by omega) (fun e => by have := (h.own.lt k e.symm).2; omega), heap_alloc_old _ _ hlt]
    · have hlt := (ho3.lt k hk).2
      have hge := hk3 k hk
      rcases ha5 with ha | ha
      · rw [ha] at e; have := (h.own.lt k e).2; omega
      · rw [ha] at e; injection e with e; omega

theorem copies_calls (xss : List (List Int)) (v : Value) (D : Nat → Prop) (w : World) (hD : Lo D w) (h : Rows2 w D v xss) (hn : xss.length ≤ 100000 ∧ ∀ xs ∈ xss, xs.length ≤ 100000) :
    Calls Tryz.prog 42 #[v] w fun e w' => ∃ v' ps, e = .returned v' ∧ RowsC w' w.heap.size v' ps ∧ ps.map (·.2) = xss ∧ Below w.heap.size w w' := by
  obtain ⟨A, c, rfl, h1, h2, -⟩ := h.form
  unfold maxLen at h2
  obtain ⟨hn1, hn2⟩ := hn
  have H := Lib.hid h
  have HN := Lib.hid hn2
  clear h hn2
  go_enter Tryz.func42, Tryz.ntmps42
  go_wp2
  go_loopw [3, 8] (fun v k W => ∃ (i : Nat) (ps : List (Value × List Int)), i ≤ xss.length ∧ k = .int .i64 (i : Int) ∧ Below w.heap.size w W ∧ Hid (RowsC W w.heap.size v ps) ∧ Hid (ps.map (·.2) = xss.take i)) (fun _ k _ => xss.length - (intOf k).toNat)
  case atStart => exact ⟨0, [], Nat.zero_le _, rfl, Below.refl _ _, ⟨World.ownsRow_nil _ _ _ _, fun p hp => (List.not_mem_nil hp).elim⟩, rfl⟩
  case round =>
    obtain ⟨i, ps, hi, rfl, hBW, HR, HP⟩ := hrel
    have hown := HR.out.own
    have hpl : ps.length ≤ 100000 := by have := congrArg List.length HP.out; rw [List.length_map, List.length_take] at this; omega
    obtain ⟨A3, c3, rfl, -, -, -⟩ := own_form hown
    by_cases hlt : i < xss.length
    · obtain ⟨xs, hx⟩ : ∃ xs, xss[i]? = some xs := ⟨_, List.getElem?_eq_getElem hlt⟩
      obtain ⟨ad, u, rfl, hda, hcu, hu⟩ := Rows2.at' (H.out.same (hD.same hBW)) i xs hx
      have hxl := HN.out xs (List.mem_of_getElem? hx)
      have HX := Lib.hid (show xss.take (i + 1) = xss.take i ++ [xs] by rw [List.take_add_one, hx]; rfl)
      have hB1 := hBW.alloc hBW.size (.cells #[] 3)
      obtain ⟨B, d, rfl, -, -, -⟩ := hu.ints
      have HU1 := Lib.hid (hu.same (w' := wr.alloc (.cells #[] 3)) ((hD.up hBW.size).same ((Below.refl _ wr).alloc (Nat.le_refl _) _)))
      have HOWN := Lib.hid hown
      have hsz := hBW.size
      clear hx hu hown
      go_wp2_with (first
        | (at_builtin; refine wpList_appInts elem_i64 rfl _ _ rfl w.heap.size _ [] xs rfl (own_empty wr w.heap.size hsz 3 1) _ rfl HU1.out (by simp; omega) (by decide) (by simp; omega) ?_; intro v3 w3 ho3 hg3 ha3; have ho3 : w3.ownsRow w.heap.size 3 1 v3 xs.length (ints xs) := ho3; have HO3 := Lib.hid ho3; have HA3 := Lib.hid ha3; have HG3 := Lib.hid hg3; have HB3 := Lib.hid (((Below.refl wr.heap.size wr).alloc (Nat.le_refl _) (.cells #[] 3)).grown hg3 (by simp) (fun k hk => by cases hk; exact Nat.le_refl _)); have hs3 := HB3.out.size; obtain ⟨A7, c7, rfl, -, -, -⟩ := own_form ho3; clear ho3 hg3 ha3)
        | (at_builtin; refine wpList_app1 elem_row rfl _ _ rfl w.heap.size _ ps.length (ps.map (·.1)) rfl (own_kept HOWN.out fun k hk => (heap_alloc_old _ _ (Nat.lt_of_lt_of_le (HOWN.out.lt k hk).2 hs3)).trans (HB3.out.block k (HOWN.out.lt k hk).2)) ⟨_, 0, none⟩ 1 _ rfl (cell_new1 _ _ _) rfl (by omega) (by omega) (by simp; omega) ?_; intro v5 w5 ho5 hg5 ha5))
      go_wp2
      have HR5 := Lib.hid (RowsC.snoc HR.out hsz HB3.out HO3.out (fun k hk => by
        rcases HA3.out with ha | ha
        · rw [ha] at hk; cases hk; exact Nat.le_refl _
        · rw [ha] at hk; cases hk; simp) hg5 ho5 ha5)
      have hB3 := hBW.trans (HB3.out.mono hsz)
      have hB5 := (hB3.alloc hB3.size (.cells #[.slice A7 xs.length c7] 31)).grown hg5 (by have := hB3.size; simp; omega) (fun k hk => (HOWN.out.lt k hk).1)
      exact ⟨⟨i + 1, ps ++ [(_, xs)], by omega, by go_num, hB5, HR5, (by rw [List.map_append, HP.out, HX.out]; rfl)⟩, by simp [intOf]; omega⟩
    · obtain rfl : i = xss.length := by omega
      have HE := Lib.hid (HP.out.trans (List.take_length ..))
      clear hlt hown
      go_wp2
      go_ret
      exact ⟨_, ps, rfl, HR.out, HE.out, hBW⟩

end Go.Proofs.YtoffbdlgmnpblaaGreat

/- Reference: Identical, of two readings of one model. -/
namespace Go.Proofs.YtoffbdlgmnpblaaGreat
open Go.RowKit
set_option maxHeartbeats 4000000
set_option maxRecDepth 100000

theorem box2 (w : World) (x y : Obj) : ((w.alloc x).alloc y).heap[w.heap.size]? = some x ∧ ((w.alloc x).alloc y).heap[w.heap.size + 1]? = some y ∧ ((w.alloc x).alloc y).heap.size = w.heap.size + 2 := by
  refine ⟨(heap_alloc_old _ _ (by simp)).trans (heap_alloc_new _ _), ?_, by simp⟩
  have := heap_alloc_new (w.alloc x) y
  rwa [World.size_alloc] at this

theorem Identical_calls (m : List St) (v v' : Value) (D : Nat → Prop) (w : World) (hD : Lo D w) (h : ModelC w D v m) (h' : ModelC w D v' m) :
    Calls Tryz.prog 40 #[v, v'] w fun e w' => e = .returned (.bool true) ∧ Below w.heap.size w w' := by
  obtain ⟨u, rfl, h⟩ := h
  obtain ⟨A, c, rfl, h1, h2, -⟩ := h.form
  obtain ⟨u', rfl, h'⟩ := h'
  obtain ⟨A', c', rfl, h1', h2', -⟩ := h'.form
  unfold maxLen at h2 h2'
  have H := Lib.hid h
  have H' := Lib.hid h'
  clear h h'
  have hB0 := ((Below.refl w.heap.size w).alloc (Nat.le_refl _) (.cells #[.slice A m.length c] 24)).alloc (by simp) (.cells #[.slice A' m.length c'] 24)
  have HBX := Lib.hid (box2 w (.cells #[.slice A m.length c] 24) (.cells #[.slice A' m.length c'] 24))
  go_enter Tryz.func40, Tryz.ntmps40
  go_wp2
  generalize (w.alloc (.cells #[.slice A m.length c] 24)).alloc (.cells #[.slice A' m.length c'] 24) = W0 at *
  go_loopw [23] (fun k W => ∃ (j : Nat), j ≤ m.length ∧ k = .int .i64 (j : Int) ∧ Below W0.heap.size W0 W) (fun k _ => m.length - (intOf k).toNat)
  case atStart => exact ⟨0, Nat.zero_le _, rfl, Below.refl _ _⟩
  case round =>
    obtain ⟨j, hj, rfl, hBW0⟩ := hrel
    obtain ⟨wi, rfl⟩ : ∃ wi : World, wi = wr := ⟨_, rfl⟩
    have hBW : Below w.heap.size w wi := hB0.trans (hBW0.mono hB0.size)
    by_cases hlt : j < m.length
    · obtain ⟨s, hs⟩ : ∃ s, m[j]? = some s := ⟨_, List.getElem?_eq_getElem hlt⟩
      obtain ⟨ad, B, p, d, rfl, hDa, q0, q1, q2, hsc⟩ := H.out.st_up hD hBW j s hs
      obtain ⟨ad', B', p', d', rfl, hDa', q0', q1', q2', hsc'⟩ := H'.out.st_up hD hBW j s hs
      obtain ⟨rfl, hp1, hp2⟩ := hsc.len
      obtain ⟨rfl, hp1', hp2'⟩ := hsc'.len
      unfold maxLen at hp2 hp2'
      have HC := Lib.hid hsc
      have HC' := Lib.hid hsc'
      have b3 := (cells_of ((hBW0.block (w.heap.size + 1) (by have := HBX.out.2.2; omega)).trans HBX.out.2.1) 0).1
      have hz0 : w.heap.size + 1 < wi.heap.size := by have := HBX.out.2.2; have := hBW0.size; omega
      have hBW1 : Below w.heap.size w ((wi.alloc (.cells #[.int .i64 s.owner, .int .i64 s.mark, .slice B s.chs.length d] 79)).alloc (.cells #[.int .i64 s.owner, .int .i64 s.mark, .slice B' s.chs.length d'] 79)) := (hBW.alloc hBW.size _).alloc (by have := hBW.size; simp; omega) _
      have HB01 := Lib.hid ((hBW0.alloc hBW0.size (.cells #[.int .i64 s.owner, .int .i64 s.mark, .slice B s.chs.length d] 79)).alloc (by have := hBW0.size; simp; omega) (.cells #[.int .i64 s.owner, .int .i64 s.mark, .slice B' s.chs.length d'] 79))
      have HS2 := Lib.hid (box2 wi (.cells #[.int .i64 s.owner, .int .i64 s.mark, .slice B s.chs.length d] 79) (.cells #[.int .i64 s.owner, .int .i64 s.mark, .slice B' s.chs.length d'] 79))
      have hbl : (ad'.add (j * 3)).block < wi.heap.size := by rw [block_of_add]; have := hD _ hDa'; have := hBW.size; omega
      clear hs hsc hsc'
      go_wp2
      generalize (wi.alloc (.cells #[.int .i64 s.owner, .int .i64 s.mark, .slice B s.chs.length d] 79)).alloc (.cells #[.int .i64 s.owner, .int .i64 s.mark, .slice B' s.chs.length d'] 79) = W1 at *
      go_loopw [57] (fun k W => ∃ (i : Nat), i ≤ s.chs.length ∧ k = .int .i64 (i : Int) ∧ Below W1.heap.size W1 W) (fun k _ => s.chs.length - (intOf k).toNat)
      case atStart => exact ⟨0, Nat.zero_le _, rfl, Below.refl _ _⟩
      case round =>
        obtain ⟨i, hi, rfl, hBWi⟩ := hrel
        obtain ⟨wj, rfl⟩ : ∃ wj : World, wj = wr := ⟨_, rfl⟩
        have hBW2 : Below w.heap.size w wj := hBW1.trans (hBWi.mono hBW1.size)
        have HB02 := Lib.hid (HB01.out.trans (hBWi.mono HB01.out.size))
        clear q0 q1 q2 q0' q1' q2' b3 hbl
        by_cases hlt2 : i < s.chs.length
        · obtain ⟨x, hx⟩ : ∃ x, s.chs[i]? = some x := ⟨_, List.getElem?_eq_getElem hlt2⟩
          obtain ⟨ad2, B2, p2, d2, rfl, hDa2, r0, r1, r2, hxc⟩ := HC.out.ch_up hD hBW2 i x hx
          obtain ⟨ad2', B2', p2', d2', rfl, hDa2', r0', r1', r2', hxc'⟩ := HC'.out.ch_up hD hBW2 i x hx
          obtain ⟨rfl, hx1, hx2⟩ := hxc.len
          obtain ⟨rfl, hx1', hx2'⟩ := hxc'.len
          unfold maxLen at hx2 hx2'
          have HX := Lib.hid hxc
          have HX' := Lib.hid hxc'
          have b7 := (cells_of ((hBWi.block (wi.heap.size + 1) (by have := HS2.out.2.2; omega)).trans HS2.out.2.1) 2).1
          have hz1 : wi.heap.size + 1 < wj.heap.size := by have := HS2.out.2.2; have := hBWi.size; omega
          have hbl2 : (ad2'.add (i * 3)).block < wj.heap.size := by rw [block_of_add]; have := hD _ hDa2'; have := hBW2.size; omega
          have hBW3 : Below w.heap.size w ((wj.alloc (.cells #[.int .i64 x.rw.top, .int .i64 x.rw.low, .slice B2 x.brs.length d2] 97)).alloc (.cells #[.int .i64 x.rw.top, .int .i64 x.rw.low, .slice B2' x.brs.length d2'] 97)) := (hBW2.alloc hBW2.size _).alloc (by have := hBW2.size; simp; omega) _
          have HBi3 := Lib.hid ((hBWi.alloc hBWi.size (.cells #[.int .i64 x.rw.top, .int .i64 x.rw.low, .slice B2 x.brs.length d2] 97)).alloc (by have := hBWi.size; simp; omega) (.cells #[.int .i64 x.rw.top, .int .i64 x.rw.low, .slice B2' x.brs.length d2'] 97))
          have HS3 := Lib.hid (box2 wj (.cells #[.int .i64 x.rw.top, .int .i64 x.rw.low, .slice B2 x.brs.length d2] 97) (.cells #[.int .i64 x.rw.top, .int .i64 x.rw.low, .slice B2' x.brs.length d2'] 97))
          clear hx hxc hxc'
          go_wp2
          generalize (wj.alloc (.cells #[.int .i64 x.rw.top, .int .i64 x.rw.low, .slice B2 x.brs.length d2] 97)).alloc (.cells #[.int .i64 x.rw.top, .int .i64 x.rw.low, .slice B2' x.brs.length d2'] 97) = W2 at *
          go_loopw [84] (fun k W => ∃ (q : Nat), q ≤ x.brs.length ∧ k = .int .i64 (q : Int) ∧ Below W2.heap.size W2 W) (fun k _ => x.brs.length - (intOf k).toNat)
          case atStart => exact ⟨0, Nat.zero_le _, rfl, Below.refl _ _⟩
          case round =>
            obtain ⟨q, hq, rfl, hBWq⟩ := hrel
            have hBW4 : Below w.heap.size w wr := hBW3.trans (hBWq.mono hBW3.size)
            have HBi4 := Lib.hid (HBi3.out.trans (hBWq.mono HBi3.out.size))
            clear r0 r1 r2 r0' r1' r2' b7 hbl2
            by_cases hlt3 : q < x.brs.length
            · obtain ⟨b, hb⟩ : ∃ b, x.brs[q]? = some b := ⟨_, List.getElem?_eq_getElem hlt3⟩
              obtain ⟨ad3, rfl, hDa3, t0, t1, t2⟩ := HX.out.br_up hD hBW4 q b hb
              obtain ⟨ad3', rfl, hDa3', t0', t1', t2'⟩ := HX'.out.br_up hD hBW4 q b hb
              have b9 := (cells_of ((hBWq.block (wj.heap.size + 1) (by have := HS3.out.2.2; omega)).trans HS3.out.2.1) 2).1
              have hz2 : wj.heap.size + 1 < wr.heap.size := by have := HS3.out.2.2; have := hBWq.size; omega
              have hbl3 : (ad3'.add (q * 3)).block < wr.heap.size := by rw [block_of_add]; have := hD _ hDa3'; have := hBW4.size; omega
              have HBq5 := Lib.hid (hBWq.alloc hBWq.size (.cells #[.int .i64 b.to, .int .i64 b.ch.top, .int .i64 b.ch.low] 103))
              clear hb
              go_wp2_with fail
              go_quiet (fail)
              revert nq; intro n1
              have HBq6 := Lib.hid (show Below W2.heap.size W2 ((wr.alloc (.cells #[.int .i64 b.to, .int .i64 b.ch.top, .int .i64 b.ch.low] 103)).drewN n1) from ⟨HBq5.out.os, HBq5.out.tape, HBq5.out.output, HBq5.out.size, HBq5.out.block⟩)
              go_wp2
              exact ⟨⟨q + 1, by omega, by go_num, HBq6.out⟩, by simp [intOf]; omega⟩
            · obtain rfl : q = x.brs.length := by omega
              clear hlt3
              go_wp2
              exact ⟨⟨i + 1, by omega, by go_num, HBi4.out⟩, by simp [intOf]; omega⟩
        · obtain rfl : i = s.chs.length := by omega
          clear hlt2
          go_wp2
          exact ⟨⟨j + 1, by omega, by go_num, HB02.out⟩, by simp [intOf]; omega⟩
    · obtain rfl : j = m.length := by omega
      clear hlt
      go_wp2
      go_ret
      exact ⟨rfl, hBW⟩

end Go.Proofs.YtoffbdlgmnpblaaGreat

/- Models whose numbers have turned still read as models. -/
namespace Go.Proofs.YtoffbdlgmnpblaaGreat
open Go.RowKit
set_option maxHeartbeats 4000000
set_option maxRecDepth 100000

/-- a kind that still reads after numbers have turned -/
def Kind.Firm {α : Type} (K : Kind α) : Prop := ∀ {w w' : World} {D D' : Nat → Prop} {cs : List Value} {x : α} {ad : Addr}, Turned D' w w' → At w ad cs → K.R w D cs x → ∃ cs' x', At w' ad cs' ∧ K.R w' D cs' x'
theorem Sl.firm {α : Type} {K : Kind α} (hK : K.Firm) {w w' : World} {D D' : Nat → Prop} {v : Value} {xs : List α} (h : Sl K w D v xs) (ht : Turned D' w w') : ∃ xs' : List α, Sl K w' D v xs' ∧ xs'.length = xs.length := by
  obtain ⟨A, c, rfl, h1, h2, h3⟩ := h
  have hrow : ∀ i : Nat, i < xs.length → ∃ x' : α, ∃ ad cs, A = some ad ∧ D ad.block ∧ K.R w' D cs x' ∧ At w' (ad.add (i * K.sz)) cs := by
    intro i hi
    obtain ⟨ad, cs, e, hd, hr, hat⟩ := h3 i xs[i] (List.getElem?_eq_getElem hi)
    obtain ⟨cs', x', h4, h5⟩ := hK ht hat hr
    exact ⟨x', ad, cs', e, hd, h5, h4⟩
  have hne : ∀ i : Nat, i < xs.length → Nonempty α := fun i hi => ⟨xs[i]⟩
  refine ⟨(List.finRange xs.length).map fun i => Classical.choose (hrow i.1 i.2), ⟨A, c, by simp, by simpa using h1, h2, fun i y hy => ?_⟩, by simp⟩
  rw [List.getElem?_map] at hy
  obtain ⟨z, hz, rfl⟩ := Option.map_eq_some_iff.1 hy
  have hi : i < xs.length := by have := (List.getElem?_eq_some_iff.1 hz).1; simpa using this
  have hzi : z = ⟨i, hi⟩ := by
    obtain ⟨hh, rfl⟩ := List.getElem?_eq_some_iff.1 hz
    simp
  subst hzi
  exact Classical.choose_spec (hrow i hi)
theorem at_turn {w w' : World} {D' : Nat → Prop} {ad : Addr} {u : Value} (ht : Turned D' w w') (h : w.cell? ad = some u) : w'.cell? ad = some u ∨ ∃ y, w'.cell? ad = some (.int .i64 y) := by
  rcases ht.cell ad with e | ⟨x, y, -, e⟩
  · exact .inl (e.trans h)
  · exact .inr ⟨y, e⟩
theorem int_turn {w w' : World} {D' : Nat → Prop} {ad : Addr} {x : Int} (ht : Turned D' w w') (h : w.cell? ad = some (.int .i64 x)) : ∃ y, w'.cell? ad = some (.int .i64 y) := by
  rcases at_turn ht h with e | e
  · exact ⟨x, e⟩
  · exact e
theorem slice_turn {w w' : World} {D' : Nat → Prop} {ad : Addr} {A : Option Addr} {n c : Nat} (ht : Turned D' w w') (h : w.cell? ad = some (.slice A n c)) : w'.cell? ad = some (.slice A n c) := by
  rcases ht.cell ad with e | ⟨x, y, e, -⟩
  · exact e.trans h
  · rw [h] at e; cases e
theorem at_cons3 {w : World} {ad : Addr} {a b c : Value} (h0 : w.cell? (ad.add 0) = some a) (h1 : w.cell? (ad.add 1) = some b) (h2 : w.cell? (ad.add 2) = some c) : At w ad [a, b, c] := by
  intro j u hj
  match j, hj with
  | 0, hj => simp at hj; subst hj; exact h0
  | 1, hj => simp at hj; subst hj; exact h1
  | 2, hj => simp at hj; subst hj; exact h2
  | j + 3, hj => simp at hj
theorem br_firm : Kind.br.Firm := by
  intro w w' D D' cs x ad ht hat hr
  have hr : cs = [.int .i64 x.to, .int .i64 x.ch.top, .int .i64 x.ch.low] := hr
  subst hr
  obtain ⟨a, ha⟩ := int_turn ht (hat 0 _ rfl)
  obtain ⟨b, hb⟩ := int_turn ht (hat 1 _ rfl)
  obtain ⟨c, hc⟩ := int_turn ht (hat 2 _ rfl)
  exact ⟨_, ⟨a, ⟨b, c⟩⟩, at_cons3 ha hb hc, rfl⟩
theorem ch_firm : Kind.ch.Firm := by
  intro w w' D D' cs x ad ht hat hr
  obtain ⟨v, rfl, hv⟩ := hr
  obtain ⟨A, c, rfl, -, -, -⟩ := hv.form
  obtain ⟨xs', hs, -⟩ := hv.firm br_firm ht
  obtain ⟨a, ha⟩ := int_turn ht (hat 0 _ rfl)
  obtain ⟨b, hb⟩ := int_turn ht (hat 1 _ rfl)
  have hc := slice_turn ht (hat 2 _ rfl)
  exact ⟨_, ⟨⟨a, b⟩, xs'⟩, at_cons3 ha hb hc, ⟨_, rfl, hs⟩⟩
theorem st_firm : Kind.st.Firm := by
  intro w w' D D' cs x ad ht hat hr
  obtain ⟨v, rfl, hv⟩ := hr
  obtain ⟨A, c, rfl, -, -, -⟩ := hv.form
  obtain ⟨xs', hs, -⟩ := hv.firm ch_firm ht
  obtain ⟨a, ha⟩ := int_turn ht (hat 0 _ rfl)
  obtain ⟨b, hb⟩ := int_turn ht (hat 1 _ rfl)
  have hc := slice_turn ht (hat 2 _ rfl)
  exact ⟨_, ⟨a, b, xs'⟩, at_cons3 ha hb hc, ⟨_, rfl, hs⟩⟩

end Go.Proofs.YtoffbdlgmnpblaaGreat
