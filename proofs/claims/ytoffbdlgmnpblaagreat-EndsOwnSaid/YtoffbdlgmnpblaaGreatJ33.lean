/- Part 33: Eo2 Eo3. -/
import Derived.Test.YtoffbdlgmnpblaaGreatJ32
import Derived.Test.YtoffbdlgmnpblaaGreatJ21

/- The law's same: ends as the reference has them; they are compared. -/
namespace Go.Proofs.YtoffbdlgmnpblaaGreat
open Go.RowKit
set_option maxHeartbeats 4000000
set_option maxRecDepth 100000

/-! ### what is read, on and on -/
/-- the shape of what reads as a slice -/
theorem Sl.shape {α : Type} {K : Kind α} {W : World} {D : Nat → Prop} {v : Value} {xs : List α} (h : Sl K W D v xs) : ∃ A n c, v = .slice A n c := by
  obtain ⟨A, c, e, -⟩ := h
  exact ⟨A, _, c, e⟩
theorem sep_model {W : World} {B : Nat} {sv : Value} {ss : List SO} (h : Sep B W (stRow B sv ss :: stParts B ss)) : Sl Kind.st W (DB B W) sv (ss.map SO.st) :=
  Sep.model (l := []) (by rw [List.append_nil]; exact h)
/-- a box that may be written -/
def BoxU (ub : Nat) (u : Value) (W : World) : Prop := W.cell? ⟨ub, 0, none⟩ = some u ∧ W.frozen? ⟨ub, 0, none⟩ = false ∧ ub < W.heap.size
theorem BoxU.next {ub : Nat} {u : Value} {W W' : World} (h : BoxU ub u W) (hb : Below W.heap.size W W') : BoxU ub u W' :=
  ⟨(hb.cell (p := ⟨ub, 0, none⟩) h.2.2).trans h.1, (World.frozen?_of_block (w := W) (a := ⟨ub, 0, none⟩) (hb.block ub h.2.2)).trans h.2.1, Nat.lt_of_lt_of_le h.2.2 hb.size⟩
theorem BoxU.of {ub : Nat} {u : Value} {t : TypeId} {W : World} (h : W.heap[ub]? = some (.cells #[u] t (0, 0))) : BoxU ub u W := ⟨(cells_of h 0).1, (cells_of h 0).2, (Array.getElem?_eq_some_iff.1 h).1⟩
theorem BoxU.turned {ub : Nat} {A : Option Addr} {n c : Nat} {D : Nat → Prop} {W W' : World} (h : BoxU ub (.slice A n c) W) (ht : Turned D W W') : BoxU ub (.slice A n c) W' :=
  ⟨slice_turn ht h.1, (ht.frozen _).trans h.2.1, by rw [ht.size]; exact h.2.2⟩
theorem BoxU.set {ub : Nat} {u v : Value} {W : World} (h : BoxU ub u W) : BoxU ub v (W.setCell ⟨ub, 0, none⟩ v) :=
  ⟨World.cell?_setCell_same _ _ _ h.1, (World.frozen?_setCell _ _ _ _).trans h.2.1, by simp [World.setCell]; exact h.2.2⟩
/-- a later result, and the store into the box of the cut model -/
theorem Sl.box {α : Type} {K : Kind α} {n3 ub : Nat} {v u : Value} {xs : List α} {W : World} (h : Sl K W (DB n3 W) v xs) (hu : ub < n3) : Sl K (W.setCell ⟨ub, 0, none⟩ u) (· < (W.setCell ⟨ub, 0, none⟩ u).heap.size) v xs :=
  (h.same fun k hk => Below.heap_setCell _ _ _ _ (fun e => by have e : k = ub := e; have := hk.1; omega)).mono fun k hk => by have := hk.2.1; simpa [World.setCell] using this
/-- reading on -/
theorem Sl.on {α : Type} {K : Kind α} {v : Value} {xs : List α} {W W' : World} (h : Sl K W (· < W.heap.size) v xs) (hb : Below W.heap.size W W') : Sl K W' (· < W'.heap.size) v xs :=
  (h.same fun k hk => hb.block k hk).mono fun _ hk => Nat.lt_of_lt_of_le hk hb.size
theorem below_set {n kb : Nat} {W : World} {u : Value} (h : n ≤ kb) : Below n W (W.setCell ⟨kb, 0, none⟩ u) := (Below.refl n W).setCell (p := ⟨kb, 0, none⟩) h u
theorem lo_db {n0 : Nat} {W V : World} (hb : Below W.heap.size W V) : Lo (DB n0 W) V := fun _ hk => Nat.lt_of_lt_of_le hk.2.1 hb.size
theorem sz_alloc {w W : World} {o : Obj} (h : Below (w.alloc o).heap.size (w.alloc o) W) : w.heap.size + 1 ≤ W.heap.size := by have := h.size; simp at this; omega
/-- a result moves on to where a literal is laid -/
theorem Sl.onto {α : Type} {K : Kind α} {a w W : World} {v : Value} {xs : List α} (h : Sl K w (nws a w) v xs) (hb : Below w.heap.size w W) : Sl K W (· < W.heap.size) v xs :=
  (h.same fun k hk => hb.block k hk.2.1).mono fun _ hk => Nat.lt_of_lt_of_le hk.2.1 hb.size

/-- a row of ends, of any type, reads as ends -/
theorem own_en' {W : World} {D : Nat → Prop} {base : Nat} {v : Value} {es : List EO} {ty : TypeId} (ho : W.ownsRow base ty 2 v es.length (ecells es)) (hD : ∀ k, v.ownBlock = some k → D k) (hr : ∀ e ∈ es, Sl (Kind.int .i64) W D e.sv e.st ∧ Rows2 W D e.kv e.ks) :
    Sl Kind.en W D v (es.map EO.en) := by
  obtain ⟨A, c, rfl, h1, h2, h3⟩ := own_form ho
  refine ⟨A, c, by rw [List.length_map], by rw [List.length_map]; exact h1, h2, fun i x hx => ?_⟩
  rw [List.getElem?_map] at hx
  obtain ⟨a, ha, rfl⟩ := Option.map_eq_some_iff.1 hx
  have hlt := (List.getElem?_eq_some_iff.1 ha).1
  obtain ⟨ad, e, -, -, hob, hat⟩ := h3 (by omega)
  obtain ⟨e0, e1⟩ := ecells_at es i a ha
  obtain ⟨r1, r2⟩ := hr a (List.mem_of_getElem? ha)
  refine ⟨ad, _, e, hD _ hob, ⟨a.sv, a.kv, rfl, r1, r2⟩, fun j u hj => ?_⟩
  rw [add_of_add, show i * Kind.en.sz = i * 2 from rfl]
  match j, hj with
  | 0, hj => simp at hj; subst hj; exact hat _ _ e0
  | 1, hj => simp at hj; subst hj; exact hat _ _ e1
  | j + 2, hj => simp at hj

/-- append of one end of the reference -/
theorem wpList_appRef {w : World} {ops : Array Oper} {rest : List Oper} {o : Oper} {a : Act} {Q : Exit → Act → World → Prop}
    (hgd : o.guard = none) (s x : Operand) (ho : o.op = .call { callee := .builtin .append, args := #[s, x], argTypes := #[59, 59] })
    (base : Nat) (v : Value) (n : Nat) (vs : List Value) (hs : a.eval s = v) (hown : w.ownsRow base 55 2 v n vs)
    (b c : Nat) (x0 x1 : Value) (hx : a.eval x = .slice (some ⟨b, 0, none⟩) 1 c) (hc : w.heap[b]? = some (.cells #[x0, x1] 55 (0, 0))) (h0 : x0.oneCell' = true) (h1 : x1.oneCell' = true)
    (hn : n + 1 ≤ 1000000) (hbase : base ≤ w.heap.size)
    (h : ∀ v' w', w'.ownsRow base 55 2 v' (n + 1) (vs ++ [x0, x1]) → w.grownBy w' v.ownBlock → (v'.ownBlock = v.ownBlock ∨ v'.ownBlock = some w.heap.size) → wpList Tryz.prog ops Q rest (a.put o.dst v') w') : wpList Tryz.prog ops Q (o :: rest) a w := by
  refine wpList_plain hgd fun _ hK => ?_
  have hi : ∃ i, Tryz.prog.info? 55 = some i ∧ i.zero = some (.agg #[.slice none 0 0, .slice none 0 0]) ∧ i.size = 2 ∧ i.bytes = 48 := by
    have hh : (Tryz.prog.info? 55).map (fun i => (i.zero, i.size, i.bytes)) = some (some (.agg #[.slice none 0 0, .slice none 0 0]), 2, 48) := by kernel_rfl
    cases h : Tryz.prog.info? 55 with
    | none => rw [h] at hh; cases hh
    | some i =>
      rw [h] at hh
      simp only [Option.map_some, Option.some.injEq, Prod.mk.injEq] at hh
      exact ⟨i, rfl, hh.1, hh.2.1, hh.2.2⟩
  obtain ⟨i, hi, hz, hsz, hby⟩ := hi
  have hat : ∀ j u', [x0, x1][j]? = some u' → w.cell? ((⟨b, 0, none⟩ : Addr).add j) = some u' := by
    intro j u' hj
    have e : (⟨b, 0, none⟩ : Addr).add j = ⟨b, j, none⟩ := by unfold Addr.add; split <;> simp_all
    rw [e]
    simp only [World.cell?, hc]
    simpa using hj
  obtain ⟨v', w', hr, r2, r3, _, r5⟩ := run_append_own_at (P := Tryz.prog) w base 59 o.type 55 i _ 2 48 Tryz.underlying59 hi hz hsz hby rfl (by decide) v n vs hown ⟨b, 0, none⟩ 1 c [x0, x1] rfl hat (by simp [h0, h1]) (by simp only [maxLen]; omega) (by omega) hbase
  unfold Oper.wp execOp
  simp only [ho, resolve, invoke, builtin, Sem.run_bind, Sem.run_pure, Result.andThen_ok, List.map_toArray, List.map_cons, List.map_nil, hs, hx, hr]
  exact hK _ _ (h v' w' r2 r3 r5)

theorem same8_calls (l : List Endp) (v : Value) (D : Nat → Prop) (w : World) (hD : Lo D w) (h : Sl Kind.en w D v l) (hn : l.length ≤ 100000) :
    Calls Tryz.prog 58 #[v] w fun e w' => ∃ v', e = .returned v' ∧ Below w.heap.size w w' ∧ Sl Kind.en w' (· < w'.heap.size) v' l := by
  obtain ⟨A, c, rfl, h1, h2, -⟩ := h.form
  unfold maxLen at h2
  have H := Lib.hid h
  have HD := Lib.hid hD
  clear h hD
  go_enter Tryz.func58, Tryz.ntmps58
  go_wp2
  go_loopw [3, 8] (fun v k W => ∃ (i : Nat) (es : List EO), i ≤ l.length ∧ k = .int .i64 (i : Int) ∧ Hid (Below w.heap.size w W) ∧ Hid (W.ownsRow w.heap.size 55 2 v es.length (ecells es)) ∧ Hid (∀ e ∈ es, Sl (Kind.int .i64) W D e.sv e.st ∧ Rows2 W D e.kv e.ks) ∧ es.length = i ∧ Hid (es.map EO.en = l.take i)) (fun _ k _ => l.length - (intOf k).toNat)
  case atStart => exact ⟨0, [], Nat.zero_le _, rfl, Below.refl _ _, World.ownsRow_nil _ _ _ _, fun e he => (List.not_mem_nil he).elim, rfl, rfl⟩
  case round =>
    obtain ⟨i, es, hi, rfl, HB, HO, HR, hel, HE⟩ := hrel
    have hown := HO.out
    obtain ⟨A3, c3, rfl, -, -, -⟩ := own_form hown
    by_cases hlt : i < l.length
    · obtain ⟨x, hx⟩ : ∃ x, l[i]? = some x := ⟨_, List.getElem?_eq_getElem hlt⟩
      obtain ⟨ad, SA, sc, KA, kc, rfl, hdd, q0, q1, hsx, hkx⟩ := (H.out.same (HD.out.same HB.out)).en_at i x hx
      have HX := Lib.hid (show l.take (i + 1) = l.take i ++ [x] by rw [List.take_add_one, hx]; rfl)
      have hsz := HB.out.size
      have hb5 := (Below.refl wr.heap.size wr).alloc (Nat.le_refl _) (.cells #[.slice SA x.1.length sc, .slice KA x.2.length kc] 53)
      have b0 := (cells_of (heap_alloc_new wr (.cells #[.slice SA x.1.length sc, .slice KA x.2.length kc] 53)) 0).1
      have b1 := (cells_of (heap_alloc_new wr (.cells #[.slice SA x.1.length sc, .slice KA x.2.length kc] 53)) 1).1
      have hb6 := hb5.alloc hb5.size (.cells #[.slice SA x.1.length sc, .slice KA x.2.length kc] 55)
      have HO6 := Lib.hid (own_below HO.out hb6)
      have HB6 := Lib.hid hb6
      have HSX := Lib.hid hsx
      have HKX := Lib.hid hkx
      have HEL := Lib.hid hel
      have hes : es.length ≤ 100000 := by omega
      clear hx hsx hkx hown hb5 hb6 hel
      go_wp2_with ((at_builtin); (refine wpList_appRef rfl _ _ rfl w.heap.size _ es.length (ecells es) rfl HO6.out (wr.heap.size + 1) 1 (.slice SA x.1.length sc) (.slice KA x.2.length kc) rfl (by have h9 := heap_alloc_new (wr.alloc (.cells #[.slice SA x.1.length sc, .slice KA x.2.length kc] 53)) (.cells #[.slice SA x.1.length sc, .slice KA x.2.length kc] 55); rw [World.size_alloc] at h9; exact h9) rfl rfl (by omega) (by simp; omega) ?_); (intro v7 w7 ho7 hg7 ha7); (have HO7 := Lib.hid ho7); (have HG7 := Lib.hid hg7); (obtain ⟨A7, c7, rfl, -, -, -⟩ := own_form ho7); (clear ho7 hg7 ha7))
      have hb7 := (HB.out.trans (HB6.out.mono hsz)).grown HG7.out (by have := HB6.out.size; exact Nat.le_trans hsz this) (fun k hk => (HO6.out.lt k hk).1)
      have hsm : Go.Proofs.YtoffbdlgmnpblaaGreat.Same D wr w7 := fun k hk => (HG7.out.block k (Nat.lt_of_lt_of_le (HD.out.up hsz k hk) HB6.out.size) (fun e => by have h9 := (HO6.out.lt k e.symm).1; have := HD.out k hk; omega)).trans (HB6.out.block k (HD.out.up hsz k hk))
      refine ⟨⟨i + 1, es ++ [⟨.slice SA x.1.length sc, .slice KA x.2.length kc, x.1, x.2⟩], by omega, by go_num, Lib.hid hb7, Lib.hid (by rw [ecells_snoc, List.length_append]; exact HO7.out), Lib.hid fun e he => ?_, by simp; exact HEL.out, Lib.hid (by rw [List.map_append, HE.out, HX.out]; rfl)⟩, by simp [intOf]; omega⟩
      rcases List.mem_append.1 he with he | he
      · exact ⟨(HR.out e he).1.same hsm, (HR.out e he).2.same hsm⟩
      · rw [List.mem_singleton] at he
        subst he
        exact ⟨HSX.out.same hsm, HKX.out.same hsm⟩
    · obtain rfl : i = l.length := by omega
      have HE2 := Lib.hid (show es.map EO.en = l by rw [HE.out, List.take_length])
      clear hlt hown
      go_wp2
      go_ret
      refine ⟨_, rfl, HB.out, ?_⟩
      have h9 := own_en' HO.out (D := (· < wr.heap.size)) (fun k hk => (HO.out.lt k hk).2) fun e he => ⟨(HR.out e he).1.mono fun k hk => HD.out.up HB.out.size k hk, (HR.out e he).2.mono fun k hk => HD.out.up HB.out.size k hk⟩
      rw [HE2.out] at h9
      exact h9

theorem Same_calls (xs ys : List Endp) (u v : Value) (D D' : Nat → Prop) (w : World) (hx : Sl Kind.en w D u xs) (hy : Sl Kind.en w D' v ys) :
    Calls Tryz.prog 57 #[u, v] w fun e w' => e = .returned (.bool (decide (xs = ys))) ∧ Drawn w w' := by
  obtain ⟨A, c, rfl, h1, h2, -⟩ := hx.form
  obtain ⟨B, d, rfl, k1, k2, -⟩ := hy.form
  unfold maxLen at h2 k2
  have HX0 := Lib.hid hx
  have HY0 := Lib.hid hy
  clear hx hy
  by_cases hl : xs.length = ys.length
  · have HLL := Lib.hid hl
    rw [← hl] at k1 HY0 ⊢
    clear hl
    go_enter Tryz.func57, Tryz.ntmps57
    go_wp2
    go_loopw [13] (fun k W => ∃ j : Nat, j ≤ xs.length ∧ k = .int .i64 (j : Int) ∧ Drawn w W ∧ Hid (xs.take j = ys.take j)) (fun k _ => xs.length - (intOf k).toNat)
    case atStart => exact ⟨0, Nat.zero_le _, rfl, Drawn.refl _, rfl⟩
    case round =>
      obtain ⟨j, hj, rfl, ⟨nd, rfl⟩, HL⟩ := hrel
      by_cases hlt : j < xs.length
      · obtain ⟨x, hx⟩ : ∃ x, xs[j]? = some x := ⟨_, List.getElem?_eq_getElem hlt⟩
        obtain ⟨y, hy⟩ : ∃ y, ys[j]? = some y := ⟨_, List.getElem?_eq_getElem (show j < ys.length by have := HLL.out; omega)⟩
        obtain ⟨ad, SA, sc, KA, kc, rfl, -, q0, q1, hsx, hkx⟩ := HX0.out.en_at j x hx
        obtain ⟨bd, SB, sd, KB, kd, rfl, -, t0, t1, hsy, hky⟩ := HY0.out.en_at j y hy
        have HX := Lib.hid hx
        have HY := Lib.hid hy
        have hcall1 : ∀ n, Calls Tryz.prog 22 #[.slice SA x.1.length sc, .slice SB y.1.length sd] (w.drewN (nd + n)) fun e w' => e = .returned (.bool (decide (x.1 = y.1))) ∧ ∃ m, w' = w.drewN (nd + m) := fun n =>
          (List2_calls x.1 y.1 _ _ (fun k => D k ∨ D' k) (w.drewN (nd + n)) ((hsx.same (w' := w.drewN (nd + n)) fun _ _ => rfl).mono fun _ h => Or.inl h) ((hsy.same (w' := w.drewN (nd + n)) fun _ _ => rfl).mono fun _ h => Or.inr h)).mono fun _ _ ⟨he, m, hm⟩ => ⟨he, n + m, by rw [hm, World.drewN_drewN, Nat.add_assoc]⟩
        have hcall2 : ∀ n, Calls Tryz.prog 21 #[.slice KA x.2.length kc, .slice KB y.2.length kd] (w.drewN (nd + n)) fun e w' => e = .returned (.bool (decide (x.2 = y.2))) ∧ ∃ m, w' = w.drewN (nd + m) := fun n =>
          (Lists2_calls x.2 y.2 _ _ (fun k => D k ∨ D' k) (w.drewN (nd + n)) ((hkx.same (w' := w.drewN (nd + n)) fun _ _ => rfl).mono fun _ h => Or.inl h) ((hky.same (w' := w.drewN (nd + n)) fun _ _ => rfl).mono fun _ h => Or.inr h)).mono fun _ _ ⟨he, m, hm⟩ => ⟨he, n + m, by rw [hm, World.drewN_drewN, Nat.add_assoc]⟩
        have HC1 := Lib.hid hcall1
        have HC2 := Lib.hid hcall2
        clear hcall1 hcall2 hx hy hsx hkx hsy hky
        by_cases e : x = y
        · have HS := Lib.hid (take_snoc_eq HX.out HY.out HL.out e)
          have hb1 : decide (x.1 = y.1) = true := decide_eq_true (by rw [e])
          have hb2 : decide (x.2 = y.2) = true := decide_eq_true (by rw [e])
          rw [hb1] at HC1
          rw [hb2] at HC2
          clear e hb1 hb2
          go_wp2
          go_quiet (first | (go_at_call 22; exact HC1.out _) | (go_at_call 21; exact HC2.out _))
          go_wp2
          exact ⟨⟨j + 1, by omega, by go_num, ⟨_, rfl⟩, HS⟩, by simp [intOf]; omega⟩
        · have HS := Lib.hid (show decide (xs = ys) = false from decide_eq_false (ne_of_at HX.out HY.out e))
          by_cases e1 : x.1 = y.1
          · have hb1 : decide (x.1 = y.1) = true := decide_eq_true e1
            have hb2 : decide (x.2 = y.2) = false := decide_eq_false fun e2 => e (Prod.ext e1 e2)
            rw [hb1] at HC1
            rw [hb2] at HC2
            clear e e1 hb1 hb2
            go_wp2
            go_quiet (first | (go_at_call 22; exact HC1.out _) | (go_at_call 21; exact HC2.out _))
            go_wp2
            go_ret
            exact ⟨ret_bool HS.out.symm, by first | exact ⟨_, rfl⟩ | exact ⟨_, World.drewN_drewN _ _ _⟩⟩
          · have hb1 : decide (x.1 = y.1) = false := decide_eq_false e1
            rw [hb1] at HC1
            clear e e1 hb1
            go_wp2
            go_quiet ((go_at_call 22; exact HC1.out _))
            go_wp2
            go_ret
            exact ⟨ret_bool HS.out.symm, by first | exact ⟨_, rfl⟩ | exact ⟨_, World.drewN_drewN _ _ _⟩⟩
      · obtain rfl : j = xs.length := by omega
        have HS := Lib.hid (show decide (xs = ys) = true from decide_eq_true (by
          have := HL.out
          rw [List.take_length, HLL.out, List.take_length] at this; exact this))
        clear hlt
        go_wp2
        go_ret
        exact ⟨ret_bool HS.out.symm, ⟨nd, rfl⟩⟩
  · have hb1 : ((xs.length : Int) != (ys.length : Int)) = true := by rw [bne_iff_ne]; omega
    have hb2 : (xs.length != ys.length) = true := by rw [bne_iff_ne]; exact hl
    have HS := Lib.hid (show decide (xs = ys) = false from decide_eq_false fun e => hl (by rw [e]))
    clear hl
    go_enter Tryz.func57, Tryz.ntmps57
    go_wp2
    go_ret
    exact ⟨ret_bool HS.out.symm, Drawn.refl _⟩

end Go.Proofs.YtoffbdlgmnpblaaGreat

/- The law's copies of ends: their lists may be as long as memory allows. -/
namespace Go.Proofs.YtoffbdlgmnpblaaGreat
open Go.RowKit
set_option maxHeartbeats 4000000
set_option maxRecDepth 100000

/-- append of numbers that are read onto an own row -/
theorem run_appInts {w : World} (ty : TypeId) (base : Nat) (v : Value) (l0 xs : List Int) (hown : w.ownsRow base 3 1 v l0.length (ints l0)) {D : Nat → Prop} (u : Value) (hu : Sl (Kind.int .i64) w D u xs)
    (hl : l0.length + xs.length ≤ 17592186044416) (hbase : base ≤ w.heap.size) :
    ∃ v' w', (Builtin.append_ #[31, 31] ty #[v, u]).run Tryz.prog w = .ok v' w' ∧ w'.ownsRow base 3 1 v' (l0 ++ xs).length (ints (l0 ++ xs)) ∧ w.grownBy w' v.ownBlock ∧ (v'.ownBlock = v.ownBlock ∨ v'.ownBlock = some w.heap.size) := by
  obtain ⟨i, hi, hz, hsz, hby'⟩ := elem_i64.hi
  obtain ⟨A, c, rfl, h1, h2, h3⟩ := hu.ints
  rcases A with _ | ad
  · have hxs : xs = [] := by
      cases xs with
      | nil => rfl
      | cons b l => obtain ⟨ad, e', _⟩ := h3 (by simp); cases e'
    subst hxs
    exact ⟨v, w, run_append_none (P := Tryz.prog) (w := w) base 31 ty 3 i 1 elem_i64.ht hi v l0.length (ints l0) hown c, by rw [List.append_nil]; exact hown, World.grownBy.refl _ _, .inl rfl⟩
  · have hat : ∀ j u', (ints xs)[j]? = some u' → w.cell? (ad.add j) = some u' := by
      intro j u' hj
      unfold ints at hj
      rw [List.getElem?_map] at hj
      obtain ⟨z, hz', rfl⟩ := Option.map_eq_some_iff.1 hj
      have hlt := (List.getElem?_eq_some_iff.1 hz').1
      obtain ⟨ad', e', -, hc⟩ := h3 (by omega)
      injection e' with e'
      subst e'
      rw [hc j hlt]
      simp [Dig.gd, hz']
    obtain ⟨v', w', hr, r2, r3, _, r5⟩ := run_append_own_at (P := Tryz.prog) w base 31 ty 3 i _ 1 8 elem_i64.ht hi hz hsz hby' elem_i64.hz (by decide) v l0.length (ints l0) hown ad xs.length c (ints xs) (by simp [ints]) hat (by
      intro u hu'
      obtain ⟨z, -, rfl⟩ := List.mem_map.1 hu'
      rfl) (by simp only [maxLen]; omega) (by omega) hbase
    exact ⟨v', w', hr, by rw [List.length_append, show ints (l0 ++ xs) = ints l0 ++ ints xs from by simp [ints]]; exact r2, r3, r5⟩
theorem wpList_appInts2 {w : World} {ops : Array Oper} {rest : List Oper} {o : Oper} {a : Act} {Q : Exit → Act → World → Prop} {D : Nat → Prop}
    (hgd : o.guard = none) (s x : Operand) (ho : o.op = .call { callee := .builtin .append, args := #[s, x], argTypes := #[31, 31] })
    (base : Nat) (v : Value) (l0 xs : List Int) (hs : a.eval s = v) (hown : w.ownsRow base 3 1 v l0.length (ints l0)) (u : Value) (hx : a.eval x = u) (hu : Sl (Kind.int .i64) w D u xs)
    (hl : l0.length + xs.length ≤ 17592186044416) (hbase : base ≤ w.heap.size)
    (h : ∀ v' w', w'.ownsRow base 3 1 v' (l0 ++ xs).length (ints (l0 ++ xs)) → w.grownBy w' v.ownBlock → (v'.ownBlock = v.ownBlock ∨ v'.ownBlock = some w.heap.size) → wpList Tryz.prog ops Q rest (a.put o.dst v') w') : wpList Tryz.prog ops Q (o :: rest) a w := by
  obtain ⟨v', w', hr, r2, r3, r5⟩ := run_appInts o.type base v l0 xs hown u hu hl hbase
  refine wpList_plain hgd fun _ hK => ?_
  unfold Oper.wp execOp
  simp only [ho, resolve, invoke, builtin, Sem.run_bind, Sem.run_pure, Result.andThen_ok, List.map_toArray, List.map_cons, List.map_nil, hs, hx, hr]
  exact hK _ _ (h v' w' r2 r3 r5)
theorem step_appInts2 {w : World} {ops : Array Oper} {o : Oper} {a : Act} {K : Act → World → Prop} {Q : Exit → Act → World → Prop} {F : Prop} {D : Nat → Prop}
    (hgd : o.guard = none) (s x : Operand) (ho : o.op = .call { callee := .builtin .append, args := #[s, x], argTypes := #[31, 31] })
    (base : Nat) (v : Value) (l0 xs : List Int) (hs : a.eval s = v) (hown : w.ownsRow base 3 1 v l0.length (ints l0)) (u : Value) (hx : a.eval x = u) (hu : Sl (Kind.int .i64) w D u xs)
    (hl : l0.length + xs.length ≤ 17592186044416) (hbase : base ≤ w.heap.size)
    (h : ∀ v' w', w'.ownsRow base 3 1 v' (l0 ++ xs).length (ints (l0 ++ xs)) → w.grownBy w' v.ownBlock → (v'.ownBlock = v.ownBlock ∨ v'.ownBlock = some w.heap.size) → K (a.put o.dst v') w') :
    if Region.wanted o (yielded ops a.tmps) = true then Oper.wp Tryz.prog o a w K Q else F := by
  have hw : Region.wanted o (yielded ops a.tmps) = true := by simp [Region.wanted, hgd]
  rw [if_pos hw]
  obtain ⟨v', w', hr, r2, r3, r5⟩ := run_appInts o.type base v l0 xs hown u hu hl hbase
  unfold Oper.wp execOp
  simp only [ho, resolve, invoke, builtin, Sem.run_bind, Sem.run_pure, Result.andThen_ok, List.map_toArray, List.map_cons, List.map_nil, hs, hx, hr]
  exact h v' w' r2 r3 r5

/-- the copies that are there -/
structure CpR (w : World) (W : World) (ov : Value) (es : List EO) : Prop where
  below : Below w.heap.size w W
  own : W.ownsRow w.heap.size 53 2 ov es.length (ecells es)
  row : ∀ e ∈ es, Sl (Kind.int .i64) W (NB w.heap.size ov W) e.sv e.st ∧ Rows2 W (NB w.heap.size ov W) e.kv e.ks
section
variable {w W W' : World} {ov ov' : Value} {es : List EO}
theorem CpR.next (h : CpR w W ov es) (hb : Below W.heap.size W W') : CpR w W' ov es :=
  ⟨h.below.trans (hb.mono h.below.size), own_below h.own hb, fun e he => ⟨((h.row e he).1.same (NB.same hb)).mono fun _ hk => NB.next hk hb, ((h.row e he).2.same (NB.same hb)).mono fun _ hk => NB.next hk hb⟩⟩
theorem CpR.out (h : CpR w W ov es) {e : EO} {n : Nat} (h1 : Sl (Kind.int .i64) W (NB w.heap.size ov W) e.sv e.st) (h2 : Rows2 W (NB w.heap.size ov W) e.kv e.ks) (hg : W.grownBy W' ov.ownBlock) (ho : W'.ownsRow w.heap.size 53 2 ov' (es.length + 1) (ecells es ++ [e.sv, e.kv])) (ha : ov'.ownBlock = ov.ownBlock ∨ ov'.ownBlock = some n) (hn : W.heap.size ≤ n) :
    CpR w W' ov' (es ++ [e]) := by
  have hnb : ∀ k, NB w.heap.size ov W k → NB w.heap.size ov' W' k := fun k hk => NB.grown hk hg ha hn
  refine ⟨h.below.grown hg h.below.size fun k hk => (h.own.lt k hk).1, by rw [ecells_snoc, List.length_append]; exact ho, fun a ha' => ?_⟩
  rcases List.mem_append.1 ha' with ha' | ha'
  · exact ⟨((h.row a ha').1.same (NB.sameG hg)).mono hnb, ((h.row a ha').2.same (NB.sameG hg)).mono hnb⟩
  · rw [List.mem_singleton] at ha'
    subst ha'
    exact ⟨(h1.same (NB.sameG hg)).mono hnb, (h2.same (NB.sameG hg)).mono hnb⟩
theorem CpR.sl (h : CpR w W ov es) : Sl Kind.en W (DB w.heap.size W) ov (es.map EO.en) :=
  own_en' h.own (fun k hk => own_DB h.own k hk) fun e he => ⟨(h.row e he).1.mono fun _ hk => hk.1, (h.row e he).2.mono fun _ hk => hk.1⟩
end

/-- an end in the making: its box and its rows -/
structure CpB (kb : Nat) (w3 W : World) (sv kv : Value) (ps : List (Value × List Int)) : Prop where
  below : Below kb w3 W
  box : W.heap[kb]? = some (.cells #[sv, kv] 53 (0, 0))
  rows : RowsC W (kb + 1) kv ps
theorem CpB.start (w3 : World) (sv : Value) : CpB w3.heap.size w3 (w3.alloc (.cells #[sv, .slice none 0 0] 53)) sv (.slice none 0 0) [] :=
  ⟨(Below.refl _ _).alloc (Nat.le_refl _) _, heap_alloc_new _ _, ⟨World.ownsRow_nil _ _ _ _, fun _ hp => (List.not_mem_nil hp).elim⟩⟩
theorem CpB.lt {kb : Nat} {w3 W : World} {sv kv : Value} {ps : List (Value × List Int)} (h : CpB kb w3 W sv kv ps) : kb < W.heap.size := (Array.getElem?_eq_some_iff.1 h.box).1
/-- a row is copied -/
theorem CpB.snoc {kb : Nat} {w3 W w4 w5 : World} {sv kv v4 v5 : Value} {ps : List (Value × List Int)} {xs : List Int} {ob : Obj} (h : CpB kb w3 W sv kv ps) (hk : kb ≤ w3.heap.size) (hb : Below W.heap.size W w4)
    (ho4 : w4.ownsRow W.heap.size 3 1 v4 xs.length (ints xs)) (hg5 : (w4.alloc ob).grownBy w5 kv.ownBlock) (ho5 : w5.ownsRow (kb + 1) 31 1 v5 (ps.length + 1) (ps.map (·.1) ++ [v4])) (ha5 : v5.ownBlock = kv.ownBlock ∨ v5.ownBlock = some (w4.alloc ob).heap.size) :
    CpB kb w3 (w5.setCell ⟨kb, 1, none⟩ v5) sv v5 (ps ++ [(v4, xs)]) := by
  have hl := h.lt
  have h4 := h.below.trans (hb.mono (Nat.le_of_lt hl))
  have h4' := h4.alloc (Nat.le_trans hk h4.size) ob
  have h5 := h4'.grown hg5 (Nat.le_trans hk h4'.size) fun k hk' => by have := (h.rows.own.lt k hk').1; omega
  have hs4 := hb.size
  have hr := RowsC.snoc h.rows (by omega) hb (own_base ho4 (by omega)) (fun k hk' => (ho4.lt k hk').1) hg5 ho5 ha5
  have hbx : w5.heap[kb]? = some (.cells #[sv, kv] 53 (0, 0)) := (hg5.block kb (by simp; omega) (fun e => by have := (h.rows.own.lt kb e.symm).1; omega)).trans ((heap_alloc_old _ _ (by omega)).trans ((hb.block kb hl).trans h.box))
  exact ⟨h5.setCell (p := ⟨kb, 1, none⟩) (Nat.le_refl _) v5, set_of hbx 1 v5, hr.kept fun k hk' _ => Below.heap_setCell _ _ _ _ (fun e => by have e : k = kb := e; omega)⟩

/-- what may be copied -/
def Cpy8 (e : Endp) : Prop := e.1.length ≤ 17592186044416 ∧ e.2.length ≤ 100000 ∧ ∀ ks ∈ e.2, ks.length ≤ 17592186044416

theorem copied_calls (l : List Endp) (v : Value) (D : Nat → Prop) (w : World) (hD : Lo D w) (h : Sl Kind.en w D v l) (hn : l.length ≤ 100000) (hr : ∀ e ∈ l, Cpy8 e) :
    Calls Tryz.prog 65 #[v] w fun e w' => ∃ v', e = .returned v' ∧ Below w.heap.size w w' ∧ Sl Kind.en w' (DB w.heap.size w') v' l := by
  obtain ⟨A, c, rfl, h1, h2, -⟩ := h.form
  unfold maxLen at h2
  have H := Lib.hid h
  have HD := Lib.hid hD
  have HR := Lib.hid hr
  clear h hD hr
  go_enter Tryz.func65, Tryz.ntmps65
  go_wp2
  go_loopw [3, 11] (fun v k W => ∃ (i : Nat) (es : List EO), i ≤ l.length ∧ k = .int .i64 (i : Int) ∧ Hid (CpR w W v es) ∧ es.length = i ∧ Hid (es.map EO.en = l.take i)) (fun _ k _ => l.length - (intOf k).toNat)
  case atStart => exact ⟨0, [], Nat.zero_le _, rfl, ⟨Below.refl _ _, World.ownsRow_nil _ _ _ _, fun e he => (List.not_mem_nil he).elim⟩, rfl, rfl⟩
  case round =>
    obtain ⟨i, es, hi, rfl, HC, hel, HE⟩ := hrel
    obtain ⟨wo, rfl⟩ : ∃ wo : World, wo = wr := ⟨_, rfl⟩
    have hown := HC.out.own
    obtain ⟨A3, c3, rfl, -, -, -⟩ := own_form hown
    by_cases hlt : i < l.length
    · obtain ⟨x, hx⟩ : ∃ x, l[i]? = some x := ⟨_, List.getElem?_eq_getElem hlt⟩
      obtain ⟨ad, SA, sc, KA, kc, rfl, hdd, q0, q1, hsx, hkx⟩ := (H.out.same (HD.out.same HC.out.below)).en_at i x hx
      obtain ⟨x1, x2, x3⟩ := HR.out x (List.mem_of_getElem? hx)
      have HX := Lib.hid (show l.take (i + 1) = l.take i ++ [x] by rw [List.take_add_one, hx]; rfl)
      have hsz := HC.out.below.size
      have hk2 : x.2.length ≤ kc ∧ kc ≤ maxLen := by
        obtain ⟨A', c', e, y1, y2, -⟩ := hkx.form
        injection e with e1 e2 e3
        subst e3
        exact ⟨y1, y2⟩
      unfold maxLen at hk2
      have b0 := (cells_of (heap_alloc_new wo (.cells #[.slice SA x.1.length sc, .slice KA x.2.length kc] 53)) 0).1
      have b1 := (cells_of (heap_alloc_new wo (.cells #[.slice SA x.1.length sc, .slice KA x.2.length kc] 53)) 1).1
      have hsx' := hsx
      have HKX := Lib.hid hkx
      have HEL := Lib.hid hel
      have HX3 := Lib.hid x3
      have hes : es.length ≤ 100000 := by omega
      clear hx hsx hkx hown hel x3
      obtain ⟨w1, hw1⟩ : ∃ W : World, W = (wo.alloc (.cells #[.slice SA x.1.length sc, .slice KA x.2.length kc] 53)).alloc (.cells #[] 3) := ⟨_, rfl⟩
      have hb1 : Below wo.heap.size wo w1 := by
        rw [hw1]
        have h9 := (Below.refl wo.heap.size wo).alloc (Nat.le_refl _) (.cells #[.slice SA x.1.length sc, .slice KA x.2.length kc] 53)
        exact h9.alloc h9.size _
      have hz1 : w1.heap.size = wo.heap.size + 2 := by rw [hw1]; simp
      have ho1 : w1.ownsRow (wo.heap.size + 1) 3 1 (.slice (some ⟨wo.heap.size + 1, 0, none⟩) 0 0) 0 [] := by
        rw [hw1]
        have h9 := own_empty (wo.alloc (.cells #[.slice SA x.1.length sc, .slice KA x.2.length kc] 53)) (wo.heap.size + 1) (by simp) 3 1
        rw [World.size_alloc] at h9
        exact h9
      have HB1 := Lib.hid hb1
      have HO1 := Lib.hid ho1
      have HZ1 := Lib.hid hz1
      have HS1 := Lib.hid (hsx'.same ((HD.out.up hsz).same hb1))
      have HW1 := Lib.hid hw1
      have hE1 : w1.cell? ⟨wo.heap.size, 1, none⟩ = some (.slice KA x.2.length kc) := by
        rw [hw1]
        exact (World.cell?_of_block (a := ⟨wo.heap.size, 1, none⟩) (heap_alloc_old _ _ (by simp))).trans (cells_of (heap_alloc_new wo (.cells #[.slice SA x.1.length sc, .slice KA x.2.length kc] 53)) 1).1
      have HE1 := Lib.hid hE1
      rw [hw1] at HB1 HO1 HZ1 HS1 HE1
      clear hb1 ho1 hz1 HW1 hw1 hsx' hE1
      go_wp2_with ((at_builtin); (refine wpList_appInts2 (D := D) rfl _ _ rfl (wo.heap.size + 1) (.slice (some ⟨wo.heap.size + 1, 0, none⟩) 0 0) [] x.1 rfl HO1.out _ rfl HS1.out (by simpa using x1) (by have := HZ1.out; omega) ?_); (intro v3 w3 ho3 hg3 ha3); (have ho3 : w3.ownsRow (wo.heap.size + 1) 3 1 v3 x.1.length (ints x.1) := ho3); (have hb3 : Below wo.heap.size wo w3 := HB1.out.grown hg3 HB1.out.size (fun k hk => by cases hk; exact Nat.le_succ _)); (have HO3 := Lib.hid ho3); (have HB3 := Lib.hid hb3); (have hs3 : wo.heap.size + 2 ≤ w3.heap.size := by (have h8 := hg3.size; have := HZ1.out; omega)); (have e1 : w3.cell? ⟨wo.heap.size, 1, none⟩ = some (.slice KA x.2.length kc) := (World.cell?_of_block (a := ⟨wo.heap.size, 1, none⟩) (hg3.block wo.heap.size (by have := HZ1.out; omega) (fun e => by simp [Value.ownBlock] at e))).trans HE1.out); (obtain ⟨A7, c7, rfl, -, -, -⟩ := own_form ho3); (have e2 : (w3.alloc (.cells #[.slice A7 x.1.length c7, .slice none 0 0] 53)).cell? ⟨wo.heap.size, 1, none⟩ = some (.slice KA x.2.length kc) := (World.cell?_of_block (a := ⟨wo.heap.size, 1, none⟩) (heap_alloc_old _ _ (by show wo.heap.size < w3.heap.size; omega))).trans e1); (clear ho3 hg3 ha3))
      have HBX := Lib.hid (show CpB w3.heap.size w3 (w3.alloc (.cells #[.slice A7 x.1.length c7, .slice none 0 0] 53)) (.slice A7 x.1.length c7) (.slice none 0 0) [] from CpB.start _ _)
      clear b0 b1 q0 q1 e1 e2
      go_loopw [23] (fun k W => ∃ (r : Nat) (kv : Value) (ps : List (Value × List Int)), r ≤ x.2.length ∧ k = .int .i64 (r : Int) ∧ Hid (CpB w3.heap.size w3 W (.slice A7 x.1.length c7) kv ps) ∧ ps.length = r ∧ Hid (ps.map (·.2) = x.2.take r)) (fun k _ => x.2.length - (intOf k).toNat)
      case atStart => exact ⟨0, _, [], Nat.zero_le _, rfl, HBX.out, rfl, rfl⟩
      case round =>
        obtain ⟨r, kv, ps, hr, rfl, HB, hpl, HP⟩ := hrel
        obtain ⟨wi, rfl⟩ : ∃ wi : World, wi = wr := ⟨_, rfl⟩
        have hkb := HB.out.lt
        have hBi := HB3.out.trans (HB.out.below.mono HB3.out.size)
        have howr := HB.out.rows.own
        have HOWR := Lib.hid howr
        obtain ⟨A5, c5, rfl, -, -, -⟩ := own_form howr
        have k0 := (cells_of HB.out.box 0).1
        obtain ⟨k1, k1f⟩ := cells_of HB.out.box 1
        have HBI := Lib.hid hBi
        have HPL := Lib.hid hpl
        have hpl' : ps.length ≤ 100000 := by omega
        clear howr hpl
        by_cases hlt2 : r < x.2.length
        · obtain ⟨xs, hxs⟩ : ∃ xs, x.2[r]? = some xs := ⟨_, List.getElem?_eq_getElem hlt2⟩
          obtain ⟨kd, u, rfl, hdk, hcu, hu⟩ := Rows2.at' (HKX.out.same ((HD.out.up hsz).same hBi)) r xs hxs
          obtain ⟨B, d, rfl, -, -, -⟩ := hu.ints
          have hxl := HX3.out xs (List.mem_of_getElem? hxs)
          have HXS := Lib.hid hxs
          have HU := Lib.hid ((hu.same (w' := wi.drew) fun _ _ => rfl).same (w' := wi.drew.alloc (.cells #[] 3)) ((HD.out.up (Nat.le_trans hsz hBi.size)).same (((Below.refl wi.heap.size wi).drew).alloc (Nat.le_refl _) _)))
          have k1' : wi.drew.cell? ⟨w3.heap.size, 1, none⟩ = some (.slice A5 ps.length c5) := k1
          have hkb' : w3.heap.size < wi.drew.heap.size := hkb
          have HXL := Lib.hid hxl
          clear hxs hu hBi hxl
          go_wp2_with fail
          go_region_law (first
            | (refine step_app1 elem_row rfl _ _ rfl (w3.heap.size + 1) (.slice A5 ps.length c5) ps.length (ps.map (·.1)) rfl HO6.out ⟨w4.heap.size, 0, none⟩ 1 _ rfl (cell_new1 _ _ _) rfl (by omega) (by omega) hw6 ?_; intro v5 w5 ho5 hg5 ha5; have HO5 := Lib.hid ho5; have HG5 := Lib.hid hg5; have HA5 := Lib.hid ha5; obtain ⟨A9, c9, rfl, -, -, -⟩ := own_form ho5; have g5 : w5.heap[w3.heap.size]? = some (.cells #[.slice A7 x.1.length c7, .slice A5 ps.length c5] 53 (0, 0)) := (hg5.block w3.heap.size (by simp; omega) (fun e => by have := (HOWR.out.lt _ e.symm).1; omega)).trans ((heap_alloc_old _ _ (by omega)).trans HX6.out); have g6 := (cells_of g5 1).1; have g7 := (cells_of g5 1).2; clear ho5 hg5 ha5 g5)
            | (refine step_appInts2 (D := D) rfl _ _ rfl wi.heap.size (.slice (some ⟨wi.heap.size, 0, none⟩) 0 0) [] xs rfl (own_empty wi.drew wi.heap.size (Nat.le_refl _) 3 1) _ rfl HU.out (by simpa using HXL.out) (by simp) ?_; intro v4 w4 ho4 hg4 ha4; have ho4 : w4.ownsRow wi.heap.size 3 1 v4 xs.length (ints xs) := ho4; have hb4 : Below wi.heap.size wi w4 := (((Below.refl wi.heap.size wi).drew).alloc (Nat.le_refl _) (.cells #[] 3)).grown hg4 (by simp) (fun k hk => by cases hk; exact Nat.le_refl _); have hs4 := hb4.size; have HX6 := Lib.hid ((hb4.block _ hkb).trans HB.out.box); obtain ⟨A4, c4, rfl, -, -, -⟩ := own_form ho4; have HO4 := Lib.hid ho4; have HB4 := Lib.hid hb4; have HO6 := Lib.hid (own_kept HOWR.out fun k hk => (heap_alloc_old w4 (.cells #[.slice A4 xs.length c4] 31) (Nat.lt_of_lt_of_le (HOWR.out.lt k hk).2 hs4)).trans (hb4.block k (HOWR.out.lt k hk).2)); have hw6 : w3.heap.size + 1 ≤ (w4.alloc (.cells #[.slice A4 xs.length c4] 31)).heap.size := (by simp; omega); have s4 := (cells_of HX6.out 1).1; have s5 := (cells_of ((heap_alloc_old w4 (.cells #[.slice A4 xs.length c4] 31) (show w3.heap.size < w4.heap.size by omega)).trans HX6.out) 1).1; clear ho4 hb4 hg4 ha4))
          all_goals
            go_wp2
            have HB5 := Lib.hid (CpB.snoc HB.out (Nat.le_refl _) HB4.out HO4.out HG5.out HO5.out HA5.out)
            exact ⟨⟨r + 1, _, ps ++ [(.slice A4 xs.length c4, xs)], by omega, by go_num, HB5, by simp; exact HPL.out, Lib.hid (by rw [List.map_append, HP.out, List.take_add_one, HXS.out]; rfl)⟩, by simp [intOf]; omega⟩
        · obtain rfl : r = x.2.length := by omega
          have hal := (Below.refl wi.heap.size wi).alloc (Nat.le_refl _) (.cells #[.slice A7 x.1.length c7, .slice A5 ps.length c5] 53)
          have hBn := hBi.trans (hal.mono hBi.size)
          have HN := Lib.hid (HC.out.next hBn)
          have hov : ∀ j, (Value.slice A3 es.length c3).ownBlock = some j → j < wo.heap.size := fun j hj => (HC.out.own.lt j hj).2
          have hh1 := (own_intsS (own_below HO3.out (((HB.out.below).trans (hal.mono (Nat.le_of_lt hkb)))))).mono fun k hk => NB.new (ov := .slice A3 es.length c3) hk (show w.heap.size ≤ wo.heap.size + 1 by omega) fun j hj => by have := hov j hj; omega
          have hh2 := (HB.out.rows.below hal).slS.mono fun k hk => NB.new (B := w.heap.size) (ov := .slice A3 es.length c3) hk (show w.heap.size ≤ w3.heap.size + 1 by omega) fun j hj => by have := hov j hj; omega
          rw [HP.out, List.take_length] at hh2
          have HH1 := Lib.hid hh1
          have HH2 := Lib.hid hh2
          clear hal hBn hh1 hh2 hov hlt2
          go_wp2_with ((at_builtin); (refine wpList_appEnd rfl _ _ rfl w.heap.size _ es.length (ecells es) rfl HN.out.own wi.heap.size 1 (.slice A7 x.1.length c7) (.slice A5 ps.length c5) rfl (heap_alloc_new _ _) rfl rfl (by omega) (by have := HBI.out.size; simp; omega) ?_); (intro v9 w9 ho9 hg9 ha9); (have HO9 := Lib.hid ho9); (have HG9 := Lib.hid hg9); (have HA9 := Lib.hid ha9); (obtain ⟨A9, c9, rfl, -, -, -⟩ := own_form ho9); (clear ho9 hg9 ha9))
          have HCN := Lib.hid (HN.out.out (e := ⟨.slice A7 x.1.length c7, .slice A5 ps.length c5, x.1, x.2⟩) HH1.out HH2.out HG9.out HO9.out HA9.out (Nat.le_refl _))
          exact ⟨⟨i + 1, es ++ [⟨.slice A7 x.1.length c7, .slice A5 ps.length c5, x.1, x.2⟩], by omega, by go_num, HCN, by simp; exact HEL.out, Lib.hid (by rw [List.map_append, HE.out, HX.out]; rfl)⟩, by simp [intOf]; omega⟩
    · obtain rfl : i = l.length := by omega
      have HE2 := Lib.hid (show es.map EO.en = l by rw [HE.out, List.take_length])
      clear hlt hown
      go_wp2
      go_ret
      have h9 := HC.out.sl
      rw [HE2.out] at h9
      exact ⟨_, rfl, HC.out.below, h9⟩

end Go.Proofs.YtoffbdlgmnpblaaGreat
