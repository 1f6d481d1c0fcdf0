/- Part 35: Eo6 Eo7 Eo8. -/
import Derived.Test.YtoffbdlgmnpblaaGreatJ34
import Derived.Test.YtoffbdlgmnpblaaGreatJ20

/- EndsOwn: what holds of memory between its calls. -/
namespace Go.Proofs.YtoffbdlgmnpblaaGreat
open Go.RowKit
set_option maxHeartbeats 4000000
set_option maxRecDepth 100000

/-- numbers in the named blocks have turned, and there are new blocks -/
def TurnW (D : Nat → Prop) (w W : World) : Prop := ∃ V, Turned D w V ∧ Below w.heap.size V W
section
variable {D D' : Nat → Prop} {w W W' : World}
theorem TurnW.start (hb : Below w.heap.size w W) : TurnW D w W := ⟨w, Turned.refl _ _, hb⟩
theorem TurnW.next (h : TurnW D w W) (hb : Below w.heap.size W W') : TurnW D w W' := by
  obtain ⟨V, h1, h2⟩ := h
  exact ⟨V, h1, h2.trans hb⟩
theorem TurnW.size (h : TurnW D w W) : w.heap.size ≤ W.heap.size := by
  obtain ⟨V, h1, h2⟩ := h
  have := h2.size
  rw [h1.size] at this
  exact this
theorem TurnW.turn (h : TurnW D w W) (_hD : ∀ k, D k → k < w.heap.size) (ht : Turned D W W') : TurnW D w W' := by
  obtain ⟨V, h1, h2⟩ := h
  have hs := h2.size
  rw [h1.size] at hs
  let V' : World := { W' with heap := W'.heap.extract 0 w.heap.size }
  have hlt : ∀ b, b < w.heap.size → V'.heap[b]? = W'.heap[b]? := fun b hb => by
    show (W'.heap.extract 0 w.heap.size)[b]? = _
    rw [Array.getElem?_extract]
    simp only [Nat.sub_zero, Nat.zero_add]
    rw [if_pos (by have := ht.size; omega)]
  have hge : ∀ b, ¬ b < w.heap.size → V'.heap[b]? = w.heap[b]? := fun b hb => by
    rw [Array.getElem?_eq_none (by show (W'.heap.extract 0 w.heap.size).size ≤ b; rw [Array.size_extract]; omega), Array.getElem?_eq_none (by omega)]
  refine ⟨V', ⟨ht.os.trans (h2.os.trans h1.os), ht.tape.trans (h2.tape.trans h1.tape), ht.output.trans (h2.output.trans h1.output), by show (W'.heap.extract 0 w.heap.size).size = _; rw [Array.size_extract]; have := ht.size; omega, fun b hb => ?_, fun p => ?_, fun p => ?_⟩, ⟨rfl, rfl, rfl, by show (W'.heap.extract 0 w.heap.size).size ≤ _; rw [Array.size_extract]; omega, fun k hk => (hlt k hk).symm⟩⟩
  · by_cases h9 : b < w.heap.size
    · rw [hlt b h9, ht.out b hb, h2.block b h9, h1.out b hb]
    · exact hge b h9
  · by_cases h9 : p.block < w.heap.size
    · have e1 : V'.cell? p = W'.cell? p := World.cell?_of_block (hlt _ h9)
      have e2 : W.cell? p = V.cell? p := World.cell?_of_block (h2.block _ h9)
      rw [e1]
      rcases ht.cell p with hk | ⟨x, y, k1, k2⟩
      · rw [hk, e2]; exact h1.cell p
      · rcases h1.cell p with hh | ⟨x', y', k3, k4⟩
        · exact .inr ⟨x, y, by rw [← hh, ← e2]; exact k1, k2⟩
        · exact .inr ⟨x', y, k3, k2⟩
    · exact .inl (World.cell?_of_block (hge _ h9))
  · by_cases h9 : p.block < w.heap.size
    · have e1 : V'.frozen? p = W'.frozen? p := World.frozen?_of_block (hlt _ h9)
      have e2 : W.frozen? p = V.frozen? p := World.frozen?_of_block (h2.block _ h9)
      rw [e1, ht.frozen p, e2, h1.frozen p]
    · exact World.frozen?_of_block (hge _ h9)
theorem TurnW.block (h : TurnW D w W) {b : Nat} (hb : ¬ D b) (hl : b < w.heap.size) : W.heap[b]? = w.heap[b]? := by
  obtain ⟨V, h1, h2⟩ := h
  rw [h2.block b hl, h1.out b hb]
theorem TurnW.below (h : TurnW D w W) {B : Nat} (hD : ∀ k, D k → B ≤ k) (hB : B ≤ w.heap.size) : Below B w W := by
  obtain ⟨V, h1, h2⟩ := h
  exact (h1.below hD).trans (h2.mono hB)
theorem TurnW.soft (h : TurnW D w W) (hD : ∀ k, D k → k < w.heap.size) (hs : ∀ k, D k → Soft w k) : ∀ k, D k → Soft W k := fun k hk => by
  obtain ⟨V, h1, h2⟩ := h
  exact (h1.soft (hs k hk)).same (h2.block k (hD k hk))
theorem TurnW.firm {α : Type} {K : Kind α} (hK : K.Firm) (h : TurnW D w W) {D' : Nat → Prop} (hD : ∀ k, D' k → k < w.heap.size) {v : Value} {xs : List α} (hs : Sl K w D' v xs) : ∃ xs' : List α, Sl K W D' v xs' ∧ xs'.length = xs.length := by
  obtain ⟨V, h1, h2⟩ := h
  obtain ⟨xs', h3, h4⟩ := hs.firm hK h1
  exact ⟨xs', h3.same fun k hk => h2.block k (hD k hk), h4⟩
theorem TurnW.ints (h : TurnW D w W) {D' : Nat → Prop} (hD : ∀ k, D' k → k < w.heap.size) {v : Value} {xs : List Int} (hs : Sl (Kind.int .i64) w D' v xs) : ∃ xs' : List Int, Sl (Kind.int .i64) W D' v xs' ∧ xs'.length = xs.length := by
  obtain ⟨V, h1, h2⟩ := h
  obtain ⟨xs', h3, h4⟩ := hs.turned h1
  exact ⟨xs', h4.same fun k hk => h2.block k (hD k hk), h3⟩
theorem TurnW.rows (h : TurnW D w W) {D' : Nat → Prop} (hD : ∀ k, D' k → k < w.heap.size) {v : Value} {xss : List (List Int)} (hs : Rows2 w D' v xss) : ∃ xss' : List (List Int), Rows2 W D' v xss' ∧ xss'.length = xss.length := by
  obtain ⟨V, h1, h2⟩ := h
  obtain ⟨xs', h3, -, h4⟩ := hs.turned h1
  exact ⟨xs', h4.same fun k hk => h2.block k (hD k hk), h3⟩
theorem BoxU.turnedW {ub : Nat} {A : Option Addr} {n c : Nat} (h : BoxU ub (.slice A n c) w) (ht : TurnW D w W) : BoxU ub (.slice A n c) W := by
  obtain ⟨V, h1, h2⟩ := ht
  have h3 := h.turned h1
  exact h3.next (by rw [h1.size]; exact h2)
end

/-! ### ends are appended -/
/-- ends that are read, as cells -/
theorem en_cells {w : World} {D : Nat → Prop} {ad : Addr} {n c : Nat} {l : List Endp} (h : Sl Kind.en w D (.slice (some ad) n c) l) :
    ∃ es : List EO, es.map EO.en = l ∧ (∀ j u, (ecells es)[j]? = some u → w.cell? (ad.add j) = some u) ∧ ∀ e ∈ es, Sl (Kind.int .i64) w D e.sv e.st ∧ Rows2 w D e.kv e.ks := by
  obtain ⟨A', c', e, h1, h2, h3⟩ := h
  injection e with e1 e2 e3
  subst e1
  have hrow : ∀ i : Fin l.length, ∃ e : EO, e.en = l[i] ∧ w.cell? (ad.add (i.1 * 2)) = some e.sv ∧ w.cell? (ad.add (i.1 * 2 + 1)) = some e.kv ∧ Sl (Kind.int .i64) w D e.sv e.st ∧ Rows2 w D e.kv e.ks := fun i => by
    obtain ⟨ad', cs, e, hd, ⟨a, b, rfl, r1, r2⟩, hat⟩ := h3 i.1 l[i] (List.getElem?_eq_getElem i.2)
    injection e with e
    subst e
    have k0 := hat 0 a rfl
    have k1 := hat 1 b rfl
    rw [add_of_add] at k0 k1
    exact ⟨⟨a, b, l[i].1, l[i].2⟩, rfl, k0, k1, r1, r2⟩
  obtain ⟨f, hf⟩ : ∃ f : Fin l.length → EO, ∀ i, (f i).en = l[i] ∧ w.cell? (ad.add (i.1 * 2)) = some (f i).sv ∧ w.cell? (ad.add (i.1 * 2 + 1)) = some (f i).kv ∧ Sl (Kind.int .i64) w D (f i).sv (f i).st ∧ Rows2 w D (f i).kv (f i).ks :=
    ⟨fun i => Classical.choose (hrow i), fun i => Classical.choose_spec (hrow i)⟩
  have hat : ∀ i (hi : i < l.length), ((List.finRange l.length).map f)[i]? = some (f ⟨i, hi⟩) := fun i hi => by
    rw [List.getElem?_map, List.getElem?_eq_getElem (by simpa using hi)]
    simp
  refine ⟨(List.finRange l.length).map f, ?_, fun j u hj => ?_, fun e he => ?_⟩
  · apply List.ext_getElem (by simp)
    intro i hi1 hi2
    have hi : i < l.length := hi2
    simp only [List.getElem_map, List.getElem_finRange]
    exact (hf ⟨i, hi⟩).1
  · have hlt := (List.getElem?_eq_some_iff.1 hj).1
    rw [ecells_len, List.length_map, List.length_finRange] at hlt
    have hi : j / 2 < l.length := by omega
    obtain ⟨c0, c1⟩ := ecells_at _ _ _ (hat (j / 2) hi)
    obtain ⟨-, k0, k1, -⟩ := hf ⟨j / 2, hi⟩
    generalize f ⟨j / 2, hi⟩ = g at c0 c1 k0 k1
    simp only at k0 k1
    rcases Nat.mod_two_eq_zero_or_one j with hm | hm
    · rw [show j / 2 * 2 = j by omega] at c0 k0
      rw [hj] at c0
      injection c0 with c0
      rw [c0]; exact k0
    · rw [show j / 2 * 2 + 1 = j by omega] at c1 k1
      rw [hj] at c1
      injection c1 with c1
      rw [c1]; exact k1
  · obtain ⟨i, -, rfl⟩ := List.mem_map.1 he
    exact (hf i).2.2.2

theorem wpList_appEnds {w : World} {ops : Array Oper} {rest : List Oper} {o : Oper} {a : Act} {Q : Exit → Act → World → Prop} {D : Nat → Prop}
    (hgd : o.guard = none) (s x : Operand) (ho : o.op = .call { callee := .builtin .append, args := #[s, x], argTypes := #[66, 66] })
    (base : Nat) (v : Value) (es0 : List EO) (hs : a.eval s = v) (hown : w.ownsRow base 53 2 v es0.length (ecells es0)) (u : Value) (l : List Endp) (hx : a.eval x = u) (hu : Sl Kind.en w D u l)
    (hl : es0.length + l.length ≤ 1000000) (hbase : base ≤ w.heap.size)
    (h : ∀ v' w' (es : List EO), es.map EO.en = l → (∀ e ∈ es, Sl (Kind.int .i64) w D e.sv e.st ∧ Rows2 w D e.kv e.ks) → w'.ownsRow base 53 2 v' (es0 ++ es).length (ecells (es0 ++ es)) → w.grownBy w' v.ownBlock → (v'.ownBlock = v.ownBlock ∨ v'.ownBlock = some w.heap.size) → wpList Tryz.prog ops Q rest (a.put o.dst v') w') : wpList Tryz.prog ops Q (o :: rest) a w := by
  refine wpList_plain hgd fun _ hK => ?_
  have hi : ∃ i, Tryz.prog.info? 53 = some i ∧ i.zero = some (.agg #[.slice none 0 0, .slice none 0 0]) ∧ i.size = 2 ∧ i.bytes = 48 := by
    have hh : (Tryz.prog.info? 53).map (fun i => (i.zero, i.size, i.bytes)) = some (some (.agg #[.slice none 0 0, .slice none 0 0]), 2, 48) := by kernel_rfl
    cases h : Tryz.prog.info? 53 with
    | none => rw [h] at hh; cases hh
    | some i =>
      rw [h] at hh
      simp only [Option.map_some, Option.some.injEq, Prod.mk.injEq] at hh
      exact ⟨i, rfl, hh.1, hh.2.1, hh.2.2⟩
  obtain ⟨i, hi, hz, hsz, hby⟩ := hi
  obtain ⟨A, c, rfl, h1, h2, h3⟩ := hu.form
  rcases A with _ | ad
  · have hxs : l = [] := by
      cases l with
      | nil => rfl
      | cons b l => obtain ⟨ad, e', _⟩ := h3 (by simp); cases e'
    subst hxs
    have hr := run_append_none (P := Tryz.prog) (w := w) base 66 o.type 53 i 2 Tryz.underlying66 hi v es0.length (ecells es0) hown c
    unfold Oper.wp execOp
    simp only [List.length_nil] at hx
    simp only [ho, resolve, invoke, builtin, Sem.run_bind, Sem.run_pure, Result.andThen_ok, List.map_toArray, List.map_cons, List.map_nil, hs, hx, hr]
    exact hK _ _ (h v w [] rfl (fun e he => (List.not_mem_nil he).elim) (by rw [List.append_nil]; exact hown) (World.grownBy.refl _ _) (.inl rfl))
  · obtain ⟨es, e1, hat, hrow⟩ := en_cells hu
    have hel : es.length = l.length := by rw [← e1, List.length_map]
    obtain ⟨v', w', hr, r2, r3, _, r5⟩ := run_append_own_at (P := Tryz.prog) w base 66 o.type 53 i _ 2 48 Tryz.underlying66 hi hz hsz hby rfl (by decide) v es0.length (ecells es0) hown ad l.length c (ecells es) (by rw [ecells_len, hel]) hat (by
      intro z hz'
      unfold ecells at hz'
      obtain ⟨e, he, hz'⟩ := List.mem_flatMap.1 hz'
      obtain ⟨q1, q2⟩ := hrow e he
      obtain ⟨A1, c1, f1, -⟩ := q1
      obtain ⟨A2, c2, f2, -⟩ := q2
      simp only [List.mem_cons, List.not_mem_nil, or_false] at hz'
      rcases hz' with rfl | rfl
      · rw [f1]; rfl
      · rw [f2]; rfl) (by simp only [maxLen]; omega) (by omega) hbase
    unfold Oper.wp execOp
    simp only [ho, resolve, invoke, builtin, Sem.run_bind, Sem.run_pure, Result.andThen_ok, List.map_toArray, List.map_cons, List.map_nil, hs, hx, hr]
    exact hK _ _ (h v' w' es e1 hrow (by rw [List.length_append, hel, show ecells (es0 ++ es) = ecells es0 ++ ecells es from by simp [ecells]]; exact r2) r3 r5)

/-! ### the frame -/
/-- the arguments, and their copies, which lie below n0 -/
structure BaseE (w : World) (n0 ab : Nat) (A : Option Addr) (c : Nat) (m : List St) (u : Value) (l : List Int) (xs xk : Value) (x : Endp) (sv bv cv : Value) (W : World) : Prop where
  size : n0 ≤ W.heap.size
  below : Below w.heap.size w W
  wn : w.heap.size + 1 < n0
  box : W.heap[w.heap.size]? = some (.cells #[.slice A m.length c] 24 (0, 0))
  xbox : W.heap[w.heap.size + 1]? = some (.cells #[xs, xk] 53 (0, 0))
  abn : ab < n0
  abox : W.heap[ab]? = some (.cells #[sv] 24 (0, 0))
  M : ModelC W (· < n0) (.agg #[.slice A m.length c]) m
  L : Sl (Kind.int .i64) W (· < n0) u l
  X : Sl (Kind.int .i64) W (· < n0) xs x.1
  XK : Rows2 W (· < n0) xk x.2
  AM : ModelC W (· < n0) (.agg #[sv]) m
  BL : Sl (Kind.int .i64) W (· < n0) bv l
  CX : Sl Kind.en W (· < n0) cv [x]
section
variable {w W W' : World} {n0 ab : Nat} {A : Option Addr} {c : Nat} {m : List St} {u : Value} {l : List Int} {xs xk : Value} {x : Endp} {sv bv cv : Value}
theorem BaseE.kept (h : BaseE w n0 ab A c m u l xs xk x sv bv cv W) (hs : W.heap.size ≤ W'.heap.size) (hb : ∀ k, k < n0 → W'.heap[k]? = W.heap[k]?) (hB : Below w.heap.size w W') : BaseE w n0 ab A c m u l xs xk x sv bv cv W' :=
  ⟨Nat.le_trans h.size hs, hB, h.wn, (hb _ (by have := h.wn; omega)).trans h.box, (hb _ h.wn).trans h.xbox, h.abn, (hb _ h.abn).trans h.abox, h.M.same hb, h.L.same hb, h.X.same hb, h.XK.same hb, h.AM.same hb, h.BL.same hb, h.CX.same hb⟩
theorem BaseE.next (h : BaseE w n0 ab A c m u l xs xk x sv bv cv W) (hb : Below W.heap.size W W') : BaseE w n0 ab A c m u l xs xk x sv bv cv W' :=
  h.kept hb.size (fun k hk => hb.block k (Nat.lt_of_lt_of_le hk h.size)) (h.below.trans (hb.mono h.below.size))
theorem BaseE.cell (h : BaseE w n0 ab A c m u l xs xk x sv bv cv W) : W.cell? ⟨w.heap.size, 0, none⟩ = some (.slice A m.length c) := (cells_of h.box 0).1
theorem BaseE.xcell (h : BaseE w n0 ab A c m u l xs xk x sv bv cv W) : W.cell? ⟨w.heap.size + 1, 0, none⟩ = some xs ∧ W.cell? ⟨w.heap.size + 1, 1, none⟩ = some xk := ⟨(cells_of h.xbox 0).1, (cells_of h.xbox 1).1⟩
theorem BaseE.acell (h : BaseE w n0 ab A c m u l xs xk x sv bv cv W) : W.cell? ⟨ab, 0, none⟩ = some sv := (cells_of h.abox 0).1
theorem BaseE.lo (h : BaseE w n0 ab A c m u l xs xk x sv bv cv W) : Lo (· < n0) W := fun _ hk => Nat.lt_of_lt_of_le hk h.size
end

/-- all results -/
structure OneE (D : Nat → Prop) (m : List St) (l : List Int) (pv qv rv sv tv : Value) (W : World) : Prop where
  P : Sl Kind.en W D pv (maxOf m)
  Q : Sl Kind.en W D qv (insOf m l)
  R : Sl (Kind.int .i64) W D rv (stayOf m l)
  S : Sl Kind.st W D sv (mergeM m)
  T : Sl (Kind.int .i64) W D tv (mergeP m)
section
variable {D D' : Nat → Prop} {m : List St} {l : List Int} {pv qv rv sv tv : Value} {W W' : World}
theorem OneE.same (h : OneE D m l pv qv rv sv tv W) (hs : Same D W W') : OneE D m l pv qv rv sv tv W' := ⟨h.P.same hs, h.Q.same hs, h.R.same hs, h.S.same hs, h.T.same hs⟩
theorem OneE.mono (h : OneE D m l pv qv rv sv tv W) (hs : ∀ k, D k → D' k) : OneE D' m l pv qv rv sv tv W := ⟨h.P.mono hs, h.Q.mono hs, h.R.mono hs, h.S.mono hs, h.T.mono hs⟩
end
/-- the copies, which lie from n1 to n2 -/
structure CopE (n1 n2 kb : Nat) (m : List St) (l : List Int) (pv qv rv sv tv : Value) (W : World) : Prop where
  one : OneE (fun k => n1 ≤ k ∧ k < n2) m l pv qv rv sv tv W
  box : W.heap[kb]? = some (.cells #[sv] 24 (0, 0))
  kn : n1 ≤ kb ∧ kb < n2
  size : n2 ≤ W.heap.size
section
variable {n1 n2 kb : Nat} {m : List St} {l : List Int} {pv qv rv sv tv : Value} {W W' : World}
theorem CopE.kept (h : CopE n1 n2 kb m l pv qv rv sv tv W) (hb : ∀ k, n1 ≤ k → k < n2 → W'.heap[k]? = W.heap[k]?) (hs : W.heap.size ≤ W'.heap.size) : CopE n1 n2 kb m l pv qv rv sv tv W' :=
  ⟨h.one.same fun k hk => hb k hk.1 hk.2, (hb kb h.kn.1 h.kn.2).trans h.box, h.kn, Nat.le_trans h.size hs⟩
theorem CopE.next (h : CopE n1 n2 kb m l pv qv rv sv tv W) (hb : Below W.heap.size W W') : CopE n1 n2 kb m l pv qv rv sv tv W' :=
  h.kept (fun k _ hk => hb.block k (Nat.lt_of_lt_of_le hk h.size)) hb.size
theorem CopE.cell (h : CopE n1 n2 kb m l pv qv rv sv tv W) : W.cell? ⟨kb, 0, none⟩ = some sv := (cells_of h.box 0).1
theorem CopE.all (h : CopE n1 n2 kb m l pv qv rv sv tv W) : OneE (· < W.heap.size) m l pv qv rv sv tv W := h.one.mono fun _ hk => Nat.lt_of_lt_of_le hk.2 h.size
end

end Go.Proofs.YtoffbdlgmnpblaaGreat

/- EndsOwn: how long the results are. -/
namespace Go.Proofs.YtoffbdlgmnpblaaGreat
open Go.RowKit
set_option maxHeartbeats 4000000
set_option maxRecDepth 100000

section
open Go.Lib Go.Sort
theorem sortN_len {n : Nat} (f : Fin n → Endp) : (sortN n f).length = n := by
  unfold sortN
  split
  · rename_i h
    let hi : Inhabited (Fin n) := ⟨⟨0, h⟩⟩
    have hz := (pdq_sorts (ltOf fun i j : Fin n => hd0 (f i) - hd0 (f j)) (key_swo _) (Array.ofFn fun i : Fin n => i) 0 (Array.ofFn fun i : Fin n => i).size (Lib.bitLen (Array.ofFn fun i : Fin n => i).size) true true (Nat.zero_le _) (Nat.le_refl _) (Or.inl rfl)).1
    rw [Array.size_ofFn] at hz
    obtain ⟨h1, -⟩ := hz
    rw [List.length_map, Array.length_toList]
    exact h1.trans Array.size_ofFn
  · simp only [List.length_nil]; omega
theorem sortE_len (l : List Endp) : (sortE l).length = l.length := sortN_len _
end
theorem inside_bd {m : List St} (hf : Fine m) {l : List Int} (hl : Enp.Good m.length l) : (insideOf m l).length ≤ 40 ∧ ∀ e ∈ insideOf m l, Cpy8 e := by
  have hm := hf.len
  have h1 := Enp.runI_good (cho := staysL m) (ends_fit hf) hl
  have h2 := hl.len
  refine ⟨by unfold insideOf insideRaw; rw [sortE_len]; omega, fun e he => ?_⟩
  have h3 := sortE_mem e he
  have h4 := (h1.2 e h3).len
  have h5 := Enp.runI_cho _ e h3
  have h6 : e.2.length = e.1.length := by rw [h5]; unfold staysL; rw [List.length_map]
  refine ⟨by omega, by omega, fun ks hks => ?_⟩
  rw [h5] at hks
  obtain ⟨s, -, rfl⟩ := List.mem_map.1 hks
  have := staysOf_len hf e.1 s
  omega
theorem max_bd (m : List St) : (maxOf m).length ≤ 40 ∧ ∀ e ∈ maxOf m, Cpy8 e := by
  unfold maxOf
  split
  · rename_i hv
    exact inside_bd (Fine.of_valid hv) (all_good (validB.pos hv))
  · exact ⟨by simp, fun e he => (List.not_mem_nil he).elim⟩
theorem ins_bd (m : List St) (l : List Int) : (insOf m l).length ≤ 40 ∧ ∀ e ∈ insOf m l, Cpy8 e := by
  unfold insOf
  split
  · rename_i ha
    split
    · exact ⟨by simp, fun e he => (List.not_mem_nil he).elim⟩
    · rename_i hne
      have hv : validB m = true := by cases hv : validB m with | true => rfl | false => rw [asked_false hv] at ha; cases ha
      exact inside_bd (Fine.of_valid hv) (asked_good ha hne)
  · exact ⟨by simp, fun e he => (List.not_mem_nil he).elim⟩
theorem stay_bd (m : List St) (l : List Int) : (stayOf m l).length ≤ 40 := by
  unfold stayOf
  split
  · rename_i ha
    have h1 := stayTo_len m l.length l
    by_cases hne : l = []
    · subst hne; have h1 : (stayTo m 0 []).length ≤ 0 := h1; show (stayTo m 0 []).length ≤ 40; omega
    · have hv : validB m = true := by cases hv : validB m with | true => rfl | false => rw [asked_false hv] at ha; cases ha
      have h2 := (asked_good ha hne).len
      have h3 := (Fine.of_valid hv).len
      omega
  · simp
theorem mergeP_bd (m : List St) : (mergeP m).length ≤ 40 := by
  unfold mergeP
  split
  · rename_i h
    have hv : validB m = true := by simp at h; exact h.1
    have h1 := (plTo_ok (found_fit (Fine.of_valid hv) (validB.pos hv)) m.length (Nat.le_refl _)).len
    have h2 := (Fine.of_valid hv).len
    omega
  · simp
theorem turnBrs_len : ∀ (zs : List (Rat × Nat)) (acc r : List Br), turnBrs zs acc = some r → r.length ≤ acc.length + zs.length
  | [], acc, r, h => by simp [turnBrs] at h; subst h; omega
  | (x, t) :: zs, acc, r, h => by
    unfold turnBrs at h
    split at h
    · have := turnBrs_len zs acc r h
      simp; omega
    · split at h
      · have := turnBrs_len zs _ r h
        simp at this ⊢; omega
      · cases h
theorem sumsOf_length (pl : List Int) (brs : List Br) : (sumsOf pl brs).length = 40 := by
  unfold sumsOf
  have : ∀ (l : List Br) (xs : List Rat), (l.foldl (fun xs b => addAt xs (placeAt pl b) (ratOf b.ch)) xs).length = xs.length := by
    intro l
    induction l with
    | nil => intro xs; rfl
    | cons b l ih => intro xs; rw [List.foldl_cons, ih]; unfold addAt; rw [List.length_set]
  rw [this, List.length_replicate]
theorem turnCh_bd (x : Ch) (pl : List Int) : (turnCh x pl).brs.length ≤ 40 := by
  unfold turnCh turnedOf
  cases h : turnBrs (sumsOf pl x.brs).zipIdx [] with
  | none => simp
  | some r =>
    have := turnBrs_len _ _ _ h
    rw [List.length_zipIdx, sumsOf_length] at this
    simpa using this
theorem layCh_bd (pl : List Int) : ∀ (l : List (Ch × Bool)) (acc r : List Ch), layCh pl l acc = some r → (∀ c ∈ acc, c.brs.length ≤ 40) → ∀ c ∈ r, c.brs.length ≤ 40
  | [], acc, r, h, ha => by simp [layCh] at h; subst h; exact ha
  | (c, b) :: l, acc, r, h, ha => by
    unfold layCh at h
    split at h
    · exact layCh_bd pl l acc r h ha
    · split at h
      · refine layCh_bd pl l _ r h fun y hy => ?_
        rcases List.mem_append.1 hy with hy | hy
        · exact ha y hy
        · rw [List.mem_singleton] at hy; subst hy; exact turnCh_bd c pl
      · cases h
theorem groupSt_bd {m : List St} {pl : List Int} {g : Nat} {e : Endp} {s : St} (h : groupSt m pl g e = some s) : s.chs.length ≤ 8 ∧ ∀ c ∈ s.chs, c.brs.length ≤ 40 := by
  unfold groupSt at h
  split at h
  · cases h
  · rename_i cs hc
    have hb := layCh_bd pl _ _ _ hc fun c hc => (List.not_mem_nil hc).elim
    by_cases h0 : cs.length = 0
    · simp only [h0, if_true] at h
      rw [if_neg (by simp)] at h
      injection h with h
      subst h
      exact ⟨by simp, fun c hc => by simp at hc; subst hc; simp [loopCh]⟩
    · simp only [h0, if_false] at h
      by_cases h8 : 8 < cs.length
      · rw [if_pos h8] at h; cases h
      · rw [if_neg h8] at h
        injection h with h
        subst h
        exact ⟨Nat.le_of_not_lt h8, hb⟩
theorem mergeG_bd (m : List St) (pl : List Int) : ∀ (l : List (Endp × Nat)) (acc r : List St), mergeG m pl l acc = some r → (∀ s ∈ acc, s.chs.length ≤ 8 ∧ ∀ c ∈ s.chs, c.brs.length ≤ 40) → r.length ≤ acc.length + l.length ∧ ∀ s ∈ r, s.chs.length ≤ 8 ∧ ∀ c ∈ s.chs, c.brs.length ≤ 40
  | [], acc, r, h, ha => by simp [mergeG] at h; subst h; exact ⟨by simp, ha⟩
  | (e, g) :: l, acc, r, h, ha => by
    unfold mergeG at h
    split at h
    · cases h
    · rename_i s hs
      have := mergeG_bd m pl l _ r h fun y hy => by
        rcases List.mem_append.1 hy with hy | hy
        · exact ha y hy
        · rw [List.mem_singleton] at hy; subst hy; exact groupSt_bd hs
      exact ⟨by have := this.1; simp at this ⊢; omega, this.2⟩
theorem mergeM_bd (m : List St) : (mergeM m).length ≤ 1000000 ∧ ∀ s ∈ mergeM m, s.chs.length ≤ 1000000 ∧ ∀ c ∈ s.chs, c.brs.length ≤ 1000000 := by
  unfold mergeM
  split
  · rename_i hv
    cases h : mergeR m with
    | none => exact ⟨by simp, fun s hs => (List.not_mem_nil hs).elim⟩
    | some r =>
      unfold mergeR at h
      have h1 := mergeG_bd m _ _ _ _ h fun s hs => (List.not_mem_nil hs).elim
      have h2 := (plTo_ok (found_fit (Fine.of_valid hv) (validB.pos hv)) m.length (Nat.le_refl _)).grp
      have h3 := (Fine.of_valid hv).len
      refine ⟨by have := h1.1; simp at this ⊢; omega, fun s hs => ?_⟩
      have h4 := h1.2 s hs
      exact ⟨by omega, fun c hc => by have := h4.2 c hc; omega⟩
  · exact ⟨by simp, fun s hs => (List.not_mem_nil hs).elim⟩

end Go.Proofs.YtoffbdlgmnpblaaGreat

/- EndsOwn: what holds in a region that copies, whatever has come up. -/
namespace Go.Proofs.YtoffbdlgmnpblaaGreat
open Go.RowKit
set_option maxHeartbeats 4000000
set_option maxRecDepth 100000

/-- blocks from n on, other than the box -/
def DD (n : Nat) (bo : Option Nat) (W : World) (k : Nat) : Prop := DB n W k ∧ bo ≠ some k
def pblk : Value → Option Nat
  | .pointer (some a) => some a.block
  | _ => none
def bxOf (ib : Nat) (d : Nat → Bool) (s : Nat → Value) : Option Nat := if d ib then pblk (s ib) else none
theorem DD.same {n : Nat} {bo : Option Nat} {w w' : World} (hb : Below w.heap.size w w') : Same (DD n bo w) w w' := fun k hk => hb.block k hk.1.2.1
theorem DD.next {n : Nat} {bo : Option Nat} {w w' : World} {k : Nat} (h : DD n bo w k) (hb : Below w.heap.size w w') : DD n bo w' k := ⟨h.1.next hb, h.2⟩

/-- what operation j has left reads on in other worlds -/
def Firm8 (Φ : Nat → Value → World → (Nat → Prop) → Prop) : Prop := ∀ j v w w' D D', Φ j v w D → Same D w w' → (∀ k, D k → D' k) → Φ j v w' D'

structure Jr (n ib is iv : Nat) (w0 : World) (Φ : Nat → Value → World → (Nat → Prop) → Prop) (d : Nat → Bool) (s : Nat → Value) (w : World) : Prop where
  below : Below n w0 w
  size : n ≤ w.heap.size
  ok : ∀ j, j ≠ ib → j ≠ is → d j = true → Φ j (s j) w (DD n (bxOf ib d s) w)
  box : d ib = true → ∃ b A' n' c', s ib = .pointer (some ⟨b, 0, none⟩) ∧ n ≤ b ∧ b < w.heap.size ∧ w.heap[b]? = some (.cells #[.slice A' n' c'] 24 (0, 0)) ∧ (d is = true → s iv = .agg #[.slice A' n' c'])
  ord : d is = true → d ib = true ∧ d iv = true
section
variable {n ib is iv : Nat} {w0 w w' : World} {Φ : Nat → Value → World → (Nat → Prop) → Prop} {d : Nat → Bool} {s : Nat → Value}
theorem Jr.blk (h : Jr n ib is iv w0 Φ d s w) : ∀ b, bxOf ib d s = some b → n ≤ b ∧ b < w.heap.size := fun b hb => by
  unfold bxOf at hb
  by_cases hd : d ib = true
  · obtain ⟨b', A', n', c', e, h1, h2, -⟩ := h.box hd
    rw [if_pos hd, e] at hb
    injection hb with hb
    subst hb
    exact ⟨h1, h2⟩
  · rw [if_neg hd] at hb; cases hb
theorem bxOf_upd {j : Nat} {v : Value} (hj : j ≠ ib) : bxOf ib (updS d j true) (updS s j v) = bxOf ib d s := by
  unfold bxOf
  rw [updS_ne _ _ (Ne.symm hj), updS_ne _ _ (Ne.symm hj)]
/-- new blocks are below neither -/
theorem Jr.new (h : Jr n ib is iv w0 Φ d s w) {k : Nat} (hk : DB w.heap.size w' k) : DD n (bxOf ib d s) w' k :=
  ⟨DB.low hk h.size, fun e => by have := (h.blk k e).2; have := hk.1; omega⟩
theorem Jr.start {n : Nat} (hn : n = w0.heap.size) (hd : d ib = false) (hs : d is = false) (hok : ∀ j, j ≠ ib → j ≠ is → d j = true → Φ j (s j) w0.drew (DD n (bxOf ib d s) w0.drew)) : Jr n ib is iv w0 Φ d s w0.drew := by
  subst hn
  exact ⟨(Below.refl _ _).drew, Nat.le_refl _, hok, fun h => (by rw [hd] at h; cases h), fun h => (by rw [hs] at h; cases h)⟩
theorem Jr.step (hF : Firm8 Φ) (h : Jr n ib is iv w0 Φ d s w) {j : Nat} {v : Value} (hj : d j = false) (h1 : j ≠ ib) (h2 : j ≠ is) (hb : Below w.heap.size w w') (hv : Φ j v w' (DD n (bxOf ib d s) w')) : Jr n ib is iv w0 Φ (updS d j true) (updS s j v) w' := by
  refine ⟨h.below.trans (hb.mono h.size), Nat.le_trans h.size hb.size, fun k k1 k2 hk => ?_, fun hd => ?_, fun hd => ?_⟩
  · rw [bxOf_upd h1]
    by_cases e : k = j
    · subst e; rw [updS_at]; exact hv
    · rw [updS_ne _ _ e] at hk ⊢
      exact hF _ _ _ _ _ _ (h.ok k k1 k2 hk) (DD.same hb) fun _ hk' => DD.next hk' hb
  · rw [updS_ne _ _ (Ne.symm h1)] at hd
    obtain ⟨b, A', n', c', e1, e2, e3, e4, e5⟩ := h.box hd
    refine ⟨b, A', n', c', by rw [updS_ne _ _ (Ne.symm h1)]; exact e1, e2, Nat.lt_of_lt_of_le e3 hb.size, (hb.block b e3).trans e4, fun hs => ?_⟩
    rw [updS_ne _ _ (Ne.symm h2)] at hs
    have hiv := (h.ord hs).2
    have hne : iv ≠ j := fun e => by rw [e, hj] at hiv; cases hiv
    rw [updS_ne _ _ hne]
    exact e5 hs
  · rw [updS_ne _ _ (Ne.symm h2)] at hd
    obtain ⟨q1, q2⟩ := h.ord hd
    have hne : iv ≠ j := fun e => by rw [e, hj] at q2; cases q2
    exact ⟨by rw [updS_ne _ _ (Ne.symm h1)]; exact q1, by rw [updS_ne _ _ hne]; exact q2⟩
theorem Jr.alloc (hF : Firm8 Φ) (h : Jr n ib is iv w0 Φ d s w) (hne : ib ≠ is) (hd0 : d ib = false) :
    Jr n ib is iv w0 Φ (updS d ib true) (updS s ib (.pointer (some ⟨w.heap.size, 0, none⟩))) (w.alloc (.cells #[.slice none 0 0] 24)) := by
  have hb := (Below.refl w.heap.size w).alloc (Nat.le_refl _) (.cells #[.slice none 0 0] 24)
  have hs0 : d is = false := by cases hh : d is with | false => rfl | true => have := (h.ord hh).1; rw [hd0] at this; cases this
  refine ⟨h.below.trans (hb.mono h.size), Nat.le_trans h.size hb.size, fun k k1 k2 hk => ?_, fun _ => ⟨w.heap.size, none, 0, 0, updS_at _ _ _, h.size, by simp, heap_alloc_new _ _, fun hh => ?_⟩, fun hh => ?_⟩
  · rw [updS_ne _ _ k1] at hk ⊢
    refine hF _ _ _ _ _ _ (h.ok k k1 k2 hk) (DD.same hb) fun b hb' => ⟨hb'.1.next hb, fun e => ?_⟩
    unfold bxOf at e
    rw [updS_at, if_pos rfl, updS_at] at e
    injection e with e
    have h9 : w.heap.size = b := e
    have := hb'.1.2.1
    omega
  · rw [updS_ne _ _ (Ne.symm hne), hs0] at hh; cases hh
  · rw [updS_ne _ _ (Ne.symm hne), hs0] at hh; cases hh
theorem Jr.store (hF : Firm8 Φ) (h : Jr n ib is iv w0 Φ d s w) (hne : ib ≠ is) (hvs : iv ≠ is) (hdb : d ib = true) (hdv : d iv = true) {b : Nat} {A : Option Addr} {m c : Nat} (hp : s ib = .pointer (some ⟨b, 0, none⟩)) (hv : s iv = .agg #[.slice A m c]) (v : Value) :
    Jr n ib is iv w0 Φ (updS d is true) (updS s is v) (w.setCell ⟨b, 0, none⟩ (.slice A m c)) := by
  obtain ⟨b', A', n', c', e1, e2, e3, e4, -⟩ := h.box hdb
  rw [hp] at e1
  have eb : b = b' := by injection e1 with e1; injection e1 with e1; injection e1
  subst eb
  have hbx : bxOf ib d s = some b := by unfold bxOf; rw [if_pos hdb, hp]; rfl
  have hz : (w.setCell ⟨b, 0, none⟩ (.slice A m c)).heap.size = w.heap.size := by simp [World.setCell]
  have hother : ∀ k, k ≠ b → (w.setCell ⟨b, 0, none⟩ (.slice A m c)).heap[k]? = w.heap[k]? := fun k hk => Below.heap_setCell _ _ _ _ hk
  refine ⟨h.below.setCell (p := ⟨b, 0, none⟩) e2 _, by rw [hz]; exact h.size, fun k k1 k2 hk => ?_, fun _ => ⟨b, A, m, c, by rw [updS_ne _ _ hne]; exact hp, e2, by rw [hz]; exact e3, set_of e4 0 _, fun _ => by rw [updS_ne _ _ hvs]; exact hv⟩, fun _ => ⟨by rw [updS_ne _ _ hne]; exact hdb, by rw [updS_ne _ _ hvs]; exact hdv⟩⟩
  rw [bxOf_upd (Ne.symm hne), hbx]
  rw [updS_ne _ _ k2] at hk ⊢
  have h9 := h.ok k k1 k2 hk
  rw [hbx] at h9
  refine hF _ _ _ _ _ _ h9 (fun q hq => hother q fun e => hq.2 (by rw [e])) fun q hq => ⟨⟨hq.1.1, by rw [hz]; exact hq.1.2.1, hq.1.2.2.same (hother q fun e => hq.2 (by rw [e]))⟩, hq.2⟩
end

end Go.Proofs.YtoffbdlgmnpblaaGreat
