/- Part 25: En9 Ena. -/
import Derived.Test.YtoffbdlgmnpblaaGreatJ24
import Derived.ArgAppend
import Derived.Shelf.SlSortCmp.NoneTotal

/- Package ends: what holds of memory while the ends of a set are searched. -/
namespace Go.Proofs.YtoffbdlgmnpblaaGreat
open Go.RowKit
set_option maxHeartbeats 1000000

/-- blocks of the call's own but the one of a row that grows -/
def NB (B : Nat) (ov : Value) (W : World) (k : Nat) : Prop := DB B W k ∧ ov.ownBlock ≠ some k
section
variable {B b0 n : Nat} {ov ov' : Value} {W W' : World} {k : Nat}
theorem NB.lo : Lo (NB B ov W) W := fun _ h => h.1.2.1
theorem NB.next (h : NB B ov W k) (hb : Below W.heap.size W W') : NB B ov W' k := ⟨h.1.next hb, h.2⟩
theorem NB.same (hb : Below W.heap.size W W') : Same (NB B ov W) W W' := fun k hk => hb.block k hk.1.2.1
theorem NB.sameG (hg : W.grownBy W' ov.ownBlock) : Same (NB B ov W) W W' := fun k hk => hg.block k hk.1.2.1 fun e => hk.2 e.symm
theorem NB.grown (h : NB B ov W k) (hg : W.grownBy W' ov.ownBlock) (ha : ov'.ownBlock = ov.ownBlock ∨ ov'.ownBlock = some n) (hn : W.heap.size ≤ n) : NB B ov' W' k := by
  refine ⟨⟨h.1.1, Nat.lt_of_lt_of_le h.1.2.1 hg.size, h.1.2.2.same (hg.block k h.1.2.1 fun e => h.2 e.symm)⟩, fun e => ?_⟩
  rcases ha with ha | ha
  · exact h.2 (ha ▸ e)
  · rw [ha] at e
    injection e with e
    have := h.1.2.1
    omega
theorem NB.new (h : b0 ≤ k ∧ k < W.heap.size ∧ Soft W k) (hB : B ≤ b0) (ho : ∀ j, ov.ownBlock = some j → j < b0) : NB B ov W k :=
  ⟨⟨Nat.le_trans hB h.1, h.2.1, h.2.2⟩, fun e => by have := ho k e; have := h.1; omega⟩
end

/-- the values of a slice of rows -/
theorem Rows2.vals {W : World} {D : Nat → Prop} {A : Option Addr} {n c : Nat} {xss : List (List Int)} (h : Rows2 W D (.slice A n c) xss) :
    ∃ vs : List Value, vs.length = xss.length ∧ (∀ ad, A = some ad → ∀ j u, vs[j]? = some u → W.cell? (ad.add j) = some u) ∧ ∀ (j : Nat) (u : Value) (xs : List Int), vs[j]? = some u → xss[j]? = some xs → Sl (Kind.int .i64) W D u xs := by
  have hrow : ∀ i : Nat, ∃ u : Value, ∀ xs, xss[i]? = some xs → (∃ ad, A = some ad ∧ W.cell? (ad.add i) = some u) ∧ Sl (Kind.int .i64) W D u xs := by
    intro i
    cases hx : xss[i]? with
    | none => exact ⟨undef, fun xs h => by cases h⟩
    | some xs =>
      obtain ⟨ad, u, e, -, hc, hs⟩ := Rows2.at' h i xs hx
      exact ⟨u, fun ys hy => by injection hy with hy; subst hy; exact ⟨⟨ad, e, hc⟩, hs⟩⟩
  refine ⟨(List.range xss.length).map fun i => Classical.choose (hrow i), by simp, fun ad ea j u hu => ?_, fun j u xs hu hx => ?_⟩
  · rw [List.getElem?_map] at hu
    obtain ⟨i, hi, rfl⟩ := Option.map_eq_some_iff.1 hu
    obtain ⟨hj, rfl⟩ := List.getElem?_eq_some_iff.1 hi
    rw [List.getElem_range]
    have hj' : j < xss.length := by simpa using hj
    obtain ⟨⟨ad', e, hc⟩, -⟩ := Classical.choose_spec (hrow j) _ (List.getElem?_eq_getElem hj')
    rw [ea] at e
    injection e with e
    subst e
    exact hc
  · rw [List.getElem?_map] at hu
    obtain ⟨i, hi, rfl⟩ := Option.map_eq_some_iff.1 hu
    obtain ⟨hj, rfl⟩ := List.getElem?_eq_some_iff.1 hi
    rw [List.getElem_range]
    exact (Classical.choose_spec (hrow j) _ hx).2

/-- rows from an own row of their values -/
theorem rows_of_own {W : World} {D : Nat → Prop} {base n : Nat} {e : TypeId} {v : Value} {vs : List Value} {xss : List (List Int)} (ho : W.ownsRow base e 1 v n vs) (hD : ∀ k, v.ownBlock = some k → D k) (hl : xss.length = n)
    (h : ∀ (j : Nat) (u : Value) (xs : List Int), vs[j]? = some u → xss[j]? = some xs → Sl (Kind.int .i64) W D u xs) : Rows2 W D v xss := by
  subst hl
  have hvl : vs.length = xss.length := by have := ho.1; omega
  obtain ⟨A, c, rfl, h1, h2, h3⟩ := own_form ho
  refine ⟨A, c, rfl, h1, h2, fun i xs hx => ?_⟩
  have hi := (List.getElem?_eq_some_iff.1 hx).1
  obtain ⟨ad, e, -, -, hob, hat⟩ := h3 (by omega)
  have hu : vs[i]? = some vs[i] := List.getElem?_eq_getElem (by omega)
  refine ⟨ad, [vs[i]], e, hD _ hob, ⟨vs[i], rfl, h i _ xs hu hx⟩, fun j z hj => ?_⟩
  cases j with
  | zero =>
    simp at hj
    subst hj
    rw [add_of_add, show i * (Kind.slice (Kind.int .i64)).sz + 0 = i from by show i * 1 + 0 = i; omega]
    exact hat i _ hu
  | succ j => simp at hj

/-- the stack without its top -/
theorem Rows2.pop {W : World} {D : Nat → Prop} {A : Option Addr} {n c : Nat} {pre : List (List Int)} {x : List Int} (h : Rows2 W D (.slice A n c) (pre ++ [x])) : Rows2 W D (.slice A pre.length pre.length) pre := by
  obtain ⟨A', c', e, h1, h2, h3⟩ := h
  injection e with e1 e2 e3
  subst e1
  refine ⟨A, pre.length, rfl, Nat.le_refl _, by rw [List.length_append] at h1; omega, fun i xs hx => h3 i xs ?_⟩
  rw [List.getElem?_append_left (List.getElem?_eq_some_iff.1 hx).1]
  exact hx

/-- an append that must grow -/
theorem wpList_grow1 {P : Program} {w : World} {ops : Array Oper} {rest : List Oper} {o : Oper} {a : Act} {Q : Exit → Act → World → Prop} {t e : TypeId} {z : Value} {bytes : Nat} (E : Elem1 P t e z bytes)
    (hgd : o.guard = none) (s x : Operand) (ho : o.op = .call { callee := .builtin .append, args := #[s, x], argTypes := #[t, t] })
    (b : Addr) (n : Nat) (vs : List Value) (hs : a.eval s = .slice (some b) n n) (hl : vs.length = n) (hv : ∀ j u, vs[j]? = some u → w.cell? (b.add j) = some u)
    (ad : Addr) (k c : Nat) (us : List Value) (hx : a.eval x = .slice (some ad) k c) (hn : us.length = k) (hc : ∀ j u, us[j]? = some u → w.cell? (ad.add j) = some u) (h1 : ∀ u ∈ us, u.oneCell' = true) (hk : 0 < k)
    (hb : (n + k) * bytes ≤ 140737488355328) (hm : n + k ≤ 140737488355328)
    (h : ∀ v' w', w'.ownsRow w.heap.size e 1 v' (n + k) (vs ++ us) → w.grownBy w' none → wpList P ops Q rest (a.put o.dst v') w') : wpList P ops Q (o :: rest) a w := by
  obtain ⟨i, hi, hz, hsz, hby⟩ := E.hi
  exact wpList_append_grows w hgd s x t ho e i z 1 bytes E.ht hi hz hsz hby E.hz (by decide) (some b) n n vs hs (fun e => by cases e) (by omega) (fun b' e => by injection e with e; subst e; exact hv) ad k c us hx (by omega) hc h1 (by omega) (by simp only [maxLen]; omega) hb h

/-- append of one end -/
theorem wpList_appEnd {w : World} {ops : Array Oper} {rest : List Oper} {o : Oper} {a : Act} {Q : Exit → Act → World → Prop}
    (hgd : o.guard = none) (s x : Operand) (ho : o.op = .call { callee := .builtin .append, args := #[s, x], argTypes := #[66, 66] })
    (base : Nat) (v : Value) (n : Nat) (vs : List Value) (hs : a.eval s = v) (hown : w.ownsRow base 53 2 v n vs)
    (b c : Nat) (x0 x1 : Value) (hx : a.eval x = .slice (some ⟨b, 0, none⟩) 1 c) (hc : w.heap[b]? = some (.cells #[x0, x1] 53 (0, 0))) (h0 : x0.oneCell' = true) (h1 : x1.oneCell' = true)
    (hn : n + 1 ≤ 1000000) (hbase : base ≤ w.heap.size)
    (h : ∀ v' w', w'.ownsRow base 53 2 v' (n + 1) (vs ++ [x0, x1]) → w.grownBy w' v.ownBlock → (v'.ownBlock = v.ownBlock ∨ v'.ownBlock = some w.heap.size) → wpList Tryz.prog ops Q rest (a.put o.dst v') w') : wpList Tryz.prog ops Q (o :: rest) a w := by
  refine wpList_plain hgd fun _ hK => ?_
  have hi : ∃ i, Tryz.prog.info? 53 = some i ∧ i.zero = some (.agg #[.slice none 0 0, .slice none 0 0]) ∧ i.size = 2 ∧ i.bytes = 48 := by
    have hh : (Tryz.prog.info? 53).map (fun i => (i.zero, i.size, i.bytes)) = some (some (.agg #[.slice none 0 0, .slice none 0 0]), 2, 48) := by kernel_rfl
    cases h : Tryz.prog.info? 53 with
    | none => rw [h] at hh; cases hh
    | some i =>
      rw [h] at hh
      simp only [Option.map_some, Option.some.injEq, Prod.mk.injEq] at hh
      exact ⟨i, rfl, hh.1, hh.2.1, hh.2.2⟩
  obtain ⟨i, hi, hz, hsz, hby⟩ := hi
  have hat : ∀ j u', [x0, x1][j]? = some u' → w.cell? ((⟨b, 0, none⟩ : Addr).add j) = some u' := by
    intro j u' hj
    have e : (⟨b, 0, none⟩ : Addr).add j = ⟨b, j, none⟩ := by unfold Addr.add; split <;> simp_all
    rw [e]
    simp only [World.cell?, hc]
    simpa using hj
  obtain ⟨v', w', hr, r2, r3, _, r5⟩ := run_append_own_at (P := Tryz.prog) w base 66 o.type 53 i _ 2 48 Tryz.underlying66 hi hz hsz hby rfl (by decide) v n vs hown ⟨b, 0, none⟩ 1 c [x0, x1] rfl hat (by simp [h0, h1]) (by simp only [maxLen]; omega) (by omega) hbase
  unfold Oper.wp execOp
  simp only [ho, resolve, invoke, builtin, Sem.run_bind, Sem.run_pure, Result.andThen_ok, List.map_toArray, List.map_cons, List.map_nil, hs, hx, hr]
  exact hK _ _ (h v' w' r2 r3 r5)

/-- what holds while the ends of a set are searched -/
structure InR (mv : Value) (w : World) (B : Nat) (W : World) (ov sv : Value) (st : List (List Int)) (es : List EO) : Prop where
  below : Below w.heap.size w W
  box : W.cell? ⟨w.heap.size, 0, none⟩ = some mv
  size : w.heap.size + 1 ≤ W.heap.size
  own : W.ownsRow (w.heap.size + 1) 53 2 ov es.length (ecells es)
  stk : Rows2 W (NB B ov W) sv st
  row : ∀ e ∈ es, Sl (Kind.int .i64) W (NB B ov W) e.sv e.st ∧ Rows2 W (NB B ov W) e.kv e.ks
section
variable {mv : Value} {w : World} {B : Nat} {W W' : World} {ov ov' sv sv' : Value} {st st' : List (List Int)} {es : List EO}
theorem InR.turn (h : InR mv w B W ov sv st es) (hb : Below W.heap.size W W') (hs : Rows2 W' (NB B ov W') sv' st') : InR mv w B W' ov sv' st' es :=
  ⟨h.below.trans (hb.mono h.below.size), (hb.cell (p := ⟨w.heap.size, 0, none⟩) (Nat.lt_of_lt_of_le (Nat.lt_succ_self _) h.size)).trans h.box, Nat.le_trans h.size hb.size, own_below h.own hb, hs,
    fun e he => ⟨((h.row e he).1.same (NB.same hb)).mono fun _ hk => NB.next hk hb, ((h.row e he).2.same (NB.same hb)).mono fun _ hk => NB.next hk hb⟩⟩
theorem InR.next (h : InR mv w B W ov sv st es) (hb : Below W.heap.size W W') : InR mv w B W' ov sv st es :=
  h.turn hb ((h.stk.same (NB.same hb)).mono fun _ hk => NB.next hk hb)
theorem InR.obl (h : InR mv w B W ov sv st es) : ∀ j, ov.ownBlock = some j → j < W.heap.size := fun j hj => (h.own.lt j hj).2
/-- an end is appended -/
theorem InR.out (h : InR mv w B W ov sv st es) {e : EO} {n : Nat} (h1 : Sl (Kind.int .i64) W (NB B ov W) e.sv e.st) (h2 : Rows2 W (NB B ov W) e.kv e.ks) (hg : W.grownBy W' ov.ownBlock) (ho : W'.ownsRow (w.heap.size + 1) 53 2 ov' (es.length + 1) (ecells es ++ [e.sv, e.kv])) (ha : ov'.ownBlock = ov.ownBlock ∨ ov'.ownBlock = some n) (hn : W.heap.size ≤ n) :
    InR mv w B W' ov' sv st (es ++ [e]) := by
  have hbk : Below w.heap.size w W' := h.below.grown hg h.below.size fun k hk => by have := (h.own.lt k hk).1; omega
  have hnb : ∀ k, NB B ov W k → NB B ov' W' k := fun k hk => NB.grown hk hg ha hn
  refine ⟨hbk, ?_, Nat.le_trans h.size hg.size, by rw [ecells_snoc, List.length_append]; exact ho, (h.stk.same (NB.sameG hg)).mono hnb, fun a ha' => ?_⟩
  · rw [← h.box]
    exact World.cell?_of_block (w := W) (a := ⟨w.heap.size, 0, none⟩) (hg.block _ (Nat.lt_of_lt_of_le (Nat.lt_succ_self _) h.size) fun e => by have h9 : w.heap.size + 1 ≤ w.heap.size := (h.own.lt _ e.symm).1; omega)
  · rcases List.mem_append.1 ha' with ha' | ha'
    · exact ⟨((h.row a ha').1.same (NB.sameG hg)).mono hnb, ((h.row a ha').2.same (NB.sameG hg)).mono hnb⟩
    · rw [List.mem_singleton] at ha'
      subst ha'
      exact ⟨(h1.same (NB.sameG hg)).mono hnb, (h2.same (NB.sameG hg)).mono hnb⟩
end

end Go.Proofs.YtoffbdlgmnpblaaGreat

/- Package ends: inside. -/
namespace Go.Proofs.YtoffbdlgmnpblaaGreat
open Go.RowKit
set_option maxHeartbeats 4000000
set_option maxRecDepth 100000

/-- the maximal end components in a set -/
def insideOf (m : List St) (l : List Int) : List Endp := sortE (insideRaw m l)

theorem InR.start {mv : Value} {w : World} {B : Nat} {u : Value} {l : List Int} (hB : B ≤ w.heap.size) (hl : Sl (Kind.int .i64) w (DB B w) u l) :
    InR mv w B ((w.alloc (.cells #[mv] 24)).alloc (.cells #[u] 31)) (.slice none 0 0) (.slice (some ⟨w.heap.size + 1, 0, none⟩) 1 1) [l] [] := by
  have a1 := (Below.refl w.heap.size w).alloc (Nat.le_refl _) (.cells #[mv] 24)
  have a2 := (Below.refl (w.alloc (.cells #[mv] 24)).heap.size (w.alloc (.cells #[mv] 24))).alloc (Nat.le_refl _) (.cells #[u] 31)
  have hz : (w.alloc (.cells #[mv] 24)).heap.size = w.heap.size + 1 := by simp
  have h2 := heap_alloc_new (w.alloc (.cells #[mv] 24)) (.cells #[u] 31)
  rw [hz] at h2 a2
  have hbb := a1.trans (a2.mono (by omega))
  refine ⟨hbb, (a2.cell (p := ⟨w.heap.size, 0, none⟩) (by show w.heap.size < _; omega)).trans (cell_new1 w mv _), by simp, World.ownsRow_nil _ _ _ _, ?_, fun e he => (List.not_mem_nil he).elim⟩
  refine rows_of_block [u] [l] h2 ⟨⟨by omega, by simp, soft_of_block h2⟩, by simp [Value.ownBlock]⟩ rfl rfl (by decide) rfl (fun j a xs ha hx => ?_)
  cases j with
  | zero =>
    simp at ha hx
    subst ha hx
    exact (hl.same (DB.same hbb)).mono fun k hk => ⟨DB.next hk hbb, by simp [Value.ownBlock]⟩
  | succ j => simp at ha

theorem cell_lt {w : World} {p : Addr} {u : Value} (h : w.cell? p = some u) : p.block < w.heap.size := by
  unfold World.cell? at h
  cases hh : w.heap[p.block]? with
  | none => rw [hh] at h; cases h
  | some o => exact (Array.getElem?_eq_some_iff.1 hh).1
theorem cells_alloc {w : World} {o : Obj} {ad : Addr} {vs : List Value} (h : ∀ j u, vs[j]? = some u → w.cell? (ad.add j) = some u) : ∀ j u, vs[j]? = some u → (w.alloc o).cell? (ad.add j) = some u := fun j u hj =>
  (((Below.refl w.heap.size w).alloc (Nat.le_refl _) o).cell (cell_lt (h j u hj))).trans (h j u hj)
theorem cells_new (w : World) (x : Value) (t : TypeId) : ∀ j u, [x][j]? = some u → (w.alloc (.cells #[x] t)).cell? ((⟨w.heap.size, 0, none⟩ : Addr).add j) = some u := fun j u hj => by
  cases j with
  | zero => simp at hj; subst hj; simp [Addr.add, cell_new1 w x t]
  | succ j => simp at hj

/-- rows are pushed -/
theorem InR.push {mv : Value} {w : World} {B : Nat} {W Wa w' : World} {ov sv v' : Value} {st pre news : List (List Int)} {es : List EO} {vs us : List Value} {e : TypeId} (h : InR mv w B W ov sv st es) (hul : us.length = news.length) (hvl : vs.length = pre.length)
    (hv : ∀ (j : Nat) (u : Value) (xs : List Int), vs[j]? = some u → pre[j]? = some xs → Sl (Kind.int .i64) W (NB B ov W) u xs) (hu : ∀ (j : Nat) (u : Value) (xs : List Int), us[j]? = some u → news[j]? = some xs → Sl (Kind.int .i64) W (NB B ov W) u xs)
    (hB : B ≤ w.heap.size) (hb : Below W.heap.size W Wa) (hg : Wa.grownBy w' none) (ho : w'.ownsRow Wa.heap.size e 1 v' (pre.length + us.length) (vs ++ us)) : InR mv w B w' ov v' (pre ++ news) es := by
  have hb' : Below W.heap.size W w' := hb.grown hg hb.size fun k hk => by cases hk
  refine h.turn hb' (rows_of_own ho (fun k hk => ?_) (by rw [List.length_append, hul]) fun j u xs hj hx => ?_)
  · exact NB.new ⟨(ho.lt k hk).1, (ho.lt k hk).2, own_soft ho k hk⟩ (Nat.le_trans hB (Nat.le_trans h.below.size hb.size)) fun j hj => Nat.lt_of_lt_of_le (h.obl j hj) hb.size
  · have key : Sl (Kind.int .i64) W (NB B ov W) u xs := by
      by_cases hlt : j < pre.length
      · rw [List.getElem?_append_left (by omega)] at hj hx
        exact hv j u xs hj hx
      · rw [List.getElem?_append_right (by omega), hvl] at hj
        rw [List.getElem?_append_right (by omega)] at hx
        exact hu _ u xs hj hx
    exact (key.same (NB.same hb')).mono fun k hk => NB.next hk hb'

/-- a row of ends reads as ends -/
theorem own_en {W : World} {D : Nat → Prop} {base : Nat} {v : Value} {es : List EO} (ho : W.ownsRow base 53 2 v es.length (ecells es)) (hD : ∀ k, v.ownBlock = some k → D k) (hr : ∀ e ∈ es, Sl (Kind.int .i64) W D e.sv e.st ∧ Rows2 W D e.kv e.ks) :
    Sl Kind.en W D v (es.map EO.en) := by
  obtain ⟨A, c, rfl, h1, h2, h3⟩ := own_form ho
  refine ⟨A, c, by rw [List.length_map], by rw [List.length_map]; exact h1, h2, fun i x hx => ?_⟩
  rw [List.getElem?_map] at hx
  obtain ⟨a, ha, rfl⟩ := Option.map_eq_some_iff.1 hx
  have hlt := (List.getElem?_eq_some_iff.1 ha).1
  obtain ⟨ad, e, -, -, hob, hat⟩ := h3 (by omega)
  obtain ⟨e0, e1⟩ := ecells_at es i a ha
  obtain ⟨r1, r2⟩ := hr a (List.mem_of_getElem? ha)
  refine ⟨ad, _, e, hD _ hob, ⟨a.sv, a.kv, rfl, r1, r2⟩, fun j u hj => ?_⟩
  rw [add_of_add, show i * Kind.en.sz = i * 2 from rfl]
  match j, hj with
  | 0, hj => simp at hj; subst hj; exact hat _ _ e0
  | 1, hj => simp at hj; subst hj; exact hat _ _ e1
  | j + 2, hj => simp at hj

/-- the sorted ends -/
theorem InR.fin {mv : Value} {w : World} {B : Nat} {W W' : World} {ov sv : Value} {st : List (List Int)} {es es' : List EO} (h : InR mv w B W ov sv st es) (hg : W.grownBy W' ov.ownBlock) (ho : W'.ownsRow (w.heap.size + 1) 53 2 ov es'.length (ecells es')) (hp : es'.Perm es) (hB : B ≤ w.heap.size) :
    Sl Kind.en W' (DB B W') ov (es'.map EO.en) ∧ Below w.heap.size w W' := by
  refine ⟨own_en ho (fun k hk => DB.low (own_DB ho k hk) (by omega)) fun e he => ?_, h.below.grown hg h.below.size fun k hk => by have := (h.own.lt k hk).1; omega⟩
  obtain ⟨h1, h2⟩ := h.row e (hp.mem_iff.1 he)
  have hnb : ∀ k, NB B ov W k → DB B W' k := fun k hk => (NB.grown (ov' := ov) (n := W.heap.size) hk hg (.inl rfl) (Nat.le_refl _)).1
  exact ⟨(h1.same (NB.sameG hg)).mono hnb, (h2.same (NB.sameG hg)).mono hnb⟩
theorem inside_calls (m : List St) (l : List Int) (v u : Value) (D : Nat → Prop) (B : Nat) (w : World) (hD : Lo D w) (h : ModelC w D v m) (hf : Fine m) (hne : 0 < m.length) (hB : B ≤ w.heap.size) (hl : Sl (Kind.int .i64) w (DB B w) u l) (hg : Enp.Good m.length l) :
    Calls Tryz.prog 115 #[v, u] w fun e w' => ∃ v', e = .returned v' ∧ Sl Kind.en w' (DB B w') v' (insideOf m l) ∧ Below w.heap.size w w' := by
  obtain ⟨mv, rfl, hmm⟩ := h
  obtain ⟨A, c, rfl, h1, h2, -⟩ := hmm.form
  obtain ⟨L, d, rfl, k1, k2, -⟩ := hl.ints
  unfold maxLen at h2 k2
  have HS := Lib.hid (InR.start (mv := .slice A m.length c) hB hl)
  have HD := Lib.hid hD
  have HM := Lib.hid hmm
  have HF := Lib.hid hf
  have HG := Lib.hid hg
  have HB := Lib.hid hB
  have HIN : Hid (Enp.Inv m.length l.length ([l], ([] : List Endp))) := Lib.hid (Enp.Inv.start hg)
  have HFIT := Lib.hid (ends_fit hf)
  have hll := hg.len
  have hml := hf.len
  have HMB := Lib.hid (show m.length ≤ 1000 ∧ ∀ s ∈ m, s.chs.length ≤ 1000 from ⟨by omega, fun s hs => Nat.le_trans (hf.chs s hs) (by decide)⟩)
  clear hmm hl hD hf hg hB
  go_enter Tryz.func115, Tryz.ntmps115
  go_wp2
  go_loopg [5, 6] (Enp.mu [l]) (fun k ov sv W => ∃ (q : Nat) (st : List (List Int)) (es : List EO), Hid (k = Enp.mu st) ∧ Hid (InR (.slice A m.length c) w B W ov sv st es) ∧ Hid (Enp.stepsI (restOf m) (epartsOf m) (staysL m) q ([l], []) = (st, es.map EO.en)))
  case atStart => exact ⟨0, [l], [], rfl, HS.out, rfl⟩
  case round =>
    obtain ⟨q, st, es, HK, HR, HQ⟩ := hrel
    have hinv := (Enp.Inv.steps (cho := staysL m) HFIT.out HIN.out q).1
    rw [HQ.out] at hinv
    obtain ⟨wo, rfl⟩ : ∃ wo : World, wo = wr := ⟨_, rfl⟩
    have hel : es.length ≤ 40 := by have := hinv.len; rw [List.length_map] at this; omega
    by_cases hst : st = []
    · subst hst
      have HI := Lib.hid (Enp.runI_eq HFIT.out HG.out HQ.out)
      obtain ⟨SA, sc, rfl, -, -, -⟩ := HR.out.stk.form
      obtain ⟨OA, oc, e5, -, -, -⟩ := own_form HR.out.own
      have HLD := Lib.hid (NB.lo (B := B) (ov := u5) (W := wo))
      have hrw : ∀ e ∈ es, Enp.Good m.length e.st := fun e he => hinv.out _ (List.mem_map.2 ⟨e, he, rfl⟩)
      have HROW : Hid (∀ e ∈ es, Sl (Kind.int .i64) wo (NB B u5 wo) e.sv e.st ∧ Rows2 wo (NB B u5 wo) e.kv e.ks ∧ ∃ a, e.st[0]? = some a ∧ 0 ≤ a ∧ a ≤ 1000) := Lib.hid fun e he => by
        have hge := hrw e he
        refine ⟨(HR.out.row e he).1, (HR.out.row e he).2, e.st[0]'hge.pos, List.getElem?_eq_getElem hge.pos, ?_⟩
        have := hge.bd _ (List.getElem_mem hge.pos)
        omega
      by_cases hes : es = []
      · subst hes
        clear hrw hinv
        subst e5
        go_wp2_with ((go_at_call 148); (refine (show Calls Tryz.prog 148 _ _ _ from AnyF.slices_SortFunc_none Tryz.sortEnds OA oc (.func (.func 149) #[] #[]) wo).mono ?_); (rintro e w' ⟨rfl, rfl⟩))
        go_ret
        obtain ⟨f1, f2⟩ := InR.fin HR.out (W' := w') ⟨rfl, rfl, rfl, Nat.le_refl _, fun _ _ _ => rfl⟩ HR.out.own (List.Perm.refl _) HB.out
        exact ⟨_, rfl, by unfold insideOf insideRaw; rw [← HI.out]; exact f1, f2⟩
      · have HC := Lib.hid (SortEnds_calls u5 es wo (w.heap.size + 1) (NB B u5 wo) HLD.out (fun k hk => hk.2) HR.out.own hes (by omega) HROW.out)
        subst e5
        clear hrw hinv
        go_wp2_with ((go_at_call 148); (refine HC.out.mono ?_); (rintro e w' ⟨rfl, es', hp', hm', ho', hg'⟩); (have HP' := Lib.hid hp'); (have HM' := Lib.hid hm'); (have HO' := Lib.hid ho'); (have HG' := Lib.hid hg'); (clear hp' hm' ho' hg'))
        go_ret
        obtain ⟨f1, f2⟩ := InR.fin HR.out HG'.out HO'.out HP'.out HB.out
        exact ⟨_, rfl, by unfold insideOf insideRaw; rw [← HI.out, ← HM'.out]; exact f1, f2⟩
    · obtain ⟨pre, x, rfl⟩ := Enp.last_split hst
      have hx : Enp.Good m.length x := hinv.good x (List.mem_append_right _ (List.mem_cons_self ..))
      have hpl : pre.length ≤ 40 := by
        have h9 := Enp.st_len (pre ++ [x]) hinv.good
        have h8 : (pre ++ [x]).flatten.length + (es.map EO.en).length ≤ l.length := hinv.len
        rw [List.length_append] at h9
        omega
      have hstep := Enp.Inv.step (cho := staysL m) HFIT.out hinv
      obtain ⟨SA, sc, rfl, s1, s2, -⟩ := HR.out.stk.form
      obtain ⟨sa, xv, rfl, -, r0, hxs⟩ := Rows2.at' HR.out.stk pre.length x (by simp)
      have hle : (pre ++ [x]).length = pre.length + 1 := by simp
      rw [hle] at s1
      unfold maxLen at s2
      obtain ⟨XA, xc, rfl, x1, x2, -⟩ := hxs.ints
      unfold maxLen at x2
      have HPOP := Lib.hid (Rows2.pop HR.out.stk)
      have HX := Lib.hid hx
      have HXS := Lib.hid hxs
      have hxl := hx.len
      have hxp := hx.pos
      have HSTEP := Lib.hid hstep
      have HINV := Lib.hid hinv
      have b0 := HR.out.box
      have HLE := Lib.hid hle
      have HMo : Hid (ModelC wo (· < wo.heap.size) (.agg #[.slice A m.length c]) m) := Lib.hid ⟨_, rfl, (HM.out.same (HD.out.same HR.out.below)).mono fun k hk => Nat.lt_of_lt_of_le (HD.out k hk) HR.out.below.size⟩
      have HXo : Hid (Sl (Kind.int .i64) wo (· < wo.heap.size) (.slice XA x.length xc) x) := Lib.hid (hxs.mono fun k hk => hk.1.2.1)
      rw [hle]
      clear hst hx hxs hstep hinv hle
      go_wp2_with fail
      refine (staying_calls m x _ _ (· < wo.heap.size) wo (fun _ hk => hk) HMo.out HXo.out (by omega) HMB.out HX.out.bd).mono ?_
      rintro e w2 ⟨kv, ps, rfl, hr2, hps, hb2⟩
      obtain ⟨KA, kc, rfl, y1, y2, -⟩ := own_form hr2.own
      unfold maxLen at y2
      have HP2 := Lib.hid ((HPOP.out.same (NB.same hb2)).mono fun k hk => NB.next hk hb2)
      have HR2 := Lib.hid (HR.out.turn hb2 HP2.out)
      have hpsl : ps.length = x.length := by have h9 := congrArg List.length hps; rwa [List.length_map, List.length_map] at h9
      have HKV : Hid (Rows2 w2 (NB B u5 w2) (.slice KA ps.length kc) (staysL m x)) := Lib.hid (by
        have h9 := hr2.slS
        rw [hps] at h9
        exact h9.mono fun k hk => NB.new hk (Nat.le_trans HB.out HR.out.below.size) HR.out.obl)
      have HX2 : Hid (Sl (Kind.int .i64) w2 (NB B u5 w2) (.slice XA x.length xc) x) := Lib.hid ((HXS.out.same (NB.same hb2)).mono fun k hk => NB.next hk hb2)
      have HPSL := Lib.hid hpsl
      clear hr2 hps hb2 hpsl b0 r0 HMo HXo HPOP HXS HR HS
      go_wp2_with (refine wpList_mk1 elem_i64 rfl _ _ rfl (by intro cs h; cases h) w2.heap.size _ _ (0 : Int) (x.length : Int) rfl rfl (by omega) (by omega) (by omega) (by omega) (Nat.le_refl _) ?_; intro w3 hown3 hb3 hz3 hcells3; have HO3 := Lib.hid hown3; have HB3 := Lib.hid hb3; clear hown3 hb3 hcells3 hz3)
      go_loopw [9, 40] (fun rv k W => ∃ (i : Nat) (R : List Int), i ≤ x.length ∧ k = .int .i64 (i : Int) ∧ Hid (Below w2.heap.size w2 W) ∧ Hid (W.ownsRow w2.heap.size 3 1 rv R.length (ints R)) ∧ R.length ≤ i ∧ Hid (R = (x.take i).filter fun s => decide (0 < (staysOf m x s).length))) (fun _ k _ => x.length - (intOf k).toNat)
      case atStart => exact ⟨0, [], Nat.zero_le _, rfl, HB3.out, HO3.out, Nat.le_refl _, rfl⟩
      case round =>
        obtain ⟨i, R, hi, rfl, HBI, HO, hRi, HE⟩ := hrel
        obtain ⟨wi, rfl⟩ : ∃ wi : World, wi = wr := ⟨_, rfl⟩
        have hown := HO.out
        obtain ⟨RA, rc, rfl, z1, z2, -⟩ := own_form hown
        unfold maxLen at z2
        clear hown
        by_cases hlt : i < x.length
        · obtain ⟨s, hs⟩ : ∃ s, x[i]? = some s := ⟨_, List.getElem?_eq_getElem hlt⟩
          obtain ⟨ad, rfl, q0⟩ : ∃ ad, XA = some ad ∧ wi.cell? (ad.add i) = some (.int .i64 s) := by
            obtain ⟨A', c', e, -, -, h3⟩ := (HX2.out.same (NB.same HBI.out)).ints
            injection e with e1 e2 e3
            subst e1
            obtain ⟨ad, ea, -, hc⟩ := h3 (by omega)
            have h9 := hc i hlt
            rw [Dig.gd_of hs] at h9
            exact ⟨ad, ea, h9⟩
          obtain ⟨cks, hcks⟩ : ∃ y, (staysL m x)[i]? = some y := ⟨staysOf m x s, by unfold staysL; rw [List.getElem?_map, hs]; rfl⟩
          have hce : cks = staysOf m x s := by unfold staysL at hcks; rw [List.getElem?_map, hs] at hcks; injection hcks with h9; exact h9.symm
          obtain ⟨ae, cu, rfl, -, q1, hcu⟩ := Rows2.at' (HKV.out.same (NB.same HBI.out)) i cks hcks
          obtain ⟨CA, cc, rfl, -, -, -⟩ := hcu.ints
          have hip : i < ps.length := by have := HPSL.out; omega
          have hcl : cks.length ≤ 8 := by rw [hce]; exact staysOf_len HF.out x s
          have HN := Lib.hid (show (x.take (i + 1)).filter (fun s => decide (0 < (staysOf m x s).length)) = R ++ (if 0 < cks.length then [s] else []) by
            rw [List.take_add_one, hs, List.filter_append, ← HE.out, hce]
            by_cases h9 : 0 < (staysOf m x s).length <;> simp [h9])
          clear hs hcks hce hcu
          by_cases hp : 0 < cks.length
          · have HN2 := Lib.hid (show R ++ [s] = (x.take (i + 1)).filter (fun s => decide (0 < (staysOf m x s).length)) by rw [HN.out, if_pos hp])
            go_wp2_with ((at_builtin); (refine wpList_app1 elem_i64 rfl _ _ rfl w2.heap.size _ R.length (ints R) rfl (HO.out.alloc _) ⟨_, 0, none⟩ 1 _ rfl (cell_new1 _ _ _) rfl (by omega) (by omega) (by have h9 := HBI.out.size; simp; omega) ?_); (intro v6 w6 ho6 hg6 ha6); (have HO6 := Lib.hid ho6); (have HG6 := Lib.hid hg6); (obtain ⟨A6, c6, rfl, -, -, -⟩ := own_form ho6); (clear ho6 hg6 ha6))
            have hb6 := (HBI.out.alloc HBI.out.size (.cells #[.int .i64 s] 3)).grown HG6.out (by have h9 := HBI.out.size; simp; omega) (fun k hk => (HO.out.lt k hk).1)
            exact ⟨⟨i + 1, R ++ [s], by omega, by go_num, hb6, Lib.hid (by simpa [ints] using HO6.out), by simp; omega, HN2.out⟩, by simp [intOf]; omega⟩
          · have HN2 := Lib.hid (show R = (x.take (i + 1)).filter (fun s => decide (0 < (staysOf m x s).length)) by rw [HN.out, if_neg hp, List.append_nil])
            go_wp2
            exact ⟨⟨i + 1, R, by omega, by go_num, HBI.out, HO.out, by omega, HN2.out⟩, by simp [intOf]; omega⟩
        · obtain rfl : i = x.length := by omega
          have HE2 := Lib.hid (show R = restOf m x by unfold restOf; rw [HE.out, List.take_length])
          clear hlt HE
          have HSI := Lib.hid (show Enp.stepsI (restOf m) (epartsOf m) (staysL m) (q + 1) ([l], []) = Enp.stepI (restOf m) (epartsOf m) (staysL m) (pre ++ [x], es.map EO.en) by
            show Enp.stepI _ _ _ (Enp.stepsI _ _ _ q _) = _
            rw [HQ.out])
          have HRi := Lib.hid (HR2.out.next HBI.out)
          have HRR : Hid (Sl (Kind.int .i64) wi (NB B u5 wi) (.slice RA R.length rc) R) := Lib.hid (by
            exact (own_intsS HO.out).mono fun k hk => NB.new hk (Nat.le_trans HB.out HR2.out.below.size) HR2.out.obl)
          have HPV := Lib.hid (Rows2.vals HRi.out.stk)
          have hs := Enp.stepI_at (rest := restOf m) (parts := epartsOf m) (cho := staysL m) pre x (es.map EO.en)
          rw [← HE2.out] at hs
          by_cases hc1 : R.length < x.length
          · rw [if_pos hc1] at hs
            by_cases hc2 : 0 < R.length
            · rw [if_pos hc2] at hs
              have HST := Lib.hid hs
              obtain ⟨vs, hvl, hvc, hvr⟩ := HPV.out
              have HVC := Lib.hid hvc
              have HVR := Lib.hid hvr
              clear hs hvc hvr
              go_wp2_with ((at_builtin); (refine wpList_grow1 elem_row rfl _ _ rfl sa pre.length vs rfl hvl (cells_alloc (HVC.out sa rfl)) ⟨wi.heap.size, 0, none⟩ 1 1 [.slice RA R.length rc] rfl rfl (cells_new _ _ _) (by simp [Value.oneCell']) (by omega) (by omega) (by omega) ?_); (intro v6 w6 ho6 hg6); (have HO6 := Lib.hid ho6); (have HG6 := Lib.hid hg6); (obtain ⟨A6, c6, rfl, -, -, -⟩ := own_form ho6); (clear ho6 hg6))
              go_roundg (Enp.mu (pre ++ [R]))
              case measure =>
                have h9 : Enp.mu (pre ++ [R]) + 1 ≤ Enp.mu (pre ++ [x]) := by have h8 := HSTEP.out.2; rw [HST.out] at h8; exact h8
                rw [HK.out]; omega
              case rel =>
                exact ⟨q + 1, pre ++ [R], es, rfl, InR.push (us := [.slice RA R.length rc]) HRi.out rfl hvl HVR.out (fun j u xs hu hx => by
                  cases j with
                  | zero => simp at hu hx; subst hu hx; exact HRR.out
                  | succ j => simp at hu) HB.out ((Below.refl wi.heap.size wi).alloc (Nat.le_refl _) _) HG6.out HO6.out, Lib.hid (by rw [HSI.out, HST.out])⟩
            · rw [if_neg hc2] at hs
              have HST := Lib.hid hs
              clear hs
              go_wp2
              go_roundg (Enp.mu pre)
              case measure =>
                have h9 : Enp.mu pre + 1 ≤ Enp.mu (pre ++ [x]) := by have h8 := HSTEP.out.2; rw [HST.out] at h8; exact h8
                rw [HK.out]; omega
              case rel => exact ⟨q + 1, pre, es, rfl, HRi.out, Lib.hid (by rw [HSI.out, HST.out])⟩
          · rw [if_neg hc1] at hs
            have HS0 := Lib.hid hs
            have b0 := HRi.out.box
            have HMi : Hid (ModelC wi (· < wi.heap.size) (.agg #[.slice A m.length c]) m) := Lib.hid ⟨_, rfl, (HM.out.same (HD.out.same HRi.out.below)).mono fun k hk => Nat.lt_of_lt_of_le (HD.out k hk) HRi.out.below.size⟩
            have HXi : Hid (Sl (Kind.int .i64) wi (NB B u5 wi) (.slice XA x.length xc) x) := Lib.hid ((HX2.out.same (NB.same HBI.out)).mono fun k hk => NB.next hk HBI.out)
            have HKi : Hid (Rows2 wi (NB B u5 wi) (.slice KA ps.length kc) (staysL m x)) := Lib.hid ((HKV.out.same (NB.same HBI.out)).mono fun k hk => NB.next hk HBI.out)
            clear hs
            go_wp2_with fail
            refine (eparts_calls m x _ _ (· < wi.heap.size) wi (fun _ hk => hk) HMi.out HF.out hne (HXi.out.mono fun k hk => hk.1.2.1) HX.out).mono ?_
            rintro e w5 ⟨pv, qs, rfl, hb5, hr5, hqs⟩
            obtain ⟨PA, pc, rfl, p1, p2, p3⟩ := own_form hr5.own
            unfold maxLen at p2
            have hql : qs.length = (epartsOf m x).length := by rw [← hqs, List.length_map]
            have hqb : qs.length ≤ 40 := by rw [hql]; exact (eparts_bd HF.out x HX.out).1
            have hqp : 0 < qs.length := by rw [hql]; exact List.length_pos_iff.2 (eparts_ne HF.out HX.out)
            obtain ⟨pa, rfl, -, -, -, hpat⟩ := p3 hqp
            have HPAT := Lib.hid hpat
            have HR5 := Lib.hid (HRi.out.next hb5)
            have HX5 : Hid (Sl (Kind.int .i64) w5 (NB B u5 w5) (.slice XA x.length xc) x) := Lib.hid ((HXi.out.same (NB.same hb5)).mono fun k hk => NB.next hk hb5)
            have HK5 : Hid (Rows2 w5 (NB B u5 w5) (.slice KA ps.length kc) (staysL m x)) := Lib.hid ((HKi.out.same (NB.same hb5)).mono fun k hk => NB.next hk hb5)
            have HP5 := Lib.hid (Rows2.vals HR5.out.stk)
            have HRS := Lib.hid hr5
            have HQS := Lib.hid hqs
            have HLO5 := Lib.hid (show B ≤ wi.heap.size from Nat.le_trans HB.out HRi.out.below.size)
            have HOB5 := Lib.hid HRi.out.obl
            have HQL := Lib.hid hql
            clear hql hr5 hqs p3 hpat b0 hb5 HPV HMi HXi HKi HRi HRR HBI HO HX2 HKV HR2 HP2
            by_cases hc3 : qs.length = 1
            · have HST := Lib.hid (show Enp.stepI (restOf m) (epartsOf m) (staysL m) (pre ++ [x], es.map EO.en) = (pre, es.map EO.en ++ [(x, staysL m x)]) by rw [HS0.out, if_pos (by rw [← HQL.out]; exact hc3)])
              go_wp2_with ((at_builtin); (refine wpList_appEnd rfl _ _ rfl (w.heap.size + 1) _ es.length (ecells es) rfl (own_below HR5.out.own ((Below.refl w5.heap.size w5).alloc (Nat.le_refl _) _)) w5.heap.size 1 (.slice XA x.length xc) (.slice KA ps.length kc) rfl (heap_alloc_new _ _) rfl rfl (by omega) (by have h9 := HR5.out.size; simp; omega) ?_); (intro v6 w6 ho6 hg6 ha6); (have HO6 := Lib.hid ho6); (have HG6 := Lib.hid hg6); (have HA6 := Lib.hid ha6); (obtain ⟨A6, c6, rfl, -, -, -⟩ := own_form ho6); (clear ho6 hg6 ha6))
              go_roundg (Enp.mu pre)
              case measure =>
                have h9 : Enp.mu pre + 1 ≤ Enp.mu (pre ++ [x]) := by have h8 := HSTEP.out.2; rw [HST.out] at h8; exact h8
                rw [HK.out]; omega
              case rel =>
                have hbA := (Below.refl w5.heap.size w5).alloc (Nat.le_refl _) (.cells #[.slice XA x.length xc, .slice KA ps.length kc] 53)
                have hRA := HR5.out.next hbA
                exact ⟨q + 1, pre, es ++ [⟨.slice XA x.length xc, .slice KA ps.length kc, x, staysL m x⟩], rfl, hRA.out ((HX5.out.same (NB.same hbA)).mono fun k hk => NB.next hk hbA) ((HK5.out.same (NB.same hbA)).mono fun k hk => NB.next hk hbA) HG6.out HO6.out HA6.out (Nat.le_refl _), Lib.hid (by rw [HSI.out, HST.out, List.map_append]; rfl)⟩
            · have HST := Lib.hid (show Enp.stepI (restOf m) (epartsOf m) (staysL m) (pre ++ [x], es.map EO.en) = (pre ++ epartsOf m x, es.map EO.en) by rw [HS0.out, if_neg (by rw [← HQL.out]; exact hc3)])
              obtain ⟨vs, hvl, hvc, hvr⟩ := HP5.out
              have HVC := Lib.hid hvc
              have HVR := Lib.hid hvr
              have HONE : Hid (∀ u ∈ qs.map (·.1), u.oneCell' = true) := Lib.hid fun u hu => by
                obtain ⟨p, hp, rfl⟩ := List.mem_map.1 hu
                obtain ⟨_, _, e, -⟩ := own_form (HRS.out.row p hp).1
                rw [e]; rfl
              clear hvc hvr
              go_wp2_with ((at_builtin); (refine wpList_grow1 elem_row rfl _ _ rfl sa pre.length vs rfl hvl (HVC.out sa rfl) pa qs.length pc (qs.map (fun p : Value × List Int => p.1)) rfl (by rw [List.length_map]) HPAT.out HONE.out hqp (by omega) (by omega) ?_); (intro v6 w6 ho6 hg6); (have HO6 := Lib.hid ho6); (have HG6 := Lib.hid hg6); (obtain ⟨A6, c6, rfl, -, -, -⟩ := own_form ho6); (clear ho6 hg6))
              go_roundg (Enp.mu (pre ++ epartsOf m x))
              case measure =>
                have h9 : Enp.mu (pre ++ epartsOf m x) + 1 ≤ Enp.mu (pre ++ [x]) := by have h8 := HSTEP.out.2; rw [HST.out] at h8; exact h8
                rw [HK.out]; omega
              case rel =>
                refine ⟨q + 1, pre ++ epartsOf m x, es, rfl, InR.push (us := qs.map (·.1)) HR5.out (by rw [List.length_map, HQL.out]) hvl HVR.out (fun j u xs hu hx => ?_) HB.out (Below.refl _ _) HG6.out (by rw [List.length_map]; exact HO6.out), Lib.hid (by rw [HSI.out, HST.out])⟩
                rw [List.getElem?_map] at hu
                obtain ⟨p, hp, rfl⟩ := Option.map_eq_some_iff.1 hu
                have e9 : p.2 = xs := by
                  have h9 := hx
                  rw [← HQS.out, List.getElem?_map, hp] at h9
                  injection h9
                rw [← e9]
                exact (own_intsS (HRS.out.row p (List.mem_of_getElem? hp)).1).mono fun k hk => NB.new hk HLO5.out HOB5.out

end Go.Proofs.YtoffbdlgmnpblaaGreat
