/- Part 30: Enj Enk Enm. -/
import Derived.Test.YtoffbdlgmnpblaaGreatJ29

/- Package ends: slices.IndexFunc on ends; the closure of Merge. -/
namespace Go.Proofs.YtoffbdlgmnpblaaGreat
open Go.RowKit
set_option maxHeartbeats 4000000
set_option maxRecDepth 100000

/-- an element of a slice of ends -/
theorem Sl.en_at {w : World} {D : Nat → Prop} {A : Option Addr} {n c : Nat} {es : List Endp} (h : Sl Kind.en w D (.slice A n c) es) (i : Nat) (e : Endp) (he : es[i]? = some e) :
    ∃ ad SA sc KA kc, A = some ad ∧ D ad.block ∧ w.cell? (ad.add (i * 2)) = some (.slice SA e.1.length sc) ∧ w.cell? ⟨(ad.add (i * 2)).block, (ad.add (i * 2)).off + 1, none⟩ = some (.slice KA e.2.length kc) ∧ Sl (Kind.int .i64) w D (.slice SA e.1.length sc) e.1 ∧ Rows2 w D (.slice KA e.2.length kc) e.2 := by
  obtain ⟨A', c', ee, -, -, h3⟩ := h
  injection ee with e1 e2 e3
  subst e1
  obtain ⟨ad, cs, ea, hd, ⟨a, b, rfl, h1, h2⟩, hat⟩ := h3 i e he
  obtain ⟨SA, sc, rfl, -, -, -⟩ := h1.form
  obtain ⟨KA, kc, rfl, -, -, -⟩ := h2.form
  exact ⟨ad, SA, sc, KA, kc, ea, hd, hat 0 _ rfl, hat 1 _ rfl, h1, h2⟩

theorem IndexFuncE_calls (K : Nat) (is : Endp → Bool) (cs : Array Value) (es : List Endp) (v : Value) (D : Nat → Prop) (w : World) (eg : ∀ args w, (callFunc K args).run Tryz.prog w = .ok (.enter K args) w) (hD : Lo D w) (hl : Sl Kind.en w D v es)
    (hc : ∀ (W : World) (e : Endp) (a b : Value), Below w.heap.size w W → e ∈ es → Sl (Kind.int .i64) W D a e.1 → Calls Tryz.prog K (#[.agg #[a, b]] ++ cs) W fun r w' => r = .returned (.bool (is e)) ∧ Below W.heap.size W w') :
    Calls Tryz.prog 118 #[v, .func (.func K) #[] cs] w fun e w' => e = .returned (.int .i64 (idxI is es)) ∧ Below w.heap.size w w' := by
  obtain ⟨A, c, rfl, h1, h2, -⟩ := hl.form
  unfold maxLen at h2
  have HL := Lib.hid hl
  have HC := Lib.hid hc
  have HD := Lib.hid hD
  clear hl hc hD
  go_enter Tryz.func118, Tryz.ntmps118
  go_wp2
  go_loopw [8] (fun k W => ∃ (j : Nat), j ≤ es.length ∧ k = .int .i64 (j : Int) ∧ Below w.heap.size w W ∧ Hid (∀ y ∈ es.take j, is y = false)) (fun k _ => es.length - (intOf k).toNat)
  case atStart => exact ⟨0, Nat.zero_le _, rfl, Below.refl _ _, (by intro y hy; simp at hy : ∀ y ∈ es.take 0, is y = false)⟩
  case round =>
    obtain ⟨j, hj, rfl, hBW, HN⟩ := hrel
    by_cases hlt : j < es.length
    · obtain ⟨x, hx⟩ : ∃ x, es[j]? = some x := ⟨_, List.getElem?_eq_getElem hlt⟩
      obtain ⟨ad, SA, sc, KA, kc, rfl, -, q0, q1, hs, -⟩ := (HL.out.same (HD.out.same hBW)).en_at j x hx
      have HX := Lib.hid hx
      have HS0 := Lib.hid hs
      clear hx hs
      go_wp2_with fail
      refine (HC.out wr x _ _ hBW (List.mem_of_getElem? HX.out) HS0.out).mono ?_
      rintro e w2 ⟨rfl, hb2⟩
      have hB2 := hBW.trans (hb2.mono hBW.size)
      clear q0 q1
      cases hi : is x with
      | false =>
        have HS := Lib.hid (take_false HX.out HN.out hi)
        clear hi
        go_wp2
        exact ⟨⟨j + 1, by omega, by go_num, hB2, HS⟩, by simp [intOf]; omega⟩
      | true =>
        have HS := Lib.hid (idxI_at HX.out HN.out hi)
        clear hi
        go_wp2
        go_ret
        exact ⟨ret_int HS.out.symm, hB2⟩
    · obtain rfl : j = es.length := by omega
      have HS := Lib.hid (idxI_none (is := is) (xs := es) (by have := HN.out; rwa [List.take_length] at this))
      clear hlt
      go_wp2
      go_ret
      exact ⟨ret_int HS.out.symm, hBW⟩

theorem merge1_calls (l : List Int) (s : Int) (a b : Value) (sb : Nat) (D : Nat → Prop) (w : World) (hD : Lo D w) (hl : Sl (Kind.int .i64) w D a l) (hs : w.cell? ⟨sb, 0, none⟩ = some (.int .i64 s)) :
    Calls Tryz.prog 119 #[.agg #[a, b], .pointer (some ⟨sb, 0, none⟩)] w fun e w' => e = .returned (.bool (l.contains s)) ∧ Below w.heap.size w w' := by
  obtain ⟨A, c, rfl, -, -, -⟩ := hl.form
  have hal := (Below.refl w.heap.size w).alloc (Nat.le_refl _) (.cells #[.slice A l.length c, b] 53)
  have HL := Lib.hid (hl.same (hD.same hal))
  have c0 := (cells_of (heap_alloc_new w (.cells #[.slice A l.length c, b] 53)) 0).1
  have s0 := (hal.cell (cell_lt hs)).trans hs
  have HAL := Lib.hid hal
  clear hl hs hal hD
  go_enter Tryz.func119, Tryz.ntmps119
  go_wp2_with fail
  refine (Contains_calls l s _ D _ HL.out).mono ?_
  rintro e w2 ⟨rfl, rfl⟩
  go_wp2
  go_ret
  exact ⟨ret_bool (by simp), HAL.out⟩
theorem enter_m1 : ∀ args w, (callFunc 119 args).run Tryz.prog w = .ok (.enter 119 args) w := enter_of Tryz.func119 (by kernel_rfl) (by kernel_rfl)

end Go.Proofs.YtoffbdlgmnpblaaGreat

/- Package ends: what Merge does first: each state gets its place. -/
namespace Go.Proofs.YtoffbdlgmnpblaaGreat
open Go.RowKit
set_option maxHeartbeats 1000000

/-! ### what is meant -/
def putAll (pl : List Int) (ts : List Int) (v : Int) : List Int := ts.foldl (fun p t => p.set t.toNat v) pl
abbrev PS := List Int × List Endp
def noEnd : Endp := ([], [])
def hasS (s : Int) (e : Endp) : Bool := e.1.contains s
def plStep (l : List Endp) (p : PS) (s : Int) : PS :=
  if idxI (hasS s) l < 0 then (p.1.set s.toNat p.2.length, p.2 ++ [([s], [[]])])
  else if (l.getD (idxI (hasS s) l).toNat noEnd).1.getD 0 0 = s then (putAll p.1 (l.getD (idxI (hasS s) l).toNat noEnd).1 p.2.length, p.2 ++ [l.getD (idxI (hasS s) l).toNat noEnd])
  else p
def plTo (l : List Endp) (n : Nat) : Nat → PS
  | 0 => (List.replicate n 0, [])
  | k + 1 => plStep l (plTo l n k) (k : Int)
theorem idxI_range {α : Type} (is : α → Bool) (xs : List α) : -1 ≤ idxI is xs ∧ idxI is xs < (xs.length : Int) := by
  unfold idxI
  cases h : xs.findIdx? is with
  | none => simp only; omega
  | some j => simp only; have := (List.findIdx?_eq_some_iff_getElem.1 h).1; omega
theorem putAll_len (v : Int) : ∀ (ts pl : List Int), (putAll pl ts v).length = pl.length
  | [], _ => rfl
  | t :: ts, pl => by
    show (putAll (pl.set t.toNat v) ts v).length = _
    rw [putAll_len v ts, List.length_set]
theorem putAll_mem (v : Int) : ∀ (ts pl : List Int), ∀ y ∈ putAll pl ts v, y ∈ pl ∨ y = v
  | [], _, y, h => .inl h
  | t :: ts, pl, y, h => by
    rcases putAll_mem v ts (pl.set t.toNat v) y h with h | h
    · rcases List.mem_or_eq_of_mem_set h with h | h
      · exact .inl h
      · exact .inr h
    · exact .inr h
theorem putAll_snoc (pl : List Int) (ts : List Int) (i : Nat) (t v : Int) (h : ts[i]? = some t) : putAll pl (ts.take (i + 1)) v = (putAll pl (ts.take i) v).set t.toNat v := by
  unfold putAll
  rw [List.take_add_one, h, List.foldl_append]
  rfl
/-- what is known of the places and the groups -/
structure GOk (n k : Nat) (p : PS) : Prop where
  len : p.1.length = n
  grp : p.2.length ≤ k
  val : ∀ v ∈ p.1, 0 ≤ v ∧ (v = 0 ∨ v < (k : Int))
  ok : ∀ e ∈ p.2, Enp.Good n e.1 ∧ e.2.length = e.1.length ∧ ∀ ks ∈ e.2, ks.length ≤ 8
theorem plTo_ok {l : List Endp} {n : Nat} (hl : ∀ e ∈ l, Enp.Good n e.1 ∧ e.2.length = e.1.length ∧ ∀ ks ∈ e.2, ks.length ≤ 8) : ∀ k, k ≤ n → GOk n k (plTo l n k)
  | 0, _ => ⟨by simp [plTo], by simp [plTo], fun v hv => by have := List.eq_of_mem_replicate hv; omega, fun e he => (List.not_mem_nil he).elim⟩
  | k + 1, hk => by
    have ih := plTo_ok hl k (by omega)
    obtain ⟨h1, h2, h3, h4⟩ := ih
    unfold plTo plStep
    split
    · refine ⟨by simp [h1], by simp; omega, fun v hv => ?_, fun e he => ?_⟩
      · rcases List.mem_or_eq_of_mem_set hv with hv | hv
        · have := h3 v hv; omega
        · omega
      · rcases List.mem_append.1 he with he | he
        · exact h4 e he
        · rw [List.mem_singleton] at he
          subst he
          exact ⟨⟨by simp, by simp, fun x hx => by rw [List.mem_singleton] at hx; subst hx; omega⟩, rfl, fun ks hks => by rw [List.mem_singleton] at hks; subst hks; simp⟩
    · rename_i hn
      have hi := idxI_range (hasS (k : Int)) l
      have hmem : l.getD (idxI (hasS (k : Int)) l).toNat noEnd ∈ l := by
        rw [List.getD_eq_getElem?_getD, List.getElem?_eq_getElem (by omega)]
        exact List.getElem_mem _
      split
      · refine ⟨by simp only [putAll_len]; exact h1, by simp; omega, fun v hv => ?_, fun e he => ?_⟩
        · rcases putAll_mem _ _ _ v hv with hv | hv
          · have := h3 v hv; omega
          · omega
        · rcases List.mem_append.1 he with he | he
          · exact h4 e he
          · rw [List.mem_singleton] at he
            subst he
            exact hl _ hmem
      · exact ⟨h1, by omega, fun v hv => by have := h3 v hv; omega, h4⟩

/-! ### memory -/
/-- blocks of the call's own but two that turn -/
def ND (w : World) (pb : Nat) (gv : Value) (W : World) (k : Nat) : Prop := DB (w.heap.size + 2) W k ∧ k ≠ pb ∧ gv.ownBlock ≠ some k
section
variable {w W W' : World} {pb n : Nat} {gv gv' : Value} {k : Nat}
theorem ND.lo : Lo (ND w pb gv W) W := fun _ h => h.1.2.1
theorem ND.next (h : ND w pb gv W k) (hb : Below W.heap.size W W') : ND w pb gv W' k := ⟨h.1.next hb, h.2⟩
theorem ND.same (hb : Below W.heap.size W W') : Same (ND w pb gv W) W W' := fun k hk => hb.block k hk.1.2.1
theorem ND.sameG (hg : W.grownBy W' gv.ownBlock) : Same (ND w pb gv W) W W' := fun k hk => hg.block k hk.1.2.1 fun e => hk.2.2 e.symm
theorem ND.grown (h : ND w pb gv W k) (hg : W.grownBy W' gv.ownBlock) (ha : gv'.ownBlock = gv.ownBlock ∨ gv'.ownBlock = some n) (hn : W.heap.size ≤ n) : ND w pb gv' W' k := by
  refine ⟨⟨h.1.1, Nat.lt_of_lt_of_le h.1.2.1 hg.size, h.1.2.2.same (hg.block k h.1.2.1 fun e => h.2.2 e.symm)⟩, h.2.1, fun e => ?_⟩
  rcases ha with ha | ha
  · exact h.2.2 (ha ▸ e)
  · rw [ha] at e
    injection e with e
    have := h.1.2.1
    omega
theorem ND.samePut (t : Nat) (v : Value) : Same (ND w pb gv W) W (W.setCell ⟨pb, t, none⟩ v) := fun _ hk => Below.heap_setCell _ _ _ _ hk.2.1
theorem ND.put (h : ND w pb gv W k) (t : Nat) (v : Value) : ND w pb gv (W.setCell ⟨pb, t, none⟩ v) k :=
  ⟨⟨h.1.1, by simpa [World.setCell] using h.1.2.1, h.1.2.2.same (ND.samePut (w := w) (gv := gv) t v k h)⟩, h.2⟩
end

/-- what holds while the states get their places -/
structure MgA (mv : Value) (l : List Endp) (ev : Value) (w : World) (pb : Nat) (W : World) (gv : Value) (es : List EO) (pl : List Int) : Prop where
  below : Below w.heap.size w W
  bm : W.heap[w.heap.size]? = some (.cells #[mv] 24 (0, 0))
  br : W.heap[w.heap.size + 1]? = some (.cells #[.slice none 0 0] 24 (0, 0))
  place : W.heap[pb]? = some (.cells (ints pl).toArray 3 (0, 0))
  pbn : w.heap.size + 2 ≤ pb
  own : W.ownsRow (pb + 1) 53 2 gv es.length (ecells es)
  row : ∀ e ∈ es, Sl (Kind.int .i64) W (ND w pb gv W) e.sv e.st ∧ Rows2 W (ND w pb gv W) e.kv e.ks
  ends : Sl Kind.en W (ND w pb gv W) ev l
section
variable {mv ev : Value} {l : List Endp} {w : World} {pb : Nat} {W W' : World} {gv gv' : Value} {es : List EO} {pl : List Int}
theorem MgA.pblt (h : MgA mv l ev w pb W gv es pl) : pb < W.heap.size := (Array.getElem?_eq_some_iff.1 h.place).1
theorem MgA.next (h : MgA mv l ev w pb W gv es pl) (hb : Below W.heap.size W W') : MgA mv l ev w pb W' gv es pl := by
  have hp := h.pblt
  have hn := h.pbn
  exact ⟨h.below.trans (hb.mono h.below.size), (hb.block _ (by omega)).trans h.bm, (hb.block _ (by omega)).trans h.br, (hb.block _ hp).trans h.place, hn, own_below h.own hb,
    fun e he => ⟨((h.row e he).1.same (ND.same hb)).mono fun _ hk => ND.next hk hb, ((h.row e he).2.same (ND.same hb)).mono fun _ hk => ND.next hk hb⟩, (h.ends.same (ND.same hb)).mono fun _ hk => ND.next hk hb⟩
theorem MgA.put (h : MgA mv l ev w pb W gv es pl) (t : Nat) (v : Int) : MgA mv l ev w pb (W.setCell ⟨pb, t, none⟩ (.int .i64 v)) gv es (pl.set t v) := by
  have hn := h.pbn
  have hF : ∀ k, k ≠ pb → (W.setCell ⟨pb, t, none⟩ (.int .i64 v)).heap[k]? = W.heap[k]? := fun k hk => Below.heap_setCell _ _ _ _ hk
  refine ⟨h.below.setCell (p := ⟨pb, t, none⟩) (by show w.heap.size ≤ pb; omega) _, (hF _ (by omega)).trans h.bm, (hF _ (by omega)).trans h.br, ?_, hn, own_kept h.own fun k hk => hF k (by have := (h.own.lt k hk).1; omega),
    fun e he => ⟨((h.row e he).1.same (ND.samePut t _)).mono fun _ hk => ND.put hk t _, ((h.row e he).2.same (ND.samePut t _)).mono fun _ hk => ND.put hk t _⟩, (h.ends.same (ND.samePut t _)).mono fun _ hk => ND.put hk t _⟩
  rw [set_of h.place t (.int .i64 v), ← ints_set]
  simp
theorem MgA.add (h : MgA mv l ev w pb W gv es pl) {e : EO} {n : Nat} (h1 : Sl (Kind.int .i64) W (ND w pb gv W) e.sv e.st) (h2 : Rows2 W (ND w pb gv W) e.kv e.ks) (hg : W.grownBy W' gv.ownBlock)
    (ho : W'.ownsRow (pb + 1) 53 2 gv' (es.length + 1) (ecells es ++ [e.sv, e.kv])) (ha : gv'.ownBlock = gv.ownBlock ∨ gv'.ownBlock = some n) (hn : W.heap.size ≤ n) : MgA mv l ev w pb W' gv' (es ++ [e]) pl := by
  have hp := h.pblt
  have hpn := h.pbn
  have hne : ∀ k, k ≤ pb → some k ≠ gv.ownBlock := fun k hk e => by have := (h.own.lt k e.symm).1; omega
  have hnd : ∀ k, ND w pb gv W k → ND w pb gv' W' k := fun k hk => ND.grown hk hg ha hn
  refine ⟨h.below.grown hg h.below.size fun k hk => by have := (h.own.lt k hk).1; omega, (hg.block _ (by omega) (hne _ (by omega))).trans h.bm, (hg.block _ (by omega) (hne _ (by omega))).trans h.br, (hg.block _ hp (hne _ (Nat.le_refl _))).trans h.place, hpn,
    by rw [ecells_snoc, List.length_append]; exact ho, fun a ha' => ?_, (h.ends.same (ND.sameG hg)).mono hnd⟩
  rcases List.mem_append.1 ha' with ha' | ha'
  · exact ⟨((h.row a ha').1.same (ND.sameG hg)).mono hnd, ((h.row a ha').2.same (ND.sameG hg)).mono hnd⟩
  · rw [List.mem_singleton] at ha'
    subst ha'
    exact ⟨(h1.same (ND.sameG hg)).mono hnd, (h2.same (ND.sameG hg)).mono hnd⟩
/-- a new block of the call's own -/
theorem MgA.fresh (h : MgA mv l ev w pb W gv es pl) {k : Nat} (hk : W.heap.size ≤ k) (hk2 : k < W'.heap.size) (hs : Soft W' k) : ND w pb gv W' k := by
  have hp := h.pblt
  have hpn := h.pbn
  exact ⟨⟨by omega, hk2, hs⟩, by omega, fun e => by have := (h.own.lt k e).2; omega⟩
end

end Go.Proofs.YtoffbdlgmnpblaaGreat

/- Package ends: what Merge does then: each group becomes a state. -/
namespace Go.Proofs.YtoffbdlgmnpblaaGreat
open Go.RowKit
set_option maxHeartbeats 1000000

/-! ### what is meant -/
def itemsS (m : List St) (p : Int × List Int) : List (Ch × Bool) := (chsOf m p.1).zipIdx.map fun q => (q.1, p.2.contains (q.2 : Int))
def itemsZ (m : List St) (z : List (Int × List Int)) : List (Ch × Bool) := z.flatMap (itemsS m)
def layCh (pl : List Int) : List (Ch × Bool) → List Ch → Option (List Ch)
  | [], acc => some acc
  | (c, b) :: r, acc => if b then layCh pl r acc else if (turnedOf c pl).isSome then layCh pl r (acc ++ [turnCh c pl]) else none
def loopCh (g : Nat) : Ch := ⟨⟨0, 1⟩, [⟨(g : Int), ⟨1, 1⟩⟩]⟩
def stAt (m : List St) (s : Int) : St := m.getD s.toNat ⟨0, 0, []⟩
def groupSt (m : List St) (pl : List Int) (g : Nat) (e : Endp) : Option St :=
  match layCh pl (itemsZ m (e.1.zip e.2)) [] with
  | none => none
  | some cs => if 8 < (if cs.length = 0 then [loopCh g] else cs).length then none else some ⟨(stAt m (e.1.getD 0 0)).owner, (stAt m (e.1.getD 0 0)).mark, if cs.length = 0 then [loopCh g] else cs⟩
def mergeG (m : List St) (pl : List Int) : List (Endp × Nat) → List St → Option (List St)
  | [], acc => some acc
  | (e, g) :: r, acc => match groupSt m pl g e with
    | none => none
    | some s => mergeG m pl r (acc ++ [s])
def mergeR (m : List St) : Option (List St) := mergeG m (plTo (foundOf m) m.length m.length).1 (plTo (foundOf m) m.length m.length).2.zipIdx []
/-- the merged model, the places, the error -/
def mergeM (m : List St) : List St := if validB m then (mergeR m).getD [] else []
def mergeP (m : List St) : List Int := if validB m && (mergeR m).isSome then (plTo (foundOf m) m.length m.length).1 else []
def mergeE (m : List St) : Int := if validB m then (if (mergeR m).isSome then 0 else 3) else 1
theorem layCh_step (pl : List Int) (l : List (Ch × Bool)) (k : Nat) (c : Ch) (b : Bool) (r : List (Ch × Bool)) (acc : List Ch) (h : l[k]? = some (c, b)) :
    layCh pl (l.drop k ++ r) acc = if b then layCh pl (l.drop (k + 1) ++ r) acc else if (turnedOf c pl).isSome then layCh pl (l.drop (k + 1) ++ r) (acc ++ [turnCh c pl]) else none := by
  obtain ⟨hlt, e⟩ := List.getElem?_eq_some_iff.1 h
  rw [List.drop_eq_getElem_cons hlt, e, List.cons_append]
  rfl
theorem itemsZ_step (m : List St) (z : List (Int × List Int)) (i : Nat) (p : Int × List Int) (h : z[i]? = some p) : itemsZ m (z.drop i) = itemsS m p ++ itemsZ m (z.drop (i + 1)) := by
  obtain ⟨hlt, e⟩ := List.getElem?_eq_some_iff.1 h
  unfold itemsZ
  rw [List.drop_eq_getElem_cons hlt, e, List.flatMap_cons]
theorem itemsS_at (m : List St) (p : Int × List Int) (k : Nat) (c : Ch) (h : (chsOf m p.1)[k]? = some c) : (itemsS m p)[k]? = some (c, p.2.contains (k : Int)) := by
  unfold itemsS
  rw [List.getElem?_map, List.getElem?_zipIdx, h]
  simp
theorem itemsS_len (m : List St) (p : Int × List Int) : (itemsS m p).length = (chsOf m p.1).length := by unfold itemsS; simp
theorem mergeG_step (m : List St) (pl : List Int) (l : List (Endp × Nat)) (k : Nat) (e : Endp) (g : Nat) (acc : List St) (h : l[k]? = some (e, g)) :
    mergeG m pl (l.drop k) acc = match groupSt m pl g e with | none => none | some s => mergeG m pl (l.drop (k + 1)) (acc ++ [s]) := by
  obtain ⟨hlt, ee⟩ := List.getElem?_eq_some_iff.1 h
  rw [List.drop_eq_getElem_cons hlt, ee]
  rfl

/-! ### memory -/
def nilC : Cmp := ⟨none, fun _ => True, fun _ h => h⟩
/-- a state in the making, and the model in the making; all blocks from B on -/
abbrev MRow (B : Nat) (W : World) (ob xb : Nat) (o m : Int) (xv : Value) (cs : List CO) (sx : Cmp) (sv : Value) (ss : List SO) : Prop :=
  Sep B W (boxC xb #[.int .i64 o, .int .i64 m, xv] 79 :: chRow B ⟨xv, o, m, cs⟩ :: (cs.map (brRow B) ++ (sx :: boxC ob #[sv] 24 :: nilC :: stRow B sv ss :: stParts B ss)))
abbrev MOut (B : Nat) (W : World) (ob : Nat) (sv : Value) (ss : List SO) : Prop :=
  Sep B W (boxC ob #[sv] 24 :: nilC :: stRow B sv ss :: stParts B ss)
theorem MOut.start (w : World) : MOut w.heap.size (w.alloc (.cells #[.slice none 0 0] 24)) w.heap.size (.slice none 0 0) [] := by
  have h0 : Sep w.heap.size w [stRow w.heap.size (.slice none 0 0) []] := (Sep.nil _ _).add (c := stRow w.heap.size (.slice none 0 0) []) (Below.refl _ _) (World.ownsRow_nil _ _ _ _) (fun k hk => by cases hk) (Nat.le_refl _)
  have h1 := h0.add (c := nilC) (Below.refl _ _) trivial (fun k hk => by cases hk) (Nat.le_refl _)
  exact h1.add (c := boxC w.heap.size #[.slice none 0 0] 24) ((Below.refl _ _).alloc (Nat.le_refl _) (.cells #[.slice none 0 0] 24)) (heap_alloc_new _ _) (fun k hk => by cases hk; simp) (Nat.le_refl _)
/-- a group's box and a state are opened -/
theorem MOut.open {B : Nat} {W W2 W3 : World} {ob eb xb : Nat} {sv : Value} {ss : List SO} (h : MOut B W ob sv ss) (hB : B ≤ W.heap.size) (o m : Int) (a b : Value)
    (hb2 : Below W.heap.size W W2) (he : W2.heap[eb]? = some (.cells #[a, b] 53 (0, 0))) (hel : W.heap.size ≤ eb) (hb3 : Below W2.heap.size W2 W3) (hx : W3.heap[xb]? = some (.cells #[.int .i64 o, .int .i64 m, .slice none 0 0] 79 (0, 0))) (hxl : W2.heap.size ≤ xb) :
    MRow B W3 ob xb o m (.slice none 0 0) [] (boxC eb #[a, b] 53) sv ss := by
  have hz2 := hb2.size
  have h1 := Sep.add h (c := boxC eb #[a, b] 53) hb2 he (fun k hk => by cases hk; exact ⟨hel, (Array.getElem?_eq_some_iff.1 he).1⟩) hB
  have h2 := h1.add (c := chRow B ⟨.slice none 0 0, o, m, []⟩) (Below.refl _ _) (World.ownsRow_nil _ _ _ _) (fun k hk => by cases hk) (by omega)
  exact h2.add (c := boxC xb #[.int .i64 o, .int .i64 m, .slice none 0 0] 79) hb3 hx (fun k hk => by cases hk; exact ⟨hxl, (Array.getElem?_eq_some_iff.1 hx).1⟩) (by omega)
section
variable {B : Nat} {W : World} {ob xb eb : Nat} {o m : Int} {xv sv : Value} {cs : List CO} {a b : Value} {ss : List SO}
theorem m_x (h : MRow B W ob xb o m xv cs (boxC eb #[a, b] 53) sv ss) : W.heap[xb]? = some (.cells #[.int .i64 o, .int .i64 m, xv] 79 (0, 0)) := h.get (List.mem_cons_self ..)
theorem m_ch (h : MRow B W ob xb o m xv cs (boxC eb #[a, b] 53) sv ss) : W.ownsRow B 97 3 xv cs.length (ccells cs) := h.get (c := chRow B ⟨xv, o, m, cs⟩) (List.mem_cons_of_mem _ (List.mem_cons_self ..))
theorem m_e (h : MRow B W ob xb o m xv cs (boxC eb #[a, b] 53) sv ss) : W.heap[eb]? = some (.cells #[a, b] 53 (0, 0)) := h.get (c := boxC eb #[a, b] 53) (List.mem_cons_of_mem _ (List.mem_cons_of_mem _ (List.mem_append_right _ (List.mem_cons_self ..))))
theorem m_ob (h : MRow B W ob xb o m xv cs (boxC eb #[a, b] 53) sv ss) : W.heap[ob]? = some (.cells #[sv] 24 (0, 0)) := h.get (c := boxC ob #[sv] 24) (List.mem_cons_of_mem _ (List.mem_cons_of_mem _ (List.mem_append_right _ (List.mem_cons_of_mem _ (List.mem_cons_self ..)))))
theorem m_st (h : MRow B W ob xb o m xv cs (boxC eb #[a, b] 53) sv ss) : W.ownsRow B 79 3 sv ss.length (scells ss) := h.get (c := stRow B sv ss) (List.mem_cons_of_mem _ (List.mem_cons_of_mem _ (List.mem_append_right _ (List.mem_cons_of_mem _ (List.mem_cons_of_mem _ (List.mem_cons_of_mem _ (List.mem_cons_self ..)))))))
theorem m_lt (h : MRow B W ob xb o m xv cs (boxC eb #[a, b] 53) sv ss) : B ≤ ob ∧ ob < W.heap.size ∧ B ≤ xb ∧ xb < W.heap.size ∧ B ≤ eb ∧ eb < W.heap.size ∧ eb ≠ xb ∧ (∀ k, xv.ownBlock = some k → B ≤ k ∧ k ≠ xb ∧ k ≠ ob ∧ k ≠ eb) ∧ (∀ k, sv.ownBlock = some k → B ≤ k ∧ k ≠ xb ∧ k ≠ ob) := by
  have mo : boxC ob #[sv] 24 ∈ (boxC xb #[.int .i64 o, .int .i64 m, xv] 79 :: chRow B ⟨xv, o, m, cs⟩ :: (cs.map (brRow B) ++ (boxC eb #[a, b] 53 :: boxC ob #[sv] 24 :: nilC :: stRow B sv ss :: stParts B ss))) := List.mem_cons_of_mem _ (List.mem_cons_of_mem _ (List.mem_append_right _ (List.mem_cons_of_mem _ (List.mem_cons_self ..))))
  have me : boxC eb #[a, b] 53 ∈ (boxC xb #[.int .i64 o, .int .i64 m, xv] 79 :: chRow B ⟨xv, o, m, cs⟩ :: (cs.map (brRow B) ++ (boxC eb #[a, b] 53 :: boxC ob #[sv] 24 :: nilC :: stRow B sv ss :: stParts B ss))) := List.mem_cons_of_mem _ (List.mem_cons_of_mem _ (List.mem_append_right _ (List.mem_cons_self ..)))
  have ms : stRow B sv ss ∈ (boxC xb #[.int .i64 o, .int .i64 m, xv] 79 :: chRow B ⟨xv, o, m, cs⟩ :: (cs.map (brRow B) ++ (boxC eb #[a, b] 53 :: boxC ob #[sv] 24 :: nilC :: stRow B sv ss :: stParts B ss))) := List.mem_cons_of_mem _ (List.mem_cons_of_mem _ (List.mem_append_right _ (List.mem_cons_of_mem _ (List.mem_cons_of_mem _ (List.mem_cons_of_mem _ (List.mem_cons_self ..))))))
  have h1 := Sep.lt h mo (k := ob) rfl
  have h2 := Sep.lt h (List.mem_cons_self ..) (k := xb) rfl
  have h3 := Sep.lt h me (k := eb) rfl
  obtain ⟨a1, ap2⟩ := List.pairwise_cons.1 h.apart
  obtain ⟨a2, ap3⟩ := List.pairwise_cons.1 ap2
  have ap4 := (List.pairwise_append.1 ap3).2.1
  obtain ⟨-, ap5⟩ := List.pairwise_cons.1 ap4
  obtain ⟨a5, -⟩ := List.pairwise_cons.1 ap5
  refine ⟨h1.1, h1.2, h2.1, h2.2, h3.1, h3.2, fun e => ?_, fun k hk => ⟨(h.lt (c := chRow B ⟨xv, o, m, cs⟩) (List.mem_cons_of_mem _ (List.mem_cons_self ..)) hk).1, fun e => ?_, fun e => ?_, fun e => ?_⟩, fun k hk => ⟨(h.lt ms hk).1, fun e => ?_, fun e => ?_⟩⟩
  · subst e; exact a1 (boxC eb #[a, b] 53) (List.mem_cons_of_mem _ (List.mem_append_right _ (List.mem_cons_self ..))) eb rfl rfl
  · subst e; exact a1 (chRow B ⟨xv, o, m, cs⟩) (List.mem_cons_self ..) k rfl hk
  · subst e; exact a2 (boxC k #[sv] 24) (List.mem_append_right _ (List.mem_cons_of_mem _ (List.mem_cons_self ..))) k hk rfl
  · subst e; exact a2 (boxC k #[a, b] 53) (List.mem_append_right _ (List.mem_cons_self ..)) k hk rfl
  · subst e; exact a1 (stRow B sv ss) (List.mem_cons_of_mem _ (List.mem_append_right _ (List.mem_cons_of_mem _ (List.mem_cons_of_mem _ (List.mem_cons_of_mem _ (List.mem_cons_self ..)))))) k rfl hk
  · subst e; exact a5 (stRow B sv ss) (List.mem_cons_of_mem _ (List.mem_cons_self ..)) k rfl hk
end
/-- the only choice of a group that has none: it returns -/
theorem MRow.loop {B : Nat} {W : World} {ob xb : Nat} {o m : Int} {sx : Cmp} {sv : Value} {ss : List SO} {ca : Option Addr} {cc : Nat} (hB : B ≤ W.heap.size) (g : Nat)
    (h : MRow B W ob xb o m (.slice ca 0 cc) [] sx sv ss) :
    MRow B (((W.alloc (.cells #[.int .i64 (g : Int), .int .i64 1, .int .i64 1] 103)).alloc (.cells #[.int .i64 0, .int .i64 1, .slice (some ⟨W.heap.size, 0, none⟩) 1 1] 97)).setCell ⟨xb, 2, none⟩ (.slice (some ⟨W.heap.size + 1, 0, none⟩) 1 1)) ob xb o m
      (.slice (some ⟨W.heap.size + 1, 0, none⟩) 1 1) [(⟨.slice (some ⟨W.heap.size, 0, none⟩) 1 1, ⟨0, 1⟩, [⟨(g : Int), ⟨1, 1⟩⟩]⟩ : CO)] sx sv ss := by
  have h0 : Sep B W (boxC xb #[.int .i64 o, .int .i64 m, .slice ca 0 cc] 79 :: (sx :: boxC ob #[sv] 24 :: nilC :: stRow B sv ss :: stParts B ss)) := h.sub ((List.sublist_cons_self _ _).cons_cons _)
  have e1 := heap_alloc_new W (.cells #[.int .i64 (g : Int), .int .i64 1, .int .i64 1] 103)
  have e2 := heap_alloc_new (W.alloc (.cells #[.int .i64 (g : Int), .int .i64 1, .int .i64 1] 103)) (.cells #[.int .i64 0, .int .i64 1, .slice (some ⟨W.heap.size, 0, none⟩) 1 1] 97)
  rw [World.size_alloc] at e2
  have h1 := h0.add (c := brRow B (⟨.slice (some ⟨W.heap.size, 0, none⟩) 1 1, ⟨0, 1⟩, [⟨(g : Int), ⟨1, 1⟩⟩]⟩ : CO)) ((Below.refl _ W).alloc (Nat.le_refl _) (.cells #[.int .i64 (g : Int), .int .i64 1, .int .i64 1] 103))
    ⟨rfl, .inr ⟨W.heap.size, 1, _, rfl, hB, e1, Nat.le_refl _, by decide, rfl, rfl⟩⟩ (fun k hk => by cases hk; simp) hB
  have h2 := h1.add (c := chRow B ⟨.slice (some ⟨W.heap.size + 1, 0, none⟩) 1 1, o, m, [(⟨.slice (some ⟨W.heap.size, 0, none⟩) 1 1, ⟨0, 1⟩, [⟨(g : Int), ⟨1, 1⟩⟩]⟩ : CO)]⟩) ((Below.refl _ _).alloc (Nat.le_refl _) (.cells #[.int .i64 0, .int .i64 1, .slice (some ⟨W.heap.size, 0, none⟩) 1 1] 97))
    ⟨rfl, .inr ⟨W.heap.size + 1, 1, _, rfl, by omega, e2, Nat.le_refl _, by decide, rfl, rfl⟩⟩ (fun k hk => by cases hk; simp) (by simp; omega)
  have h3 := h2.perm (List.perm_middle (l₁ := [chRow B ⟨.slice (some ⟨W.heap.size + 1, 0, none⟩) 1 1, o, m, [(⟨.slice (some ⟨W.heap.size, 0, none⟩) 1 1, ⟨0, 1⟩, [⟨(g : Int), ⟨1, 1⟩⟩]⟩ : CO)]⟩, brRow B (⟨.slice (some ⟨W.heap.size, 0, none⟩) 1 1, ⟨0, 1⟩, [⟨(g : Int), ⟨1, 1⟩⟩]⟩ : CO)]))
  have hbx := h3.get (List.mem_cons_self ..)
  exact h3.upd (c' := boxC xb #[.int .i64 o, .int .i64 m, .slice (some ⟨W.heap.size + 1, 0, none⟩) 1 1] 79) (grown_set _ xb 2 _) (set_of hbx 2 _) (.inl rfl) (by simp; omega)

theorem MRow.loop2 {B : Nat} {W : World} {ob xb : Nat} {o m : Int} {sx : Cmp} {sv : Value} {ss : List SO} {ca : Option Addr} {cc : Nat} (hB : B ≤ W.heap.size) (g : Nat) (hx : xb < W.heap.size)
    (h : MRow B W ob xb o m (.slice ca 0 cc) [] sx sv ss) :
    MRow B (((W.setCell ⟨xb, 2, none⟩ (.slice (some ⟨W.heap.size + 1, 0, none⟩) 1 1)).alloc (.cells #[.int .i64 (g : Int), .int .i64 1, .int .i64 1] 103)).alloc (.cells #[.int .i64 0, .int .i64 1, .slice (some ⟨W.heap.size, 0, none⟩) 1 1] 97)) ob xb o m
      (.slice (some ⟨W.heap.size + 1, 0, none⟩) 1 1) [(⟨.slice (some ⟨W.heap.size, 0, none⟩) 1 1, ⟨0, 1⟩, [⟨(g : Int), ⟨1, 1⟩⟩]⟩ : CO)] sx sv ss := by
  have h1 := MRow.loop (ca := ca) (cc := cc) hB g h
  rw [World.setCell_alloc_past _ xb 2 _ (by simp; omega), World.setCell_alloc_past _ xb 2 _ hx] at h1
  exact h1
/-- a state is merged -/
theorem MRow.shut {B : Nat} {W w5 : World} {ob xb : Nat} {o m : Int} {xv sv v5 : Value} {cs : List CO} {sx : Cmp} {ss : List SO} {obj : Obj} (h : MRow B W ob xb o m xv cs sx sv ss) (hB : B ≤ W.heap.size)
    (hg5 : (W.alloc obj).grownBy w5 sv.ownBlock) (ho5 : w5.ownsRow B 79 3 v5 (ss.length + 1) (scells ss ++ [.int .i64 o, .int .i64 m, xv])) (ha5 : v5.ownBlock = sv.ownBlock ∨ v5.ownBlock = some (W.alloc obj).heap.size) :
    MOut B (w5.setCell ⟨ob, 0, none⟩ v5) ob v5 (ss ++ [⟨xv, o, m, cs⟩]) := Sep.addState h hB hg5 ho5 ha5
/-- the merged model -/
theorem MOut.model {B : Nat} {W : World} {ob : Nat} {sv : Value} {ss : List SO} (h : MOut B W ob sv ss) : Sl Kind.st W (DB B W) sv (ss.map SO.st) :=
  Sep.model (l := []) (by rw [List.append_nil]; exact h.sub ((List.sublist_cons_self _ _).trans (List.sublist_cons_self _ _)))
theorem MOut.cell {B : Nat} {W : World} {ob : Nat} {sv : Value} {ss : List SO} (h : MOut B W ob sv ss) : W.heap[ob]? = some (.cells #[sv] 24 (0, 0)) := h.get (c := boxC ob #[sv] 24) (List.mem_cons_self ..)

end Go.Proofs.YtoffbdlgmnpblaaGreat
