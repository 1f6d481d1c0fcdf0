/- Part 35: Scc. -/
import Derived.Test.YtoffbdlgmnpblaaGreatJ34

/- Plain laws: what the search finds are the strongly connected components. -/
namespace Go.Proofs.YtoffbdlgmnpblaaGreat.Tar
open Bfs (at' row)

inductive Reach (next : List (List Int)) : Int → Int → Prop
  | refl (x : Int) : Reach next x x
  | step {x y z : Int} : Reach next x y → z ∈ row next y → Reach next x z
theorem Reach.trans {next : List (List Int)} {x y z : Int} (h : Reach next x y) (k : Reach next y z) : Reach next x z := by
  induction k with
  | refl => exact h
  | step _ hz ih => exact .step ih hz
theorem Reach.edge {next : List (List Int)} {x y : Int} (h : y ∈ row next x) : Reach next x y := .step (.refl x) h

theorem pw_inj {f : Int → Int} : ∀ {l : List Int}, l.Pairwise (fun a b => f b < f a) → ∀ {a b : Int}, a ∈ l → b ∈ l → f a = f b → a = b
  | [], _, _, _, h, _, _ => by cases h
  | c :: l, hp, a, b, ha, hb, e => by
    obtain ⟨h1, h2⟩ := List.pairwise_cons.1 hp
    rcases List.mem_cons.1 ha with ha | ha
    · rcases List.mem_cons.1 hb with hb | hb
      · rw [ha, hb]
      · have := h1 b hb; rw [ha] at e; omega
    · rcases List.mem_cons.1 hb with hb | hb
      · have := h1 a ha; rw [hb] at e; omega
      · exact pw_inj h2 ha hb e
/-- an edge that has been gone through -/
def done (next : List (List Int)) (fr : List (Int × Int)) (x y : Int) : Prop := y ∈ row next x ∧ ∀ k, (x, k) ∈ fr → ∃ i, 0 ≤ i ∧ i < k ∧ at' (row next x) i = y

structure Scc (next : List (List Int)) (t : TS) (fr : List (Int × Int)) : Prop where
  cnt : ∀ x, 0 ≤ x → x < (next.length : Int) → 0 ≤ at' t.idx x ∧ at' t.idx x ≤ t.cnt
  vis : ∀ x, 0 ≤ x → x < (next.length : Int) → at' t.idx x ≠ 0 → x ∈ t.opn ∨ ∃ l ∈ t.out, x ∈ l
  opv : ∀ x ∈ t.opn, at' t.idx x ≠ 0
  ord : t.opn.Pairwise (fun a b => at' t.idx b < at' t.idx a)
  onb : ∀ x, 0 ≤ x → x < (next.length : Int) → (onAt t.on x = true ↔ x ∈ t.opn)
  outv : ∀ l ∈ t.out, ∀ x ∈ l, 0 ≤ x ∧ x < (next.length : Int) ∧ x ∉ t.opn ∧ at' t.idx x ≠ 0
  outs : ∀ l ∈ t.out, ∀ x ∈ l, ∀ y, y ∈ l ↔ (Reach next x y ∧ Reach next y x)
  outc : ∀ l ∈ t.out, ∀ x ∈ l, ∀ y ∈ row next x, ∃ l' ∈ t.out, y ∈ l'
  outn : t.out.flatten.Nodup
  succ : ∀ x ∈ t.opn, ∀ y, done next fr x y → at' t.idx y ≠ 0
  desc : ∀ x ∈ t.opn, x ∉ fr.map (·.1) → ∃ y ∈ t.opn, at' t.idx y < at' t.idx x ∧ Reach next x y
  reach : ∀ g ∈ fr.map (·.1), ∀ x ∈ t.opn, at' t.idx g ≤ at' t.idx x → Reach next g x
  lowS : ∀ g ∈ fr.map (·.1), at' t.low g ≤ at' t.idx g ∧ ∃ y ∈ t.opn, at' t.idx y = at' t.low g ∧ Reach next g y
  lowC : ∀ x ∈ t.opn, ∀ y ∈ t.opn, done next fr x y → ∀ s ∈ fr.map (·.1), at' t.idx s ≤ at' t.idx x → (∀ g ∈ fr.map (·.1), at' t.idx g ≤ at' t.idx x → at' t.idx g ≤ at' t.idx s) → at' t.low s ≤ at' t.idx y

theorem onAt_set_same {on : List Bool} {x : Int} (b : Bool) (h0 : 0 ≤ x) (h1 : x < (on.length : Int)) : onAt (on.set x.toNat b) x = b := by
  have : x.toNat < on.length := by omega
  simp [onAt, List.getD_eq_getElem?_getD, this]
theorem onAt_set_other {on : List Bool} {x y : Int} (b : Bool) (h0 : 0 ≤ x) (h1 : 0 ≤ y) (h : y ≠ x) : onAt (on.set x.toNat b) y = onAt on y := by
  have : x.toNat ≠ y.toNat := by omega
  simp [onAt, List.getD_eq_getElem?_getD, List.getElem?_set_ne this]

/-- a state is entered; the frames have gone on -/
theorem Scc.enter {next : List (List Int)} {t : TS} {fr fr' : List (Int × Int)} {v : Int} (ho : Ok next t fr) (hc : 0 ≤ t.cnt) (h : Scc next t fr) (hv : 0 ≤ v ∧ v < (next.length : Int)) (h0 : at' t.idx v = 0) (hm : fr'.map (·.1) = fr.map (·.1))
    (hd : ∀ x y, done next fr' x y → done next fr x y ∨ y = v) (hr : ∀ g ∈ fr.map (·.1), Reach next g v) : Scc next (Tar.enter t v) ((v, 0) :: fr') := by
  have ei : ∀ x, 0 ≤ x → x ≠ v → at' (Tar.enter t v).idx x = at' t.idx x := fun x h0 hx => Bfs.at_set_other _ hv.1 h0 hx
  have el : ∀ x, 0 ≤ x → x ≠ v → at' (Tar.enter t v).low x = at' t.low x := fun x h0 hx => Bfs.at_set_other _ hv.1 h0 hx
  have vi : at' (Tar.enter t v).idx v = t.cnt + 1 := Bfs.at_set_same _ hv.1 (by rw [ho.li]; exact hv.2)
  have vl : at' (Tar.enter t v).low v = t.cnt + 1 := Bfs.at_set_same _ hv.1 (by rw [ho.ll]; exact hv.2)
  have nv : ∀ x ∈ t.opn, x ≠ v := fun x hx e => h.opv x hx (by rw [e]; exact h0)
  have eo : ∀ x ∈ t.opn, at' (Tar.enter t v).idx x = at' t.idx x := fun x hx => ei x (ho.op x hx).1 (nv x hx)
  have lo : ∀ x ∈ t.opn, at' t.idx x ≤ t.cnt := fun x hx => (h.cnt x (ho.op x hx).1 (ho.op x hx).2).2
  have fo : ∀ g ∈ fr.map (·.1), g ∈ t.opn := fun g hg => ho.sub.subset hg
  have dn : ∀ x y, x ≠ v → done next ((v, 0) :: fr') x y → done next fr x y ∨ y = v := fun x y hx hdn => hd x y ⟨hdn.1, fun k hk => hdn.2 k (List.mem_cons_of_mem _ hk)⟩
  have dv : ∀ y, ¬ done next ((v, 0) :: fr') v y := fun y hdn => by
    obtain ⟨i, hi, hj, _⟩ := hdn.2 0 (List.mem_cons_self ..)
    omega
  refine ⟨fun x a b => ?_, fun x a b hx => ?_, fun x hx => ?_, ?_, fun x a b => ?_, fun l hl x hx => ?_, h.outs, h.outc, h.outn, fun x hx y hy => ?_, fun x hx hn => ?_, fun g hg x hx hgx => ?_, fun g hg => ?_, fun x hx y hy hxy s hs hsx hmax => ?_⟩
  · by_cases e : x = v
    · rw [e, vi]; exact ⟨by omega, Int.le_refl _⟩
    · have := h.cnt x a b
      rw [ei x a e]
      exact ⟨this.1, by show _ ≤ t.cnt + 1; omega⟩
  · by_cases e : x = v
    · exact .inl (e ▸ List.mem_cons_self ..)
    · rw [ei x a e] at hx
      rcases h.vis x a b hx with h1 | h1
      · exact .inl (List.mem_cons_of_mem _ h1)
      · exact .inr h1
  · rcases List.mem_cons.1 hx with rfl | hx
    · rw [vi]; omega
    · rw [eo x hx]; exact h.opv x hx
  · refine List.pairwise_cons.2 ⟨fun x hx => ?_, h.ord.imp_of_mem fun {a b} ha hb hab => ?_⟩
    · rw [vi, eo x hx]; have := lo x hx; omega
    · rw [eo a ha, eo b hb]; exact hab
  · by_cases e : x = v
    · subst e
      have := onAt_set_same (on := t.on) true a (by rw [ho.lo]; exact b)
      exact ⟨fun _ => List.mem_cons_self .., fun _ => this⟩
    · have e1 : onAt (Tar.enter t v).on x = onAt t.on x := onAt_set_other true hv.1 a e
      rw [e1, h.onb x a b]
      exact ⟨fun hx => List.mem_cons_of_mem _ hx, fun hx => (List.mem_cons.1 hx).resolve_left e⟩
  · obtain ⟨a, b, c, d⟩ := h.outv l hl x hx
    have e : x ≠ v := fun e => d (by rw [e]; exact h0)
    refine ⟨a, b, fun hm => ?_, by rw [ei x a e]; exact d⟩
    rcases List.mem_cons.1 hm with hm | hm
    · exact e hm
    · exact c hm
  · rcases List.mem_cons.1 hx with rfl | hx
    · exact (dv y hy).elim
    · by_cases e : y = v
      · rw [e, vi]; omega
      · rcases dn x y (nv x hx) hy with h1 | h1
        · have h2 := h.succ x hx y h1
          have h3 := ho.ed x (ho.op x hx).1 (ho.op x hx).2 y h1.1
          rw [ei y h3.1 e]; exact h2
        · exact absurd h1 e
  · rcases List.mem_cons.1 hx with rfl | hx
    · exact absurd (List.mem_cons_self ..) hn
    · obtain ⟨y, hy, h1, h2⟩ := h.desc x hx (fun hm' => hn (List.mem_cons_of_mem _ (by rw [hm]; exact hm')))
      exact ⟨y, List.mem_cons_of_mem _ hy, by rw [eo y hy, eo x hx]; exact h1, h2⟩
  · rcases List.mem_cons.1 hg with hg | hg
    · have hg : g = v := hg
      subst hg
      rcases List.mem_cons.1 hx with rfl | hx
      · exact .refl _
      · rw [vi, eo x hx] at hgx
        have := lo x hx; omega
    · have hg2 : g ∈ fr.map (·.1) := hm ▸ hg
      rcases List.mem_cons.1 hx with hx | hx
      · rw [hx]; exact hr g hg2
      · rw [eo g (fo g hg2), eo x hx] at hgx
        exact h.reach g hg2 x hx hgx
  · rcases List.mem_cons.1 hg with hg | hg
    · have hg : g = v := hg
      subst hg
      exact ⟨by rw [vi, vl]; exact Int.le_refl _, g, List.mem_cons_self .., by rw [vi, vl], .refl _⟩
    · rw [hm] at hg
      obtain ⟨h1, y, hy, h2, h3⟩ := h.lowS g hg
      have hgo := fo g hg
      rw [el g (ho.op g hgo).1 (nv g hgo), eo g hgo]
      exact ⟨h1, y, List.mem_cons_of_mem _ hy, by rw [eo y hy]; exact h2, h3⟩
  · rcases List.mem_cons.1 hx with rfl | hx
    · exact (dv y hxy).elim
    · have hxl := lo x hx
      rw [eo x hx] at hsx
      have hs' : s ∈ fr.map (·.1) := by
        rcases List.mem_cons.1 hs with hs | hs
        · have hs : s = v := hs
          rw [hs, vi] at hsx; omega
        · rw [hm] at hs; exact hs
      have hso := fo s hs'
      rw [el s (ho.op s hso).1 (nv s hso)]
      rw [eo s hso] at hsx
      rcases List.mem_cons.1 hy with rfl | hy
      · have h1 := (h.lowS s hs').1
        have h2 := lo s hso
        rw [vi]; omega
      · rw [eo y hy]
        rcases dn x y (nv x hx) hxy with h1 | h1
        · refine h.lowC x hx y hy h1 s hs' hsx fun g hg hgx => ?_
          have hgo := fo g hg
          have := hmax g (List.mem_cons_of_mem _ (by rw [hm]; exact hg)) (by rw [eo g hgo, eo x hx]; exact hgx)
          rwa [eo g hgo, eo s hso] at this
        · exact absurd h1 (nv y hy)

/-- the top frame goes on over an edge to a state that is known -/
theorem Scc.pass {next : List (List Int)} {t : TS} {fr : List (Int × Int)} {s k : Int} (ho : Ok next t ((s, k) :: fr)) (h : Scc next t ((s, k) :: fr)) (h0 : at' t.idx (at' (row next s) k) ≠ 0) (hlow : at' (row next s) k ∈ t.opn → at' t.low s ≤ at' t.idx (at' (row next s) k)) :
    Scc next t ((s, k + 1) :: fr) := by
  have hnd : (((s, k) :: fr).map (·.1)).Nodup := by
    have : t.opn.Nodup := h.ord.imp fun {a b} hab e => by rw [e] at hab; omega
    exact this.sublist ho.sub
  have hsn : s ∉ fr.map (·.1) := (List.nodup_cons.1 hnd).1
  have dn : ∀ x y, done next ((s, k + 1) :: fr) x y → done next ((s, k) :: fr) x y ∨ (x = s ∧ y = at' (row next s) k) := by
    intro x y hd
    by_cases e : x = s ∧ y = at' (row next s) k
    · exact .inr e
    · refine .inl ⟨hd.1, fun j hj => ?_⟩
      rcases List.mem_cons.1 hj with hj | hj
      · injection hj with h1 h2
        obtain ⟨i, i1, i2, i3⟩ := hd.2 (k + 1) (by rw [h1]; exact List.mem_cons_self ..)
        refine ⟨i, i1, ?_, i3⟩
        rw [h2]
        by_cases e2 : i = k
        · exact absurd ⟨h1, by rw [← i3, e2, h1]⟩ e
        · omega
      · exact hd.2 j (List.mem_cons_of_mem _ hj)
  have hmm : ((s, k + 1) :: fr).map (·.1) = ((s, k) :: fr).map (·.1) := rfl
  refine ⟨h.cnt, h.vis, h.opv, h.ord, h.onb, h.outv, h.outs, h.outc, h.outn, fun x hx y hy => ?_, fun x hx hn => h.desc x hx (by rw [← hmm]; exact hn), fun g hg => h.reach g (by rw [← hmm]; exact hg), fun g hg => h.lowS g (by rw [← hmm]; exact hg), fun x hx y hy hxy g hg hgx hmax => ?_⟩
  · rcases dn x y hy with h1 | ⟨rfl, rfl⟩
    · exact h.succ x hx y h1
    · exact h0
  · rw [hmm] at hg hmax
    rcases dn x y hxy with h1 | ⟨rfl, rfl⟩
    · exact h.lowC x hx y hy h1 g hg hgx hmax
    · have h1 := hmax x (List.mem_cons_self ..) (Int.le_refl _)
      have h2 : g = x := by
        have hxo := hx
        have hgo : g ∈ t.opn := ho.sub.subset hg
        have hlt : at' t.idx g = at' t.idx x := by omega
        exact pw_inj h.ord hgo hxo hlt
      rw [h2]
      exact hlow hy

/-- the low of a frame is lowered to the number of an open state that it reaches -/
theorem Scc.lower {next : List (List Int)} {t : TS} {fr : List (Int × Int)} {u v : Int} (ho : Ok next t fr) (h : Scc next t fr) (hu : u ∈ fr.map (·.1)) (hv : v ∈ t.opn) (hr : Reach next u v) : Scc next (setLow t u (at' t.idx v)) fr := by
  have huo := ho.sub.subset hu
  have hub := ho.op u huo
  have el : ∀ x, 0 ≤ x → x ≠ u → at' (setLow t u (at' t.idx v)).low x = at' t.low x := fun x h0 hx => Bfs.at_set_other _ hub.1 h0 hx
  have ul : at' (setLow t u (at' t.idx v)).low u = min (at' t.low u) (at' t.idx v) := Bfs.at_set_same _ hub.1 (by rw [ho.ll]; exact hub.2)
  have le : ∀ x, 0 ≤ x → at' (setLow t u (at' t.idx v)).low x ≤ at' t.low x := by
    intro x hx
    by_cases e : x = u
    · rw [e, ul]; omega
    · rw [el x hx e]; exact Int.le_refl _
  refine ⟨h.cnt, h.vis, h.opv, h.ord, h.onb, h.outv, h.outs, h.outc, h.outn, h.succ, h.desc, h.reach, fun g hg => ?_, fun x hx y hy hxy s hs hsx hmax => ?_⟩
  · obtain ⟨h1, y, hy, h2, h3⟩ := h.lowS g hg
    have hgb := ho.op g (ho.sub.subset hg)
    by_cases e : g = u
    · subst e
      rw [ul]
      have : min (at' t.low g) (at' t.idx v) = at' t.low g ∨ min (at' t.low g) (at' t.idx v) = at' t.idx v := by omega
      refine ⟨by show min _ _ ≤ at' t.idx g; omega, ?_⟩
      rcases this with e | e
      · exact ⟨y, hy, by rw [e]; exact h2, h3⟩
      · exact ⟨v, hv, by rw [e]; rfl, hr⟩
    · rw [el g hgb.1 e]
      exact ⟨h1, y, hy, h2, h3⟩
  · exact Int.le_trans (le s (ho.op s (ho.sub.subset hs)).1) (h.lowC x hx y hy hxy s hs hsx hmax)

/-- a lowering to no less changes nothing -/
theorem Scc.lower_none {next : List (List Int)} {t : TS} {fr : List (Int × Int)} {u z : Int} (ho : Ok next t fr) (h : Scc next t fr) (hu : u ∈ fr.map (·.1)) (hz : at' t.low u ≤ z) : Scc next (setLow t u z) fr := by
  have hub := ho.op u (ho.sub.subset hu)
  have el : ∀ x, 0 ≤ x → at' (setLow t u z).low x = at' t.low x := by
    intro x hx
    by_cases e : x = u
    · rw [e]
      have := Bfs.at_set_same (d := t.low) (t := u) (min (at' t.low u) z) hub.1 (by rw [ho.ll]; exact hub.2)
      show at' (t.low.set u.toNat (min (at' t.low u) z)) u = _
      rw [this]; omega
    · exact Bfs.at_set_other _ hub.1 hx e
  refine ⟨h.cnt, h.vis, h.opv, h.ord, h.onb, h.outv, h.outs, h.outc, h.outn, h.succ, h.desc, h.reach, fun g hg => ?_, fun x hx y hy hxy s hs hsx hmax => ?_⟩
  · rw [el g (ho.op g (ho.sub.subset hg)).1]; exact h.lowS g hg
  · rw [el s (ho.op s (ho.sub.subset hs)).1]; exact h.lowC x hx y hy hxy s hs hsx hmax

/-- open states have different numbers -/
theorem Scc.inj {next : List (List Int)} {t : TS} {fr : List (Int × Int)} (h : Scc next t fr) {a b : Int} (ha : a ∈ t.opn) (hb : b ∈ t.opn) (e : at' t.idx a = at' t.idx b) : a = b := pw_inj h.ord ha hb e
/-- under each open state lies a frame -/
theorem Scc.based {next : List (List Int)} {t : TS} {fr : List (Int × Int)} (ho : Ok next t fr) (h : Scc next t fr) : ∀ (m : Nat) (x : Int), x ∈ t.opn → (at' t.idx x).toNat ≤ m → ∃ g ∈ fr.map (·.1), at' t.idx g ≤ at' t.idx x := by
  intro m
  induction m with
  | zero =>
    intro x hx hm
    have h1 := h.opv x hx
    have h2 := (h.cnt x (ho.op x hx).1 (ho.op x hx).2).1
    omega
  | succ m ih =>
    intro x hx hm
    by_cases hf : x ∈ fr.map (·.1)
    · exact ⟨x, hf, Int.le_refl _⟩
    · obtain ⟨y, hy, h1, _⟩ := h.desc x hx hf
      have h2 := (h.cnt x (ho.op x hx).1 (ho.op x hx).2).1
      obtain ⟨g, hg, h3⟩ := ih y hy (by omega)
      exact ⟨g, hg, by omega⟩

/-- the top frame ends, its state stays open -/
theorem Scc.stay {next : List (List Int)} {t : TS} {fr : List (Int × Int)} {s k u j : Int} (ho : Ok next t ((s, k) :: (u, j) :: fr)) (h : Scc next t ((s, k) :: (u, j) :: fr)) (hk : ¬ k < ((row next s).length : Int)) (hne : at' t.low s ≠ at' t.idx s) :
    Scc next (setLow t u (at' t.low s)) ((u, j) :: fr) := by
  have hs : s ∈ ((s, k) :: (u, j) :: fr).map (·.1) := List.mem_cons_self ..
  have hu : u ∈ ((s, k) :: (u, j) :: fr).map (·.1) := List.mem_cons_of_mem _ (List.mem_cons_self ..)
  have hso := ho.sub.subset hs
  have huo := ho.sub.subset hu
  have hub := ho.op u huo
  have hsub : List.Pairwise (fun a b => at' t.idx b < at' t.idx a) (((s, k) :: (u, j) :: fr).map (·.1)) := h.ord.sublist ho.sub
  have hsg : ∀ g ∈ ((u, j) :: fr).map (·.1), at' t.idx g < at' t.idx s := (List.pairwise_cons.1 hsub).1
  have hug : ∀ g ∈ ((u, j) :: fr).map (·.1), at' t.idx g ≤ at' t.idx u := by
    intro g hg
    rcases List.mem_cons.1 hg with hg | hg
    · have hg : g = u := hg
      rw [hg]; exact Int.le_refl _
    · have h1 : at' t.idx g < at' t.idx u := (List.pairwise_cons.1 (List.pairwise_cons.1 hsub).2).1 g hg
      omega
  have hus := hsg u (List.mem_cons_self ..)
  obtain ⟨l1, y0, hy0, l2, l3⟩ := h.lowS s hs
  have el : ∀ x, 0 ≤ x → x ≠ u → at' (setLow t u (at' t.low s)).low x = at' t.low x := fun x h0 hx => Bfs.at_set_other _ hub.1 h0 hx
  have ul : at' (setLow t u (at' t.low s)).low u = min (at' t.low u) (at' t.low s) := Bfs.at_set_same _ hub.1 (by rw [ho.ll]; exact hub.2)
  have le : ∀ x, 0 ≤ x → at' (setLow t u (at' t.low s)).low x ≤ at' t.low x := by
    intro x hx
    by_cases e : x = u
    · rw [e, ul]; omega
    · rw [el x hx e]; exact Int.le_refl _
  have hfs := ho.fs (s, k) (List.mem_cons_self ..)
  have dn : ∀ x y, done next ((u, j) :: fr) x y → done next ((s, k) :: (u, j) :: fr) x y := by
    intro x y hd
    refine ⟨hd.1, fun m hm => ?_⟩
    rcases List.mem_cons.1 hm with hm | hm
    · injection hm with h1 h2
      have hy := hd.1
      rw [h1] at hy
      obtain ⟨i, hi, e⟩ := List.getElem_of_mem hy
      refine ⟨(i : Int), by omega, by simp only at hfs; omega, ?_⟩
      rw [h1]
      have := Bfs.at_get (d := row next s) (t := (i : Int)) (by omega) (by omega)
      rw [Int.toNat_natCast, List.getElem?_eq_getElem hi] at this
      rw [← e]; injection this with this; exact this.symm
    · exact hd.2 m hm
  refine ⟨h.cnt, h.vis, h.opv, h.ord, h.onb, h.outv, h.outs, h.outc, h.outn, fun x hx y hy => h.succ x hx y (dn x y hy), fun x hx hn => ?_, fun g hg => h.reach g (List.mem_cons_of_mem _ hg), fun g hg => ?_, fun x hx y hy hxy g hg hgx hmax => ?_⟩
  · by_cases e : x = s
    · subst e
      exact ⟨y0, hy0, by show at' t.idx y0 < at' t.idx x; omega, l3⟩
    · refine h.desc x hx fun hm => ?_
      rcases List.mem_cons.1 hm with hm | hm
      · exact e hm
      · exact hn hm
  · obtain ⟨h1, y, hy, h2, h3⟩ := h.lowS g (List.mem_cons_of_mem _ hg)
    have hgb := ho.op g (ho.sub.subset (List.mem_cons_of_mem _ hg))
    by_cases e : g = u
    · subst e
      rw [ul]
      have : min (at' t.low g) (at' t.low s) = at' t.low g ∨ min (at' t.low g) (at' t.low s) = at' t.low s := by omega
      refine ⟨by show min _ _ ≤ at' t.idx g; omega, ?_⟩
      rcases this with e | e
      · exact ⟨y, hy, by rw [e]; exact h2, h3⟩
      · exact ⟨y0, hy0, by rw [e]; exact l2, (h.reach g hu s hso (by omega)).trans l3⟩
    · rw [el g hgb.1 e]
      exact ⟨h1, y, hy, h2, h3⟩
  · have hgb := ho.op g (ho.sub.subset (List.mem_cons_of_mem _ hg))
    by_cases e : at' t.idx s ≤ at' t.idx x
    · have hl := h.lowC x hx y hy (dn x y hxy) s hs e (fun f hf _ => by
        rcases List.mem_cons.1 hf with hf | hf
        · have hf : f = s := hf
          rw [hf]; exact Int.le_refl _
        · have := hsg f hf; omega)
      have hgu : g = u := by
        have h1 := hmax u (List.mem_cons_self ..) (by show at' t.idx u ≤ at' t.idx x; omega)
        have h2 := hug g hg
        exact h.inj (ho.sub.subset (List.mem_cons_of_mem _ hg)) huo (by show at' t.idx g = at' t.idx u; have h1 : at' t.idx u ≤ at' t.idx g := h1; omega)
      rw [hgu, ul]
      show min _ _ ≤ at' t.idx y
      omega
    · refine Int.le_trans (le g hgb.1) (h.lowC x hx y hy (dn x y hxy) g (List.mem_cons_of_mem _ hg) hgx fun f hf hfx => ?_)
      rcases List.mem_cons.1 hf with hf | hf
      · have hf : f = s := hf
        rw [hf] at hfx; omega
      · exact hmax f hf hfx

theorem popR_split {s : Int} : ∀ {r : List Int}, (popR s r).1 ++ (popR s r).2 = r
  | [] => rfl
  | t :: r => by
    have ih := popR_split (s := s) (r := r)
    unfold popR
    split
    · rfl
    · simp only [List.cons_append]; rw [ih]
theorem popR_last {s : Int} : ∀ {r : List Int}, s ∈ r → ∃ p, (popR s r).1 = p ++ [s]
  | [], h => by cases h
  | t :: r, h => by
    unfold popR
    by_cases e : t = s
    · rw [if_pos e, e]; exact ⟨[], rfl⟩
    · rw [if_neg e]
      rcases List.mem_cons.1 h with h | h
      · exact absurd h.symm e
      · obtain ⟨p, hp⟩ := popR_last h
        exact ⟨t :: p, by rw [hp]; rfl⟩
theorem onAt_offs (p : List Int) : ∀ (on : List Bool) (x : Int), 0 ≤ x → (∀ y ∈ p, 0 ≤ y ∧ y < (on.length : Int)) → (onAt (offs on p) x = true ↔ onAt on x = true ∧ x ∉ p) := by
  induction p with
  | nil => intro on x _ _; simp [offs]
  | cons a p ih =>
    intro on x hx hp
    have ha := hp a (List.mem_cons_self ..)
    have := ih (on.set a.toNat false) x hx (fun y hy => by rw [List.length_set]; exact hp y (List.mem_cons_of_mem _ hy))
    show onAt (offs (on.set a.toNat false) p) x = true ↔ _
    rw [this, List.mem_cons]
    by_cases e : x = a
    · rw [e, onAt_set_same false ha.1 ha.2]; simp
    · rw [onAt_set_other false ha.1 hx e]; simp [e]
/-- what is known of the popped states -/
structure Cutoff (t : TS) (s : Int) : Prop where
  hi : ∀ x ∈ (popR s t.opn).1, at' t.idx s ≤ at' t.idx x
  lo : ∀ x ∈ (popR s t.opn).2, at' t.idx x < at' t.idx s
  iff : ∀ x, x ∈ t.opn ↔ x ∈ (popR s t.opn).1 ∨ x ∈ (popR s t.opn).2
theorem Cutoff.of {t : TS} {s : Int} (ord : t.opn.Pairwise (fun a b => at' t.idx b < at' t.idx a)) (hs : s ∈ t.opn) : Cutoff t s := by
  have e := popR_split (s := s) (r := t.opn)
  obtain ⟨p, hp⟩ := popR_last hs
  rw [← e] at ord
  obtain ⟨o1, o2, o3⟩ := List.pairwise_append.1 ord
  refine ⟨fun x hx => ?_, fun x hx => o3 s (by rw [hp]; simp) x hx, fun x => ?_⟩
  · rw [hp] at o1 hx
    rcases List.mem_append.1 hx with hx | hx
    · have := (List.pairwise_append.1 o1).2.2 x hx s (by simp); omega
    · have : x = s := by simpa using hx
      rw [this]; exact Int.le_refl _
  · conv => lhs; rw [← e]
    exact List.mem_append

/-- the top frame ends, and so does its component -/
theorem Scc.shut {next : List (List Int)} {t : TS} {fr : List (Int × Int)} {s k : Int} (ho : Ok next t ((s, k) :: fr)) (h : Scc next t ((s, k) :: fr)) (hk : ¬ k < ((row next s).length : Int)) (heq : at' t.low s = at' t.idx s) : Scc next (Tar.close t s) fr := by
  have hs : s ∈ ((s, k) :: fr).map (·.1) := List.mem_cons_self ..
  have hso := ho.sub.subset hs
  have hc := Cutoff.of h.ord hso
  have hsub : List.Pairwise (fun a b => at' t.idx b < at' t.idx a) (((s, k) :: fr).map (·.1)) := h.ord.sublist ho.sub
  have hsg : ∀ g ∈ fr.map (·.1), at' t.idx g < at' t.idx s := (List.pairwise_cons.1 hsub).1
  have hfs := ho.fs (s, k) (List.mem_cons_self ..)
  simp only at hfs
  have dn : ∀ x y, done next fr x y → done next ((s, k) :: fr) x y := by
    intro x y hd
    refine ⟨hd.1, fun m hm => ?_⟩
    rcases List.mem_cons.1 hm with hm | hm
    · injection hm with h1 h2
      have hy := hd.1
      rw [h1] at hy
      obtain ⟨i, hi, e⟩ := List.getElem_of_mem hy
      refine ⟨(i : Int), by omega, by omega, ?_⟩
      rw [h1]
      have := Bfs.at_get (d := row next s) (t := (i : Int)) (by omega) (by omega)
      rw [Int.toNat_natCast, List.getElem?_eq_getElem hi] at this
      rw [← e]; injection this with this; exact this.symm
    · exact hd.2 m hm
  -- the states that are popped
  have pop : ∀ x ∈ (popR s t.opn).1, x ∈ t.opn := fun x hx => (hc.iff x).2 (.inl hx)
  have pfr : ∀ x ∈ (popR s t.opn).1, x ∉ fr.map (·.1) := fun x hx hm => by have h1 := hsg x hm; have h2 := hc.hi x hx; omega
  have pdone : ∀ x ∈ (popR s t.opn).1, ∀ y ∈ row next x, done next ((s, k) :: fr) x y := fun x hx y hy => dn x y ⟨hy, fun m hm => (pfr x hx (List.mem_map.2 ⟨_, hm, rfl⟩)).elim⟩
  -- an edge from a popped state leads to a popped or closed one
  have pedge : ∀ x ∈ (popR s t.opn).1, ∀ y ∈ row next x, y ∈ (popR s t.opn).1 ∨ ∃ l ∈ t.out, y ∈ l := by
    intro x hx y hy
    have hxb := ho.op x (pop x hx)
    have hyb := ho.ed x hxb.1 hxb.2 y hy
    rcases h.vis y hyb.1 hyb.2 (h.succ x (pop x hx) y (pdone x hx y hy)) with h1 | h1
    · refine .inl ?_
      have := h.lowC x (pop x hx) y h1 (pdone x hx y hy) s hs (hc.hi x hx) (fun g hg _ => by
        rcases List.mem_cons.1 hg with hg | hg
        · have hg : g = s := hg
          rw [hg]; exact Int.le_refl _
        · have := hsg g hg; omega)
      rcases (hc.iff y).1 h1 with h2 | h2
      · exact h2
      · have := hc.lo y h2; omega
    · exact .inr h1
  have preach : ∀ x y, Reach next x y → x ∈ (popR s t.opn).1 → y ∈ (popR s t.opn).1 ∨ ∃ l ∈ t.out, y ∈ l := by
    intro x y hr
    induction hr with
    | refl => exact fun h => .inl h
    | step hxy hz ih =>
      intro hx
      rcases ih hx with h1 | ⟨l, hl, h1⟩
      · exact pedge _ h1 _ hz
      · exact .inr (h.outc l hl _ h1 _ hz)
  have oreach : ∀ x y, Reach next x y → (∃ l ∈ t.out, x ∈ l) → ∃ l ∈ t.out, y ∈ l := by
    intro x y hr
    induction hr with
    | refl => exact fun h => h
    | step hxy hz ih =>
      intro hx
      obtain ⟨l, hl, h1⟩ := ih hx
      exact h.outc l hl _ h1 _ hz
  -- each popped state reaches s
  have down : ∀ (m : Nat) (x : Int), x ∈ (popR s t.opn).1 → (at' t.idx x).toNat ≤ m → Reach next x s := by
    intro m
    induction m with
    | zero =>
      intro x hx hm
      have h1 := h.opv x (pop x hx)
      have h2 := (h.cnt x (ho.op x (pop x hx)).1 (ho.op x (pop x hx)).2).1
      omega
    | succ m ih =>
      intro x hx hm
      by_cases e : x = s
      · rw [e]; exact .refl _
      · obtain ⟨y, hy, h1, h2⟩ := h.desc x (pop x hx) (fun hm' => by
          rcases List.mem_cons.1 hm' with hm' | hm'
          · exact e hm'
          · exact pfr x hx hm')
        have h3 := (h.cnt x (ho.op x (pop x hx)).1 (ho.op x (pop x hx)).2).1
        rcases preach x y h2 hx with h4 | ⟨l, hl, h4⟩
        · exact h2.trans (ih y h4 (by omega))
        · exact absurd hy (h.outv l hl y h4).2.2.1
  have downs : ∀ x ∈ (popR s t.opn).1, Reach next x s := fun x hx => down _ x hx (Nat.le_refl _)
  have ups : ∀ x ∈ (popR s t.opn).1, Reach next s x := fun x hx => h.reach s hs x (pop x hx) (hc.hi x hx)
  have keep : ∀ x ∈ (popR s t.opn).2, x ∈ t.opn := fun x hx => (hc.iff x).2 (.inr hx)
  have outm : ∀ x, (∃ l ∈ (Tar.close t s).out, x ∈ l) ↔ (∃ l ∈ t.out, x ∈ l) ∨ x ∈ (popR s t.opn).1 := by
    intro x
    constructor
    · rintro ⟨l, hl, hx⟩
      rcases List.mem_append.1 hl with hl | hl
      · exact .inl ⟨l, hl, hx⟩
      · have : l = isort (popR s t.opn).1 := by simpa using hl
        rw [this] at hx
        exact .inr (mem_isort'.1 hx)
    · rintro (⟨l, hl, hx⟩ | hx)
      · exact ⟨l, List.mem_append_left _ hl, hx⟩
      · exact ⟨isort (popR s t.opn).1, List.mem_append_right _ (by simp), mem_isort'.2 hx⟩
  refine ⟨h.cnt, fun x a b hx => ?_, fun x hx => h.opv x (keep x hx), ?_, fun x a b => ?_, fun l hl x hx => ?_, fun l hl x hx y => ?_, fun l hl x hx y hy => ?_, ?_, fun x hx y hy => h.succ x (keep x hx) y (dn x y hy), fun x hx hn => ?_, fun g hg x hx hgx => h.reach g (List.mem_cons_of_mem _ hg) x (keep x hx) hgx, fun g hg => ?_, fun x hx y hy hxy g hg hgx hmax => ?_⟩
  · rcases h.vis x a b hx with h1 | h1
    · rcases (hc.iff x).1 h1 with h2 | h2
      · exact .inr ((outm x).2 (.inr h2))
      · exact .inl h2
    · exact .inr ((outm x).2 (.inl h1))
  · have e := popR_split (s := s) (r := t.opn)
    have := h.ord
    rw [← e] at this
    exact (List.pairwise_append.1 this).2.1
  · have := onAt_offs (popR s t.opn).1 t.on x a (fun y hy => by rw [ho.lo]; exact ho.op y (pop y hy))
    show onAt (offs t.on (popR s t.opn).1) x = true ↔ x ∈ (popR s t.opn).2
    rw [this, h.onb x a b, hc.iff x]
    constructor
    · rintro ⟨h1 | h1, h2⟩
      · exact absurd h1 h2
      · exact h1
    · intro h1
      exact ⟨.inr h1, fun h2 => by have h3 := hc.lo x h1; have h4 := hc.hi x h2; omega⟩
  · rcases List.mem_append.1 hl with hl | hl
    · obtain ⟨a, b, c, d⟩ := h.outv l hl x hx
      exact ⟨a, b, fun hm => c (keep x hm), d⟩
    · have : l = isort (popR s t.opn).1 := by simpa using hl
      rw [this] at hx
      have hx := mem_isort'.1 hx
      have hb := ho.op x (pop x hx)
      exact ⟨hb.1, hb.2, fun hm => by have h3 := hc.lo x hm; have h4 := hc.hi x hx; omega, h.opv x (pop x hx)⟩
  · rcases List.mem_append.1 hl with hl | hl
    · exact h.outs l hl x hx y
    · have : l = isort (popR s t.opn).1 := by simpa using hl
      rw [this] at hx ⊢
      rw [mem_isort'] at hx ⊢
      constructor
      · intro hy
        exact ⟨(downs x hx).trans (ups y hy), (downs y hy).trans (ups x hx)⟩
      · rintro ⟨h1, h2⟩
        rcases preach x y h1 hx with h3 | h3
        · exact h3
        · obtain ⟨l', hl', h4⟩ := oreach y x h2 h3
          exact absurd (pop x hx) (h.outv l' hl' x h4).2.2.1
  · have hy2 : (∃ l ∈ t.out, y ∈ l) ∨ y ∈ (popR s t.opn).1 := by
      rcases (outm x).1 ⟨l, hl, hx⟩ with ⟨l', hl', h1⟩ | h1
      · exact .inl (h.outc l' hl' x h1 y hy)
      · exact (pedge x h1 y hy).symm
    exact (outm y).2 hy2
  · show (t.out ++ [isort (popR s t.opn).1]).flatten.Nodup
    rw [List.flatten_append, List.flatten_singleton, List.nodup_append]
    have hn : t.opn.Nodup := h.ord.imp fun {a b} hab e => by rw [e] at hab; omega
    have e := popR_split (s := s) (r := t.opn)
    rw [← e] at hn
    refine ⟨h.outn, (List.mergeSort_perm _ _).nodup_iff.2 (List.nodup_append.1 hn).1, fun a ha b hb e => ?_⟩
    obtain ⟨l, hl, ha⟩ := List.mem_flatten.1 ha
    rw [e] at ha
    exact (h.outv l hl b ha).2.2.1 (pop b (mem_isort'.1 hb))
  · obtain ⟨y, hy, h1, h2⟩ := h.desc x (keep x hx) (fun hm => by
      rcases List.mem_cons.1 hm with hm | hm
      · have hm : x = s := hm
        have := hc.lo x hx
        rw [hm] at this; omega
      · exact hn hm)
    refine ⟨y, ?_, h1, h2⟩
    rcases (hc.iff y).1 hy with h3 | h3
    · have h4 := hc.hi y h3
      have h5 := hc.lo x hx
      omega
    · exact h3
  · obtain ⟨h1, y, hy, h2, h3⟩ := h.lowS g (List.mem_cons_of_mem _ hg)
    refine ⟨h1, y, ?_, h2, h3⟩
    rcases (hc.iff y).1 hy with h4 | h4
    · have h5 := hc.hi y h4
      have h6 := hsg g hg
      omega
    · exact h4
  · refine h.lowC x (keep x hx) y (keep y hy) (dn x y hxy) g (List.mem_cons_of_mem _ hg) hgx fun f hf hfx => ?_
    rcases List.mem_cons.1 hf with hf | hf
    · have hf : f = s := hf
      have := hc.lo x hx
      rw [hf] at hfx; 
      have hfx : at' t.idx s ≤ at' t.idx x := hfx
      omega
    · exact hmax f hf hfx

/-- one step -/
theorem Scc.step {next : List (List Int)} {t : TS} {fr : List (Int × Int)} {s k : Int} (ho : Ok next t ((s, k) :: fr)) (hc : 0 ≤ t.cnt) (h : Scc next t ((s, k) :: fr)) : Scc next (step next t ((s, k) :: fr)).1 (step next t ((s, k) :: fr)).2 := by
  have hs : s ∈ ((s, k) :: fr).map (·.1) := List.mem_cons_self ..
  have hso := ho.sub.subset hs
  obtain ⟨a, b, c, d⟩ := ho.fs (s, k) (List.mem_cons_self ..)
  simp only at a b c d
  by_cases hk : k < ((row next s).length : Int)
  · have hin := Bfs.at_mem (d := row next s) c hk
    have hv := ho.ed s a b _ hin
    by_cases h0 : at' t.idx (at' (row next s) k) = 0
    · rw [step_new hk h0]
      refine Scc.enter ho hc h hv h0 rfl (fun x y hd => ?_) (fun g hg => ?_)
      · by_cases e : y = at' (row next s) k
        · exact .inr e
        · refine .inl ⟨hd.1, fun j hj => ?_⟩
          rcases List.mem_cons.1 hj with hj | hj
          · injection hj with h1 h2
            obtain ⟨i, i1, i2, i3⟩ := hd.2 (k + 1) (by rw [h1]; exact List.mem_cons_self ..)
            refine ⟨i, i1, ?_, i3⟩
            by_cases e2 : i = k
            · exact absurd (by rw [← i3, e2, h1]) e
            · omega
          · exact hd.2 j (List.mem_cons_of_mem _ hj)
      · have hgo := ho.sub.subset hg
        have hsub : List.Pairwise (fun a b => at' t.idx b < at' t.idx a) (((s, k) :: fr).map (·.1)) := h.ord.sublist ho.sub
        have hle : at' t.idx g ≤ at' t.idx s := by
          rcases List.mem_cons.1 hg with hg | hg
          · have hg : g = s := hg
            rw [hg]; exact Int.le_refl _
          · have h1 : at' t.idx g < at' t.idx s := (List.pairwise_cons.1 hsub).1 g hg
            omega
        exact (h.reach g hg s hso hle).step hin
    · cases hn : onAt t.on (at' (row next s) k) with
      | true =>
        rw [step_on hk h0 hn]
        have hvo := (h.onb _ hv.1 hv.2).1 hn
        have h1 := Scc.lower ho h hs hvo (.edge hin)
        refine Scc.pass (ho.setLow s _) h1 h0 fun _ => ?_
        have := Bfs.at_set_same (d := t.low) (t := s) (min (at' t.low s) (at' t.idx (at' (row next s) k))) a (by rw [ho.ll]; exact b)
        show at' (t.low.set s.toNat (min (at' t.low s) (at' t.idx (at' (row next s) k)))) s ≤ at' t.idx (at' (row next s) k)
        rw [this]; omega
      | false =>
        rw [step_off hk h0 hn]
        refine Scc.pass ho h h0 fun hvo => ?_
        have := (h.onb _ hv.1 hv.2).2 hvo
        rw [hn] at this; cases this
  · cases fr with
    | nil =>
      rw [step_last hk]
      unfold ended
      by_cases e : at' t.low s = at' t.idx s
      · rw [if_pos e]; exact Scc.shut ho h hk e
      · exfalso
        obtain ⟨h1, y, hy, h2, _⟩ := h.lowS s hs
        obtain ⟨g, hg, h3⟩ := Scc.based ho h _ y hy (Nat.le_refl _)
        have hg : g = s := by simpa using hg
        rw [hg] at h3
        omega
    | cons f fr =>
      obtain ⟨u, j⟩ := f
      rw [step_up hk]
      unfold ended
      by_cases e : at' t.low s = at' t.idx s
      · rw [if_pos e]
        have h1 := Scc.shut ho h hk e
        refine Scc.lower_none ho.close h1 (List.mem_cons_self ..) ?_
        show at' t.low u ≤ at' t.low s
        have h2 := (h.lowS u (List.mem_cons_of_mem _ (List.mem_cons_self ..))).1
        have hsub : List.Pairwise (fun a b => at' t.idx b < at' t.idx a) (((s, k) :: (u, j) :: fr).map (·.1)) := h.ord.sublist ho.sub
        have h3 : at' t.idx u < at' t.idx s := (List.pairwise_cons.1 hsub).1 u (List.mem_cons_self ..)
        omega
      · rw [if_neg e]
        exact Scc.stay ho h hk e

theorem start_scc (next : List (List Int)) : Scc next (start next.length) [] := by
  have hz : ∀ x, 0 ≤ x → x < (next.length : Int) → at' (start next.length).idx x = 0 := by
    intro x a b
    have : x.toNat < next.length := by omega
    simp [at', start, List.getD_eq_getElem?_getD, this]
  refine ⟨fun x a b => by rw [hz x a b]; exact ⟨Int.le_refl _, Int.le_refl _⟩, fun x a b h => absurd (hz x a b) h, fun x hx => (List.not_mem_nil hx).elim, .nil, fun x a b => ?_, fun l hl => (List.not_mem_nil hl).elim, fun l hl => (List.not_mem_nil hl).elim, fun l hl => (List.not_mem_nil hl).elim, .nil, fun x hx => (List.not_mem_nil hx).elim, fun x hx => (List.not_mem_nil hx).elim, fun x hx => (List.not_mem_nil hx).elim, fun x hx => (List.not_mem_nil hx).elim, fun x hx => (List.not_mem_nil hx).elim⟩
  have : x.toNat < next.length := by omega
  simp [onAt, start, List.getD_eq_getElem?_getD, this]

theorem visit_scc {next : List (List Int)} {K : Nat} {t : TS} {v : Int} (hr : Rest next K t) (h : Scc next t []) (hv : 0 ≤ v ∧ v < (next.length : Int)) (h0 : at' t.idx v = 0) : Scc next (visit next t v) [] ∧ at' (visit next t v).idx v ≠ 0 ∧ (∀ x, 0 ≤ x → at' t.idx x ≠ 0 → at' (visit next t v).idx x ≠ 0) := by
  have he := Scc.enter (fr' := []) hr.ok hr.bd.c0 h hv h0 rfl (fun x y hd => .inl hd) (fun g hg => (List.not_mem_nil hg).elim)
  have vi : at' (Tar.enter t v).idx v = t.cnt + 1 := Bfs.at_set_same _ hv.1 (by rw [hr.ok.li]; exact hv.2)
  have hc0 := hr.bd.c0
  have mono : ∀ t' s k fr, Ok next t' ((s, k) :: fr) → ∀ x, 0 ≤ x → at' t'.idx x ≠ 0 → at' (step next t' ((s, k) :: fr)).1.idx x ≠ 0 := by
    intro t' s k fr ho x hx hn
    obtain ⟨a, b, c, d⟩ := ho.fs (s, k) (List.mem_cons_self ..)
    simp only at a b c d
    by_cases hk : k < ((row next s).length : Int)
    · have hv := ho.ed s a b _ (Bfs.at_mem (d := row next s) c hk)
      by_cases h0 : at' t'.idx (at' (row next s) k) = 0
      · rw [step_new hk h0]
        by_cases e : x = at' (row next s) k
        · exact absurd (e ▸ h0) hn
        · have : at' (Tar.enter t' (at' (row next s) k)).idx x = at' t'.idx x := Bfs.at_set_other _ hv.1 hx e
          rw [this]; exact hn
      · cases hn2 : onAt t'.on (at' (row next s) k) with
        | true => rw [step_on hk h0 hn2]; exact hn
        | false => rw [step_off hk h0 hn2]; exact hn
    · have he : (ended t' s).idx = t'.idx := by unfold ended; split <;> rfl
      cases fr with
      | nil => rw [step_last hk, he]; exact hn
      | cons f fr => obtain ⟨u, j⟩ := f; rw [step_up hk]; show at' (ended t' s).idx x ≠ 0; rw [he]; exact hn
  have start : ∀ x, 0 ≤ x → at' t.idx x ≠ 0 → at' (Tar.enter t v).idx x ≠ 0 := by
    intro x hx hn
    by_cases e : x = v
    · rw [e, vi]; omega
    · have : at' (Tar.enter t v).idx x = at' t.idx x := Bfs.at_set_other _ hv.1 hx e
      rw [this]; exact hn
  have hfin := run_inv (next := next) (P := fun t' fr => Scc next t' fr ∧ at' t'.idx v ≠ 0 ∧ ∀ x, 0 ≤ x → at' t.idx x ≠ 0 → at' t'.idx x ≠ 0) (fun t' s k fr ho hc h => ⟨Scc.step ho hc h.1, mono t' s k fr ho v hv.1 h.2.1, fun x hx hn => mono t' s k fr ho x hx (h.2.2 x hx hn)⟩) _ _ _ (Nat.le_refl _) (hr.ok.enter hv) (by show 0 ≤ t.cnt + 1; omega) ⟨he, by rw [vi]; omega, start⟩
  exact hfin.2.2

theorem upTo_scc {next : List (List Int)} {b : Nat} (hb : ∀ xs ∈ next, xs.length ≤ b) (hin : ∀ x, 0 ≤ x → x < (next.length : Int) → ∀ y ∈ row next x, 0 ≤ y ∧ y < (next.length : Int)) : ∀ j, j ≤ next.length → Scc next (upTo next j) [] ∧ ∀ x, 0 ≤ x → x < (j : Int) → at' (upTo next j).idx x ≠ 0
  | 0, _ => ⟨start_scc next, fun x a b => by omega⟩
  | j + 1, hj => by
    obtain ⟨h1, h2⟩ := upTo_scc hb hin j (by omega)
    unfold upTo
    split
    · rename_i h
      obtain ⟨k1, k2, k3⟩ := visit_scc (upTo_rest hb hin j (by omega)) h1 ⟨by omega, by omega⟩ h
      refine ⟨k1, fun x a b => ?_⟩
      by_cases e : x = (j : Int)
      · rw [e]; exact k2
      · exact k3 x a (h2 x a (by omega))
    · rename_i h
      refine ⟨h1, fun x a b => ?_⟩
      by_cases e : x = (j : Int)
      · rw [e]; exact h
      · exact h2 x a (by omega)

/-- the components that are found -/
def found (next : List (List Int)) : List (List Int) := (upTo next next.length).out
structure Comps (next : List (List Int)) (out : List (List Int)) : Prop where
  nodup : out.flatten.Nodup
  all : ∀ x, (∃ l ∈ out, x ∈ l) ↔ (0 ≤ x ∧ x < (next.length : Int))
  same : ∀ l ∈ out, ∀ x ∈ l, ∀ y, y ∈ l ↔ (Reach next x y ∧ Reach next y x)
  some' : ∀ l ∈ out, l ≠ []
  sort : ∀ l ∈ out, l.Pairwise (fun a b => a ≤ b)
theorem found_comps {next : List (List Int)} {b : Nat} (hb : ∀ xs ∈ next, xs.length ≤ b) (hin : ∀ x, 0 ≤ x → x < (next.length : Int) → ∀ y ∈ row next x, 0 ≤ y ∧ y < (next.length : Int)) (hs : ∀ l ∈ found next, l.Pairwise (fun a b => a ≤ b)) : Comps next (found next) := by
  obtain ⟨h1, h2⟩ := upTo_scc hb hin next.length (Nat.le_refl _)
  have hr := upTo_rest hb hin next.length (Nat.le_refl _)
  refine ⟨h1.outn, fun x => ⟨fun ⟨l, hl, hx⟩ => ⟨(h1.outv l hl x hx).1, (h1.outv l hl x hx).2.1⟩, fun ⟨a, c⟩ => ?_⟩, h1.outs, fun l hl => (hr.out l hl).1, hs⟩
  rcases h1.vis x a c (h2 x a c) with h3 | h3
  · obtain ⟨g, hg, _⟩ := Scc.based hr.ok h1 _ x h3 (Nat.le_refl _)
    exact (List.not_mem_nil hg).elim
  · exact h3

end Go.Proofs.YtoffbdlgmnpblaaGreat.Tar
