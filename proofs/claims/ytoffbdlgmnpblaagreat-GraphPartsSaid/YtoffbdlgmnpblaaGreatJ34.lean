/- Part 34: Tr5 Tar2. -/
import Derived.Test.YtoffbdlgmnpblaaGreatJ33
import Derived.Test.YtoffbdlgmnpblaaGreatJ14

/- Package graph: the finder searches from a state. -/
namespace Go.Proofs.YtoffbdlgmnpblaaGreat
open Go.RowKit
open Tar (TS)
set_option maxHeartbeats 4000000
set_option maxRecDepth 100000

theorem visit_calls (n F gi gl gn p : Nat) (nx ov outv : Value) (vs : List Value) (t : TS) (xss : List (List Int)) (s : Int) (w W : World) (D : Nat → Prop) (hD : Lo D w) (hnx : Rows2 w D nx xss) (hn : n = xss.length) (hE : Edges xss) (hbw : Below w.heap.size w W)
    (hx : FinC ⟨n, F, gi, gl, gn, p, nx, ov, outv, ov, outv, vs, vs, t⟩ w.heap.size W) (hok : Tar.Ok xss t []) (hs : 0 ≤ s ∧ s < (xss.length : Int)) (hc0 : 0 ≤ t.cnt) (K : Nat) (hK : K ≤ 100000) (hbd : Tar.Bd (Tar.enter t s) (Tar.meas xss (Tar.enter t s) [(s, 0)]) K) :
    Calls Tryz.prog 124 #[.pointer (some ⟨F, 0, none⟩), .int .i64 s, .pointer (some ⟨p, 0, none⟩)] W fun e W' => e = .returned (.tuple #[]) ∧ ∃ ov' outv' vs', FinC ⟨n, F, gi, gl, gn, p, nx, ov', outv', ov', outv', vs', vs', Tar.visit xss t s⟩ w.heap.size W' ∧ Evo ⟨n, F, gi, gl, gn, p, nx, ov, outv, ov, outv, vs, vs, t⟩ W ⟨n, F, gi, gl, gn, p, nx, ov', outv', ov', outv', vs', vs', Tar.visit xss t s⟩ W' := by
  obtain ⟨A, c, rfl, hc1, hc2, -⟩ := hnx.form
  have hlen := hE.len
  have HNX := Lib.hid hnx
  have HE := Lib.hid hE
  have HX := Lib.hid hx
  have HOK := Lib.hid hok
  have HN := Lib.hid hn
  have HBW := Lib.hid hbw
  have HBD := Lib.hid hbd
  obtain ⟨s0, s1⟩ := hs
  have hwW := hbw.size
  have hmf : ∀ (fn : Fn) (first cap : Array Value) (w : World), (Instr.makeFunc fn first cap).run Tryz.prog w = .ok (.func fn first cap) w := fun _ _ _ _ => rfl
  unfold maxLen at hc2
  clear hnx hE hx hok hn hbw hbd
  go_enter Tryz.func124, Tryz.ntmps124
  go_wp2_with fail
  go_step3
  go_wp2_with fail
  have hb1 := (Below.refl W.heap.size W).alloc (Nat.le_refl _) (.cells #[.pointer (some ⟨F, 0, none⟩)] 125)
  have hb2 := hb1.alloc (by simp <;> omega) (.cells #[.pointer (some ⟨p, 0, none⟩)] 129)
  have hb3 := hb2.alloc (by simp <;> omega) (.cells #[.int .i64 s, .int .i64 0] 166)
  have z3 : (((W.alloc (.cells #[.pointer (some ⟨F, 0, none⟩)] 125)).alloc (.cells #[.pointer (some ⟨p, 0, none⟩)] 129)).alloc (.cells #[.int .i64 s, .int .i64 0] 166)).heap.size = W.heap.size + 3 := by simp
  have d3 : (((W.alloc (.cells #[.pointer (some ⟨F, 0, none⟩)] 125)).alloc (.cells #[.pointer (some ⟨p, 0, none⟩)] 129)).alloc (.cells #[.int .i64 s, .int .i64 0] 166)).cell? ⟨W.heap.size, 0, none⟩ = some (.pointer (some ⟨F, 0, none⟩)) := by
    rw [World.cell?_alloc_lt _ _ _ (by simp <;> omega), World.cell?_alloc_lt _ _ _ (by simp <;> omega)]; exact (box_cells W _ rfl _ _ 0).1
  have d5 : (((W.alloc (.cells #[.pointer (some ⟨F, 0, none⟩)] 125)).alloc (.cells #[.pointer (some ⟨p, 0, none⟩)] 129)).alloc (.cells #[.int .i64 s, .int .i64 0] 166)).cell? ⟨W.heap.size + 1, 0, none⟩ = some (.pointer (some ⟨p, 0, none⟩)) := by
    rw [World.cell?_alloc_lt _ _ _ (by simp)]; exact (box_cells _ _ (by simp) _ _ 0).1
  have dst : StackC (((W.alloc (.cells #[.pointer (some ⟨F, 0, none⟩)] 125)).alloc (.cells #[.pointer (some ⟨p, 0, none⟩)] 129)).alloc (.cells #[.int .i64 s, .int .i64 0] 166)) W.heap.size (.slice (some ⟨W.heap.size + 2, 0, none⟩) 1 1) [(s, 0)] := by
    have hh := heap_alloc_new ((W.alloc (.cells #[.pointer (some ⟨F, 0, none⟩)] 125)).alloc (.cells #[.pointer (some ⟨p, 0, none⟩)] 129)) (.cells #[.int .i64 s, .int .i64 0] 166)
    rw [show ((W.alloc (.cells #[.pointer (some ⟨F, 0, none⟩)] 125)).alloc (.cells #[.pointer (some ⟨p, 0, none⟩)] 129)).heap.size = W.heap.size + 2 by simp] at hh
    exact ⟨rfl, .inr ⟨W.heap.size + 2, 1, _, rfl, by omega, hh, Nat.le_refl _, by simp only [maxLen]; omega, rfl, rfl⟩⟩
  generalize ((W.alloc (.cells #[.pointer (some ⟨F, 0, none⟩)] 125)).alloc (.cells #[.pointer (some ⟨p, 0, none⟩)] 129)).alloc (.cells #[.int .i64 s, .int .i64 0] 166) = W3 at *
  have hx3 := HX.out.below hb3
  have he3 := Evo.of_below ⟨n, F, gi, gl, gn, p, .slice A xss.length c, ov, outv, ov, outv, vs, vs, t⟩ hb3
  have hoq : ∀ k, W.heap.size ≤ k → Off ⟨n, F, gi, gl, gn, p, .slice A xss.length c, ov, outv, ov, outv, vs, vs, t⟩ k := fun k hk => HX.out.fresh hk
  have hbd := HBD.out
  have hb0 := hbd.c0; have hb1' := hbd.c1; have hb2' := hbd.o
  have hcnt : 0 ≤ t.cnt + 1 := hb0
  refine (enter_calls ⟨n, F, gi, gl, gn, p, .slice A xss.length c, ov, outv, ov, outv, vs, vs, t⟩ w.heap.size W3 s (W.heap.size + 1) W.heap.size hx3 rfl d5 d3 (hoq _ (by omega)) (hoq _ (by omega)) s0 (by rw [HN.out]; exact s1) (by have := HN.out; show n ≤ 100; omega) ?_ ?_ (by omega)).mono ?_
  · show 0 ≤ t.cnt ∧ t.cnt ≤ 1000000
    have h1 : t.cnt + 1 + ((Tar.meas xss (Tar.enter t s) [(s, 0)] : Nat) : Int) ≤ (K : Int) := hb1'
    omega
  · show t.opn.length ≤ 1000000
    have h1 : t.opn.length + 1 + Tar.meas xss (Tar.enter t s) [(s, 0)] ≤ K := by simpa [Tar.enter] using hb2'
    omega
  rintro e W4 ⟨rfl, ov4, hx4, he4⟩
  have hR : VRel ⟨n, F, gi, gl, gn, p, .slice A xss.length c, ov, outv, ov, outv, vs, vs, t⟩ ⟨n, F, gi, gl, gn, p, .slice A xss.length c, ov4, outv, ov4, outv, vs, vs, Tar.enter t s⟩ w W W4 (.slice (some ⟨W.heap.size + 2, 0, none⟩) 1 1) [(s, 0)] := by
    have hz4 := he4.size
    refine ⟨hx4, he3.trans he4, own_kept dst fun k hk => he4.block k ?_ ?_, fun k hk => ⟨?_, ?_, ?_⟩, ?_, ?_, ?_, ?_, by omega⟩
    · have hk : W.heap.size + 2 = k := Option.some.inj hk; subst hk; omega
    · have hk : W.heap.size + 2 = k := Option.some.inj hk; subst hk; exact hoq _ (by omega)
    · have hk : W.heap.size + 2 = k := Option.some.inj hk; subst hk; exact he4.off (hoq _ (by omega)) (by omega)
    · have hk : W.heap.size + 2 = k := Option.some.inj hk; subst hk; omega
    · have hk : W.heap.size + 2 = k := Option.some.inj hk; subst hk; omega
    · exact (he4.cell (hoq _ (by omega)) (by omega) 0).trans d3
    · exact (he4.cell (hoq _ (by omega)) (by omega) 0).trans d5
    · exact he4.off (hoq _ (by omega)) (by omega)
    · exact he4.off (hoq _ (by omega)) (by omega)
  have hk4 := HOK.out.enter (s := s) ⟨s0, s1⟩
  clear hx3 he3 hx4 he4 d3 d5 dst hb3 z3 hoq hbd hb0 hb1' hb2' hcnt hb2 hb1
  go_wp2_with fail
  go_step3
  go_wp2_with fail
  go_loopg [6] (Tar.meas xss (Tar.enter t s) [(s, 0)]) (fun k sv W' => ∃ (ov' outv' : Value) (vs' : List Value) (t' : TS) (fr : List (Int × Int)), Hid (k = Tar.meas xss t' fr) ∧ Tar.Bd t' k K ∧ Tar.Ok xss t' fr ∧ VRel ⟨n, F, gi, gl, gn, p, .slice A xss.length c, ov, outv, ov, outv, vs, vs, t⟩ ⟨n, F, gi, gl, gn, p, .slice A xss.length c, ov', outv', ov', outv', vs', vs', t'⟩ w W W' sv fr ∧ Hid (Tar.visit xss t s = Tar.run xss t' fr))
  case atStart => exact ⟨_, _, _, _, _, rfl, HBD.out, hk4, hR, rfl⟩
  case round =>
    clear hR hk4
    obtain ⟨ov', outv', vs', t', fr, HK, hbd, hok, hR, HRES⟩ := hrel
    cases fr with
    | nil =>
      have HF := Lib.hid (show Tar.visit xss t s = t' by rw [HRES.out, Tar.run_nil])
      obtain ⟨sA, sc, rfl, -, -, -⟩ := own_form hR.stk
      have HR := Lib.hid hR
      clear hR hbd hok HRES HK
      --BEGIN nil
      go_wp2
      try rw [Exit.noGoto_normal]
      go_end0
      refine ⟨rfl, ov', outv', vs', ?_⟩
      rw [HF.out]
      exact ⟨HR.out.fin, HR.out.evo⟩
      --END nil
    | cons f fr =>
      obtain ⟨s', k'⟩ := f
      have hstk : wr.ownsRow W.heap.size 166 2 u6 (fr.length + 1) (fcells fr ++ [.int .i64 s', .int .i64 k']) := by have := hR.stk; rwa [StackC, fcells_cons] at this
      have hsv : ∃ g cap, u6 = .slice (some ⟨g, 0, none⟩) (fr.length + 1) cap ∧ fr.length + 1 ≤ cap ∧ cap ≤ maxLen := by
        obtain ⟨-, ⟨-, h2⟩ | ⟨g, cap, cur, rfl, -, -, h4, h5, -⟩⟩ := hstk
        · cases h2
        · exact ⟨g, cap, rfl, h4, h5⟩
      obtain ⟨g, cap, rfl, hp1, hp2⟩ := hsv
      unfold maxLen at hp2
      have HR := Lib.hid hR
      have HB := Lib.hid hbd
      have HO := Lib.hid hok
      clear hR hbd hok hstk
      go_wp2_with fail
      obtain ⟨G, hG⟩ : ∃ G, G = gk := ⟨_, rfl⟩
      have HG := Lib.hid hG
      clear hG
      go_loopg [6] gk (fun kk sv6 W' => ∃ (t' : TS) (k' : Int), sv6 = .slice (some ⟨g, 0, none⟩) (fr.length + 1) cap ∧ Hid (kk = Tar.meas xss t' ((s', k') :: fr)) ∧ kk ≤ G ∧ Tar.Bd t' kk K ∧ Tar.Ok xss t' ((s', k') :: fr) ∧ Hid (VRel ⟨n, F, gi, gl, gn, p, .slice A xss.length c, ov, outv, ov, outv, vs, vs, t⟩ ⟨n, F, gi, gl, gn, p, .slice A xss.length c, ov', outv', ov', outv', vs', vs', t'⟩ w W W' (.slice (some ⟨g, 0, none⟩) (fr.length + 1) cap) ((s', k') :: fr)) ∧ Hid (Tar.visit xss t s = Tar.run xss t' ((s', k') :: fr)))
      case atStart => exact ⟨t', k', rfl, HK.out, by rw [HG.out]; exact Nat.le_refl _, HB.out, HO.out, HR, HRES.out⟩
      case round =>
        clear HR HB HO HRES HK
        rename_i gk0 _ _
        obtain ⟨t', k', rfl, HK, hkG, hbd, hok, HR, HRES⟩ := hrel
        obtain ⟨a1, a2, a3, a4⟩ := hok.fs (s', k') (List.mem_cons_self ..)
        simp only at a1 a2 a3 a4
        obtain ⟨xs, hx⟩ : ∃ xs, xss[s'.toNat]? = some xs := ⟨_, List.getElem?_eq_getElem (by omega)⟩
        have hrow : Bfs.row xss s' = xs := by unfold Bfs.row; rw [List.getD_eq_getElem?_getD, hx]; rfl
        rw [hrow] at a4
        obtain ⟨ad, C, e, rfl, hDa, Q0, hd1, hd2, HC⟩ := HNX.out.row_up hD s'.toNat xs hx
        have hlow := HR.out.low HX.out HBW.out
        have q0 := Q0.out _ hlow
        obtain ⟨⟨b0, b1, b2, b3, b4, b5⟩, -⟩ := HR.out.fin.box
        have c3 := HR.out.c3
        obtain ⟨⟨t0, t1⟩, -⟩ := HR.out.top
        have HROW := Lib.hid hrow
        have HOK' := Lib.hid hok
        have HBD' := Lib.hid hbd
        have HL := Lib.hid hlow
        have hnn := HN.out
        subst hnn
        unfold maxLen at hd2
        clear hrow hx hok hbd hlow
        by_cases hk : k' < (xs.length : Int)
        · obtain ⟨bd, rfl, hDb, hcs⟩ := HC.out (by omega)
          have hxk := Bfs.at_get (d := xs) a3 hk
          have q1 := hcs _ HL.out _ _ hxk
          have hin := HE.out.ins xs (List.mem_of_getElem? (show xss[s'.toNat]? = some xs by have := HROW.out; unfold Bfs.row at this; rw [List.getD_eq_getElem?_getD] at this; rw [List.getElem?_eq_getElem (by omega)] at this ⊢; exact congrArg some this)) _ (List.mem_of_getElem? hxk)
          obtain ⟨i1, i2⟩ := hin
          clear hcs hxk
          generalize hv : Bfs.at' xs k' = v at *
          have HV := Lib.hid hv
          clear hv
          go_upto_region 6 with fail
          go_quiet (fail)
          revert nq; intro n1
          go_upto_region 7 with fail
          go_quiet (fail)
          revert nq; intro n2
          go_upto_region 8 with fail
          have tf := HR.out.top.2 (fr.length * 2 + 1)
          go_upto_region 9 with fail
          have hR2 := (HR.out.drewN (n1 + n2)).nextTop (k' + 1)
          generalize (wr.drewN (n1 + n2)).setCell ⟨g, fr.length * 2 + 1, none⟩ (.int .i64 (k' + 1)) = W2 at *
          obtain ⟨⟨-, g1, g2, g3, g4, g5⟩, -⟩ := hR2.fin.box
          have g6 := hR2.c3
          obtain ⟨x1, x2⟩ := hR2.fin.idx i1 i2
          have HR2 := Lib.hid hR2
          clear hR2 b0 b1 b2 b3 b4 b5 c3 t0 t1 tf q0 q1
          have hkr : k' < ((Bfs.row xss s').length : Int) := by rw [HROW.out]; exact hk
          have hvr : Bfs.at' (Bfs.row xss s') k' = v := by rw [HROW.out]; exact HV.out
          have hbd' := HBD'.out
          rw [HK.out] at hbd'
          obtain ⟨s1', s2', -, -⟩ := Tar.step_meas HOK'.out hbd'.c0
          have hbs := Tar.Bd.step HOK'.out hbd'
          have hrs := Tar.run_step HOK'.out hbd'.c0
          have HST := Lib.hid (And.intro hkr (And.intro hvr (And.intro s1' (And.intro s2' (And.intro hbs hrs)))))
          clear hkr hvr hbd' s1' s2' hbs hrs
          by_cases hz : Bfs.at' t'.idx v = 0
          · have HZ := Lib.hid hz
            rw [hz] at x1
            clear hz
            --BEGIN new
            as_aux_lemma =>
            go_wp2_with fail
            have hcb := HBD'.out
            have hc0' := hcb.c0; have hc1' := hcb.c1; have hc2' := hcb.o
            refine (enter_calls _ w.heap.size W2 v (W.heap.size + 1) W.heap.size HR2.out.fin rfl HR2.out.c5 HR2.out.c3 HR2.out.o5 HR2.out.o3 i1 i2 (by show xss.length ≤ 100; omega) ⟨hc0', by show t'.cnt ≤ 1000000; omega⟩ (by show t'.opn.length ≤ 1000000; omega) (by have := HR2.out.sz; omega)).mono ?_
            rintro e W5 ⟨rfl, ov5, hx5, he5⟩
            have hR5 := HR2.out.turn hx5 he5 rfl rfl
            have HR5 := Lib.hid hR5
            clear hx5 he5 hR5 hc0' hc1' hc2' hcb
            have hstk5 : StackC W5 W.heap.size (.slice (some ⟨g, 0, none⟩) (fr.length + 1) cap) ((s', k' + 1) :: fr) := HR5.out.stk
            have hsz5 := HR5.out.sz
            have hfl : ((s', k' + 1) :: fr).length ≤ 1000000 := by
              have h1 := HOK'.out.sub.length_le
              have h2 := HBD'.out.o
              simp only [List.length_map, List.length_cons] at h1 ⊢
              omega
            have hal := (Below.refl W5.heap.size W5).alloc (Nat.le_refl _) (.cells #[.int .i64 v, .int .i64 0] 166)
            have hstk6 : StackC (W5.alloc (.cells #[.int .i64 v, .int .i64 0] 166)) W.heap.size (.slice (some ⟨g, 0, none⟩) (fr.length + 1) cap) ((s', k' + 1) :: fr) := World.ownsRow.alloc hstk5 _
            have HS6 := Lib.hid hstk6
            have HAL := Lib.hid hal
            clear hstk5 hstk6 hal
            go_wp2_with (at_builtin; refine wpList_push rfl _ _ rfl W.heap.size _ ((s', k' + 1) :: fr) rfl HS6.out W5.heap.size 1 v 0 rfl (heap_alloc_new W5 _) hfl (by simp; omega) ?_; intro sv7 w7 hs7 hg7 ha7)
            obtain ⟨q1', q2', q3', q4', q5', q6'⟩ := HST.out
            have hst := Tar.step_new q1' (by rw [q2']; exact HZ.out) (t := t') (fr := fr)
            rw [q2'] at hst
            rw [hst] at q3' q4' q5' q6'
            have q7 : Tar.meas xss (Tar.enter t' v) ((v, 0) :: (s', k' + 1) :: fr) < Tar.meas xss t' ((s', k') :: fr) := q4'
            have hR7 := (HR5.out.turn (HR5.out.fin.below HAL.out) (Evo.of_below _ HAL.out) rfl rfl).stack hg7 hs7 (ha7.imp id fun e k hk => by rw [e] at hk; cases hk; exact Nat.le_refl _)
            go_roundg (Tar.meas xss (Tar.enter t' v) ((v, 0) :: (s', k' + 1) :: fr))
            case measure => have := HK.out; have := HG.out; omega
            case rel => exact ⟨ov5, outv', vs', Tar.enter t' v, (v, 0) :: (s', k' + 1) :: fr, rfl, q5', q3', hR7, HRES.out.trans q6'⟩
            --END new
          · have hz' : (Bfs.at' t'.idx v == 0) = false := beq_eq_false_iff_ne.2 hz
            have HZ := Lib.hid hz
            obtain ⟨y1, y2⟩ := HR2.out.fin.on i1 i2
            clear hz
            cases ho : Tar.onAt t'.on v with
            | true =>
              rw [ho] at y1
              have HOO := Lib.hid ho
              obtain ⟨z1, z2⟩ := HR2.out.fin.low a1 a2
              obtain ⟨hx6, he6⟩ := HR2.out.fin.setLow a1 a2 (min (Bfs.at' t'.low s') (Bfs.at' t'.idx v))
              have hR6 := (HR2.out.turn hx6 he6 rfl rfl).drew
              have HR6 := Lib.hid hR6
              obtain ⟨⟨w1, -⟩, -⟩ := HR2.out.top
              clear ho hx6 he6 hR6
              --BEGIN on
              as_aux_lemma =>
              go_upto_region 13 with fail
              go_still_tail 27, (by kernel_rfl)
              change wpList _ _ _ _ _ W2.drew
              have z1' : W2.drew.cell? ⟨gl, s'.toNat, none⟩ = some (.int .i64 (Bfs.at' t'.low s')) := z1
              have z2' : W2.drew.frozen? ⟨gl, s'.toNat, none⟩ = false := z2
              clear g1 g2 g3 g4 g5 g6 x1 x2 y1 y2 z1 z2 w1
              go_wp2_with fail
              obtain ⟨q1', q2', q3', q4', q5', q6'⟩ := HST.out
              rw [Tar.step_on q1' (by rw [q2']; exact HZ.out) (by rw [q2']; exact HOO.out), q2'] at q3' q4' q5' q6'
              go_roundg (Tar.meas xss (Tar.setLow t' s' (Bfs.at' t'.idx v)) ((s', k' + 1) :: fr))
              case measure => rw [HK.out]; exact q4'
              case rel => exact ⟨Tar.setLow t' s' (Bfs.at' t'.idx v), k' + 1, rfl, rfl, by have := HK.out; have q7 : Tar.meas xss (Tar.setLow t' s' (Bfs.at' t'.idx v)) ((s', k' + 1) :: fr) < Tar.meas xss t' ((s', k') :: fr) := q4'; omega, q5', q3', HR6, HRES.out.trans q6'⟩
              --END on
            | false =>
              rw [ho] at y1
              have HOO := Lib.hid ho
              clear ho
              --BEGIN off
              as_aux_lemma =>
              go_wp2_with fail
              obtain ⟨q1', q2', q3', q4', q5', q6'⟩ := HST.out
              rw [Tar.step_off q1' (by rw [q2']; exact HZ.out) (by rw [q2']; exact HOO.out)] at q3' q4' q5' q6'
              go_roundg (Tar.meas xss t' ((s', k' + 1) :: fr))
              case measure => rw [HK.out]; exact q4'
              case rel => exact ⟨t', k' + 1, rfl, rfl, by have := HK.out; have q7 : Tar.meas xss t' ((s', k' + 1) :: fr) < Tar.meas xss t' ((s', k') :: fr) := q4'; omega, q5', q3', HR2, HRES.out.trans q6'⟩
              --END off
        · have hkr : ¬ k' < ((Bfs.row xss s').length : Int) := by rw [HROW.out]; exact hk
          have HKR := Lib.hid hkr
          clear hkr
          --BEGIN up
          obtain ⟨p1, -⟩ := HR.out.fin.low a1 a2
          obtain ⟨p2, -⟩ := HR.out.fin.idx a1 a2
          go_upto_region 6 with fail
          go_quiet (fail)
          revert nq; intro n1
          go_wp2_with fail
          go_quiet (fail)
          revert nq; intro n2
          go_upto_if 134 with fail
          have hRn := (HR.out.drewN n1).drewN n2
          generalize (wr.drewN n1).drewN n2 = W2 at *
          have HRn := Lib.hid hRn
          have g6 := hRn.c3
          clear b0 b1 b2 b3 b4 b5 c3 t0 t1 q0 p1 p2 hRn
          go_cut [] from 134 to 137 (fun W5 => ∃ (ov5 outv5 : Value) (vs5 : List Value), VRel ⟨xss.length, F, gi, gl, gn, p, .slice (some ad) xss.length c, ov, outv, ov, outv, vs, vs, t⟩ ⟨xss.length, F, gi, gl, gn, p, .slice (some ad) xss.length c, ov5, outv5, ov5, outv5, vs5, vs5, Tar.ended t' s'⟩ w W W5 (.slice (some ⟨g, 0, none⟩) (fr.length + 1) cap) ((s', k') :: fr))
          case first =>
            by_cases heq : Bfs.at' t'.low s' = Bfs.at' t'.idx s'
            · have hbt : (Bfs.at' t'.low s' == Bfs.at' t'.idx s') = true := beq_iff_eq.2 heq
              have HEN := Lib.hid (show Tar.ended t' s' = Tar.close t' s' by unfold Tar.ended; rw [if_pos heq])
              clear heq
              go_wp2_with fail
              have hcb := HBD'.out
              have hc2' := hcb.o; have hc3' := hcb.u
              refine (close_calls ⟨xss.length, F, gi, gl, gn, p, .slice (some ad) xss.length c, ov', outv', ov', outv', vs', vs', t'⟩ w.heap.size W2 s' HRn.out.fin rfl rfl rfl (HOK'.out.sub.subset (List.mem_cons_self ..)) HOK'.out.op (by show xss.length ≤ 100; omega) (by show t'.opn.length ≤ 100000; omega) (by show vs'.length ≤ 100000; have h3 : vs'.length = t'.out.length := HRn.out.fin.rl; omega) (by have := HRn.out.sz; omega)).mono ?_
              rintro e W5 ⟨rfl, ov5, outv5, vs5, hx5, he5⟩
              have hR5 := HRn.out.turn hx5 he5 rfl rfl
              have HR5 := Lib.hid hR5
              clear hx5 he5 hR5 hcb hc2' hc3' g6
              go_wp2_with fail
              go_meet
              rw [HEN.out]
              exact ⟨ov5, outv5, vs5, HR5.out⟩
            · have hbt : (Bfs.at' t'.low s' == Bfs.at' t'.idx s') = false := beq_eq_false_iff_ne.2 heq
              have HEN := Lib.hid (show Tar.ended t' s' = t' by unfold Tar.ended; rw [if_neg heq])
              clear heq g6
              go_wp2_with fail
              go_meet
              rw [HEN.out]
              exact ⟨ov', outv', vs', HRn.out⟩
          case rest =>
          as_aux_lemma =>
          obtain ⟨ov5, outv5, vs5, hR5⟩ := hcut
          clear g6
          have hbd' := HBD'.out
          rw [HK.out] at hbd'
          obtain ⟨s1', s2', -, -⟩ := Tar.step_meas HOK'.out hbd'.c0
          have hbs := Tar.Bd.step HOK'.out hbd'
          have hrs := Tar.run_step HOK'.out hbd'.c0
          have hkr2 : ¬ k' < ((Bfs.row xss s').length : Int) := by have := HKR.out; omega
          cases fr with
          | nil =>
            simp only [List.length_nil, Nat.zero_add] at hp1
            rw [Tar.step_last hkr2] at s1' s2' hbs hrs
            have hP : VRel ⟨xss.length, F, gi, gl, gn, p, .slice (some ad) xss.length c, ov, outv, ov, outv, vs, vs, t⟩ ⟨xss.length, F, gi, gl, gn, p, .slice (some ad) xss.length c, ov5, outv5, ov5, outv5, vs5, vs5, Tar.ended t' s'⟩ w W wc (.slice (some ⟨g, 0, none⟩) 0 cap) [] := hR5.pop
            have HP := Lib.hid hP
            have HS := Lib.hid (And.intro s1' (And.intro s2' (And.intro hbs hrs)))
            clear hP hR5 s1' s2' hbs hrs hbd' hkr2
            go_wp2_with fail
            go_roundg (Tar.meas xss (Tar.ended t' s') [])
            case measure => have := HK.out; have := HG.out; have q7 : Tar.meas xss (Tar.ended t' s') [] < Tar.meas xss t' [(s', k')] := HS.out.2.1; omega
            case rel => exact ⟨ov5, outv5, vs5, Tar.ended t' s', [], rfl, HS.out.2.2.1, HS.out.1, HP.out, HRES.out.trans HS.out.2.2.2⟩
          | cons f fr =>
            obtain ⟨u, j⟩ := f
            simp only [List.length_cons] at hp1
            rw [Tar.step_up hkr2] at s1' s2' hbs hrs
            obtain ⟨u1, u2, -, -⟩ := HOK'.out.fs (u, j) (List.mem_cons_of_mem _ (List.mem_cons_self ..))
            simp only at u1 u2
            have hP : VRel ⟨xss.length, F, gi, gl, gn, p, .slice (some ad) xss.length c, ov, outv, ov, outv, vs, vs, t⟩ ⟨xss.length, F, gi, gl, gn, p, .slice (some ad) xss.length c, ov5, outv5, ov5, outv5, vs5, vs5, Tar.ended t' s'⟩ w W wc (.slice (some ⟨g, 0, none⟩) (fr.length + 1) cap) ((u, j) :: fr) := hR5.pop
            obtain ⟨⟨-, -, b2, -, -, -⟩, -⟩ := hP.fin.box
            have c3 := hP.c3
            obtain ⟨⟨t0, -⟩, -⟩ := hP.top
            obtain ⟨z1, z2⟩ := hP.fin.low u1 u2
            obtain ⟨p1, -⟩ := hP.fin.low a1 a2
            obtain ⟨hx6, he6⟩ := hP.fin.setLow u1 u2 (min (Bfs.at' (Tar.ended t' s').low u) (Bfs.at' (Tar.ended t' s').low s'))
            have hR6 := (hP.turn hx6 he6 rfl rfl).drew
            have HR6 := Lib.hid hR6
            have HS := Lib.hid (And.intro s1' (And.intro s2' (And.intro hbs hrs)))
            clear hP hR5 s1' s2' hbs hrs hbd' hx6 he6 hR6 hkr2
            go_wp2_with fail
            go_still_tail 21, (by kernel_rfl)
            change wpList _ _ _ _ _ wc.drew
            have z1' : wc.drew.cell? ⟨gl, u.toNat, none⟩ = some (.int .i64 (Bfs.at' (Tar.ended t' s').low u)) := z1
            have z2' : wc.drew.frozen? ⟨gl, u.toNat, none⟩ = false := z2
            clear z1 z2 p1 t0 c3 b2
            go_wp2_with fail
            go_roundg (Tar.meas xss (Tar.setLow (Tar.ended t' s') u (Bfs.at' (Tar.ended t' s').low s')) ((u, j) :: fr))
            case measure => have := HK.out; have := HG.out; have q7 : Tar.meas xss (Tar.setLow (Tar.ended t' s') u (Bfs.at' (Tar.ended t' s').low s')) ((u, j) :: fr) < Tar.meas xss t' ((s', k') :: (u, j) :: fr) := HS.out.2.1; omega
            case rel => exact ⟨ov5, outv5, vs5, Tar.setLow (Tar.ended t' s') u (Bfs.at' (Tar.ended t' s').low s'), (u, j) :: fr, rfl, HS.out.2.2.1, HS.out.1, HR6.out, HRES.out.trans HS.out.2.2.2⟩
          --END up

end Go.Proofs.YtoffbdlgmnpblaaGreat

/- Plain laws: what stays so through the whole search for components. -/
namespace Go.Proofs.YtoffbdlgmnpblaaGreat.Tar
open Bfs (at' row)

theorem run_inv {next : List (List Int)} {P : TS → List (Int × Int) → Prop} (hstep : ∀ t s k fr, Ok next t ((s, k) :: fr) → 0 ≤ t.cnt → P t ((s, k) :: fr) → P (step next t ((s, k) :: fr)).1 (step next t ((s, k) :: fr)).2) :
    ∀ (f : Nat) (t : TS) (fr : List (Int × Int)), meas next t fr ≤ f → Ok next t fr → 0 ≤ t.cnt → P t fr → Ok next (run next t fr) [] ∧ 0 ≤ (run next t fr).cnt ∧ P (run next t fr) [] := by
  intro f
  induction f with
  | zero =>
    intro t fr hf ho hc h
    cases fr with
    | nil => rw [run_nil]; exact ⟨ho, hc, h⟩
    | cons a fr => obtain ⟨s, k⟩ := a; unfold meas at hf; simp only [wf] at hf; omega
  | succ f ih =>
    intro t fr hf ho hc h
    cases fr with
    | nil => rw [run_nil]; exact ⟨ho, hc, h⟩
    | cons a fr =>
      obtain ⟨s, k⟩ := a
      obtain ⟨h1, h2, h3, -⟩ := step_meas ho hc
      rw [run_step ho hc]
      exact ih _ _ (by omega) h1 h3 (hstep t s k fr ho hc h)

/-- the components that are found -/
def OutOk (n : Nat) (t : TS) : Prop := ∀ l ∈ t.out, l ≠ [] ∧ ∀ x ∈ l, 0 ≤ x ∧ x < (n : Int)
theorem mem_isort' {l : List Int} {x : Int} : x ∈ isort l ↔ x ∈ l := List.mem_mergeSort
theorem popR_has {s : Int} : ∀ {r : List Int}, s ∈ r → s ∈ (popR s r).1
  | [], h => by cases h
  | t :: r, h => by
    unfold popR
    by_cases e : t = s
    · rw [if_pos e, e]; simp
    · rw [if_neg e]
      rcases List.mem_cons.1 h with h | h
      · exact absurd h.symm e
      · exact List.mem_cons_of_mem _ (popR_has h)
theorem close_out {next : List (List Int)} {t : TS} {fr : List (Int × Int)} {s k : Int} (h : Ok next t ((s, k) :: fr)) (ho : OutOk next.length t) : OutOk next.length (close t s) := by
  intro l hl
  rcases List.mem_append.1 hl with hl | hl
  · exact ho l hl
  · have : l = isort (popR s t.opn).1 := by simpa using hl
    subst this
    have hs : s ∈ t.opn := (popR_sub h.sub).2
    refine ⟨fun e => ?_, fun x hx => h.op x (popR_mem.1 x (mem_isort'.1 hx))⟩
    have : s ∈ isort (popR s t.opn).1 := mem_isort'.2 (popR_has hs)
    rw [e] at this; cases this
theorem step_out {next : List (List Int)} {t : TS} {fr : List (Int × Int)} {s k : Int} (h : Ok next t ((s, k) :: fr)) (ho : OutOk next.length t) : OutOk next.length (step next t ((s, k) :: fr)).1 := by
  have he : OutOk next.length (ended t s) := by
    unfold ended
    split
    · exact close_out h ho
    · exact ho
  by_cases hk : k < ((row next s).length : Int)
  · by_cases h0 : at' t.idx (at' (row next s) k) = 0
    · rw [step_new hk h0]; exact ho
    · cases hn : onAt t.on (at' (row next s) k) with
      | true => rw [step_on hk h0 hn]; exact ho
      | false => rw [step_off hk h0 hn]; exact ho
  · cases fr with
    | nil => rw [step_last hk]; exact he
    | cons f fr => obtain ⟨u, j⟩ := f; rw [step_up hk]; exact he

theorem meas_nil (next : List (List Int)) (t : TS) : meas next t [] = wt next t.idx 0 := rfl
theorem meas_enter {next : List (List Int)} {t : TS} (h : Ok next t []) (hc : 0 ≤ t.cnt) {s : Int} (hs : 0 ≤ s ∧ s < (next.length : Int)) (h0 : at' t.idx s = 0) : meas next (enter t s) [(s, 0)] + 1 = meas next t [] := by
  have hg := Bfs.at_get (d := t.idx) hs.1 (by rw [h.li]; exact hs.2)
  have hw := wt_set next t.idx 0 _ _ (t.cnt + 1) hg h0 (by omega)
  rw [Nat.zero_add] at hw
  have e2 : (row next s).length = (next.getD s.toNat []).length := rfl
  have e1 : wf next [(s, 0)] = (row next s).length + 1 := by simp [wf]
  unfold meas
  rw [e1]
  simp only [enter, wf]
  omega
theorem Bd.enter {next : List (List Int)} {t : TS} {K : Nat} (h : Ok next t []) (b : Bd t (meas next t []) K) {s : Int} (hs : 0 ≤ s ∧ s < (next.length : Int)) (h0 : at' t.idx s = 0) : Bd (enter t s) (meas next (enter t s) [(s, 0)]) K := by
  have hm := meas_enter h b.c0 hs h0
  have b0 := b.c0; have b1 := b.c1; have b2 := b.o; have b3 := b.u
  refine ⟨?_, ?_, ?_, ?_⟩
  · simp only [Tar.enter]; omega
  · simp only [Tar.enter] at hm ⊢; omega
  · simp only [Tar.enter, List.length_cons] at hm ⊢; omega
  · simp only [Tar.enter] at hm ⊢; omega
/-- what is known between two searches -/
structure Rest (next : List (List Int)) (K : Nat) (t : TS) : Prop where
  ok : Ok next t []
  bd : Bd t (meas next t []) K
  out : OutOk next.length t
theorem Rest.visit {next : List (List Int)} {K : Nat} {t : TS} (h : Rest next K t) {s : Int} (hs : 0 ≤ s ∧ s < (next.length : Int)) (h0 : at' t.idx s = 0) : Rest next K (visit next t s) := by
  have hb := Bd.enter h.ok h.bd hs h0
  obtain ⟨h1, h2, h3, h4⟩ := run_inv (P := fun t fr => Bd t (meas next t fr) K ∧ OutOk next.length t) (fun t s k fr ho _ h => ⟨Bd.step ho h.1, step_out ho h.2⟩) _ _ _ (Nat.le_refl _) (h.ok.enter hs) hb.c0 ⟨hb, h.out⟩
  exact ⟨h1, h3, h4⟩
theorem start_ok {next : List (List Int)} (hin : ∀ x, 0 ≤ x → x < (next.length : Int) → ∀ y ∈ row next x, 0 ≤ y ∧ y < (next.length : Int)) : Ok next (start next.length) [] :=
  ⟨by simp [start], by simp [start], by simp [start], fun f hf => (List.not_mem_nil hf).elim, List.Sublist.refl _, fun s hs => (List.not_mem_nil hs).elim, hin⟩
theorem wt_le (next : List (List Int)) (b : Nat) (hb : ∀ xs ∈ next, xs.length ≤ b) : ∀ (l : List Int) (j : Nat), wt next l j ≤ l.length * (b + 2)
  | [], _ => by simp [wt]
  | x :: l, j => by
    have ih := wt_le next b hb l (j + 1)
    have h1 : (next.getD j []).length ≤ b := by
      rw [List.getD_eq_getElem?_getD]
      cases hh : next[j]? with
      | none => simp
      | some y => exact hb y (List.mem_of_getElem? hh)
    simp only [wt, List.length_cons]
    rw [Nat.add_mul, Nat.one_mul]
    split
    · omega
    · omega
theorem start_rest {next : List (List Int)} {b : Nat} (hb : ∀ xs ∈ next, xs.length ≤ b) (hin : ∀ x, 0 ≤ x → x < (next.length : Int) → ∀ y ∈ row next x, 0 ≤ y ∧ y < (next.length : Int)) : Rest next (next.length * (b + 2)) (start next.length) := by
  have hw := wt_le next b hb (start next.length).idx 0
  have hl : (start next.length).idx.length = next.length := by simp [start]
  rw [hl] at hw
  refine ⟨start_ok hin, ⟨Int.le_refl _, ?_, ?_, ?_⟩, fun l hl => (List.not_mem_nil hl).elim⟩
  · rw [meas_nil]; simp only [start] at hw ⊢; omega
  · rw [meas_nil]; simp only [start, List.length_nil] at hw ⊢; omega
  · rw [meas_nil]; simp only [start, List.length_nil] at hw ⊢; omega
theorem upTo_rest {next : List (List Int)} {b : Nat} (hb : ∀ xs ∈ next, xs.length ≤ b) (hin : ∀ x, 0 ≤ x → x < (next.length : Int) → ∀ y ∈ row next x, 0 ≤ y ∧ y < (next.length : Int)) : ∀ j, j ≤ next.length → Rest next (next.length * (b + 2)) (upTo next j)
  | 0, _ => start_rest hb hin
  | j + 1, hj => by
    have ih := upTo_rest hb hin j (by omega)
    unfold upTo
    split
    · rename_i h; exact ih.visit ⟨by omega, by omega⟩ h
    · exact ih
theorem upTo_succ (next : List (List Int)) (j : Nat) : upTo next (j + 1) = if at' (upTo next j).idx j = 0 then visit next (upTo next j) j else upTo next j := rfl

end Go.Proofs.YtoffbdlgmnpblaaGreat.Tar
