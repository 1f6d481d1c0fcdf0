/- Part 36: Par2 Par3. -/
import Derived.Test.YtoffbdlgmnpblaaGreatJ32
import Derived.Test.YtoffbdlgmnpblaaGreatJ34
import Derived.Test.YtoffbdlgmnpblaaGreatJ35
import Derived.Test.YtoffbdlgmnpblaaGreatJ29

/- Package graph: Parts, Components. -/
namespace Go.Proofs.YtoffbdlgmnpblaaGreat
open Go.RowKit
open Tar (TS)
set_option maxHeartbeats 4000000
set_option maxRecDepth 100000

def partsOf (xss : List (List Int)) : List (List Int) := Lex.lsort (Tar.found xss)

theorem mk_ints (n : Nat) (hn : n ≤ 1000000) : ∀ w : World, (Instr.makeSlice 31 (.int .i64 (n : Int)) (.int .i64 (n : Int))).run Tryz.prog w = .ok (.slice (some ⟨w.heap.size, 0, none⟩) n n) (w.alloc (.cells (Array.replicate n (.int .i64 0)) 3)) := by
  intro w
  obtain ⟨i, hi, hz, hsz, hby⟩ := elem_i64.hi
  have := run_make (P := Tryz.prog) w 31 3 i (.int .i64 0) elem_i64.ht hi hz .i64 .i64 (n : Int) (n : Int) (by omega) (Int.le_refl _) (by rw [hby]; omega) (by omega)
  rw [hsz, Nat.mul_one, Int.toNat_natCast, madeCells1 _ rfl (by intro cs h; cases h)] at this
  exact this
theorem mk_bools (n : Nat) (hn : n ≤ 1000000) : ∀ w : World, (Instr.makeSlice 64 (.int .i64 (n : Int)) (.int .i64 (n : Int))).run Tryz.prog w = .ok (.slice (some ⟨w.heap.size, 0, none⟩) n n) (w.alloc (.cells (Array.replicate n (.bool false)) 4)) := by
  intro w
  obtain ⟨i, hi, hz, hsz, hby⟩ := elem_bool.hi
  have := run_make (P := Tryz.prog) w 64 4 i (.bool false) elem_bool.ht hi hz .i64 .i64 (n : Int) (n : Int) (by omega) (Int.le_refl _) (by rw [hby]; omega) (by omega)
  rw [hsz, Nat.mul_one, Int.toNat_natCast, madeCells1 _ rfl (by intro cs h; cases h)] at this
  exact this

theorem a3_0 (w : World) (o1 o2 o3 : Obj) : (((w.alloc o1).alloc o2).alloc o3).heap[w.heap.size]? = some o1 :=
  (Below.heap_alloc _ _ _ (by simp <;> omega)).trans ((Below.heap_alloc _ _ _ (by simp)).trans (heap_alloc_new w o1))
theorem a3_1 (w : World) (o1 o2 o3 : Obj) : (((w.alloc o1).alloc o2).alloc o3).heap[w.heap.size + 1]? = some o2 := by
  have h := heap_alloc_new (w.alloc o1) o2
  rw [World.size_alloc] at h
  exact (Below.heap_alloc _ _ _ (by simp)).trans h
theorem a3_2 (w : World) (o1 o2 o3 : Obj) : (((w.alloc o1).alloc o2).alloc o3).heap[w.heap.size + 1 + 1]? = some o3 := by
  have h := heap_alloc_new ((w.alloc o1).alloc o2) o3
  rw [World.size_alloc, World.size_alloc] at h
  exact h
/-- what the literal of the finder has made -/
structure Made (w W : World) (n F gi gl gn : Nat) (nx : Value) : Prop where
  bel : Below w.heap.size w W
  ci : W.heap[gi]? = some (.cells (Array.replicate n (.int .i64 0)) 3 (0, 0))
  cl : W.heap[gl]? = some (.cells (Array.replicate n (.int .i64 0)) 3 (0, 0))
  cn : W.heap[gn]? = some (.cells (Array.replicate n (.bool false)) 4 (0, 0))
  cf : W.heap[F]? = some (.cells #[nx, .slice (some ⟨gi, 0, none⟩) n n, .slice (some ⟨gl, 0, none⟩) n n, .slice none 0 0, .slice (some ⟨gn, 0, none⟩) n n, .slice none 0 0] 127 (0, 0))
  d1 : w.heap.size ≤ gi ∧ w.heap.size ≤ gl ∧ w.heap.size ≤ gn ∧ w.heap.size ≤ F
  d2 : gi ≠ gl ∧ gi ≠ gn ∧ gi ≠ F ∧ gl ≠ gn ∧ gl ≠ F ∧ gn ≠ F

theorem Made.of (w : World) (n : Nat) (nx : Value) (o1 o2 o3 : Obj) (i l m : Nat) (h1 : w.heap.size ≤ i) (h2 : i < w.heap.size + 3) (h3 : w.heap.size ≤ l) (h4 : l < w.heap.size + 3) (h5 : w.heap.size ≤ m) (h6 : m < w.heap.size + 3) (hil : i ≠ l) (him : i ≠ m) (hlm : l ≠ m)
    (e1 : (((w.alloc o1).alloc o2).alloc o3).heap[i]? = some (.cells (Array.replicate n (.int .i64 0)) 3 (0, 0))) (e2 : (((w.alloc o1).alloc o2).alloc o3).heap[l]? = some (.cells (Array.replicate n (.int .i64 0)) 3 (0, 0)))
    (e3 : (((w.alloc o1).alloc o2).alloc o3).heap[m]? = some (.cells (Array.replicate n (.bool false)) 4 (0, 0))) :
    Made w ((((w.alloc o1).alloc o2).alloc o3).alloc (.cells #[nx, .slice (some ⟨i, 0, none⟩) n n, .slice (some ⟨l, 0, none⟩) n n, .slice none 0 0, .slice (some ⟨m, 0, none⟩) n n, .slice none 0 0] 127)) n (w.heap.size + 3) i l m nx := by
  have hz : (((w.alloc o1).alloc o2).alloc o3).heap.size = w.heap.size + 3 := by simp
  have old : ∀ (o : Obj) (k : Nat), k < w.heap.size + 3 → ((((w.alloc o1).alloc o2).alloc o3).alloc o).heap[k]? = (((w.alloc o1).alloc o2).alloc o3).heap[k]? := fun o k hk => Below.heap_alloc _ _ k (by omega)
  refine ⟨((((Below.refl _ _).alloc (Nat.le_refl _) _).alloc (by simp) _).alloc (by simp <;> omega) _).alloc (by simp <;> omega) _, (old _ i h2).trans e1, (old _ l h4).trans e2, (old _ m h6).trans e3, ?_, ⟨h1, h3, h5, by omega⟩, ⟨hil, him, by omega, hlm, by omega, by omega⟩⟩
  have := heap_alloc_new (((w.alloc o1).alloc o2).alloc o3) (.cells #[nx, .slice (some ⟨i, 0, none⟩) n n, .slice (some ⟨l, 0, none⟩) n n, .slice none 0 0, .slice (some ⟨m, 0, none⟩) n n, .slice none 0 0] 127)
  rw [hz] at this
  exact this

theorem Made.fin {w W : World} {n F gi gl gn : Nat} {nx : Value} (h : Made w W n F gi gl gn nx) (hn : n ≤ 1000) : FinC ⟨n, F, gi, gl, gn, W.heap.size, nx, .slice none 0 0, .slice none 0 0, .slice none 0 0, .slice none 0 0, [], [], Tar.start n⟩ w.heap.size (W.alloc (.cells #[.int .i64 0] 3)) := by
  have lt : ∀ {k : Nat} {o : Obj}, W.heap[k]? = some o → k < W.heap.size := fun h => (Array.getElem?_eq_some_iff.1 h).1
  have hi := lt h.ci; have hl := lt h.cl; have hg := lt h.cn; have hf := lt h.cf
  have old : ∀ k, k < W.heap.size → (W.alloc (.cells #[.int .i64 0] 3)).heap[k]? = W.heap[k]? := fun k hk => Below.heap_alloc _ _ k hk
  obtain ⟨a1, a2, a3, a4⟩ := h.d1
  obtain ⟨b1, b2, b3, b4, b5, b6⟩ := h.d2
  refine ⟨fun j => ?_, fun i j k hij hi' hj' => ?_, rfl⟩
  · match j with
    | 0 => exact ⟨by simp [Tar.start], .inr ⟨gi, n, _, rfl, a1, (old _ hi).trans h.ci, Nat.le_refl _, by simp only [maxLen]; omega, by simp, by simp [Tar.start]⟩⟩
    | 1 => exact ⟨by simp [Tar.start], .inr ⟨gl, n, _, rfl, a2, (old _ hl).trans h.cl, Nat.le_refl _, by simp only [maxLen]; omega, by simp, by simp [Tar.start]⟩⟩
    | 2 => exact ⟨by simp [Tar.start], .inr ⟨gn, n, _, rfl, a3, (old _ hg).trans h.cn, Nat.le_refl _, by simp only [maxLen]; omega, by simp, by simp [Tar.start]⟩⟩
    | 3 => exact ⟨a4, (old _ hf).trans h.cf⟩
    | 4 => exact ⟨h.bel.size, heap_alloc_new W _⟩
    | 5 => exact World.ownsRow_nil _ _ _ _
    | 6 => exact World.ownsRow_nil _ _ _ _
    | r + 7 => exact fun v xs hv _ => by simp at hv
  · match i, j, hi', hj' with
    | r + 7, _, hi', _ => simp [Fp.blk] at hi'
    | 5, _, hi', _ => simp [Fp.blk, Value.ownBlock] at hi'
    | 6, _, hi', _ => simp [Fp.blk, Value.ownBlock] at hi'
    | _, r + 7, _, hj' => simp [Fp.blk] at hj'
    | _, 5, _, hj' => simp [Fp.blk, Value.ownBlock] at hj'
    | _, 6, _, hj' => simp [Fp.blk, Value.ownBlock] at hj'
    | 0, 0, _, _ | 1, 1, _, _ | 2, 2, _, _ | 3, 3, _, _ | 4, 4, _, _ => exact hij rfl
    | 0, 1, h1, h2 | 0, 2, h1, h2 | 0, 3, h1, h2 | 0, 4, h1, h2 | 1, 0, h1, h2 | 1, 2, h1, h2 | 1, 3, h1, h2 | 1, 4, h1, h2 | 2, 0, h1, h2 | 2, 1, h1, h2 | 2, 3, h1, h2 | 2, 4, h1, h2 | 3, 0, h1, h2 | 3, 1, h1, h2 | 3, 2, h1, h2 | 3, 4, h1, h2 | 4, 0, h1, h2 | 4, 1, h1, h2 | 4, 2, h1, h2 | 4, 3, h1, h2 =>
      have h1 := Option.some.inj h1
      have h2 := Option.some.inj h2
      simp only at h1 h2
      omega

/-- the components that the finder holds, as rows -/
theorem FinC.rows {x : Fp} {B : Nat} {W : World} (h : FinC x B W) (hws : x.ws = x.vs) : RowsC W B x.outv (x.vs.zip x.t.out) := by
  have hl : (x.vs.zip x.t.out).map (·.1) = x.vs := by rw [List.map_fst_zip]; rw [h.rl]; exact Nat.le_refl _
  have hz : (x.vs.zip x.t.out).length = x.vs.length := by rw [List.length_zip, h.rl]; simp
  refine ⟨?_, fun p hp => ?_⟩
  · rw [hz, hl, ← hws]; exact h.comps 6
  · obtain ⟨r, hr⟩ := List.getElem?_of_mem hp
    rw [List.getElem?_zip_eq_some] at hr
    have hc : ∀ v xs, x.vs[r]? = some v → x.t.out[r]? = some xs → W.ownsRow B 3 1 v xs.length (ints xs) := h.comps (r + 7)
    refine ⟨hc _ _ hr.1 hr.2, fun k hk e => ?_⟩
    exact h.dis (r + 7) 6 k (by omega) (by show (x.vs[r]?).bind Value.ownBlock = some k; rw [hr.1]; exact hk) e

theorem Evo.low {x x' : Fp} {W W' w : World} (he : Evo x W x' W') (hx : FinC x w.heap.size W) (hb : Below w.heap.size w W) : Below w.heap.size w W' := by
  refine ⟨he.os.trans hb.os, he.tape.trans hb.tape, he.output.trans hb.output, Nat.le_trans hb.size he.size, fun k hk => (he.block k (Nat.lt_of_lt_of_le hk hb.size) fun j hj => ?_).trans (hb.block k hk)⟩
  have := (hx.lt hj).1
  omega

theorem found_ne {xss : List (List Int)} {b : Nat} (hb : ∀ xs ∈ xss, xs.length ≤ b) (hin : ∀ xs ∈ xss, ∀ t ∈ xs, 0 ≤ t ∧ t < (xss.length : Int)) (hne : 0 < xss.length) : Tar.found xss ≠ [] := by
  obtain ⟨h1, h2⟩ := Tar.upTo_scc hb (Bfs.row_in hin) xss.length (Nat.le_refl _)
  have hr := Tar.upTo_rest hb (Bfs.row_in hin) xss.length (Nat.le_refl _)
  intro e
  rcases h1.vis 0 (Int.le_refl _) (by omega) (h2 0 (Int.le_refl _) (by omega)) with h3 | ⟨l, hl, _⟩
  · obtain ⟨g, hg, _⟩ := Tar.Scc.based hr.ok h1 _ 0 h3 (Nat.le_refl _)
    exact (List.not_mem_nil hg).elim
  · have : l ∈ Tar.found xss := hl
    rw [e] at this; cases this

theorem Made.drew {w W : World} {n F gi gl gn : Nat} {nx : Value} (h : Made w W n F gi gl gn nx) : Made w W.drew n F gi gl gn nx := ⟨h.bel.drew, h.ci, h.cl, h.cn, h.cf, h.d1, h.d2⟩

theorem Parts_calls (xss : List (List Int)) (v : Value) (D : Nat → Prop) (w : World) (hD : Lo D w) (h : Rows2 w D v xss) (he : Edges xss) (hb : ∀ xs ∈ xss, xs.length ≤ 2400) (hne : 0 < xss.length) :
    Calls Tryz.prog 72 #[v] w fun e w' => ∃ v' ps, e = .returned v' ∧ Below w.heap.size w w' ∧ RowsC w' w.heap.size v' ps ∧ ps.map (·.2) = partsOf xss := by
  obtain ⟨A, c, rfl, h1, h2, -⟩ := h.form
  have hlen := he.len
  unfold maxLen at h2
  have H := Lib.hid h
  have HE := Lib.hid he
  have HRS := Lib.hid (Tar.upTo_rest hb (Bfs.row_in he.ins))
  have HNE := Lib.hid (found_ne hb he.ins hne)
  have hm1 := mk_ints xss.length (by omega)
  have hm2 := mk_bools xss.length (by omega)
  have HLEN := Lib.hid (show ∀ l ∈ Tar.found xss, l.length ≤ 1000000 from fun l hl => by
    have h1 := (Tar.upTo_scc hb (Bfs.row_in he.ins) xss.length (Nat.le_refl _)).1.outn
    have h2 : l.Nodup := (List.pairwise_flatten.1 h1).1 l hl
    have h3 := Tar.upTo_rest hb (Bfs.row_in he.ins) xss.length (Nat.le_refl _)
    have h4 : ∀ x ∈ l, x ∈ (List.range xss.length).map (fun k : Nat => (k : Int)) := fun x hx => by
      have := (h3.out l hl).2 x hx
      exact List.mem_map.2 ⟨x.toNat, List.mem_range.2 (by omega), by omega⟩
    have h5 := List.Nodup.length_le_of_subset h2 h4
    rw [List.length_map, List.length_range] at h5
    omega)
  clear h he hb
  go_enter Tryz.func72, Tryz.ntmps72
  go_upto_region 2 with fail
  go_cut [4] from 9 to 17 (fun s4 W => ∃ F gi gl gn, s4 = .pointer (some ⟨F, 0, none⟩) ∧ Made w W xss.length F gi gl gn (.slice A xss.length c))
  case first =>
    go_region
    all_goals
      go_wp2_with fail
      go_meet
      exact ⟨_, _, _, _, rfl, (Made.of w xss.length _ _ _ _ _ _ _ (by omega) (by omega) (by omega) (by omega) (by omega) (by omega) (by omega) (by omega) (by omega) (by first | exact a3_0 _ _ _ _ | exact a3_1 _ _ _ _ | exact a3_2 _ _ _ _) (by first | exact a3_0 _ _ _ _ | exact a3_1 _ _ _ _ | exact a3_2 _ _ _ _) (by first | exact a3_0 _ _ _ _ | exact a3_1 _ _ _ _ | exact a3_2 _ _ _ _)).drew⟩
  case rest =>
    clear hm1 hm2
    obtain ⟨F, gi, gl, gn, rfl, hM⟩ := hcut
    have hfin := hM.fin (by omega)
    have hb0 := hM.bel.alloc hM.bel.size (.cells #[.int .i64 0] 3)
    have HFIN := Lib.hid hfin
    have HB0 := Lib.hid hb0
    clear hM hfin hb0
    go_wp2_with fail
    generalize hp : wc.heap.size = p at *
    have HFIN' : FinC ⟨xss.length, F, gi, gl, gn, p, .slice A xss.length c, .slice none 0 0, .slice none 0 0, .slice none 0 0, .slice none 0 0, [], [], Tar.start xss.length⟩ w.heap.size (wc.alloc (.cells #[.int .i64 0] 3)) := HFIN.out
    have hb0 := HB0.out
    generalize wc.alloc (.cells #[.int .i64 0] 3) = W0 at *
    clear HFIN HB0 hp
    go_loopw [19] (fun k W => ∃ (j : Nat) (ov outv : Value) (vs : List Value), j ≤ xss.length ∧ k = .int .i64 (j : Int) ∧ Below w.heap.size w W ∧ FinC ⟨xss.length, F, gi, gl, gn, p, .slice A xss.length c, ov, outv, ov, outv, vs, vs, Tar.upTo xss j⟩ w.heap.size W) (fun k _ => xss.length - (intOf k).toNat)
    case atStart => exact ⟨0, _, _, _, Nat.zero_le _, rfl, hb0, HFIN'⟩
    case round =>
      clear HFIN' hb0
      obtain ⟨j, ov, outv, vs, hj, rfl, hBW, hF⟩ := hrel
      obtain ⟨⟨-, b1, -, -, -, b5⟩, -⟩ := hF.box
      have HF := Lib.hid hF
      have HBW := Lib.hid hBW
      by_cases hlt : j < xss.length
      · obtain ⟨x1, -⟩ := hF.idx (s := (j : Int)) (by omega) (by show (j : Int) < (xss.length : Int); omega)
        rw [Int.toNat_natCast] at x1
        have hr := HRS.out j (by omega)
        have HR := Lib.hid hr
        clear hF hBW hr b5
        by_cases hz : Bfs.at' (Tar.upTo xss j).idx (j : Int) = 0
        · have hx1 : wr.cell? ⟨gi, j, none⟩ = some (.int .i64 0) := by rw [← hz]; exact x1
          have HS := Lib.hid (show Tar.upTo xss (j + 1) = Tar.visit xss (Tar.upTo xss j) (j : Int) by rw [Tar.upTo_succ, if_pos hz])
          have HZ := Lib.hid hz
          clear x1 hz
          go_wp2_with fail
          refine (visit_calls xss.length F gi gl gn p _ ov outv vs (Tar.upTo xss j) xss (j : Int) w wr D hD H.out rfl HE.out HBW.out HF.out HR.out.ok ⟨by omega, by omega⟩ HR.out.bd.c0 (xss.length * (2400 + 2)) (by omega) (Tar.Bd.enter HR.out.ok HR.out.bd ⟨by omega, by omega⟩ HZ.out)).mono ?_
          rintro e W5 ⟨rfl, ov5, outv5, vs5, hx5, he5⟩
          have hB5 := he5.low HF.out HBW.out
          rw [← HS.out] at hx5
          have HX5 := Lib.hid hx5
          clear hx5 he5 hx1 b1
          go_wp2
          exact ⟨⟨j + 1, ov5, outv5, vs5, by omega, by go_num, hB5, HX5.out⟩, by simp [intOf]; omega⟩
        · have hne : (Bfs.at' (Tar.upTo xss j).idx (j : Int) == 0) = false := beq_eq_false_iff_ne.2 hz
          have HS := Lib.hid (show Tar.upTo xss (j + 1) = Tar.upTo xss j by rw [Tar.upTo_succ, if_neg hz])
          clear hz
          go_wp2_with fail
          exact ⟨⟨j + 1, ov, outv, vs, by omega, by go_num, HBW.out, by rw [HS.out]; exact HF.out⟩, by simp [intOf]; omega⟩
      · obtain rfl : j = xss.length := by omega
        have hrows := hF.rows rfl
        have hz2 : (vs.zip (Tar.upTo xss xss.length).out).map (·.2) = Tar.found xss := by rw [List.map_snd_zip]; rfl; exact Nat.le_of_eq hF.rl.symm
        have hpne : vs.zip (Tar.upTo xss xss.length).out ≠ [] := fun e => by rw [e] at hz2; exact HNE.out hz2.symm
        have hlen2 : (vs.zip (Tar.upTo xss xss.length).out).length ≤ 1000000 := by
          have h1 := (HRS.out xss.length (Nat.le_refl _)).bd.u
          rw [List.length_zip]
          omega
        have hlen3 : ∀ q ∈ vs.zip (Tar.upTo xss xss.length).out, q.2.length ≤ 1000000 := fun q hq => HLEN.out _ (by rw [← hz2]; exact List.mem_map.2 ⟨q, hq, rfl⟩)
        have HC := Lib.hid (SortRows_calls outv _ wr w.heap.size hrows hpne hlen2 hlen3)
        have hFo : ∀ k, outv.ownBlock = some k → F ≠ k := fun k hk e => hF.dis 6 3 k (by decide) hk (by rw [← e]; rfl)
        have hFl := (hF.lt (j := 3) rfl).2
        have HFO := Lib.hid hFo
        have HZ2 := Lib.hid hz2
        clear hF hBW hlt hrows hz2 hpne hlen2 hlen3 hFo
        have b5' := b5
        go_wp2_with fail
        refine HC.out.mono ?_
        rintro e W5 ⟨rfl, ps', hp1, hp2, hR5, hg5⟩
        have c5 : W5.cell? ⟨F, 5, none⟩ = some outv := (World.cell?_of_block (w := wr) (a := ⟨F, 5, none⟩) (hg5.block F hFl fun e => HFO.out F e.symm rfl)).trans b5
        have hB5 : Below w.heap.size w W5 := HBW.out.grown hg5 HBW.out.size fun k hk => (hR5.own.lt k hk).1
        have HR5 := Lib.hid hR5
        have HP2 := Lib.hid hp2
        have HB5 := Lib.hid hB5
        clear hR5 hp1 hp2 hg5 hB5 b5 b5' b1
        go_wp2_with fail
        go_ret
        exact ⟨_, ps', rfl, HB5.out, HR5.out, by rw [HP2.out, HZ2.out]; rfl⟩

end Go.Proofs.YtoffbdlgmnpblaaGreat

/- Package graph: Components, Bottoms, Bottom. -/
namespace Go.Proofs.YtoffbdlgmnpblaaGreat
open Go.RowKit
set_option maxHeartbeats 4000000
set_option maxRecDepth 100000

theorem RowsC.slS {W : World} {B : Nat} {v : Value} {ps : List (Value × List Int)} (h : RowsC W B v ps) : Rows2 W (fun b => B ≤ b ∧ b < W.heap.size ∧ Soft W b) v (ps.map (·.2)) := by
  obtain ⟨A, c, e0, h1, h2, h3⟩ := own_form h.own
  rw [e0]
  refine ⟨A, c, by rw [List.length_map], by rw [List.length_map]; exact h1, h2, fun i xs hx => ?_⟩
  rw [List.getElem?_map] at hx
  obtain ⟨p, hp, rfl⟩ := Option.map_eq_some_iff.1 hx
  have hlt := (List.getElem?_eq_some_iff.1 hp).1
  obtain ⟨ad, e, hb, hl, ho, hat⟩ := h3 (by omega)
  refine ⟨ad, [p.1], e, ⟨hb, hl, own_soft h.own _ ho⟩, ⟨p.1, rfl, own_intsS (h.row p (List.mem_of_getElem? hp)).1⟩, fun j u hj => ?_⟩
  cases j with
  | zero =>
    simp at hj; subst hj
    rw [add_of_add, show i * (Kind.slice (Kind.int .i64)).sz + 0 = i from by show i * 1 + 0 = i; omega]
    exact hat i _ (by rw [List.getElem?_map, hp]; rfl)
  | succ j => simp at hj

theorem validB.pos {m : List St} (h : validB m = true) : 0 < m.length := by
  unfold validB at h
  simp only [Bool.and_eq_true, decide_eq_true_eq] at h
  omega

def compsOf (m : List St) : List (List Int) := if validB m then partsOf (m.map nextOf) else []
theorem Components_calls (m : List St) (v : Value) (D : Nat → Prop) (w : World) (hD : Lo D w) (h : ModelC w D v m) :
    Calls Tryz.prog 18 #[v] w fun e w' => ∃ v', e = .returned (.tuple #[v', .int .i64 (err (validB m))]) ∧ Below w.heap.size w w' ∧ Rows2 w' (nws w w') v' (compsOf m) := by
  obtain ⟨mv, rfl, hmm⟩ := h
  have HM : Hid (ModelC w D (.agg #[mv]) m) := ⟨mv, rfl, hmm⟩
  obtain ⟨A, c, rfl, h1, h2, -⟩ := hmm.form
  clear hmm
  go_enter Tryz.func18, Tryz.ntmps18
  go_wp2_with fail
  have hB0 := (Below.refl w.heap.size w).alloc (Nat.le_refl _) (.cells #[.slice A m.length c] 24)
  refine (Valid_calls m _ D _ (hD.up hB0.size) (HM.out.same (hD.same hB0))).mono ?_
  rintro e w1 ⟨rfl, hb1⟩
  have hB1 := hB0.trans (hb1.mono hB0.size)
  obtain ⟨hc1, hf1⟩ := bcell hb1
  have hz1 : w.heap.size < w1.heap.size := by have := hb1.size; simp at this; omega
  cases hv : validB m with
  | false =>
    have HER := Lib.hid (show (1 : Int) = err (validB m) by rw [hv]; rfl)
    have HV := Lib.hid (show compsOf m = [] by unfold compsOf; rw [hv]; rfl)
    clear hv
    go_wp2_with fail
    go_ret2
    refine ⟨_, ret_vi HER.out, hB1, ?_⟩
    rw [HV.out]; exact Sl.nil _ _ _
  | true =>
    have HER := Lib.hid (show (0 : Int) = err (validB m) by rw [hv]; rfl)
    have HA := Lib.hid (Fine.of_valid hv)
    have hp := validB.pos hv
    have HP := Lib.hid (show 0 < (m.map nextOf).length by rw [List.length_map]; exact hp)
    have HV := Lib.hid (show compsOf m = partsOf (m.map nextOf) by unfold compsOf; rw [hv]; rfl)
    clear hv hp
    go_wp2_with fail
    refine (Next_calls m _ D _ (hD.up hB1.size) (HM.out.same (hD.same hB1)) HA.out).mono ?_
    rintro e w2 ⟨nv, rfl, hb2, hn⟩
    have hB2 := hB1.trans (hb2.mono hB1.size)
    have HN := Lib.hid hn
    clear hn
    go_wp2_with fail
    refine (Parts_calls (m.map nextOf) _ _ _ (fun k hk => hk.2.1) HN.out (Edges.of_fine HA.out) (fun xs hxs => by have := nextOf_len HA.out xs hxs; omega) HP.out).mono ?_
    rintro e w3 ⟨v', ps, rfl, hb3, hr, hps⟩
    have HR := Lib.hid hr
    have HPS := Lib.hid hps
    clear hr hps
    go_wp2
    go_ret2
    refine ⟨_, ret_vi HER.out, hB2.trans (hb3.mono hB2.size), ?_⟩
    rw [HV.out, ← HPS.out]
    exact HR.out.slS.mono fun k hk => ⟨by have := hk.1; have := hB2.size; omega, hk.2⟩

/-! ### the bottoms -/
theorem Contains_calls (xs : List Int) (x : Int) (v : Value) (D : Nat → Prop) (w : World) (h : Sl (Kind.int .i64) w D v xs) :
    Calls Tryz.prog 78 #[v, .int .i64 x] w fun e w' => e = .returned (.bool (xs.contains x)) ∧ w = w' := by
  obtain ⟨A, c, rfl, h1, h2, h3⟩ := h.ints
  unfold maxLen at h2
  by_cases h0 : 0 < xs.length
  · obtain ⟨ad, rfl, hd, hc⟩ := h3 h0
    have hsp := spot_none (hc 0 h0)
    have hsp : ad.spot = none := by
      unfold Addr.add at hsp; simpa using hsp
    have hc' : ∀ j, j < xs.length → w.cell? ⟨ad.block, ad.off + j, none⟩ = some (.int .i64 (xs.getD j 0)) := by
      intro j hj
      have := hc j hj
      rw [add_lit' hsp] at this
      rw [this, Dig.gd_int]
    have he : ad = ⟨ad.block, ad.off, none⟩ := by cases ad; simp at hsp; simp [hsp]
    rw [he]
    refine (Tryz.slices_Contains_int ad.block ad.off xs.length c xs x w (Nat.le_refl _) (by omega) hc').mono ?_
    rintro e w' ⟨rfl, rfl⟩
    rw [List.take_length]
    exact ⟨rfl, rfl⟩
  · have hz : xs = [] := List.eq_nil_of_length_eq_zero (by omega)
    subst hz
    refine (Tryz.slices_Contains_int_empty A c x w).mono ?_
    rintro e w' ⟨rfl, rfl⟩
    exact ⟨rfl, rfl⟩

def leaves (xss : List (List Int)) (l : List Int) : Bool := l.any fun s => (Bfs.row xss s).any fun t => !l.contains t
def bottomsOf' (xss : List (List Int)) : List (List Int) := (partsOf xss).filter fun l => !leaves xss l

theorem Bot3_calls (l : List Int) (u : Value) (t : Int) (p : Nat) (D : Nat → Prop) (w : World) (hl : Sl (Kind.int .i64) w D u l) (hp : w.cell? ⟨p, 0, none⟩ = some u) :
    Calls Tryz.prog 130 #[.int .i64 t, .pointer (some ⟨p, 0, none⟩)] w fun e w' => e = .returned (.bool (!l.contains t)) ∧ w = w' := by
  have HL := Lib.hid hl
  obtain ⟨A, c, rfl, -, -, -⟩ := hl.form
  clear hl
  go_enter Tryz.func130, Tryz.ntmps130
  go_wp2_with fail
  refine (Contains_calls l t _ D w HL.out).mono ?_
  rintro e w' ⟨rfl, rfl⟩
  go_wp2
  go_ret
  exact ⟨ret_bool (by simp), rfl⟩

theorem enter_b3 : ∀ args w, (callFunc 130 args).run Tryz.prog w = .ok (.enter 130 args) w := enter_of Tryz.func130 (by kernel_rfl) (by kernel_rfl)
theorem enter_b2 : ∀ args w, (callFunc 129 args).run Tryz.prog w = .ok (.enter 129 args) w := enter_of Tryz.func129 (by kernel_rfl) (by kernel_rfl)
theorem enter_b1 : ∀ args w, (callFunc 128 args).run Tryz.prog w = .ok (.enter 128 args) w := enter_of Tryz.func128 (by kernel_rfl) (by kernel_rfl)

theorem lt_of_cell {w : World} {p : Nat} {u : Value} {o : Nat} (h : w.cell? ⟨p, o, none⟩ = some u) : p < w.heap.size := by
  unfold World.cell? at h
  cases hh : w.heap[p]? with
  | none => rw [hh] at h; cases h
  | some x => exact (Array.getElem?_eq_some_iff.1 hh).1

theorem Bot2_calls (xss : List (List Int)) (l : List Int) (u nx : Value) (s : Int) (pn pl : Nat) (D : Nat → Prop) (w : World) (hD : Lo D w) (hx : Rows2 w D nx xss) (hl : Sl (Kind.int .i64) w D u l) (hpn : w.cell? ⟨pn, 0, none⟩ = some nx) (hpl : w.cell? ⟨pl, 0, none⟩ = some u)
    (h0 : 0 ≤ s) (h1 : s < (xss.length : Int)) (hr : ∀ xs ∈ xss, xs.length ≤ 1000000) :
    Calls Tryz.prog 129 #[.int .i64 s, .pointer (some ⟨pn, 0, none⟩), .pointer (some ⟨pl, 0, none⟩)] w fun e w' => e = .returned (.bool ((Bfs.row xss s).any fun t => !l.contains t)) ∧ Below w.heap.size w w' := by
  obtain ⟨xs, hxs⟩ : ∃ xs, xss[s.toNat]? = some xs := ⟨_, List.getElem?_eq_getElem (by omega)⟩
  have hrow : Bfs.row xss s = xs := by unfold Bfs.row; rw [List.getD_eq_getElem?_getD, hxs]; rfl
  obtain ⟨A, c, rfl, k1, k2, h3⟩ := hx
  obtain ⟨ad, cs', ea, hd, ⟨r, rfl, hrs⟩, hat⟩ := h3 s.toNat xs hxs
  subst ea
  have q0 := hat 0 r rfl
  rw [add_of_add, show s.toNat * (Kind.slice (Kind.int .i64)).sz + 0 = s.toNat from by show s.toNat * 1 + 0 = s.toNat; omega] at q0
  unfold maxLen at k2
  have HR := Lib.hid hrs
  have HL := Lib.hid hl
  have HPL := Lib.hid hpl
  have hpll := lt_of_cell hpl
  have HXL := Lib.hid (hr xs (List.mem_of_getElem? hxs))
  have HD := Lib.hid hD
  have hmf : ∀ (fn : Fn) (first cap : Array Value) (w : World), (Instr.makeFunc fn first cap).run Tryz.prog w = .ok (.func fn first cap) w := fun _ _ _ _ => rfl
  rw [hrow]
  clear hrow hxs h3 hat hrs hl hpl hr hD
  go_enter Tryz.func129, Tryz.ntmps129
  go_wp2_with fail
  refine (ContainsFunc_calls 130 (fun t => !l.contains t) #[.pointer (some ⟨pl, 0, none⟩)] xs r D w enter_b3 HD.out HR.out HXL.out (fun W t hW ht => ?_)).mono ?_
  · refine (Bot3_calls l u t pl D W (HL.out.same (HD.out.same hW)) ((hW.cell (p := ⟨pl, 0, none⟩) hpll).trans HPL.out)).mono ?_
    rintro e w' ⟨rfl, rfl⟩
    exact ⟨rfl, Below.refl _ _⟩
  · rintro e w2 ⟨rfl, hb2⟩
    go_wp2
    go_ret
    exact ⟨ret_bool (by simp), hb2⟩

theorem Bot1_calls (xss : List (List Int)) (l : List Int) (u nx : Value) (pn : Nat) (D : Nat → Prop) (w : World) (hD : Lo D w) (hx : Rows2 w D nx xss) (hl : Sl (Kind.int .i64) w D u l) (hpn : w.cell? ⟨pn, 0, none⟩ = some nx)
    (hin : ∀ s ∈ l, 0 ≤ s ∧ s < (xss.length : Int)) (hr : ∀ xs ∈ xss, xs.length ≤ 1000000) (hll : l.length ≤ 1000000) :
    Calls Tryz.prog 128 #[u, .pointer (some ⟨pn, 0, none⟩)] w fun e w' => e = .returned (.bool (leaves xss l)) ∧ Below w.heap.size w w' := by
  obtain ⟨A, c, rfl, k1, k2, -⟩ := hl.form
  unfold maxLen at k2
  have hb1 := (Below.refl w.heap.size w).alloc (Nat.le_refl _) (.cells #[.slice A l.length c] 31)
  have HX := Lib.hid (hx.same (hD.same hb1))
  have HL := Lib.hid (hl.same (hD.same hb1))
  have HPN := Lib.hid ((hb1.cell (p := ⟨pn, 0, none⟩) (lt_of_cell hpn)).trans hpn)
  have hpnl := lt_of_cell hpn
  have HPL := Lib.hid (cell_new1 w (.slice A l.length c) 31)
  have HD := Lib.hid (hD.up hb1.size)
  have HIN := Lib.hid hin
  have HRL := Lib.hid hr
  have hmf : ∀ (fn : Fn) (first cap : Array Value) (w : World), (Instr.makeFunc fn first cap).run Tryz.prog w = .ok (.func fn first cap) w := fun _ _ _ _ => rfl
  clear hx hl hpn hD hin hr
  go_enter Tryz.func128, Tryz.ntmps128
  go_wp2_with fail
  refine (ContainsFunc_calls 129 (fun s => (Bfs.row xss s).any fun t => !l.contains t) #[.pointer (some ⟨pn, 0, none⟩), .pointer (some ⟨w.heap.size, 0, none⟩)] l _ D _ enter_b2 HD.out HL.out hll (fun W s hW hs => ?_)).mono ?_
  · exact Bot2_calls xss l _ nx s pn w.heap.size D W (HD.out.up hW.size) (HX.out.same (HD.out.same hW)) (HL.out.same (HD.out.same hW)) ((hW.cell (p := ⟨pn, 0, none⟩) (by show pn < _; simp; omega)).trans HPN.out) ((hW.cell (p := ⟨w.heap.size, 0, none⟩) (by show w.heap.size < _; simp)).trans HPL.out) (HIN.out s hs).1 (HIN.out s hs).2 HRL.out
  · rintro e w2 ⟨rfl, hb2⟩
    go_wp2
    go_ret
    exact ⟨ret_bool (by simp [leaves]), hb1.trans (hb2.mono hb1.size)⟩

theorem found_in {xss : List (List Int)} {b : Nat} (hb : ∀ xs ∈ xss, xs.length ≤ b) (hin : ∀ xs ∈ xss, ∀ t ∈ xs, 0 ≤ t ∧ t < (xss.length : Int)) : ∀ l ∈ partsOf xss, l ≠ [] ∧ (∀ s ∈ l, 0 ≤ s ∧ s < (xss.length : Int)) ∧ l.length ≤ xss.length := by
  intro l hl
  have hl' : l ∈ Tar.found xss := (Lex.lsort_perm (Tar.found xss)).mem_iff.1 hl
  have h1 := (Tar.upTo_scc hb (Bfs.row_in hin) xss.length (Nat.le_refl _)).1.outn
  have h2 : l.Nodup := (List.pairwise_flatten.1 h1).1 l hl'
  have h3 := (Tar.upTo_rest hb (Bfs.row_in hin) xss.length (Nat.le_refl _)).out l hl'
  have h4 : ∀ x ∈ l, x ∈ (List.range xss.length).map (fun k : Nat => (k : Int)) := fun x hx => by
    have := h3.2 x hx
    exact List.mem_map.2 ⟨x.toNat, List.mem_range.2 (by omega), by omega⟩
  have h5 := List.Nodup.length_le_of_subset h2 h4
  rw [List.length_map, List.length_range] at h5
  exact ⟨h3.1, h3.2, h5⟩

theorem Bottoms_calls (xss : List (List Int)) (v : Value) (D : Nat → Prop) (w : World) (hD : Lo D w) (h : Rows2 w D v xss) (he : Edges xss) (hb : ∀ xs ∈ xss, xs.length ≤ 2400) (hne : 0 < xss.length) :
    Calls Tryz.prog 74 #[v] w fun e w' => ∃ v' ps, e = .returned v' ∧ Below w.heap.size w w' ∧ RowsC w' w.heap.size v' ps ∧ ps.map (·.2) = bottomsOf' xss := by
  obtain ⟨A, c, rfl, k1, k2, -⟩ := h.form
  unfold maxLen at k2
  have hlen := he.len
  have hb1 := (Below.refl w.heap.size w).alloc (Nat.le_refl _) (.cells #[.slice A xss.length c] 27)
  have H := Lib.hid (h.same (hD.same hb1))
  have HD := Lib.hid (hD.up hb1.size)
  have HD0 := Lib.hid hD
  have HE := Lib.hid he
  have HB := Lib.hid hb
  have HFI := Lib.hid (found_in hb he.ins)
  have HPN := Lib.hid (cell_new1 w (.slice A xss.length c) 27)
  have hmf : ∀ (fn : Fn) (first cap : Array Value) (w : World), (Instr.makeFunc fn first cap).run Tryz.prog w = .ok (.func fn first cap) w := fun _ _ _ _ => rfl
  clear h hD he hb
  go_enter Tryz.func74, Tryz.ntmps74
  go_wp2_with fail
  refine (Parts_calls xss _ D _ HD.out H.out HE.out HB.out hne).mono ?_
  rintro e w2 ⟨v2, ps, rfl, hb2, hr, hps⟩
  have hB2 := hb1.trans (hb2.mono hb1.size)
  have hpl : ps.length ≤ 1000000 := by
    have h1 : (ps.map (·.2)).length = (Tar.found xss).length := by rw [hps]; exact (Lex.lsort_perm _).length_eq
    have h2 := (Tar.upTo_rest HB.out (Bfs.row_in HE.out.ins) xss.length (Nat.le_refl _)).bd.u
    rw [List.length_map] at h1
    have h3 : (Tar.found xss).length = (Tar.upTo xss xss.length).out.length := rfl
    omega
  have HR := Lib.hid hr
  have HPS := Lib.hid hps
  obtain ⟨A2, c2, rfl, -, -, -⟩ := own_form hr.own
  clear hr hps
  go_wp2_with fail
  refine (DeleteRows_calls 128 (leaves xss) #[.pointer (some ⟨w.heap.size, 0, none⟩)] ps _ (w.alloc (.cells #[.slice A xss.length c] 27)).heap.size w2 enter_b1 HR.out hpl (fun W u xs hW hxs hu => ?_)).mono ?_
  · have hin := HFI.out xs (by rw [HPS.out] at hxs; exact hxs)
    have hz1 : (w.alloc (.cells #[.slice A xss.length c] 27)).heap.size = w.heap.size + 1 := by simp
    have hz2 := hb2.size
    have old : ∀ k, k < w.heap.size + 1 → W.heap[k]? = (w.alloc (.cells #[.slice A xss.length c] 27)).heap[k]? := fun k hk =>
      (hW.block k (by omega) (fun e => by have := (HR.out.own.lt k e.symm).1; omega)).trans (hb2.block k (by omega))
    refine Bot1_calls xss xs u (.slice A xss.length c) w.heap.size (fun b => D b ∨ ((w.alloc (.cells #[.slice A xss.length c] 27)).heap.size ≤ b ∧ b < w2.heap.size)) W ?_ ((H.out.same (fun k hk => old k (by have := HD0.out k hk; omega))).mono fun k hk => .inl hk) (hu.mono fun k hk => .inr hk) ?_ hin.2.1 (fun ys hys => by have := HB.out ys hys; omega) (by omega)
    · rintro k (hk | hk)
      · have := HD0.out k hk; have := hW.size; omega
      · have := hW.size; omega
    · exact (World.cell?_of_block (w := w.alloc (.cells #[.slice A xss.length c] 27)) (a := ⟨w.heap.size, 0, none⟩) (old _ (by show w.heap.size < _; omega))).trans HPN.out
  · rintro e w3 ⟨v3, rfl, hr3, hg3⟩
    have HR3 := Lib.hid hr3
    have hB3 : Below w.heap.size w w3 := hB2.grown hg3 hB2.size fun k hk => by have := (HR.out.own.lt k hk).1; simp at this; omega
    have HF := Lib.hid (show (ps.filter fun p => !leaves xss p.2).map (·.2) = bottomsOf' xss by
      rw [bottomsOf', ← HPS.out, List.filter_map]; rfl)
    clear hr3 hg3
    go_wp2
    go_ret
    refine ⟨_, _, rfl, hB3, ?_, HF.out⟩
    have := HR3.out
    exact ⟨own_lower this.own (by simp), fun p hp => ⟨own_lower (this.row p hp).1 (by simp), (this.row p hp).2⟩⟩

def botOf (m : List St) : List (List Int) := if validB m then bottomsOf' (m.map nextOf) else []
theorem Bottom_calls (m : List St) (v : Value) (D : Nat → Prop) (w : World) (hD : Lo D w) (h : ModelC w D v m) :
    Calls Tryz.prog 19 #[v] w fun e w' => ∃ v', e = .returned (.tuple #[v', .int .i64 (err (validB m))]) ∧ Below w.heap.size w w' ∧ Rows2 w' (nws w w') v' (botOf m) := by
  obtain ⟨mv, rfl, hmm⟩ := h
  have HM : Hid (ModelC w D (.agg #[mv]) m) := ⟨mv, rfl, hmm⟩
  obtain ⟨A, c, rfl, h1, h2, -⟩ := hmm.form
  clear hmm
  go_enter Tryz.func19, Tryz.ntmps19
  go_wp2_with fail
  have hB0 := (Below.refl w.heap.size w).alloc (Nat.le_refl _) (.cells #[.slice A m.length c] 24)
  refine (Valid_calls m _ D _ (hD.up hB0.size) (HM.out.same (hD.same hB0))).mono ?_
  rintro e w1 ⟨rfl, hb1⟩
  have hB1 := hB0.trans (hb1.mono hB0.size)
  obtain ⟨hc1, hf1⟩ := bcell hb1
  have hz1 : w.heap.size < w1.heap.size := by have := hb1.size; simp at this; omega
  cases hv : validB m with
  | false =>
    have HER := Lib.hid (show (1 : Int) = err (validB m) by rw [hv]; rfl)
    have HV := Lib.hid (show botOf m = [] by unfold botOf; rw [hv]; rfl)
    clear hv
    go_wp2_with fail
    go_ret2
    refine ⟨_, ret_vi HER.out, hB1, ?_⟩
    rw [HV.out]; exact Sl.nil _ _ _
  | true =>
    have HER := Lib.hid (show (0 : Int) = err (validB m) by rw [hv]; rfl)
    have HA := Lib.hid (Fine.of_valid hv)
    have hp := validB.pos hv
    have HP := Lib.hid (show 0 < (m.map nextOf).length by rw [List.length_map]; exact hp)
    have HV := Lib.hid (show botOf m = bottomsOf' (m.map nextOf) by unfold botOf; rw [hv]; rfl)
    clear hv hp
    go_wp2_with fail
    refine (Next_calls m _ D _ (hD.up hB1.size) (HM.out.same (hD.same hB1)) HA.out).mono ?_
    rintro e w2 ⟨nv, rfl, hb2, hn⟩
    have hB2 := hB1.trans (hb2.mono hB1.size)
    have HN := Lib.hid hn
    clear hn
    go_wp2_with fail
    refine (Bottoms_calls (m.map nextOf) _ _ _ (fun k hk => hk.2.1) HN.out (Edges.of_fine HA.out) (fun xs hxs => by have := nextOf_len HA.out xs hxs; omega) HP.out).mono ?_
    rintro e w3 ⟨v', ps, rfl, hb3, hr, hps⟩
    have HR := Lib.hid hr
    have HPS := Lib.hid hps
    clear hr hps
    go_wp2
    go_ret2
    refine ⟨_, ret_vi HER.out, hB2.trans (hb3.mono hB2.size), ?_⟩
    rw [HV.out, ← HPS.out]
    exact HR.out.slS.mono fun k hk => ⟨by have := hk.1; have := hB2.size; omega, hk.2⟩

end Go.Proofs.YtoffbdlgmnpblaaGreat
