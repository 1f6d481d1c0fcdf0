/- Part 17: Rf6. -/
import Derived.Test.YtoffbdlgmnpblaaGreatJ16
import Derived.BigRegion

/- The reference's exact integers: quotients by a digit; integers of machine numbers; absolute values. -/
namespace Go.Proofs.YtoffbdlgmnpblaaGreat
open Go.RowKit
set_option maxHeartbeats 4000000
set_option maxRecDepth 100000

structure RShortAt (xs zs : List Int) (y r : Int) (k : Nat) : Prop where
  ok : Dig.ok 1073741824 zs
  val : Dig.val 1073741824 (xs.drop k) = y * Dig.val 1073741824 (zs.drop k) + r

theorem Rshorter_calls (xs : List Int) (v : Value) (D : Nat → Prop) (y : Int) (w : World) (hD : Lo D w) (h : Sl (Kind.int .i64) w D v xs) (ox : Dig.ok 1073741824 xs) (hy0 : 0 < y) (hy1 : y < 1073741824) (hl : xs.length ≤ 1073741824) :
    Calls Tryz.prog 259 #[v, .int .i64 y] w fun e w' => ∃ v' r, e = .returned (.tuple #[v', .int .i64 r]) ∧ Below w.heap.size w w' ∧ ∃ zs, Sl (Kind.int .i64) w' (nw w w') v' zs ∧ Dig.ok 1073741824 zs ∧
      Dig.val 1073741824 xs = y * Dig.val 1073741824 zs + r ∧ 0 ≤ r ∧ r < y ∧ zs.length = xs.length := by
  obtain ⟨A, c, rfl, h1, h2, -⟩ := h.ints
  have HX := Lib.hid h
  have HD := Lib.hid hD
  have OX := Lib.hid ox
  clear h hD ox
  unfold maxLen at h2
  go_enter Tryz.func259, Tryz.ntmps259
  go_wp2_with (refine wpList_mk1 elem_i64 rfl _ _ rfl (by intro cs h; cases h) w.heap.size _ _ (xs.length : Int) (xs.length : Int) rfl rfl (by omega) (by omega) (by omega) (by omega) (Nat.le_refl _) ?_; intro w1 hown hb1 hz1 _; have HO1 := Lib.hid hown; have HB1 := Lib.hid hb1; clear hown hb1 hz1)
  go_loopw [5, 6] (fun rv iv wr => ∃ (k : Nat) (r : Int) (zs : List Int), k ≤ xs.length ∧ iv = .int .i64 ((k : Int) - 1) ∧ rv = .int .i64 r ∧ 0 ≤ r ∧ r < y ∧
      Hid (wr.ownsRow w.heap.size 3 1 (.slice (some ⟨w.heap.size, 0, none⟩) xs.length xs.length) xs.length (ints zs)) ∧ Hid (Below w.heap.size w wr) ∧ RShortAt xs zs y r k) (fun _ iv _ => (intOf iv + 1).toNat)
  case atStart =>
    refine ⟨xs.length, 0, List.replicate xs.length 0, Nat.le_refl _, rfl, rfl, by omega, by omega, Lib.hid ?_, HB1.out, ⟨Dig.ok_replicate (by decide) _, by simp [Dig.val]⟩⟩
    have hown := HO1.out
    rw [Int.toNat_natCast] at hown
    rw [show ints (List.replicate xs.length 0) = List.replicate xs.length (.int .i64 0) from List.map_replicate]
    exact hown
  case round =>
    obtain ⟨k, r, zs, hk, rfl, rfl, hr0, hr1, HO, HB, HR⟩ := hrel
    have hlz : zs.length = xs.length := by have := HO.out.1; simpa using this
    have HZ := Lib.hid hlz
    by_cases hp : 0 < k
    · obtain ⟨k, rfl⟩ : ∃ m, k = m + 1 := ⟨k - 1, by omega⟩
      have hkx : k < xs.length := by omega
      obtain ⟨ad, x, rfl, q0, hx0, hx1, hx2⟩ := dig_up HX.out (HD.out.same HB.out) OX.out k hkx
      obtain ⟨hz1', hz2'⟩ := own_cell HO.out k (.int .i64 (Dig.gd zs k)) (by rw [List.getElem?_map, Dig.gd_lt (by omega)]; rfl)
      have HS := Lib.hid (Dig.short_step (b := 1073741824) (t := r * 1073741824 + x) (by decide) HR.ok OX.out hkx (by omega) ⟨hr0, hr1⟩ (by rw [hx0]) HR.val)
      have hlt := HO.out.lt w.heap.size rfl
      generalize Dig.gd zs k = z0 at hz1'
      rw [show ((k + 1 : Nat) : Int) - 1 = (k : Int) from by omega]
      clear hlz hx0
      go_wp2
      go_region
      all_goals
        go_wp2
        obtain ⟨s1, s2, s3, s4⟩ := HS.out
        have ho2 := own_set HO.out k hkx (.int .i64 ((r * 1073741824 + x) / y))
        rw [show (ints zs).set k (.int .i64 ((r * 1073741824 + x) / y)) = ints (zs.set k ((r * 1073741824 + x) / y)) from by simp [ints, List.map_set]] at ho2
        exact ⟨⟨k, (r * 1073741824 + x) % y, zs.set k ((r * 1073741824 + x) / y), by omega, rfl, rfl, s3, s4, Lib.hid ho2.drew, Lib.hid ((HB.out.setCell (p := ⟨w.heap.size, k, none⟩) (Nat.le_refl _) _).drew), ⟨s1, s2⟩⟩, by simp [intOf]⟩
    · obtain rfl : k = 0 := by omega
      have HV := Lib.hid (show Dig.val 1073741824 xs = y * Dig.val 1073741824 zs + r by have := HR.val; simpa only [List.drop_zero] using this)
      clear hlz hp
      go_wp2
      go_ret2
      exact ⟨_, _, rfl, HB.out, zs, (own_ints HO.out).2, HR.ok, HV.out, hr0, hr1, HZ.out⟩

/-- the cells of a block -/
theorem blk_at {W : World} {b : Nat} {cs : Array Value} {t : TypeId} (h : W.heap[b]? = some (.cells cs t (0, 0))) : ∀ o, W.cell? ⟨b, o, none⟩ = cs[o]? ∧ W.frozen? ⟨b, o, none⟩ = false := fun o => ⟨by simp [World.cell?, h], by simp [World.frozen?, h]⟩
theorem blk_set {W : World} {b : Nat} {cs : Array Value} {t : TypeId} (h : W.heap[b]? = some (.cells cs t (0, 0))) (o : Nat) (u : Value) : (W.setCell ⟨b, o, none⟩ u).heap[b]? = some (.cells (cs.setIfInBounds o u) t (0, 0)) := by
  simp [World.setCell, Array.getElem?_modify, h]
/-- three cells are written -/
theorem st3_blk {W : World} {g : Nat} {x y z : Value} {t : TypeId} (h : W.heap[g]? = some (.cells #[x, y, z] t (0, 0))) (a b c : Value) : (((W.setCell ⟨g, 0, none⟩ a).setCell ⟨g, 1, none⟩ b).setCell ⟨g, 2, none⟩ c).heap[g]? = some (.cells #[a, b, c] t (0, 0)) :=
  blk_set (blk_set (blk_set h 0 a) 1 b) 2 c
theorem st3_other {W : World} {g k : Nat} (h : k ≠ g) (a b c : Value) : (((W.setCell ⟨g, 0, none⟩ a).setCell ⟨g, 1, none⟩ b).setCell ⟨g, 2, none⟩ c).heap[k]? = W.heap[k]? :=
  (Below.heap_setCell _ _ _ _ h).trans ((Below.heap_setCell _ _ _ _ h).trans (Below.heap_setCell _ _ _ _ h))
theorem st3_size (W : World) (g : Nat) (a b c : Value) : (((W.setCell ⟨g, 0, none⟩ a).setCell ⟨g, 1, none⟩ b).setCell ⟨g, 2, none⟩ c).heap.size = W.heap.size := by simp [World.setCell]
theorem st3_below {B : Nat} {w W : World} (h : Below B w W) {g : Nat} (hg : B ≤ g) (a b c : Value) : Below B w (((W.setCell ⟨g, 0, none⟩ a).setCell ⟨g, 1, none⟩ b).setCell ⟨g, 2, none⟩ c) :=
  ((h.setCell (p := ⟨g, 0, none⟩) hg a).setCell (p := ⟨g, 1, none⟩) hg b).setCell (p := ⟨g, 2, none⟩) hg c
theorem RIntV.st3 {W : World} {D D' : Nat → Prop} {v : Value} {z : Int} (h : RIntV W D v z) {g : Nat} (hD : ∀ k, D k → k ≠ g ∧ D' k) (a b c : Value) : RIntV (((W.setCell ⟨g, 0, none⟩ a).setCell ⟨g, 1, none⟩ b).setCell ⟨g, 2, none⟩ c) D' v z :=
  (h.same fun k hk => st3_other (hD k hk).1 a b c).mono fun k hk => (hD k hk).2
/-- a row of one number in a new block -/
theorem own_one (w : World) (B : Nat) (hB : B ≤ w.heap.size) (e : TypeId) (x : Value) : (w.alloc (.cells #[x] e)).ownsRow B e 1 (.slice (some ⟨w.heap.size, 0, none⟩) 1 1) 1 [x] :=
  ⟨by simp, .inr ⟨w.heap.size, 1, #[x], rfl, hB, heap_alloc_new w _, Nat.le_refl _, by simp [maxLen], by simp, by simp⟩⟩

theorem ROf_calls (z : Int) (w : World) (h1 : -9223372036854775808 ≤ z) (h2 : z < 9223372036854775808) :
    Calls Tryz.prog 166 #[.int .i64 z] w fun e w' => ∃ v', e = .returned v' ∧ Below w.heap.size w w' ∧ RIntV w' (nw w w') v' z := by
  by_cases hs : -2305843009213693952 < z ∧ z < 2305843009213693952
  · obtain ⟨s1, s2⟩ := hs
    go_enter Tryz.func166, Tryz.ntmps166
    go_wp2
    exact bodyPost_ret (v := .agg #[.int .i64 z, .bool false, .slice none 0 0]) (by simp [results, Tryz.results166, go_sem]) rfl ⟨_, rfl, (Below.refl _ _).alloc (Nat.le_refl _) _, RIntV.small s1 s2⟩
  · by_cases hneg : z < 0
    · obtain ⟨n, rfl⟩ : ∃ n : Int, z = -n := ⟨-z, by omega⟩
      have hd : decide (-2305843009213693952 < -n) = false := decide_eq_false (by omega)
      have hm : (-n).tmod 1073741824 = -(n % 1073741824) := by rw [Int.neg_tmod, Int.tmod_eq_emod_of_nonneg (by omega)]
      have hq : (-n).tdiv 1073741824 = -(n / 1073741824) := by rw [Int.neg_tdiv, Int.tdiv_eq_ediv_of_nonneg (by omega)]
      have hmx : max (-(n % 1073741824)) (n % 1073741824) = n % 1073741824 := by omega
      obtain ⟨s1, s2, s3⟩ := lay_step (L := []) (n := n) (a := n) (k := 0) (by simp [Dig.val]) rfl (Dig.ok_nil _) (by omega)
      rw [List.nil_append] at s1 s2 s3
      have S1 := Lib.hid s1
      have S2 := Lib.hid s2
      have S3 := Lib.hid s3
      have HB0 : Hid (Below w.heap.size w ((w.alloc (.cells #[.int .i64 0, .bool false, .slice none 0 0] 136)).alloc (.cells #[.int .i64 (n % 1073741824)] 3))) := Lib.hid (boxes2 _ _ _)
      have HO0 : Hid (((w.alloc (.cells #[.int .i64 0, .bool false, .slice none 0 0] 136)).alloc (.cells #[.int .i64 (n % 1073741824)] 3)).ownsRow (w.heap.size + 1) 3 1 (.slice (some ⟨w.heap.size + 1, 0, none⟩) 1 1) 1 (ints [n % 1073741824])) := Lib.hid (by
        have := own_one (w.alloc (.cells #[.int .i64 0, .bool false, .slice none 0 0] 136)) (w.heap.size + 1) (by simp) 3 (.int .i64 (n % 1073741824))
        rwa [World.size_alloc] at this)
      have HX0 : Hid (((w.alloc (.cells #[.int .i64 0, .bool false, .slice none 0 0] 136)).alloc (.cells #[.int .i64 (n % 1073741824)] 3)).heap[w.heap.size]? = some (.cells #[.int .i64 0, .bool false, .slice none 0 0] 136 (0, 0))) := Lib.hid ((heap_alloc_old _ _ (by simp)).trans (heap_alloc_new _ _))
      have hq0 : 0 ≤ n / 1073741824 := by omega
      clear s1 s2 s3
      go_enter Tryz.func166, Tryz.ntmps166
      go_wp2
      go_loopw [4, 5] (fun v4 v5 W => ∃ (r : Int) (L : List Int), v4 = .int .i64 (-(r)) ∧ 0 ≤ r ∧ r ≤ n ∧ L.length ≤ 3 ∧ 1 ≤ L.length ∧ Hid (Below w.heap.size w W) ∧ Hid (W.ownsRow (w.heap.size + 1) 3 1 v5 L.length (ints L)) ∧ w.heap.size + 1 ≤ W.heap.size ∧ Hid (W.heap[w.heap.size]? = some (.cells #[.int .i64 0, .bool false, .slice none 0 0] 136 (0, 0))) ∧ Hid (Dig.ok 1073741824 L) ∧ Hid (Dig.val 1073741824 L + 1073741824 ^ L.length * r = n) ∧ Hid (r = 0 → Dig.trimmed L)) (fun v4 _ _ => (intOf v4).natAbs)
      case atStart => exact ⟨n / 1073741824, [n % 1073741824], rfl, hq0, by omega, by simp, by simp, HB0.out, HO0.out, by simp, HX0.out, S1.out, Lib.hid (by simpa using S2.out), S3.out⟩
      case round =>
        obtain ⟨r, L, rfl, hr0, hr1, hL3, hL1, HB, HO, hz, HX, HOK, HV, HT⟩ := hrel
        have hown := HO.out
        obtain ⟨A5, c5, rfl, -, -, -⟩ := own_form hown
        clear hown
        by_cases hp : 0 < r
        · have hL2 := few_digits HV.out HOK.out hp (by omega)
          obtain ⟨s1, s2, s3⟩ := lay_step HV.out rfl HOK.out hp
          have S1 := Lib.hid s1
          have S2 := Lib.hid s2
          have S3 := Lib.hid s3
          clear s1 s2 s3 hm hq hmx hd
          have hm : (-r).tmod 1073741824 = -(r % 1073741824) := by rw [Int.neg_tmod, Int.tmod_eq_emod_of_nonneg (by omega)]
          have hq : (-r).tdiv 1073741824 = -(r / 1073741824) := by rw [Int.neg_tdiv, Int.tdiv_eq_ediv_of_nonneg (by omega)]
          have hmx : max (-(r % 1073741824)) (r % 1073741824) = r % 1073741824 := by omega
          have hne : (-r != 0) = true := by rw [bne_iff_ne]; omega
          go_wp2_with ((at_builtin); (refine wpList_app1 elem_i64 rfl _ _ rfl (w.heap.size + 1) _ L.length (ints L) rfl (HO.out.alloc _) ⟨_, 0, none⟩ 1 _ rfl (cell_new1 _ _ _) rfl (by omega) (by omega) (by simp; omega) ?_); (intro v6 w6 ho6 hg6 ha6); (have HO6 := Lib.hid ho6); (have HG6 := Lib.hid hg6); (obtain ⟨A6, c6, rfl, -, -, -⟩ := own_form ho6); (clear ho6 hg6 ha6))
          have hb6 := (HB.out.alloc HB.out.size (.cells #[.int .i64 (r % 1073741824)] 3)).grown HG6.out (by have := HB.out.size; simp; omega) (fun k hk => by have := (HO.out.lt k hk).1; omega)
          have hs6 := HG6.out.size
          have HX6 := Lib.hid ((HG6.out.block w.heap.size (by simp; omega) (fun e => by have := (HO.out.lt _ e.symm).1; omega)).trans ((heap_alloc_old _ _ (by omega)).trans HX.out))
          exact ⟨⟨r / 1073741824, L ++ [r % 1073741824], rfl, by omega, by omega, by simp; omega, by simp, hb6, Lib.hid (by simpa [ints] using HO6.out), by simp at hs6; omega, HX6, S1, Lib.hid (by rw [List.length_append]; exact S2.out), S3⟩, by simp [intOf]; omega⟩
        · obtain rfl : r = 0 := by omega
          have HV2 : Hid (Dig.val 1073741824 L = n) := Lib.hid (by have := HV.out; omega)
          obtain ⟨x0, x0f⟩ := blk_at HX.out 0
          obtain ⟨x1, x1f⟩ := blk_at HX.out 1
          obtain ⟨x2, x2f⟩ := blk_at HX.out 2
          have HT2 : Hid (Dig.trimmed L) := Lib.hid (HT.out (by trivial))
          have hdz : decide (0 < n) = true := decide_eq_true (by omega)
          clear hp HV HT
          go_wp2
          have hbx := st3_blk HX.out (.int .i64 0) (.bool true) (.slice A5 L.length c5)
          have hbel := st3_below HB.out (Nat.le_refl _) (.int .i64 0) (.bool true) (.slice A5 L.length c5)
          have hri := RIntV.st3 (D := fun k => w.heap.size + 1 ≤ k ∧ k < wr.heap.size ∧ Soft wr k) (D' := fun k => w.heap.size ≤ k ∧ k < (((wr.setCell ⟨w.heap.size, 0, none⟩ (.int .i64 0)).setCell ⟨w.heap.size, 1, none⟩ (.bool true)).setCell ⟨w.heap.size, 2, none⟩ (.slice A5 L.length c5)).heap.size) (z := -n) (g := w.heap.size) (v := .agg #[.int .i64 0, .bool true, .slice A5 L.length c5]) ⟨_, _, _, _, _, rfl, .inr ⟨L, rfl, own_intsS HO.out, HOK.out, HT2.out, by rw [HV2.out]; omega, by rw [HV2.out]; rfl⟩⟩ (fun k hk => ⟨by omega, by omega, by rw [st3_size]; exact hk.2.1⟩) (.int .i64 0) (.bool true) (.slice A5 L.length c5)
          obtain ⟨wf, hwf⟩ : ∃ W : World, W = ((wr.setCell ⟨w.heap.size, 0, none⟩ (.int .i64 0)).setCell ⟨w.heap.size, 1, none⟩ (.bool true)).setCell ⟨w.heap.size, 2, none⟩ (.slice A5 L.length c5) := ⟨_, rfl⟩
          rw [← hwf] at hbx hbel hri
          rw [← hwf]
          clear hwf
          obtain ⟨e0, -⟩ := blk_at hbx 0
          obtain ⟨e1, -⟩ := blk_at hbx 1
          obtain ⟨e2, -⟩ := blk_at hbx 2
          exact bodyPost_ret (v := .agg #[.int .i64 0, .bool true, .slice A5 L.length c5]) (by simp [results, Tryz.results166, go_sem, e0, e1, e2]) rfl ⟨_, rfl, hbel, hri⟩
    · have hd : decide (-2305843009213693952 < z) = true := decide_eq_true (by omega)
      have hd2 : decide (z < 2305843009213693952) = false := decide_eq_false (by omega)
      have hmx : max (z % 1073741824) (-(z % 1073741824)) = z % 1073741824 := by omega
      obtain ⟨s1, s2, s3⟩ := lay_step (L := []) (n := z) (a := z) (k := 0) (by simp [Dig.val]) rfl (Dig.ok_nil _) (by omega)
      rw [List.nil_append] at s1 s2 s3
      have S1 := Lib.hid s1
      have S2 := Lib.hid s2
      have S3 := Lib.hid s3
      have HB0 : Hid (Below w.heap.size w ((w.alloc (.cells #[.int .i64 0, .bool false, .slice none 0 0] 136)).alloc (.cells #[.int .i64 (z % 1073741824)] 3))) := Lib.hid (boxes2 _ _ _)
      have HO0 : Hid (((w.alloc (.cells #[.int .i64 0, .bool false, .slice none 0 0] 136)).alloc (.cells #[.int .i64 (z % 1073741824)] 3)).ownsRow (w.heap.size + 1) 3 1 (.slice (some ⟨w.heap.size + 1, 0, none⟩) 1 1) 1 (ints [z % 1073741824])) := Lib.hid (by
        have := own_one (w.alloc (.cells #[.int .i64 0, .bool false, .slice none 0 0] 136)) (w.heap.size + 1) (by simp) 3 (.int .i64 (z % 1073741824))
        rwa [World.size_alloc] at this)
      have HX0 : Hid (((w.alloc (.cells #[.int .i64 0, .bool false, .slice none 0 0] 136)).alloc (.cells #[.int .i64 (z % 1073741824)] 3)).heap[w.heap.size]? = some (.cells #[.int .i64 0, .bool false, .slice none 0 0] 136 (0, 0))) := Lib.hid ((heap_alloc_old _ _ (by simp)).trans (heap_alloc_new _ _))
      have hq0 : 0 ≤ z / 1073741824 := by omega
      clear s1 s2 s3
      go_enter Tryz.func166, Tryz.ntmps166
      go_wp2
      go_loopw [4, 5] (fun v4 v5 W => ∃ (r : Int) (L : List Int), v4 = .int .i64 (r) ∧ 0 ≤ r ∧ r ≤ z ∧ L.length ≤ 3 ∧ 1 ≤ L.length ∧ Hid (Below w.heap.size w W) ∧ Hid (W.ownsRow (w.heap.size + 1) 3 1 v5 L.length (ints L)) ∧ w.heap.size + 1 ≤ W.heap.size ∧ Hid (W.heap[w.heap.size]? = some (.cells #[.int .i64 0, .bool false, .slice none 0 0] 136 (0, 0))) ∧ Hid (Dig.ok 1073741824 L) ∧ Hid (Dig.val 1073741824 L + 1073741824 ^ L.length * r = z) ∧ Hid (r = 0 → Dig.trimmed L)) (fun v4 _ _ => (intOf v4).natAbs)
      case atStart => exact ⟨z / 1073741824, [z % 1073741824], rfl, hq0, by omega, by simp, by simp, HB0.out, HO0.out, by simp, HX0.out, S1.out, Lib.hid (by simpa using S2.out), S3.out⟩
      case round =>
        obtain ⟨r, L, rfl, hr0, hr1, hL3, hL1, HB, HO, hz, HX, HOK, HV, HT⟩ := hrel
        have hown := HO.out
        obtain ⟨A5, c5, rfl, -, -, -⟩ := own_form hown
        clear hown
        by_cases hp : 0 < r
        · have hL2 := few_digits HV.out HOK.out hp (by omega)
          obtain ⟨s1, s2, s3⟩ := lay_step HV.out rfl HOK.out hp
          have S1 := Lib.hid s1
          have S2 := Lib.hid s2
          have S3 := Lib.hid s3
          clear s1 s2 s3 hmx hd hd2
          have hmx : max (r % 1073741824) (-(r % 1073741824)) = r % 1073741824 := by omega
          have hne : (r != 0) = true := by rw [bne_iff_ne]; omega
          go_wp2_with ((at_builtin); (refine wpList_app1 elem_i64 rfl _ _ rfl (w.heap.size + 1) _ L.length (ints L) rfl (HO.out.alloc _) ⟨_, 0, none⟩ 1 _ rfl (cell_new1 _ _ _) rfl (by omega) (by omega) (by simp; omega) ?_); (intro v6 w6 ho6 hg6 ha6); (have HO6 := Lib.hid ho6); (have HG6 := Lib.hid hg6); (obtain ⟨A6, c6, rfl, -, -, -⟩ := own_form ho6); (clear ho6 hg6 ha6))
          have hb6 := (HB.out.alloc HB.out.size (.cells #[.int .i64 (r % 1073741824)] 3)).grown HG6.out (by have := HB.out.size; simp; omega) (fun k hk => by have := (HO.out.lt k hk).1; omega)
          have hs6 := HG6.out.size
          have HX6 := Lib.hid ((HG6.out.block w.heap.size (by simp; omega) (fun e => by have := (HO.out.lt _ e.symm).1; omega)).trans ((heap_alloc_old _ _ (by omega)).trans HX.out))
          exact ⟨⟨r / 1073741824, L ++ [r % 1073741824], rfl, by omega, by omega, by simp; omega, by simp, hb6, Lib.hid (by simpa [ints] using HO6.out), by simp at hs6; omega, HX6, S1, Lib.hid (by rw [List.length_append]; exact S2.out), S3⟩, by simp [intOf]; omega⟩
        · obtain rfl : r = 0 := by omega
          have HV2 : Hid (Dig.val 1073741824 L = z) := Lib.hid (by have := HV.out; omega)
          obtain ⟨x0, x0f⟩ := blk_at HX.out 0
          obtain ⟨x1, x1f⟩ := blk_at HX.out 1
          obtain ⟨x2, x2f⟩ := blk_at HX.out 2
          have HT2 : Hid (Dig.trimmed L) := Lib.hid (HT.out (by trivial))
          have hdz : decide (z < 0) = false := decide_eq_false (by omega)
          clear hp HV HT
          go_wp2
          have hbx := st3_blk HX.out (.int .i64 0) (.bool false) (.slice A5 L.length c5)
          have hbel := st3_below HB.out (Nat.le_refl _) (.int .i64 0) (.bool false) (.slice A5 L.length c5)
          have hri := RIntV.st3 (D := fun k => w.heap.size + 1 ≤ k ∧ k < wr.heap.size ∧ Soft wr k) (D' := fun k => w.heap.size ≤ k ∧ k < (((wr.setCell ⟨w.heap.size, 0, none⟩ (.int .i64 0)).setCell ⟨w.heap.size, 1, none⟩ (.bool false)).setCell ⟨w.heap.size, 2, none⟩ (.slice A5 L.length c5)).heap.size) (z := z) (g := w.heap.size) (v := .agg #[.int .i64 0, .bool false, .slice A5 L.length c5]) ⟨_, _, _, _, _, rfl, .inr ⟨L, rfl, own_intsS HO.out, HOK.out, HT2.out, by rw [HV2.out]; omega, by rw [HV2.out]; rfl⟩⟩ (fun k hk => ⟨by omega, by omega, by rw [st3_size]; exact hk.2.1⟩) (.int .i64 0) (.bool false) (.slice A5 L.length c5)
          obtain ⟨wf, hwf⟩ : ∃ W : World, W = ((wr.setCell ⟨w.heap.size, 0, none⟩ (.int .i64 0)).setCell ⟨w.heap.size, 1, none⟩ (.bool false)).setCell ⟨w.heap.size, 2, none⟩ (.slice A5 L.length c5) := ⟨_, rfl⟩
          rw [← hwf] at hbx hbel hri
          rw [← hwf]
          clear hwf
          obtain ⟨e0, -⟩ := blk_at hbx 0
          obtain ⟨e1, -⟩ := blk_at hbx 1
          obtain ⟨e2, -⟩ := blk_at hbx 2
          exact bodyPost_ret (v := .agg #[.int .i64 0, .bool false, .slice A5 L.length c5]) (by simp [results, Tryz.results166, go_sem, e0, e1, e2]) rfl ⟨_, rfl, hbel, hri⟩

end Go.Proofs.YtoffbdlgmnpblaaGreat
