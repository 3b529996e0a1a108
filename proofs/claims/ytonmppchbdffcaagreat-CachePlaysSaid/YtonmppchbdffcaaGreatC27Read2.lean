/- cache.Read where a map has the block; Tx.Read. -/
import Derived.Test.YtonmppchbdffcaaGreatC27Read
namespace Go.Proofs.YtonmppchbdffcaaGreat
open Go Go.RowKit Go.Lib Go.Maps
attribute [local go_sem ↓] exec_alloc_data exec_store_data exec_load_data exec_build0
set_option maxRecDepth 100000

/-- a look-up that finds: what stands there -/
theorem map_hit {w : World} {b n : Nat} {D : DataW Unit} (h : MapAt w b n D) (x : Nat) (hx : x ≤ 1000) {d : Dat} (hh : Maps.has D (.int .i64 (x : Int)) = true) (ha : ∀ z, D.atKey (.int .i64 (x : Int)) z = .lit (.string d)) :
    (Instr.lookup 63 (.map (some b)) (.int .i64 (x : Int)) true).run Tryz.prog w = .ok (.tuple #[.agg (dC d).toArray, .bool true]) w ∧ d.length = 64 := by
  obtain ⟨e, he, hrun, hat⟩ := map_look h (x : Int) (by omega) (by omega)
  rw [ha] at hat
  obtain rfl : d = e := by simpa using hat
  rw [hh] at hrun
  exact ⟨hrun, he⟩
set_option maxHeartbeats 6400000 in
theorem cache_read_dirty (C X md mc nd b : Nat) (r : Int) (Dd : DataW Unit) (x : Dat) (w : World) (hC : CaAt w C X md mc r) (hd : MapAt w md nd Dd) (hb : b ≤ 1000)
    (h1 : Maps.has Dd (.int .i64 (b : Int)) = true) (h2 : ∀ z, Dd.atKey (.int .i64 (b : Int)) z = .lit (.string x)) :
    Calls Tryz.prog 13 #[.pointer (some ⟨C, 0, none⟩), .int .i64 (b : Int)] w fun e w' => e = .returned (.tuple #[.agg (dC x).toArray, .bool true]) ∧ Below w.heap.size w w' := by
  obtain ⟨w1, hw1⟩ : ∃ w1, w1 = w.alloc (.cells z64 34) := ⟨_, rfl⟩
  have hb1 : Below w.heap.size w w1 := by rw [hw1]; exact (Below.refl _ _).alloc (Nat.le_refl _) _
  have hg1 : w1.heap[w.heap.size]? = some (.cells z64 34 (0, 0)) := by rw [hw1]; exact heap_alloc_last _ _
  have hz1 : w1.heap.size = w.heap.size + 1 := by rw [hw1]; simp
  obtain ⟨hlk0, hx64⟩ := map_hit (hd.on (hb1.block md hd.lt)) b hb h1 h2
  obtain ⟨w2, hw2⟩ : ∃ w2, w2 = w1.alloc (.cells (dC x).toArray 34) := ⟨_, rfl⟩
  obtain ⟨th2, pt2, hb2, hg2, hz2⟩ := lay_dat hx64 hw2
  have agx := agg_ok (cs := dC x) (n := 64) (by rw [dC_len, hx64]) (dC_one x)
  have hC1 : CaAt w1 C X md mc r := (hb1.block C hC.lt).trans hC
  obtain ⟨-, c1, -, -⟩ := hC1.cells
  obtain ⟨do2, dk2⟩ := dat_at hx64 hg2
  have hR2 : w2.heap[w.heap.size]? = some (.cells z64 34 (0, 0)) := (hb2.block _ (by omega)).trans hg1
  have thR := there_row (n := 64) hR2 rfl
  have ptR := putAt_row 34 data_size w2 w.heap.size _ z64 (dC x).toArray hR2 rfl (by simp [dC_len, hx64]) (all_oneCell_toArray (dC_one x))
  have hsr := setRow_heap w2 w.heap.size _ (dC x).toArray _ _ hR2
  have HQ := Lib.hid (And.intro hsr (And.intro (hb1.trans (hb2.mono hb1.size)) hx64))
  have aw1 := hw1.symm
  clear hC hd h1 h2 hb hb1 hg1 hz1 hw1 hb2 hg2 hz2 hw2 hC1 hR2 hsr hx64
  go_enter Tryz.func13, Tryz.ntmps13
  go_wp2_with fail
  refine bodyPost_ret (results_ct Tryz.results13 _ _ w.heap.size 34 _ (0, 0) _ rfl HQ.out.1 Tryz.underlying34 rfl ?hi) ?hr ?hq
  case hi => rw [data_size]; simp only [List.size_toArray]; rw [dC_len, HQ.out.2.2]
  case hr => rfl
  case hq => exact ⟨rfl, below_setRow HQ.out.2.1 (Nat.le_refl _) _⟩
set_option maxHeartbeats 6400000 in
theorem cache_read_clean (C X md mc nd nc b : Nat) (r : Int) (Dd Dc : DataW Unit) (x : Dat) (w : World) (hC : CaAt w C X md mc r) (hd : MapAt w md nd Dd) (hc : MapAt w mc nc Dc) (hb : b ≤ 1000)
    (h0 : Maps.has Dd (.int .i64 (b : Int)) = false) (h1 : Maps.has Dc (.int .i64 (b : Int)) = true) (h2 : ∀ z, Dc.atKey (.int .i64 (b : Int)) z = .lit (.string x)) :
    Calls Tryz.prog 13 #[.pointer (some ⟨C, 0, none⟩), .int .i64 (b : Int)] w fun e w' => e = .returned (.tuple #[.agg (dC x).toArray, .bool true]) ∧ Below w.heap.size w w' := by
  obtain ⟨w1, hw1⟩ : ∃ w1, w1 = w.alloc (.cells z64 34) := ⟨_, rfl⟩
  have hb1 : Below w.heap.size w w1 := by rw [hw1]; exact (Below.refl _ _).alloc (Nat.le_refl _) _
  have hg1 : w1.heap[w.heap.size]? = some (.cells z64 34 (0, 0)) := by rw [hw1]; exact heap_alloc_last _ _
  have hz1 : w1.heap.size = w.heap.size + 1 := by rw [hw1]; simp
  obtain ⟨d0, hd0, hlk0, -⟩ := map_look (hd.on (hb1.block md hd.lt)) (b : Int) (by omega) (by omega)
  rw [h0] at hlk0
  obtain ⟨w2, hw2⟩ : ∃ w2, w2 = w1.alloc (.cells (dC d0).toArray 34) := ⟨_, rfl⟩
  obtain ⟨th2, pt2, hb2, -, hz2⟩ := lay_dat hd0 hw2
  have hb12 : Below w.heap.size w w2 := hb1.trans (hb2.mono hb1.size)
  obtain ⟨hlk1, hx64⟩ := map_hit (hc.on (hb12.block mc hc.lt)) b hb h1 h2
  obtain ⟨w3, hw3⟩ : ∃ w3, w3 = w2.alloc (.cells (dC x).toArray 34) := ⟨_, rfl⟩
  obtain ⟨th3, pt3, hb3, hg3, hz3⟩ := lay_dat hx64 hw3
  have ag0 := agg_ok (cs := dC d0) (n := 64) (by rw [dC_len, hd0]) (dC_one d0)
  have agx := agg_ok (cs := dC x) (n := 64) (by rw [dC_len, hx64]) (dC_one x)
  have hC1 : CaAt w1 C X md mc r := (hb1.block C hC.lt).trans hC
  have hC2 : CaAt w2 C X md mc r := (hb12.block C hC.lt).trans hC
  obtain ⟨-, c1, -, -⟩ := hC1.cells
  obtain ⟨-, -, c2, -⟩ := hC2.cells
  obtain ⟨do2, dk2⟩ := dat_at hx64 hg3
  have hR3 : w3.heap[w.heap.size]? = some (.cells z64 34 (0, 0)) := (hb3.block _ (by omega)).trans ((hb2.block _ (by omega)).trans hg1)
  have thR := there_row (n := 64) hR3 rfl
  have ptR := putAt_row 34 data_size w3 w.heap.size _ z64 (dC x).toArray hR3 rfl (by simp [dC_len, hx64]) (all_oneCell_toArray (dC_one x))
  have hsr := setRow_heap w3 w.heap.size _ (dC x).toArray _ _ hR3
  have HQ := Lib.hid (And.intro hsr (And.intro (hb12.trans (hb3.mono hb12.size)) hx64))
  have aw1 := hw1.symm
  clear hC hd hc h0 h1 h2 hb hb1 hg1 hz1 hw1 hb2 hz2 hw2 hb3 hg3 hz3 hw3 hb12 hC1 hC2 hR3 hsr hx64 hd0
  go_enter Tryz.func13, Tryz.ntmps13
  go_wp2_with fail
  refine bodyPost_ret (results_ct Tryz.results13 _ _ w.heap.size 34 _ (0, 0) _ rfl HQ.out.1 Tryz.underlying34 rfl ?hi) ?hr ?hq
  case hi => rw [data_size]; simp only [List.size_toArray]; rw [dC_len, HQ.out.2.2]
  case hr => rfl
  case hq => exact ⟨rfl, below_setRow HQ.out.2.1 (Nat.le_refl _) _⟩
set_option maxHeartbeats 3200000 in
theorem dev_read_out (X D n left dn : Nat) (b : Int) (w : World) (hb : ¬ (0 ≤ b ∧ b < (n : Int))) (h : DevAt w X D n left dn) :
    Calls Tryz.prog 29 #[.pointer (some ⟨X, 0, none⟩), .int .i64 b] w fun e w' => e = .returned (.tuple #[.agg (dC zeroD).toArray, .bool false]) ∧ Below w.heap.size w w' := by
  obtain ⟨w1, hw1⟩ : ∃ w1, w.alloc (.cells z64 34) = w1 := ⟨_, rfl⟩
  have hbel : Below w.heap.size w w1 := by rw [← hw1]; exact (Below.refl _ _).alloc (Nat.le_refl _) _
  have hbox : w1.heap[w.heap.size]? = some (.cells z64 34 (0, 0)) := by rw [← hw1]; exact heap_alloc_last _ _
  have hs1 : w1.heap.size = w.heap.size + 1 := by rw [← hw1]; simp
  have h1 : DevAt w1 X D n left dn := h.on (hbel.block X h.lt)
  have HI := Lib.hid (dev_in X D n left dn b w1 h1)
  rw [decide_eq_false hb] at HI
  have HB := Lib.hid (And.intro hbel hbox)
  have HW1 := Lib.hid hw1
  clear h h1 hbel hbox hs1 hw1
  go_enter Tryz.func29, Tryz.ntmps29
  go_wp2_with fail
  rw [HW1.out]
  refine HI.out.mono ?_
  rintro e w' ⟨rfl, hw'⟩
  rw [hw']
  clear hw' w'
  have hth := there_row (n := 64) HB.out.2 rfl
  have hpt := putAt_row 34 data_size w1 w.heap.size _ z64 (dC zeroD).toArray HB.out.2 rfl rfl (all_oneCell_toArray (dC_one zeroD))
  have hsr := setRow_heap w1 w.heap.size _ (dC zeroD).toArray _ _ HB.out.2
  have hag := agg_ok (cs := dC zeroD) (n := 64) rfl (dC_one zeroD)
  have HQ := Lib.hid (And.intro hsr HB.out.1)
  clear hsr
  go_wp2_with fail
  refine bodyPost_ret (results_ct Tryz.results29 _ _ w.heap.size 34 _ (0, 0) _ rfl HQ.out.1 Tryz.underlying34 rfl ?hi) ?hr ?hq
  case hi => rw [data_size]; rfl
  case hr => rfl
  case hq => exact ⟨rfl, below_setRow HQ.out.2 (Nat.le_refl _) _⟩
set_option maxHeartbeats 6400000 in
theorem cache_read_out (C X D md mc nd nc n left dn : Nat) (b : Int) (r : Int) (Dd Dc : DataW Unit) (w : World) (hC : CaAt w C X md mc r) (hd : MapAt w md nd Dd) (hc : MapAt w mc nc Dc) (hX : DevAt w X D n left dn) (hb : ¬ (0 ≤ b ∧ b < (n : Int))) (hb1 : -1000 ≤ b ∧ b ≤ 1000)
    (h0 : Maps.has Dd (.int .i64 b) = false) (h1 : Maps.has Dc (.int .i64 b) = false) :
    Calls Tryz.prog 13 #[.pointer (some ⟨C, 0, none⟩), .int .i64 b] w fun e w' => e = .returned (.tuple #[.agg (dC zeroD).toArray, .bool false]) ∧ Below w.heap.size w w' := by
  obtain ⟨w1, hw1⟩ : ∃ w1, w1 = w.alloc (.cells z64 34) := ⟨_, rfl⟩
  have hb1 : Below w.heap.size w w1 := by rw [hw1]; exact (Below.refl _ _).alloc (Nat.le_refl _) _
  have hg1 : w1.heap[w.heap.size]? = some (.cells z64 34 (0, 0)) := by rw [hw1]; exact heap_alloc_last _ _
  have hz1 : w1.heap.size = w.heap.size + 1 := by rw [hw1]; simp
  obtain ⟨d0, hd0, hlk0, -⟩ := map_look (hd.on (hb1.block md hd.lt)) b (by omega) (by omega)
  rw [h0] at hlk0
  obtain ⟨w2, hw2⟩ : ∃ w2, w2 = w1.alloc (.cells (dC d0).toArray 34) := ⟨_, rfl⟩
  obtain ⟨th2, pt2, hb2, -, hz2⟩ := lay_dat hd0 hw2
  have hb12 : Below w.heap.size w w2 := hb1.trans (hb2.mono hb1.size)
  obtain ⟨d1, hd1, hlk1, -⟩ := map_look (hc.on (hb12.block mc hc.lt)) b (by omega) (by omega)
  rw [h1] at hlk1
  obtain ⟨w3, hw3⟩ : ∃ w3, w3 = w2.alloc (.cells (dC d1).toArray 34) := ⟨_, rfl⟩
  obtain ⟨th3, pt3, hb3, hg3, hz3⟩ := lay_dat hd1 hw3
  have hb13 : Below w.heap.size w w3 := hb12.trans (hb3.mono hb12.size)
  have ag0 := agg_ok (cs := dC d0) (n := 64) (by rw [dC_len, hd0]) (dC_one d0)
  have ag1 := agg_ok (cs := dC d1) (n := 64) (by rw [dC_len, hd1]) (dC_one d1)
  have agz := agg_ok (cs := dC zeroD) (n := 64) rfl (dC_one zeroD)
  have hC1 : CaAt w1 C X md mc r := (hb1.block C hC.lt).trans hC
  have hC2 : CaAt w2 C X md mc r := (hb12.block C hC.lt).trans hC
  have hC3 : CaAt w3 C X md mc r := (hb13.block C hC.lt).trans hC
  obtain ⟨-, c1, -, -⟩ := hC1.cells
  obtain ⟨-, -, c2, -⟩ := hC2.cells
  obtain ⟨c3, -, -, -⟩ := hC3.cells
  have hR3 : w3.heap[w.heap.size]? = some (.cells z64 34 (0, 0)) := (hb3.block _ (by omega)).trans ((hb2.block _ (by omega)).trans hg1)
  have HRD := Lib.hid (dev_read_out X D n left dn b w3 hb (hX.on (hb13.block X hX.lt)))
  have H3 := Lib.hid (And.intro hR3 (And.intro hb13 (And.intro hz1 (And.intro hz2 hz3))))
  have aw1 := hw1.symm
  clear hC hd hc hX hb h0 h1 hb1 hg1 hz1 hw1 hb2 hz2 hw2 hb3 hg3 hz3 hw3 hb12 hb13 hC1 hC2 hC3 hR3 hd0 hd1
  go_enter Tryz.func13, Tryz.ntmps13
  go_wp2_with fail
  refine HRD.out.mono ?_
  rintro e w4 ⟨rfl, hb4⟩
  obtain ⟨w5, hw5⟩ : ∃ w5, w5 = w4.alloc (.cells (dC zeroD).toArray 34) := ⟨_, rfl⟩
  obtain ⟨th5, pt5, hb5, -, -⟩ := lay_dat (d := zeroD) rfl hw5
  have hb35 : Below w3.heap.size w3 w5 := hb4.trans (hb5.mono hb4.size)
  have hR5 : w5.heap[w.heap.size]? = some (.cells z64 34 (0, 0)) := (hb35.block _ (by have := H3.out; omega)).trans H3.out.1
  have thR := there_row (n := 64) hR5 rfl
  have ptR := putAt_row 34 data_size w5 w.heap.size _ z64 (dC zeroD).toArray hR5 rfl rfl (all_oneCell_toArray (dC_one zeroD))
  have hsr := setRow_heap w5 w.heap.size _ (dC zeroD).toArray _ _ hR5
  have HQ := Lib.hid (And.intro hsr (H3.out.2.1.trans (hb35.mono H3.out.2.1.size)))
  clear hb4 hw5 hb5 hb35 hR5 hsr
  go_wp2_with fail
  refine bodyPost_ret (results_ct Tryz.results13 _ _ w.heap.size 34 _ (0, 0) _ rfl HQ.out.1 Tryz.underlying34 rfl ?hi) ?hr ?hq
  case hi => rw [data_size]; rfl
  case hr => rfl
  case hq => exact ⟨rfl, below_setRow HQ.out.2 (Nat.le_refl _) _⟩
end Go.Proofs.YtonmppchbdffcaaGreat
