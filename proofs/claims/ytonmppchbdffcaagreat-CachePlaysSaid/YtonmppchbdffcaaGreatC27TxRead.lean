/- Tx.Read. -/
import Derived.Test.YtonmppchbdffcaaGreatC27Read2
namespace Go.Proofs.YtonmppchbdffcaaGreat
open Go Go.RowKit Go.Lib Go.Maps
attribute [local go_sem ↓] exec_alloc_data exec_store_data exec_load_data exec_build0
set_option maxRecDepth 100000

set_option maxHeartbeats 6400000 in
theorem tx_read_own (T C mo no b : Nat) (Do : DataW Unit) (x : Dat) (w : World) (hT : TxAt w T C mo) (hm : MapAt w mo no Do) (hb : b ≤ 1000)
    (h1 : Maps.has Do (.int .i64 (b : Int)) = true) (h2 : ∀ z, Do.atKey (.int .i64 (b : Int)) z = .lit (.string x)) :
    Calls Tryz.prog 17 #[.pointer (some ⟨T, 0, none⟩), .int .i64 (b : Int)] w fun e w' => e = .returned (.tuple #[.agg (dC x).toArray, .bool true]) ∧ Below w.heap.size w w' := by
  obtain ⟨w1, hw1⟩ : ∃ w1, w1 = w.alloc (.cells z64 34) := ⟨_, rfl⟩
  have hb1 : Below w.heap.size w w1 := by rw [hw1]; exact (Below.refl _ _).alloc (Nat.le_refl _) _
  have hg1 : w1.heap[w.heap.size]? = some (.cells z64 34 (0, 0)) := by rw [hw1]; exact heap_alloc_last _ _
  have hz1 : w1.heap.size = w.heap.size + 1 := by rw [hw1]; simp
  obtain ⟨hlk0, hx64⟩ := map_hit (hm.on (hb1.block mo hm.lt)) b hb h1 h2
  obtain ⟨w2, hw2⟩ : ∃ w2, w2 = w1.alloc (.cells (dC x).toArray 34) := ⟨_, rfl⟩
  obtain ⟨th2, pt2, hb2, hg2, hz2⟩ := lay_dat hx64 hw2
  have agx := agg_ok (cs := dC x) (n := 64) (by rw [dC_len, hx64]) (dC_one x)
  have hT1 : TxAt w1 T C mo := (hb1.block T hT.lt).trans hT
  obtain ⟨-, c1⟩ := hT1.cells
  obtain ⟨do2, dk2⟩ := dat_at hx64 hg2
  have hR2 : w2.heap[w.heap.size]? = some (.cells z64 34 (0, 0)) := (hb2.block _ (by omega)).trans hg1
  have thR := there_row (n := 64) hR2 rfl
  have ptR := putAt_row 34 data_size w2 w.heap.size _ z64 (dC x).toArray hR2 rfl (by simp [dC_len, hx64]) (all_oneCell_toArray (dC_one x))
  have hsr := setRow_heap w2 w.heap.size _ (dC x).toArray _ _ hR2
  have HQ := Lib.hid (And.intro hsr (And.intro (hb1.trans (hb2.mono hb1.size)) hx64))
  have aw1 := hw1.symm
  clear hT hm h1 h2 hb hb1 hg1 hz1 hw1 hb2 hg2 hz2 hw2 hT1 hR2 hsr hx64
  go_enter Tryz.func17, Tryz.ntmps17
  go_wp2_with fail
  refine bodyPost_ret (results_ct Tryz.results17 _ _ w.heap.size 34 _ (0, 0) _ rfl HQ.out.1 Tryz.underlying34 rfl ?hi) ?hr ?hq
  case hi => rw [data_size]; simp only [List.size_toArray]; rw [dC_len, HQ.out.2.2]
  case hr => rfl
  case hq => exact ⟨rfl, below_setRow HQ.out.2.1 (Nat.le_refl _) _⟩
set_option maxHeartbeats 6400000 in
/-- .. where it has not the block: what the cache reads; 'P': what is known behind that read -/
theorem tx_read_thru (T C mo no mc : Nat) (b : Int) (Do : DataW Unit) (x : Dat) (ok : Bool) (P : World → Prop) (w : World) (hT : TxAt w T C mo) (hm : MapAt w mo no Do) (hb : -1000 ≤ b ∧ b ≤ 1000) (hx64 : x.length = 64) (hCl : C < w.heap.size) (hcl : mc < w.heap.size)
    (h1 : Maps.has Do (.int .i64 b) = false)
    (hR : ∀ w', Below w.heap.size w w' → Calls Tryz.prog 13 #[.pointer (some ⟨C, 0, none⟩), .int .i64 b] w' fun e w'' => e = .returned (.tuple #[.agg (dC x).toArray, .bool ok]) ∧ P w'' ∧ Keeps (fun k => k = C ∨ k = mc) w' w'') :
    Calls Tryz.prog 17 #[.pointer (some ⟨T, 0, none⟩), .int .i64 b] w fun e w' => e = .returned (.tuple #[.agg (dC x).toArray, .bool ok]) ∧ (∃ w'', P w'' ∧ w.heap.size ≤ w''.heap.size ∧ Below w.heap.size w'' w') ∧ Keeps (fun k => k = C ∨ k = mc) w w' := by
  obtain ⟨w1, hw1⟩ : ∃ w1, w1 = w.alloc (.cells z64 34) := ⟨_, rfl⟩
  have hb1 : Below w.heap.size w w1 := by rw [hw1]; exact (Below.refl _ _).alloc (Nat.le_refl _) _
  have hg1 : w1.heap[w.heap.size]? = some (.cells z64 34 (0, 0)) := by rw [hw1]; exact heap_alloc_last _ _
  have hz1 : w1.heap.size = w.heap.size + 1 := by rw [hw1]; simp
  obtain ⟨d0, hd0, hlk0, -⟩ := map_look (hm.on (hb1.block mo hm.lt)) b (by omega) (by omega)
  rw [h1] at hlk0
  obtain ⟨w2, hw2⟩ : ∃ w2, w2 = w1.alloc (.cells (dC d0).toArray 34) := ⟨_, rfl⟩
  obtain ⟨th2, pt2, hb2, -, hz2⟩ := lay_dat hd0 hw2
  have hb12 : Below w.heap.size w w2 := hb1.trans (hb2.mono hb1.size)
  have ag0 := agg_ok (cs := dC d0) (n := 64) (by rw [dC_len, hd0]) (dC_one d0)
  have agx := agg_ok (cs := dC x) (n := 64) (by rw [dC_len, hx64]) (dC_one x)
  have hT1 : TxAt w1 T C mo := (hb1.block T hT.lt).trans hT
  have hT2 : TxAt w2 T C mo := (hb12.block T hT.lt).trans hT
  obtain ⟨-, c1⟩ := hT1.cells
  obtain ⟨c2, -⟩ := hT2.cells
  have hR2 : w2.heap[w.heap.size]? = some (.cells z64 34 (0, 0)) := (hb2.block _ (by omega)).trans hg1
  have HR := Lib.hid (hR w2 hb12)
  have H2 := Lib.hid (And.intro hR2 (And.intro hb12 (And.intro hCl (And.intro hcl (And.intro hx64 (by omega : w.heap.size < w2.heap.size))))))
  have aw1 := hw1.symm
  clear hT hm h1 hb hb1 hg1 hz1 hw1 hb2 hz2 hw2 hT1 hT2 hR2 hx64 hd0 hb12 hR hCl hcl
  go_enter Tryz.func17, Tryz.ntmps17
  go_wp2_with fail
  refine HR.out.mono ?_
  rintro e w3 ⟨rfl, hP, hk⟩
  have hR3 : w3.heap[w.heap.size]? = some (.cells z64 34 (0, 0)) := (hk.block _ H2.out.2.2.2.2.2 fun e => by have := H2.out; omega).trans H2.out.1
  have thR := there_row (n := 64) hR3 rfl
  have ptR := putAt_row 34 data_size w3 w.heap.size _ z64 (dC x).toArray hR3 rfl (by simp [dC_len, H2.out.2.2.2.2.1]) (all_oneCell_toArray (dC_one x))
  have hsr := setRow_heap w3 w.heap.size _ (dC x).toArray _ _ hR3
  have HQ := Lib.hid (And.intro hsr (And.intro hP (And.intro hk (below_setRow (Below.refl w.heap.size w3) (Nat.le_refl _) (dC x).toArray))))
  clear hP hk hR3 hsr
  go_wp2_with fail
  refine bodyPost_ret (results_ct Tryz.results17 _ _ w.heap.size 34 _ (0, 0) _ rfl HQ.out.1 Tryz.underlying34 rfl ?hi) ?hr ?hq
  case hi => rw [data_size]; simp only [List.size_toArray]; rw [dC_len, H2.out.2.2.2.2.1]
  case hr => rfl
  case hq => exact ⟨rfl, ⟨w3, HQ.out.2.1, Nat.le_trans H2.out.2.1.size HQ.out.2.2.1.size, HQ.out.2.2.2⟩, keeps_then ((Keeps.of_below H2.out.2.1).trans HQ.out.2.2.1) HQ.out.2.2.2⟩
end Go.Proofs.YtonmppchbdffcaaGreat
