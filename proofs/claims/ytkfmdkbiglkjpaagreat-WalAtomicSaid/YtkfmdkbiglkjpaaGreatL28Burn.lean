/- Read and Recover where the fuse has burnt: nothing is read, nothing is done. -/
import Derived.Test.YtkfmdkbiglkjpaaGreatWal7
namespace Go.Proofs.YtkfmdkbiglkjpaaGreat
open Go Go.RowKit Go.Lib
attribute [local go_sem ↓] exec_alloc_data exec_store_data exec_load_data exec_build0
set_option maxRecDepth 100000

set_option maxHeartbeats 3200000 in
theorem dev_read_no (X D n b dn : Nat) (w : World) (hb : b < n) (h : DevAt w X D n 0 dn) :
    Calls Tryz.prog 31 #[.pointer (some ⟨X, 0, none⟩), .int .i64 (b : Int)] w fun e w' => e = .returned (.tuple #[.agg (dC zeroD).toArray, .bool false]) ∧ Below w.heap.size w w' := by
  obtain ⟨w1, hw1⟩ : ∃ w1, w.alloc (.cells z64 49) = w1 := ⟨_, rfl⟩
  have hbel : Below w.heap.size w w1 := by rw [← hw1]; exact (Below.refl _ _).alloc (Nat.le_refl _) _
  have hbox : w1.heap[w.heap.size]? = some (.cells z64 49 (0, 0)) := by rw [← hw1]; exact heap_alloc_last _ _
  have hs1 : w1.heap.size = w.heap.size + 1 := by rw [← hw1]; simp
  have h1 : DevAt w1 X D n 0 dn := h.on (hbel.block X h.lt)
  have HI := Lib.hid (dev_in X D n 0 dn (b : Int) w1 h1)
  rw [decide_eq_true (by omega : 0 ≤ (b : Int) ∧ (b : Int) < (n : Int))] at HI
  have HL := Lib.hid (dev_live X D n 0 dn w1 h1)
  rw [decide_eq_false (by omega)] at HL
  have HB := Lib.hid (And.intro hbel hbox)
  have HW1 := Lib.hid hw1
  clear h h1 hbel hbox hs1 hw1
  go_enter Tryz.func31, Tryz.ntmps31
  go_wp2_with fail
  rw [HW1.out]
  refine HI.out.mono ?_
  rintro e w' ⟨rfl, hw'⟩
  rw [hw']
  clear hw' w'
  go_wp2_with fail
  refine HL.out.mono ?_
  rintro e w' ⟨rfl, hw'⟩
  rw [hw']
  clear hw' w'
  have hth := there_row (n := 64) HB.out.2 rfl
  have hpt := putAt_row 49 data_size w1 w.heap.size _ z64 (dC zeroD).toArray HB.out.2 rfl rfl (all_oneCell_toArray (dC_one zeroD))
  have hsr := setRow_heap w1 w.heap.size _ (dC zeroD).toArray _ _ HB.out.2
  have hag := agg_ok (cs := dC zeroD) (n := 64) rfl (dC_one zeroD)
  have HQ := Lib.hid (And.intro hsr HB.out.1)
  clear hsr
  go_wp2_with fail
  refine bodyPost_ret (results_ct Tryz.results31 _ _ w.heap.size 49 _ (0, 0) _ rfl HQ.out.1 Tryz.underlying49 rfl ?hi) ?hr ?hq
  case hi => rw [data_size]; rfl
  case hr => rfl
  case hq => exact ⟨rfl, below_setRow HQ.out.2 (Nat.le_refl _) _⟩
set_option maxHeartbeats 3200000 in
theorem wal_read_no (X D n dn : Nat) (w : World) (hb : 1 < n) (h : DevAt w X D n 0 dn) :
    Calls Tryz.prog 16 #[.pointer (some ⟨X, 0, none⟩)] w fun e w' => e = .returned (.tuple #[.slice none 0 0, .bool false]) ∧ Below w.heap.size w w' := by
  have HR1 := Lib.hid (dev_read_no X D n 1 dn w hb h)
  have HHD := Lib.hid (super_header w)
  have hag := agg_ok (cs := dC zeroD) (n := 64) rfl (dC_one zeroD)
  have HPT := Lib.hid fun w1 => putAt_new 49 data_size w1 49 z64 (dC zeroD).toArray rfl rfl (all_oneCell_toArray (dC_one zeroD))
  have HTH := Lib.hid fun (w1 : World) => there_row (n := 64) (heap_alloc_last w1 (.cells z64 49)) rfl
  clear h
  go_enter Tryz.func16, Tryz.ntmps16
  go_wp2_with fail
  refine HHD.out.mono ?_
  rintro e w' ⟨rfl, hw'⟩
  rw [hw']
  clear hw' w'
  go_wp2_with fail
  refine HR1.out.mono ?_
  rintro e w1 ⟨rfl, hb1⟩
  have hpt := HPT.out w1
  have hth := HTH.out w1
  have HB := Lib.hid (hb1.alloc hb1.size (.cells (dC zeroD).toArray 49))
  clear hb1
  go_wp2_with fail
  go_ret2
  exact ⟨rfl, HB.out⟩
set_option maxHeartbeats 3200000 in
theorem wal_recover_no (X D n dn : Nat) (w : World) (hb : 1 < n) (h : DevAt w X D n 0 dn) :
    Calls Tryz.prog 15 #[.pointer (some ⟨X, 0, none⟩)] w fun e w' => e = .returned (.tuple #[.int .i64 0, .int .i64 20]) ∧ Below w.heap.size w w' := by
  have HR := Lib.hid (wal_read_no X D n dn w hb h)
  clear h
  go_enter Tryz.func15, Tryz.ntmps15
  go_wp2_with fail
  refine HR.out.mono ?_
  rintro e w1 ⟨rfl, hb1⟩
  have HB := Lib.hid hb1
  clear hb1
  go_wp2_with fail
  go_ret2
  exact ⟨rfl, HB.out⟩
/-- Recover under any fuse -/
theorem wal_recover_any (F : Nat → Prop) (X D N c : Nat) (s : DS) (w : World) (hs : s.sm N c) (hN : 18 ≤ N) (hN2 : N ≤ 1000) (hc : c ≤ 5000) (hpre : s.fit N) (h : Dv w F X D s) :
    Calls Tryz.prog 15 #[.pointer (some ⟨X, 0, none⟩)] w fun e w' => ∃ n f : Int, e = .returned (.tuple #[.int .i64 n, .int .i64 f]) ∧ Dvs w F X D (if s.left = 0 then s else s.recover.2) w' := by
  by_cases h0 : s.left = 0
  · have hd := h.dev
    rw [h0] at hd
    refine (wal_recover_no X D _ _ w (by rw [hs.len]; omega) hd).mono ?_
    rintro e w1 ⟨rfl, hb⟩
    rw [if_pos h0]
    exact ⟨0, 20, rfl, h.same hb⟩
  · refine (wal_recover F X D N c s w hs hN hN2 hc (by omega) hpre h).mono ?_
    rintro e w1 ⟨rfl, hv⟩
    rw [if_neg h0]
    exact ⟨_, _, rfl, hv⟩
end Go.Proofs.YtkfmdkbiglkjpaaGreat
