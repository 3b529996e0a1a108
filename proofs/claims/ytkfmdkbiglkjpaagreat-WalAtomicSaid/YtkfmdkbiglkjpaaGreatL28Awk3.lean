/- The law's example. -/
import Derived.Test.YtkfmdkbiglkjpaaGreatL28Awk2
namespace Go.Proofs.YtkfmdkbiglkjpaaGreat
open Go Go.RowKit Go.Lib
attribute [local go_sem ↓] wp_build_one wp_bput_c wp_bput2 exec_alloc_data exec_store_data
set_option maxRecDepth 100000
set_option maxHeartbeats 6400000 in
theorem law_awake (w : World) : Calls Tryz.prog 13 #[] w fun e w' => e = .returned (.bool true) ∧ Below w.heap.size w w' := by
  have h1 := oneZ_int 1
  have h2 := oneZ_int 2
  simp only [show ((1 : UInt8).toNat : Int) = 1 from rfl, show ((2 : UInt8).toNat : Int) = 2 from rfl] at h1 h2
  have hd1 : datLen (.agg (dC (one 1)).toArray) = true := decide_eq_true (by simp [Value.cells, dC_len, one])
  have hd2 : datLen (.agg (dC (one 2)).toArray) = true := decide_eq_true (by simp [Value.cells, dC_len, one])
  have hw1 : wrLen (.agg (Value.int .i64 20 :: dC (one 1)).toArray) = true := decide_eq_true (by simp [Value.cells, dC_len, one])
  have hw2 : wrLen (.agg (Value.int .i64 30 :: dC (one 2)).toArray) = true := decide_eq_true (by simp [Value.cells, dC_len, one])
  obtain ⟨hn1, hn2, hn3, hn4⟩ := ex_num
  have HNUM := Lib.hid (And.intro hn1 (And.intro hn2 (And.intro hn3 hn4)))
  clear hn1 hn2 hn3 hn4
  go_enter Tryz.func13, Tryz.ntmps13
  go_wp2_with fail
  refine (disk_new 40 (by decide) (by decide) w).mono ?_
  rintro e wa ⟨D, rfl, hda, hba⟩
  have HA := Lib.hid (And.intro hda hba)
  clear hda hba
  go_wp2_with fail
  refine (dev_of _ D _ _ wa HA.out.1).mono ?_
  rintro e wb ⟨rfl, hxb, hbb⟩
  obtain ⟨X, hX⟩ : ∃ X, X = wa.heap.size := ⟨_, rfl⟩
  rw [← hX] at hxb ⊢
  have HDV : Hid (Dv wb (newIn w wa) X D exS) := Lib.hid ⟨by simpa [exS] using hxb, HA.out.1.below hbb, fun h => by have := h.2; omega, fun k h => by have := h.2; have := hbb.size; omega⟩
  have HB := Lib.hid (And.intro hbb hX)
  clear hxb hbb hX
  go_wp2_with fail
  obtain ⟨wc, hwc⟩ : ∃ wc, wc = wb.alloc (.cells (Value.int .i64 20 :: (dC (one 1) ++ Value.int .i64 30 :: dC (one 2))).toArray 60) := ⟨_, rfl⟩
  have hbc : Below wb.heap.size wb wc := by rw [hwc]; exact (Below.refl _ _).alloc (Nat.le_refl _) _
  have hpc : putC exPuts = Value.int .i64 20 :: (dC (one 1) ++ Value.int .i64 30 :: dC (one 2)) := by simp [putC, exPuts, pC]
  have hlen : (putC exPuts).length = 130 := by rw [hpc]; simp [dC_len, one]
  have hgc : wc.heap[wb.heap.size]? = some (.cells (putC exPuts).toArray 60 (0, 0)) := by rw [hwc, hpc]; exact heap_alloc_last _ _
  have hrow : wc.ownsRow wb.heap.size 60 65 (.slice (some ⟨wb.heap.size, 0, none⟩) exPuts.length 2) exPuts.length (putC exPuts) := ⟨hlen, .inr ⟨wb.heap.size, 2, (putC exPuts).toArray, rfl, Nat.le_refl _, hgc, Nat.le_refl _, by unfold maxLen; omega, by simpa using hlen, List.take_of_length_le (by rw [hlen]; exact Nat.le_refl _)⟩⟩
  have hpr : PReads wc (some ⟨wb.heap.size, 0, none⟩) 2 exPuts := PReads.of_row hrow (fun p hp => by
    simp only [exPuts, List.mem_cons, List.not_mem_nil, or_false] at hp
    rcases hp with rfl | rfl <;> rfl) (Nat.le_refl _) (by unfold maxLen; omega)
  have hsm : exS.sm 40 0 := ⟨by simp [exS], by simp [exS], by simp [exS], by simp [exS]⟩
  have hdc := HDV.out.below hbc
  have hcm := wal_commit (newIn w wa) X D 40 0 _ 2 exPuts exS wc hsm (by omega) (by omega) (by omega) (by decide) hdc hpr (fun g e => by
    obtain rfl : wb.heap.size = g := by simpa using e
    refine ⟨(Array.getElem?_eq_some_iff.1 hgc).1, fun h => ?_, fun e => ?_⟩
    · have := h.2; have := HB.out.1.size; omega
    · have := HDV.out.dev.lt; omega)
  have HSM := Lib.hid (sm_commit (l := exPuts) hsm)
  have HBC := Lib.hid hbc
  rw [HNUM.out.1] at hcm
  rw [← hwc]
  clear hwc hpc hlen hgc hrow hpr hsm hdc hbc
  obtain ⟨t, ht⟩ : ∃ t, t = (exS.commit exPuts).2 := ⟨_, rfl⟩
  rw [← ht] at hcm HSM HNUM
  refine hcm.mono ?_
  rintro e wd ⟨rfl, F4, hF4, hd4, hk4⟩
  have HD4 := Lib.hid hd4
  have HBD : Hid (Below w.heap.size w wd) := Lib.hid ((HA.out.2.trans (HB.out.1.mono HA.out.2.size)).trans ((HBC.out.mono (by have := HB.out.1.size; have := HA.out.2.size; omega)).trans (hk4.below (fun k h => by
    rcases h with h | h
    · exact h.1
    · have := HB.out.2; have := HA.out.2.size; omega) (by have := HBC.out.size; have := HB.out.1.size; have := HA.out.2.size; omega))))
  have hrd := disk_read F4 D t.L t.W 30 (by rw [HSM.out.len]; omega) (by rw [HSM.out.len]; omega) (by have := HSM.out.wai; omega) wd hd4.dsk
  rw [HNUM.out.2.2.2] at hrd
  have HRD := Lib.hid hrd
  clear hcm hrd hF4 hd4 hk4 ht
  go_wp2_with fail
  refine HRD.out.mono ?_
  rintro e we ⟨rfl, hbe⟩
  have hal := all_oneCell_toArray (dC_one (one 2))
  have hlen : (dC (one 2)).length = 64 := rfl
  have hag := agg_ok hlen (dC_one (one 2))
  have hth := there_row (n := 64) (heap_alloc_last we (.cells z64 49)) rfl
  have hpt := putAt_new 49 data_size we 49 z64 (dC (one 2)).toArray rfl rfl hal
  obtain ⟨wf, hwf⟩ : ∃ wf, wf = we.alloc (.cells (dC (one 2)).toArray 49) := ⟨_, rfl⟩
  rw [← hwf] at hpt
  have hbf : Below wd.heap.size wd wf := by rw [hwf]; exact hbe.alloc hbe.size _
  have cf : wf.cell? ⟨we.heap.size, 0, none⟩ = some (.int .u8 2) := by rw [hwf, cell_of_row _ _ 0 _ _ _ (heap_alloc_last _ _)]; rfl
  have hdf := HD4.out.below hbf
  have hst := dev_steps X D t.L.length t.left t.dn wf hdf.dev
  rw [HNUM.out.2.1] at hst
  have hds := hdf.dsk
  rw [HNUM.out.2.2.1] at hds
  have HST := Lib.hid hst
  have HWT := Lib.hid (disk_waiting0 F4 D t.L wf hds)
  have HBF := Lib.hid (HBD.out.trans (hbf.mono HBD.out.size))
  have HWF := Lib.hid hwf
  clear hal hlen hbf hdf hst hds hwf hbe
  go_wp2_with fail
  refine HST.out.mono ?_
  rintro e w' ⟨rfl, hw'⟩
  rw [hw']
  clear hw' w'
  go_wp2_with fail
  refine HWT.out.mono ?_
  rintro e w' ⟨rfl, hw'⟩
  rw [hw']
  clear hw' w'
  go_wp2_with fail
  go_ret
  exact ⟨rfl, HBF.out⟩
end Go.Proofs.YtkfmdkbiglkjpaaGreat
