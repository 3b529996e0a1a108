/- WalTwice: the walk. -/
import Derived.Test.YtkfmdkbiglkjpaaGreatL28Awk3
namespace Go.Proofs.YtkfmdkbiglkjpaaGreat
open Go Go.RowKit Go.Lib
attribute [local go_sem ↓] exec_alloc_data exec_store_data exec_load_data exec_neq_data
set_option maxRecDepth 100000
/-- a disk of its own, and a dev new on it -/
theorem dv_new {w w' : World} {F : Nat → Prop} {D : Nat} {s : DS} (hd : DiskAt w F D s.L s.W) (hF : ∀ k, F k → k < w.heap.size) (hx : DevAt w' w.heap.size D s.L.length 1099511627776 0) (hb : Below w.heap.size w w') : Dv w' F w.heap.size D s.anew :=
  ⟨hx, hd.below hb, fun h => by have := hF _ h; omega, fun k h => Nat.lt_of_lt_of_le (hF k h) hb.size⟩
theorem sm_recover {N c : Nat} {s : DS} (hs : s.sm N c) : s.recover.2.sm N (c + 34) := by
  unfold DS.recover
  split
  · exact hs.mono (by omega)
  · exact (sm_home (l := s.read) hs).mono (by have := (read_ok s).1; omega)
set_option maxHeartbeats 6400000 in
theorem law_twice (lad : Option Addr) (lcap : Nat) (l : List PutV) (n : Int) (kad : Option Addr) (kcap : Nat) (ks : List Bool) (w : World) (hp : QReads w lad lcap l) (hks : BReads w (.slice kad ks.length kcap) ks) (hkb : ∀ b off a, kad = some ⟨b, off, a⟩ → b < w.heap.size) :
    Calls Tryz.prog 4 #[.slice lad l.length lcap, .agg #[.int .i64 n, .slice kad ks.length kcap]] w fun e w' => e = .returned (.bool true) ∧ Below w.heap.size w w' := by
  have HP := Lib.hid hp
  have HK := Lib.hid (And.intro hks hkb)
  obtain ⟨nk, hnk⟩ : ∃ nk, nk = ks.length := ⟨_, rfl⟩
  obtain ⟨m, hm⟩ : ∃ m, m = l.length := ⟨_, rfl⟩
  have HN := Lib.hid (And.intro hnk hm)
  rw [← hnk, ← hm]
  clear hp hks hkb hnk hm
  obtain ⟨w0, hw0⟩ : ∃ w0, w0 = w.alloc (.cells #[.int .i64 n, .slice kad nk kcap] 25) := ⟨_, rfl⟩
  have hb0 : Below w.heap.size w w0 := by rw [hw0]; exact (Below.refl _ _).alloc (Nat.le_refl _) _
  have hg0 : w0.heap[w.heap.size]? = some (.cells #[.int .i64 n, .slice kad nk kcap] 25 (0, 0)) := by rw [hw0]; exact heap_alloc_last _ _
  have hs0 : w0.heap.size = w.heap.size + 1 := by rw [hw0]; simp
  have H0 := Lib.hid (And.intro hb0 (And.intro hg0 hs0))
  have HW0 := Lib.hid hw0
  clear hb0 hg0 hs0 hw0
  go_enter Tryz.func4, Tryz.ntmps4
  go_wp2_with fail
  rw [← HW0.out]
  refine (disk_new 24 (by decide) (by decide) w0).mono ?_
  rintro e wa ⟨D, rfl, hda, hba⟩
  have HA := Lib.hid (And.intro hda hba)
  clear hda hba
  go_wp2_with fail
  refine (dev_of _ D _ _ wa HA.out.1).mono ?_
  rintro e wb ⟨rfl, hxb, hbb⟩
  obtain ⟨X, hX⟩ : ∃ X, X = wa.heap.size := ⟨_, rfl⟩
  have cb : wb.cell? ⟨w.heap.size, 0, none⟩ = some (.int .i64 n) := by
    have h1 : w.heap.size < wa.heap.size := by have := HA.out.2.size; have := H0.out.2.2; omega
    rw [World.cell?_of_block (a := ⟨w.heap.size, 0, none⟩) (hbb.block _ h1), World.cell?_of_block (a := ⟨w.heap.size, 0, none⟩) (HA.out.2.block w.heap.size (by have := H0.out.2.2; omega)), cell_of_row _ _ 0 _ _ _ H0.out.2.1]; rfl
  have HFU := Lib.hid (dev_fuse wa.heap.size D _ _ 0 n wb hxb)
  have HB := Lib.hid (And.intro hxb (And.intro hbb hX))
  clear hxb hbb hX
  go_wp2_with fail
  refine HFU.out.mono ?_
  rintro e wc ⟨rfl, hxc, hkc, hsc⟩
  have hF1 : ∀ k, newIn w0 wa k → k < wa.heap.size := fun k h => h.2
  have hdvb : Dv wb (newIn w0 wa) wa.heap.size D ⟨List.replicate 24 zeroD, [], 1099511627776, 0⟩ := dv_new (s := ⟨List.replicate 24 zeroD, [], 0, 0⟩) HA.out.1 hF1 HB.out.1 HB.out.2.1
  have hdvc : Dv wc (newIn w0 wa) wa.heap.size D ⟨List.replicate 24 zeroD, [], fused 1099511627776 n, 0⟩ := ⟨hxc, hdvb.dsk.keeps hkc fun k hf e => hdvb.nx (e ▸ hf), hdvb.nx, fun k hf => Nat.lt_of_lt_of_le (hdvb.bd k hf) hkc.size⟩
  have HSF : Hid (DS.sm ⟨List.replicate 24 zeroD, [], fused 1099511627776 n, 0⟩ 24 0) := Lib.hid ⟨by simp, Nat.le_refl _, fused_le _ _ (Nat.le_refl _), Nat.le_refl _⟩
  have HDC := Lib.hid hdvc
  have hlw : w.heap.size ≤ w0.heap.size := by have := H0.out.2.2; omega
  -- what was below the start stands
  have hbw0 : Below w0.heap.size w0 wc := HA.out.2.trans ((HB.out.2.1.mono HA.out.2.size).trans (hkc.below (fun k e => by have := HA.out.2.size; omega) (by have := HA.out.2.size; have := HB.out.2.1.size; omega)))
  have HB0 := Lib.hid hbw0
  have hbw : Below w.heap.size w wc := H0.out.1.trans (hbw0.mono hlw)
  have HBW := Lib.hid hbw
  have hpc := HP.out.below hbw
  have hfew := law_few lad lcap m 16 (by rw [HN.out.2]; exact HP.out.len) (by omega) wc
  have hlt : (l.take 16).length = min m 16 := by rw [List.length_take, HN.out.2, Nat.min_comm]
  have hpt : QReads wc lad lcap (l.take 16) := ⟨by rw [hlt]; have := hpc.len; rw [← HN.out.2] at this; omega, hpc.max, fun p hp => hpc.d64 p (List.mem_of_mem_take hp), fun i p hi => by
    rw [List.getElem?_take] at hi
    split at hi
    · exact hpc.at' i p hi
    · cases hi⟩
  have hputs := law_puts lad lcap (l.take 16) (by rw [hlt]; omega) wc hpt
  rw [hlt] at hputs
  have HFEW := Lib.hid hfew
  have HPUTS := Lib.hid hputs
  have HLT := Lib.hid hlt
  clear hF1 hdvb hdvc hbw hbw0 hpc hfew hlt hpt hputs hxc hkc cb hsc
  generalize hmm : min m 16 = mm at *
  have HMM := Lib.hid hmm
  clear hmm
  go_wp2_with fail
  refine HFEW.out.mono ?_
  rintro e w' ⟨rfl, hw'⟩
  rw [hw']
  clear hw' w'
  go_wp2_with fail
  refine HPUTS.out.mono ?_
  rintro e wd ⟨adl, capl, rfl, hpd, hfd, hbd⟩
  have hcm := wal_commit (newIn w0 wa) wa.heap.size D 24 0 adl capl (l.take 16) _ wd HSF.out (by omega) (by omega) (by omega) (by rw [HLT.out, ← HMM.out]; omega) (HDC.out.below hbd) hpd (fun g e => by
    obtain ⟨q1, q2⟩ := hfd g e
    have q3 := HDC.out.dev.lt
    exact ⟨q2, fun h => by have := h.2; omega, by omega⟩)
  rw [HLT.out] at hcm
  obtain ⟨s1, hs1⟩ : ∃ s1, s1 = DS.commit ⟨List.replicate 24 zeroD, [], fused 1099511627776 n, 0⟩ (l.take 16) := ⟨_, rfl⟩
  rw [← hs1] at hcm
  have HS1 := Lib.hid hs1
  have HBD := Lib.hid hbd
  have hsm1 := sm_commit (l := l.take 16) HSF.out
  rw [← hs1] at hsm1
  have HSM1 := Lib.hid hsm1
  have HCM := Lib.hid hcm
  clear hcm hs1 hsm1 hbd hpd hfd
  go_wp2_with fail
  refine HCM.out.mono ?_
  rintro e we ⟨rfl, F2, hF2, hd2, hk2⟩
  have hwdz : w0.heap.size ≤ wd.heap.size := Nat.le_trans HB0.out.size HBD.out.size
  have hbe : Below w0.heap.size w0 we := (HB0.out.trans (HBD.out.mono HB0.out.size)).trans (hk2.below (fun k h => by
    rcases h with h | h
    · exact h.1
    · have := HA.out.2.size; omega) hwdz)
  have HBE := Lib.hid hbe
  have hF2b : ∀ k, F2 k → w0.heap.size ≤ k := fun k h => by
    rcases hF2 k h with h | h
    · exact h.1
    · have := h.1; omega
  have ce : we.cell? ⟨w.heap.size, 1, none⟩ = some (.slice kad nk kcap) := by
    rw [World.cell?_of_block (a := ⟨w.heap.size, 1, none⟩) (hbe.block w.heap.size (by have := H0.out.2.2; omega)), cell_of_row _ _ 1 _ _ _ H0.out.2.1]; rfl
  have hcr := disk_crash F2 D s1.2.L s1.2.W ks (.slice kad ks.length kcap) (by rw [HSM1.out.len]; omega) (by rw [HSM1.out.len]; omega) (by have := HSM1.out.wai; omega) we hd2.dsk (HK.out.1.on fun a2 c2 b2 o2 e2 => by
    simp only [Value.slice.injEq] at e2
    obtain ⟨e3, -, -⟩ := e2
    have hb2 := HK.out.2 b2 o2 a2 e3
    exact (hbe.block b2 (by omega)).trans (H0.out.1.block b2 hb2)) (fun a2 c2 b2 o2 e2 _ => by
    simp only [Value.slice.injEq] at e2
    obtain ⟨e3, -, -⟩ := e2
    have hb2 := HK.out.2 b2 o2 a2 e3
    exact ⟨by have := hbe.size; omega, fun h => by have := hF2b b2 h; omega⟩)
  rw [← HN.out.1] at hcr
  have HCR := Lib.hid hcr
  have HF2 := Lib.hid (And.intro hF2b hd2.bd)
  clear hcr hF2 hd2 hk2 hbe hF2b
  go_wp2_with fail
  refine HCR.out.mono ?_
  rintro e wf ⟨⟨nn, rfl⟩, hdf, hkf⟩
  have hpl := twice_plain HSF.out (by omega) (by omega) (l := l.take 16) (by rw [HLT.out, ← HMM.out]; omega) ⟨by simp, fun x hx => by cases hx⟩ ks
  rw [← HS1.out] at hpl
  have HPL := Lib.hid hpl
  have hF3 : ∀ k, orNew F2 we wf k → k < wf.heap.size := fun k h => by
    rcases h with h | h
    · have := HF2.out.2 k h; have := hkf.size; omega
    · exact h.2
  have hF3b : ∀ k, orNew F2 we wf k → w0.heap.size ≤ k := fun k h => by
    rcases h with h | h
    · exact HF2.out.1 k h
    · have := h.1; have := HBE.out.size; omega
  have hbf : Below w0.heap.size w0 wf := HBE.out.trans (hkf.below (fun k h => HF2.out.1 k h) HBE.out.size)
  have hL : (crashL s1.2.L s1.2.W ks).length = 24 := by unfold crashL; rw [crashN_len, HSM1.out.len]
  have HF3 := Lib.hid (And.intro hF3 (And.intro hF3b (And.intro hbf (And.intro hdf hL))))
  clear hpl hF3 hF3b hbf hdf hkf hL
  go_wp2_with fail
  refine (dev_of _ D _ _ wf HF3.out.2.2.2.1).mono ?_
  rintro e wg ⟨rfl, hxg, hbg⟩
  have hdg : Dv wg (orNew F2 we wf) wf.heap.size D (s1.2.crash ks) := dv_new (s := s1.2.crash ks) HF3.out.2.2.2.1 HF3.out.1 hxg hbg
  have hsm2 : (s1.2.crash ks).sm 24 0 := ⟨HF3.out.2.2.2.2, Nat.le_refl _, Nat.le_refl _, Nat.le_refl _⟩
  have hre := wal_recover _ wf.heap.size D 24 0 _ wg hsm2 (by omega) (by omega) (by omega) (by show 0 < 1099511627776; omega) HPL.out.1 hdg
  rw [HPL.out.2.1] at hre
  have HRE := Lib.hid hre
  have HG := Lib.hid hbg
  clear hxg hbg hdg hre
  go_wp2_with fail
  refine HRE.out.mono ?_
  rintro e wh ⟨rfl, F4, hF4, hd4, hk4⟩
  obtain ⟨s3, hs3⟩ : ∃ s3, s3 = (s1.2.crash ks).recover.2 := ⟨_, rfl⟩
  have hsm3 := sm_recover (s := s1.2.crash ks) (N := 24) (c := 0) ⟨HF3.out.2.2.2.2, Nat.le_refl _, Nat.le_refl _, Nat.le_refl _⟩
  rw [← hs3] at hsm3 hd4 HPL
  have hbh : Below w0.heap.size w0 wh := (HF3.out.2.2.1.trans (HG.out.mono HF3.out.2.2.1.size)).trans (hk4.below (fun k h => by
    rcases h with h | h
    · exact HF3.out.2.1 k h
    · have := HF3.out.2.2.1.size; omega) (Nat.le_trans HF3.out.2.2.1.size HG.out.size))
  have hF4b : ∀ k, F4 k → w0.heap.size ≤ k := fun k h => by
    rcases hF4 k h with h | h
    · exact HF3.out.2.1 k h
    · have := h.1; have := HG.out.size; have := HF3.out.2.2.1.size; omega
  have HH4 := Lib.hid (And.intro hbh (And.intro hd4 hF4b))
  have HSM3 := Lib.hid hsm3
  clear hF4 hd4 hk4 hbh hF4b hs3 hsm3
  go_wp2_with fail
  refine (disk_twin F4 D s3.L s3.W (by rw [HSM3.out.len]; omega) (by have := HSM3.out.wai; omega) wh HH4.out.2.1.dsk).mono ?_
  rintro e wi ⟨D2, rfl, hdt, hbi⟩
  have HT := Lib.hid (And.intro hdt hbi)
  clear hdt hbi
  go_wp2_with fail
  refine (dev_of _ D _ _ wi (HH4.out.2.1.dsk.below HT.out.2)).mono ?_
  rintro e wj ⟨rfl, hxj, hbj⟩
  have hdj : Dv wj F4 wi.heap.size D s3.anew := dv_new (s := s3) (HH4.out.2.1.dsk.below HT.out.2) (fun k h => Nat.lt_of_lt_of_le (HH4.out.2.1.bd k h) HT.out.2.size) hxj hbj
  have hre := wal_recover F4 wi.heap.size D 24 34 s3.anew wj ⟨HSM3.out.len, HSM3.out.wai, Nat.le_refl _, Nat.zero_le _⟩ (by omega) (by omega) (by omega) (by show 0 < 1099511627776; omega) HPL.out.2.2.1 hdj
  rw [HPL.out.2.2.2.1] at hre
  have HRE2 := Lib.hid hre
  have HJ := Lib.hid hbj
  clear hxj hbj hdj hre
  go_wp2_with fail
  refine HRE2.out.mono ?_
  rintro e wk ⟨rfl, F5, hF5, hd5, hk5⟩
  obtain ⟨ee, hee⟩ : ∃ ee, ee = s1.1 := ⟨_, rfl⟩
  obtain ⟨nn2, hnn2⟩ : ∃ nn2, nn2 = (s1.2.crash ks).recover.1.1 := ⟨_, rfl⟩
  have himp := HPL.out.2.2.2.2
  rw [← hee, ← hnn2] at himp
  rw [← hee, ← hnn2]
  have hdD : DiskAt wk F5 D s3.L s3.W := hd5.dsk
  have hdT : DiskAt wk (newIn wh wi) D2 s3.L s3.W := (HT.out.1.below HJ.out).keeps hk5 fun k h h2 => by
    rcases h2 with h2 | h2
    · have := HH4.out.2.1.bd k h2; have := h.1; omega
    · have := h.2; omega
  have hbk : Below w0.heap.size w0 wk := (((HH4.out.1.trans (HT.out.2.mono HH4.out.1.size))).trans (HJ.out.mono (Nat.le_trans HH4.out.1.size HT.out.2.size))).trans (hk5.below (fun k h => by
    rcases h with h | h
    · exact HH4.out.2.2 k h
    · have := HH4.out.1.size; have := HT.out.2.size; omega) (Nat.le_trans HH4.out.1.size (Nat.le_trans HT.out.2.size HJ.out.size)))
  have HK5 := Lib.hid (And.intro hdD (And.intro hdT (H0.out.1.trans (hbk.mono (by have := H0.out.2.2; omega)))))
  have hc : ((ee == 0) = true ∧ nn2 = 0) ∨ (ee == 0) = false := by
    by_cases h : ee = 0
    · exact .inl ⟨beq_iff_eq.2 h, himp h⟩
    · exact .inr (beq_eq_false_iff_ne.2 h)
  clear hdD hdT hbk hF5 hd5 hk5 himp hee hnn2
  rcases hc with ⟨hc, rfl⟩ | hc
  all_goals
    go_wp2_with fail
    go_loopg [13] 24 (fun k v wr => ∃ (i : Nat), k + i = 24 ∧ v = .int .i64 (i : Int) ∧ Below wk.heap.size wk wr)
    case atStart => exact ⟨0, rfl, rfl, Below.refl _ _⟩
    case round =>
      obtain ⟨i, hk, rfl, hbr⟩ := hrel
      have hk := Lib.hid hk
      have HBR := Lib.hid hbr
      clear hbr
      have hN3 := HSM3.out.len
      have hW3 := HSM3.out.wai
      by_cases hi : i < 24
      · have hi1 : (i : Int) < 24 := by omega
        have wr1 : IntKind.i64.wrap ((i : Int) + 1) = (i : Int) + 1 := by rw [IntKind.wrap_i64] <;> omega
        have hr1 := disk_read (newIn wh wi) D2 s3.L s3.W i (by omega) (by omega) (by omega) wr (HK5.out.2.1.below HBR.out)
        have HR2 : Hid (∀ w', Below wr.heap.size wr w' → Calls Tryz.prog 18 #[.pointer (some ⟨D, 0, none⟩), .int .i64 (i : Int)] w' fun e w'' => e = .returned (.tuple #[.agg (dC (readD s3.L s3.W i)).toArray, .bool true]) ∧ Below w'.heap.size w' w'') := Lib.hid fun w' hb => disk_read F5 D s3.L s3.W i (by omega) (by omega) (by omega) w' (HK5.out.1.below (HBR.out.trans (hb.mono HBR.out.size)))
        have h64 : (readD s3.L s3.W i).length = 64 := readD_len HK5.out.1.lz (fun x hx => (HK5.out.1.wz x hx).1) (by omega)
        have hde := datEq_dC (readD s3.L s3.W i) (readD s3.L s3.W i)
        rw [decide_eq_true rfl] at hde
        generalize readD s3.L s3.W i = dd at *
        have hlen : (dC dd).length = 64 := by rw [dC_len, h64]
        have hag := agg_ok hlen (dC_one dd)
        have hal := all_oneCell_toArray (dC_one dd)
        have hisd := isDat_dC h64
        have HR1 := Lib.hid hr1
        clear hr1
        go_wp2_with fail
        refine HR1.out.mono ?_
        rintro e wl ⟨rfl, hbl⟩
        have hth1 := there_row (n := 64) (heap_alloc_last wl (.cells z64 49)) rfl
        have hpt1 := putAt_new 49 data_size wl 49 z64 (dC dd).toArray rfl (by simpa using hlen) hal
        obtain ⟨wm, hwm⟩ : ∃ wm, wm = wl.alloc (.cells (dC dd).toArray 49) := ⟨_, rfl⟩
        rw [← hwm] at hpt1
        have hbm : Below wr.heap.size wr wm := by rw [hwm]; exact hbl.alloc hbl.size _
        have hgm : wm.heap[wl.heap.size]? = some (.cells (dC dd).toArray 49 (0, 0)) := by rw [hwm]; exact heap_alloc_last _ _
        have hsm : wm.heap.size = wl.heap.size + 1 := by rw [hwm]; simp
        have HM1 := Lib.hid (And.intro hbm (And.intro hgm hsm))
        have HWM := Lib.hid hwm
        clear hbm hgm hsm hwm hbl
        go_wp2_with fail
        refine (HR2.out wm HM1.out.1).mono ?_
        rintro e wn ⟨rfl, hbn⟩
        have hth2 := there_row (n := 64) (heap_alloc_last wn (.cells z64 49)) rfl
        have hpt2 := putAt_new 49 data_size wn 49 z64 (dC dd).toArray rfl (by simpa using hlen) hal
        obtain ⟨wo, hwo⟩ : ∃ wo, wo = wn.alloc (.cells (dC dd).toArray 49) := ⟨_, rfl⟩
        rw [← hwo] at hpt2
        have hbo : Below wm.heap.size wm wo := by rw [hwo]; exact hbn.alloc hbn.size _
        have hg2 : wo.heap[wn.heap.size]? = some (.cells (dC dd).toArray 49 (0, 0)) := by rw [hwo]; exact heap_alloc_last _ _
        have hg1 : wo.heap[wl.heap.size]? = some (.cells (dC dd).toArray 49 (0, 0)) := (hbo.block _ (by rw [HM1.out.2.2]; omega)).trans HM1.out.2.1
        have hr1 : wo.rangeAt wl.heap.size 0 (dC dd) := fun j v hv => by rw [Nat.zero_add, cell_of_row wo _ j _ _ _ hg1, List.getElem?_toArray]; exact hv
        have hr2 : wo.rangeAt wn.heap.size 0 (dC dd) := fun j v hv => by rw [Nat.zero_add, cell_of_row wo _ j _ _ _ hg2, List.getElem?_toArray]; exact hv
        obtain ⟨hdo1, hdk1⟩ := dat_range hr1 hlen
        obtain ⟨hdo2, hdk2⟩ := dat_range hr2 hlen
        have HBO := Lib.hid (HBR.out.trans ((HM1.out.1.trans (hbo.mono HM1.out.1.size)).mono HBR.out.size))
        have HWO := Lib.hid hwo
        clear hr1 hr2 hg1 hg2 hbo hwo hbn
        go_wp2_with fail
        go_roundg (gk - 1)
        case measure => have := hk.out; omega
        case rel => exact ⟨i + 1, by have := hk.out; omega, by simp, HBO.out⟩
      · have hi1 : ¬ (i : Int) < 24 := by omega
        go_wp2_with fail
        refine (law_awake wr).mono ?_
        rintro e wz ⟨rfl, hbz⟩
        have HBZ := Lib.hid ((HK5.out.2.2.trans (HBR.out.mono HK5.out.2.2.size)).trans (hbz.mono (Nat.le_trans HK5.out.2.2.size HBR.out.size)))
        clear hbz
        go_wp2_with fail
        go_ret
        exact ⟨rfl, HBZ.out⟩
end Go.Proofs.YtkfmdkbiglkjpaaGreat
