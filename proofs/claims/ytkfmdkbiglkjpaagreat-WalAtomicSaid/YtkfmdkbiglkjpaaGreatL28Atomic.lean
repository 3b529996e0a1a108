/- WalAtomic: the walk. -/
import Derived.Test.YtkfmdkbiglkjpaaGreatL28Atom3
import Derived.Test.YtkfmdkbiglkjpaaGreatL28OpenA
namespace Go.Proofs.YtkfmdkbiglkjpaaGreat
open Go Go.RowKit Go.Lib
set_option maxRecDepth 100000

set_option maxHeartbeats 12800000 in
theorem law_atomic (fad : Option Addr) (fcap : Nat) (fl : List PutV) (lad : Option Addr) (lcap : Nat) (l : List PutV) (n : Int) (kad : Option Addr) (kcap : Nat) (ks : List Bool) (mad : Option Addr) (mcap : Nat) (ms : List CrV) (w : World)
    (hf : QReads w fad fcap fl) (hp : QReads w lad lcap l) (hks : BReads w (.slice kad ks.length kcap) ks) (hms : MReads w mad mcap ms) :
    Calls Tryz.prog 3 #[.slice fad fl.length fcap, .slice lad l.length lcap, .agg #[.int .i64 n, .slice kad ks.length kcap], .slice mad ms.length mcap] w fun e w' => e = .returned (.bool true) ∧ Below w.heap.size w w' := by
  have HFL := Lib.hid hf
  have HP := Lib.hid hp
  have HK := Lib.hid hks
  have HM := Lib.hid hms
  -- the arguments, cut to 16
  obtain ⟨fm, hfm⟩ : ∃ fm, fm = fl.take 16 := ⟨_, rfl⟩
  obtain ⟨lm, hlm⟩ : ∃ lm, lm = l.take 16 := ⟨_, rfl⟩
  have hF : QReads w fad fcap fm := by rw [hfm]; exact hf.take 16
  have hLm : QReads w lad lcap lm := by rw [hlm]; exact hp.take 16
  have hf16 : fm.length ≤ 16 := by rw [hfm, List.length_take]; omega
  have hl16 : lm.length ≤ 16 := by rw [hlm, List.length_take]; omega
  have hfew1 := fun w' => law_few fad fcap fl.length 16 hf.len (by omega) w'
  have hfew2 := fun w' => law_few lad lcap l.length 16 hp.len (by omega) w'
  rw [show min fl.length 16 = fm.length by rw [hfm, List.length_take, Nat.min_comm]] at hfew1
  rw [show min l.length 16 = lm.length by rw [hlm, List.length_take, Nat.min_comm]] at hfew2
  obtain ⟨nf, hnf⟩ : ∃ nf, nf = fl.length := ⟨_, rfl⟩
  obtain ⟨nl, hnl⟩ : ∃ nl, nl = l.length := ⟨_, rfl⟩
  obtain ⟨nk, hnk⟩ : ∃ nk, nk = ks.length := ⟨_, rfl⟩
  obtain ⟨nm, hnm⟩ : ∃ nm, nm = ms.length := ⟨_, rfl⟩
  obtain ⟨mf, hmf⟩ : ∃ mf, mf = fm.length := ⟨_, rfl⟩
  obtain ⟨ml, hml⟩ : ∃ ml, ml = lm.length := ⟨_, rfl⟩
  rw [← hnf, ← hmf] at hfew1
  rw [← hnl, ← hml] at hfew2
  rw [← hnf, ← hnl, ← hnk, ← hnm]
  have HF := Lib.hid hF
  have HL := Lib.hid hLm
  have H16 := Lib.hid (And.intro hf16 hl16)
  have HFEW1 := Lib.hid hfew1
  have HFEW2 := Lib.hid hfew2
  have HN := Lib.hid (And.intro hnk (And.intro hnm (And.intro hmf hml)))
  clear hf hp hks hms hfm hlm hF hLm hf16 hl16 hfew1 hfew2 hnf hnl hnk hnm hmf hml
  obtain ⟨w0, hw0⟩ : ∃ w0, w0 = w.alloc (.cells #[.int .i64 n, .slice kad nk kcap] 25) := ⟨_, rfl⟩
  have hb0 : Below w.heap.size w w0 := by rw [hw0]; exact (Below.refl _ _).alloc (Nat.le_refl _) _
  have hg0 : w0.heap[w.heap.size]? = some (.cells #[.int .i64 n, .slice kad nk kcap] 25 (0, 0)) := by rw [hw0]; exact heap_alloc_last _ _
  have hs0 : w0.heap.size = w.heap.size + 1 := by rw [hw0]; simp
  have H0 := Lib.hid (And.intro hb0 (And.intro hg0 hs0))
  -- whatever stands below w0's end stands: the arguments can be read, and the box
  have HBW : Hid (∀ w', Below w0.heap.size w0 w' → Below w.heap.size w w' ∧ w'.cell? ⟨w.heap.size, 0, none⟩ = some (.int .i64 n) ∧ w'.cell? ⟨w.heap.size, 1, none⟩ = some (.slice kad nk kcap)) := Lib.hid fun w' hb => by
    have hg : w'.heap[w.heap.size]? = some (.cells #[.int .i64 n, .slice kad nk kcap] 25 (0, 0)) := (hb.block _ (by omega)).trans hg0
    exact ⟨hb0.trans (hb.mono hb0.size), by rw [cell_of_row _ _ 0 _ _ _ hg]; rfl, by rw [cell_of_row _ _ 1 _ _ _ hg]; rfl⟩
  have HW0 := Lib.hid hw0
  clear hb0 hg0 hs0 hw0
  go_enter Tryz.func3, Tryz.ntmps3
  go_wp2_with fail
  rw [← HW0.out]
  refine (disk_new 24 (by decide) (by decide) w0).mono ?_
  rintro e wa ⟨D, rfl, hda, hba⟩
  have HA := Lib.hid (And.intro hda hba)
  clear hda hba
  go_wp2_with fail
  refine (HFEW1.out wa).mono ?_
  rintro e w' ⟨rfl, hw'⟩
  rw [hw']
  clear hw' w'
  go_wp2_with fail
  refine (HFEW2.out wa).mono ?_
  rintro e w' ⟨rfl, hw'⟩
  rw [hw']
  clear hw' w'
  go_wp2_with fail
  refine (dev_of _ D _ _ wa HA.out.1).mono ?_
  rintro e wb ⟨rfl, hxb, hbb⟩
  have hF1 : ∀ k, newIn w0 wa k → k < wa.heap.size := fun k h => h.2
  have hdvb : Dv wb (newIn w0 wa) wa.heap.size D ⟨List.replicate 24 zeroD, [], 1099511627776, 0⟩ := dv_new (s := ⟨List.replicate 24 zeroD, [], 0, 0⟩) HA.out.1 hF1 hxb hbb
  have hBb : Below w0.heap.size w0 wb := HA.out.2.trans (hbb.mono HA.out.2.size)
  have hputs := law_puts fad fcap fm (by have := H16.out.1; omega) wb (HF.out.below (HBW.out wb hBb).1)
  rw [← HN.out.2.2.1] at hputs
  have HB := Lib.hid (And.intro hdvb hBb)
  have HPUTS := Lib.hid hputs
  clear hF1 hdvb hBb hxb hbb hputs
  go_wp2_with fail
  refine HPUTS.out.mono ?_
  rintro e wc ⟨adf, capf, rfl, hpc, hfc, hbc⟩
  have hsf : DS.sm ⟨List.replicate 24 zeroD, [], 1099511627776, 0⟩ 24 0 := ⟨by simp, Nat.le_refl _, Nat.le_refl _, Nat.le_refl _⟩
  obtain ⟨sf, hsfe⟩ : ∃ sf : DS, sf = ⟨List.replicate 24 zeroD, [], 1099511627776, 0⟩ := ⟨_, rfl⟩
  have hdvc := HB.out.1.below hbc
  rw [← hsfe] at hsf hdvc
  have hcm := wal_commit (newIn w0 wa) wa.heap.size D 24 0 adf capf fm sf wc hsf (by omega) (by omega) (by omega) (by have := H16.out.1; omega) hdvc hpc (fun g e => by
    obtain ⟨q1, q2⟩ := hfc g e
    have q3 := HB.out.1.dev.lt
    exact ⟨q2, fun h => by have := h.2; have := HB.out.1.bd g h; omega, by omega⟩)
  rw [← HN.out.2.2.1] at hcm
  have hsm1 := sm_commit (l := fm) hsf
  have hfp := first_plain (l := fm) (s := sf) H16.out.1 (by rw [hsfe]; simp) (by rw [hsfe]) (by rw [hsfe]; rfl) (by rw [hsfe]; decide)
  obtain ⟨r1, hr1⟩ : ∃ r1, r1 = sf.commit fm := ⟨_, rfl⟩
  rw [← hr1] at hcm hsm1 hfp
  obtain ⟨c1, s1⟩ := r1
  simp only at hcm hsm1 hfp
  have HFP := Lib.hid (And.intro hfp.1 (And.intro hfp.2 hsm1.len))
  have HBC := Lib.hid (HB.out.2.trans (hbc.mono HB.out.2.size))
  have HCM := Lib.hid hcm
  clear hcm hr1 hsm1 hfp hsf hsfe hdvc hpc hfc hbc
  go_wp2_with fail
  refine HCM.out.mono ?_
  rintro e wd ⟨rfl, F1, hF1, hd1, hk1⟩
  have hd1' : DiskAt wd F1 D s1.L [] := by have := hd1.dsk; rwa [HFP.out.1] at this
  have hBd : Below w0.heap.size w0 wd := HBC.out.trans (hk1.below (fun k h => by
    rcases h with h | h
    · exact h.1
    · have := HA.out.2.size; omega) HBC.out.size)
  have hF1b : ∀ k, F1 k → w0.heap.size ≤ k ∧ k < wd.heap.size := fun k h => ⟨by
    rcases hF1 k h with h | h
    · exact h.1
    · have := h.1; have := HBC.out.size; omega, hd1.bd k h⟩
  have htw := disk_twin F1 D s1.L [] (by rw [HFP.out.2.2]; omega) (by simp) wd hd1'
  obtain ⟨L1, hL1⟩ : ∃ L1, L1 = s1.L := ⟨_, rfl⟩
  rw [← hL1] at hd1' htw
  have hfp := HFP.out
  rw [← hL1] at hfp
  have HL1 := Lib.hid (And.intro hfp.2.1 hfp.2.2)
  have HD := Lib.hid (And.intro hd1' (And.intro hBd hF1b))
  have HTW := Lib.hid htw
  clear hd1' hBd hF1b htw hd1 hk1 hF1 hL1 hfp
  have hc1 : (c1 == 0) = true ∨ (c1 == 0) = false := by cases c1 == 0 <;> simp
  rcases hc1 with hc1 | hc1
  all_goals
    go_wp2_with fail
    refine HTW.out.mono ?_
    rintro e we ⟨D', rfl, ht, hbe⟩
    have hat := AtS.twin HD.out.1 HD.out.2.2 ht hbe
    have HBE := Lib.hid (HD.out.2.1.trans (hbe.mono HD.out.2.1.size))
    have HAT := Lib.hid hat
    clear hat ht hbe
    go_wp2_with fail
    refine (dev_of _ D _ _ we HAT.out.d).mono ?_
    rintro e wf ⟨rfl, hx, hbf⟩
    have HATF := Lib.hid (HAT.out.below hbf)
    have HBF := Lib.hid (HBE.out.trans (hbf.mono HBE.out.size))
    have HX : Hid (w0.heap.size ≤ we.heap.size ∧ ¬ F1 we.heap.size ∧ ¬ newIn wd we we.heap.size) := Lib.hid ⟨HBE.out.size, fun h => by have := (HAT.out.fb _ h).2; omega, fun h => by have := h.2; omega⟩
    have HFU := Lib.hid (dev_fuse we.heap.size D _ _ 0 n wf hx)
    have c0 : wf.cell? ⟨w.heap.size, 0, none⟩ = some (.int .i64 n) := (HBW.out wf HBF.out).2.1
    have HXL : Hid (we.heap.size < wf.heap.size) := Lib.hid hx.lt
    clear hx hbf
    go_wp2_with fail
    refine HFU.out.mono ?_
    rintro e wg ⟨rfl, hxg, hkg, hsg⟩
    obtain ⟨hbg, hatg⟩ := HATF.out.fuse HX.out hkg
    have hBg := HBF.out.trans hbg
    have hputs := law_puts lad lcap lm (by have := H16.out.2; omega) wg (HL.out.below (HBW.out wg hBg).1)
    rw [← HN.out.2.2.2] at hputs
    have HPUTS2 := Lib.hid hputs
    have HG := Lib.hid (And.intro hxg (And.intro hatg hBg))
    have HSG := Lib.hid hsg
    clear hxg hkg hsg hbg hatg hBg hputs c0
    go_wp2_with fail
    refine HPUTS2.out.mono ?_
    rintro e wh ⟨adl, capl, rfl, hpl, hfl, hbh⟩
    have hs2 : DS.sm ⟨L1, [], fused 1099511627776 n, 0⟩ 24 0 := ⟨HL1.out.2, Nat.le_refl _, fused_le _ _ (Nat.le_refl _), Nat.le_refl _⟩
    have hdvh : Dv wh F1 we.heap.size D ⟨L1, [], fused 1099511627776 n, 0⟩ := Dv.below ⟨HG.out.1, HG.out.2.1.d, HX.out.2.1, fun k h => (HG.out.2.1.fb k h).2⟩ hbh
    have hath := HG.out.2.1.below hbh
    have hcm := wal_commit F1 we.heap.size D 24 0 adl capl lm _ wh hs2 (by omega) (by omega) (by omega) (by have := H16.out.2; omega) hdvh hpl (fun g e => by
      obtain ⟨q1, q2⟩ := hfl g e
      exact ⟨q2, fun h => by have := (HG.out.2.1.fb g h).2; omega, by have := HXL.out; have := HSG.out; omega⟩)
    rw [← HN.out.2.2.2] at hcm
    have hsm := sm_commit (l := lm) hs2
    have hsp := second_plain (l := lm) (s := ⟨L1, [], fused 1099511627776 n, 0⟩) H16.out.2 HL1.out.2 rfl HL1.out.1 ks
    obtain ⟨r2, hr2⟩ : ∃ r2, r2 = DS.commit ⟨L1, [], fused 1099511627776 n, 0⟩ lm := ⟨_, rfl⟩
    rw [← hr2] at hcm hsm hsp
    obtain ⟨c2, s3⟩ := r2
    simp only at hcm hsm hsp
    have HSP := Lib.hid (And.intro hsp hsm)
    have HCM2 := Lib.hid hcm
    have HH := Lib.hid (And.intro hath (HG.out.2.2.trans (hbh.mono HG.out.2.2.size)))
    clear hcm hr2 hsm hsp hs2 hdvh hath hpl hfl hbh
    go_wp2_with fail
    refine HCM2.out.mono ?_
    rintro e wi ⟨rfl, hv⟩
    obtain ⟨hbi, F2, hati⟩ := HH.out.1.dvs ⟨HX.out.1, HX.out.2.2⟩ hv
    have HI := Lib.hid (And.intro hati (HH.out.2.trans hbi))
    clear hv hbi hati
    by_cases hz : c2 ≠ 0 ∧ c2 ≠ 20
    · have e3 := HSP.out.1.1 hz.1 hz.2
      have hd := HI.out.1.d
      have ht := HI.out.1.t
      simp only [e3] at hd
      have hho := law_holds F2 (newIn wd we) D D' L1 L1 none 0 [] wi (by rw [HL1.out.2]; omega) (by rw [HL1.out.2]; omega) rfl (by simp) hd ht (QReads.nil wi)
      rw [holds_same, List.length_nil] at hho
      have HHO := Lib.hid hho
      have k1 : (c2 != 0) = true := bne_iff_ne.2 hz.1
      have k2 : (c2 != 20) = true := bne_iff_ne.2 hz.2
      have k3 : ¬ c2 = 0 := hz.1
      clear e3 hd ht hho hz
      go_wp2_with fail
      refine HHO.out.mono ?_
      rintro e wj ⟨rfl, hbj⟩
      have HBJ := Lib.hid (HI.out.2.trans (hbj.mono HI.out.2.size))
      clear hbj
      go_wp2_with fail
      refine (law_awake wj).mono ?_
      rintro e wk ⟨rfl, hbk⟩
      have HBK := Lib.hid (HBJ.out.trans (hbk.mono HBJ.out.size))
      clear hbk
      go_wp2_with fail
      go_ret
      exact ⟨rfl, (HBW.out _ HBK.out).1⟩
    · have hz2 : c2 = 0 ∨ c2 = 20 := by omega
      have hsp := HSP.out.1.2 hz2
      have hws := HI.out.1.d
      have hcr := disk_crash F2 D s3.L s3.W ks (.slice kad ks.length kcap) (by rw [HSP.out.2.len]; omega) (by rw [HSP.out.2.len]; omega) (by have := HSP.out.2.wai; omega) wi hws (HK.out.below (HBW.out wi HI.out.2).1) (fun a2 cc b2 o2 e2 h0 => by
        simp only [Value.slice.injEq] at e2
        have h1 := HK.out.lt h0 b2 o2 a2 e2.1
        have h2 := (HBW.out wi HI.out.2).1.size
        exact ⟨by omega, fun h => by have := (HI.out.1.fb b2 h).1; have := H0.out.2.2; omega⟩)
      rw [← HN.out.1] at hcr
      obtain ⟨L3, hL3⟩ : ∃ L3, L3 = crashL s3.L s3.W ks := ⟨_, rfl⟩
      have hl3 : L3.length = 24 := by rw [hL3]; unfold crashL; rw [crashN_len, HSP.out.2.len]
      rw [← hL3] at hcr hsp
      obtain ⟨cc, hcc⟩ : ∃ cc : Prop, cc = (c2 = 0) := ⟨_, rfl⟩
      rw [← hcc] at hsp
      have HCC := Lib.hid hcc
      clear hcc
      have c0 := (HBW.out wi HI.out.2).2.2
      have HAF := Lib.hid (And.intro hsp.1 (And.intro hsp.2 hl3))
      have HCR := Lib.hid hcr
      have HZ2 := Lib.hid hz2
      clear hz hsp hws hcr hL3 hl3
      clear hz2
      have hz3 := HZ2.out
      clear HZ2 HSP HCM2
      rcases hz3 with rfl | rfl
      all_goals
        go_wp2_with fail
        refine HCR.out.mono ?_
        rintro e wj ⟨⟨nn, rfl⟩, hdj, hkj⟩
        obtain ⟨hbj, F3, hatj⟩ := HI.out.1.crash hdj hkj
        have HJ := Lib.hid (And.intro hatj (HI.out.2.trans hbj))
        clear hdj hkj hbj hatj c0
        go_wp2_with fail
        go_loopg [13] 4 (fun k v wr => ∃ (i : Nat) (F4 : Nat → Prop) (L4 : List Dat), k + i = 4 ∧ v = .int .i64 (i : Int) ∧ AtS w0.heap.size wr F4 (newIn wd we) D D' L4 [] L1 ∧ L4.length = 24 ∧ Aft cc (fun b => L1.getD b zeroD) lm L4 ∧ Below w0.heap.size w0 wr)
        case atStart => exact ⟨0, F3, L3, by simp, rfl, HJ.out.1, HAF.out.2.2, HAF.out.2.1, HJ.out.2⟩
        case round =>
          obtain ⟨i, F4, L4, hk, rfl, hat4, hl4, haf4, hb4⟩ := hrel
          have hk := Lib.hid hk
          have H4 := Lib.hid (And.intro hat4 (And.intro hl4 (And.intro haf4 hb4)))
          clear hat4 hl4 haf4 hb4
          by_cases hi : i < nm ∧ i < 4
          · obtain ⟨him, hi4⟩ := hi
            have hi1 : (i : Int) < (nm : Int) := by omega
            have hi2 : (i : Int) < 4 := by omega
            have hi3 : (0 : Int) ≤ (i : Int) := by omega
            have wr1 : IntKind.i64.wrap ((i : Int) + 1) = (i : Int) + 1 := by rw [IntKind.wrap_i64] <;> omega
            obtain ⟨⟨cn, cad, ccap, cks⟩, hc⟩ : ∃ c, ms[i]? = some c := ⟨ms[i]'(by have := HN.out.2.1; omega), List.getElem?_eq_getElem _⟩
            obtain ⟨g, o, rfl, -, -, hcb⟩ := HM.out.at' i _ hc
            simp only at hcb
            have HMC : Hid (∀ w', Below w0.heap.size w0 w' → w'.cell? ⟨g, o + i * 2, none⟩ = some (.int .i64 cn) ∧ w'.cell? ⟨g, o + i * 2 + 1, none⟩ = some (.slice cad cks.length ccap)) := Lib.hid fun w' hb => by
              obtain ⟨g', o', e', h1, h2, -⟩ := (HM.out.below (HBW.out w' hb).1).at' i _ hc
              obtain ⟨rfl, rfl⟩ : g = g' ∧ o = o' := by simpa using e'
              exact ⟨h1, h2⟩
            have HCB := Lib.hid hcb
            obtain ⟨nck, hnck⟩ : ∃ nck, nck = cks.length := ⟨_, rfl⟩
            rw [← hnck] at HMC
            have HNC := Lib.hid hnck
            clear hc hcb hnck
            go_wp2_with fail
            refine (dev_of _ D _ _ wr H4.out.1.d).mono ?_
            rintro e wk ⟨rfl, hx, hbk⟩
            have hBk := H4.out.2.2.2.trans (hbk.mono H4.out.2.2.2.size)
            have HK1 := Lib.hid (And.intro (H4.out.1.below hbk) hBk)
            have HXk : Hid (w0.heap.size ≤ wr.heap.size ∧ ¬ F4 wr.heap.size ∧ ¬ newIn wd we wr.heap.size) := Lib.hid ⟨H4.out.2.2.2.size, fun h => by have := (H4.out.1.fb _ h).2; omega, fun h => by have := (H4.out.1.tb _ h).2.1; omega⟩
            have HFU3 := Lib.hid (dev_fuse wr.heap.size D _ _ 0 cn wk hx)
            have c5 := (HMC.out wk hBk).1
            clear hx hbk hBk
            go_wp2_with fail
            refine HFU3.out.mono ?_
            rintro e wl ⟨rfl, hxl, hkl, hsl⟩
            obtain ⟨hbl, hatl⟩ := HK1.out.1.fuse HXk.out hkl
            have hs5 : DS.sm ⟨L4, [], fused 1099511627776 cn, 0⟩ 24 0 := ⟨H4.out.2.1, Nat.le_refl _, fused_le _ _ (Nat.le_refl _), Nat.le_refl _⟩
            have hdvl : Dv wl F4 wr.heap.size D ⟨L4, [], fused 1099511627776 cn, 0⟩ := ⟨hxl, hatl.d, HXk.out.2.1, fun k h => (hatl.fb k h).2⟩
            have hst := aft_step (s := ⟨L4, [], fused 1099511627776 cn, 0⟩) HAF.out.1 H16.out.2 (by omega) (by omega) H4.out.2.1 rfl H4.out.2.2.1 cks
            have hrc := wal_recover_any F4 wr.heap.size D 24 0 _ wl hs5 (by omega) (by omega) (by omega) hst.1 hdvl
            obtain ⟨s6, hs6⟩ : ∃ s6, s6 = (if (⟨L4, [], fused 1099511627776 cn, 0⟩ : DS).left = 0 then (⟨L4, [], fused 1099511627776 cn, 0⟩ : DS) else (⟨L4, [], fused 1099511627776 cn, 0⟩ : DS).recover.2) := ⟨_, rfl⟩
            rw [← hs6] at hrc
            have h6 : s6.sm 24 34 ∧ Aft cc (fun b => L1.getD b zeroD) lm (crashL s6.L s6.W cks) := by
              rw [hs6]
              split
              · exact ⟨hs5.mono (by omega), hst.2.1⟩
              · exact ⟨sm_recover hs5, hst.2.2.1⟩
            have HK2 := Lib.hid (And.intro hatl (HK1.out.2.trans hbl))
            have HRC := Lib.hid hrc
            have H6 := Lib.hid h6
            clear hxl hkl hsl hbl hatl hs5 hdvl hst hrc hs6 h6 c5
            go_wp2_with fail
            refine HRC.out.mono ?_
            rintro e wn ⟨n1, f1, rfl, hv⟩
            obtain ⟨hbn, F5, hatn⟩ := HK2.out.1.dvs ⟨HXk.out.1, HXk.out.2.2⟩ hv
            have hBn := HK2.out.2.trans hbn
            have c6 := (HMC.out wn hBn).2
            have hcr2 := disk_crash F5 D s6.L s6.W cks (.slice cad cks.length ccap) (by rw [H6.out.1.len]; omega) (by rw [H6.out.1.len]; omega) (by have := H6.out.1.wai; omega) wn hatn.d (HCB.out.below (HBW.out wn hBn).1) (fun a2 cc2 b2 o2 e2 h0 => by
              simp only [Value.slice.injEq] at e2
              have h1 := HCB.out.lt h0 b2 o2 a2 e2.1
              have h2 := (HBW.out wn hBn).1.size
              exact ⟨by omega, fun h => by have := (hatn.fb b2 h).1; have := H0.out.2.2; omega⟩)
            rw [← HNC.out] at hcr2
            have HCR2 := Lib.hid hcr2
            have HK3 := Lib.hid (And.intro hatn hBn)
            clear hv hbn hatn hBn hcr2
            go_wp2_with fail
            refine HCR2.out.mono ?_
            rintro e wo ⟨⟨n2, rfl⟩, hdo, hko⟩
            obtain ⟨hbo, F6, hato⟩ := HK3.out.1.crash hdo hko
            have HK4 := Lib.hid (And.intro hato (HK3.out.2.trans hbo))
            have HLC : Hid ((crashL s6.L s6.W cks).length = 24) := Lib.hid (by unfold crashL; rw [crashN_len, H6.out.1.len])
            clear hdo hko hbo hato c6
            go_wp2_with fail
            go_roundg (gk - 1)
            case measure => have := hk.out; omega
            case rel => exact ⟨i + 1, F6, crashL s6.L s6.W cks, by have := hk.out; omega, by simp, HK4.out.1, HLC.out, H6.out.2, HK4.out.2⟩
          · have he : ¬ (i : Int) < (nm : Int) ∨ ((i : Int) < (nm : Int) ∧ ¬ (i : Int) < 4) := by omega
            have hs5 : DS.sm ⟨L4, [], 1099511627776, 0⟩ 24 0 := ⟨H4.out.2.1, Nat.le_refl _, Nat.le_refl _, Nat.le_refl _⟩
            have hst := aft_step (s := ⟨L4, [], 1099511627776, 0⟩) HAF.out.1 H16.out.2 (by omega) (by omega) H4.out.2.1 rfl H4.out.2.2.1 []
            have hst2 := hst.2.2.2 (by show 64 ≤ 1099511627776; omega)
            obtain ⟨r7, hr7⟩ : ∃ r7, r7 = DS.recover ⟨L4, [], 1099511627776, 0⟩ := ⟨_, rfl⟩
            have hsm7 := sm_recover hs5
            have hrc7 := fun (w' : World) (hd : Dv w' F4 wr.heap.size D ⟨L4, [], 1099511627776, 0⟩) => wal_recover F4 wr.heap.size D 24 0 ⟨L4, [], 1099511627776, 0⟩ w' hs5 (by omega) (by omega) (by omega) (by show 0 < 1099511627776; omega) hst.1 hd
            rw [← hr7] at hst2 hrc7 hsm7
            obtain ⟨⟨z7, e7⟩, s7⟩ := r7
            simp only at hst2 hrc7 hsm7
            obtain ⟨rfl, hW7, hF7⟩ := hst2
            obtain ⟨L7, W7, left7, dn7⟩ := s7
            simp only at hW7 hF7 hrc7 hsm7
            subst hW7
            have HF7 := Lib.hid (And.intro hF7 hsm7.len)
            have HRC7 := Lib.hid hrc7
            clear hi hs5 hst hr7 hsm7 hF7 hrc7
            rcases he with he | ⟨he, he4⟩
            all_goals
              go_wp2_with fail
              refine (dev_of _ D _ _ wr H4.out.1.d).mono ?_
              rintro e wk ⟨rfl, hx, hbk⟩
              have HRC8 := Lib.hid (HRC7.out wk (H4.out.1.dv hx hbk))
              have HK1 := Lib.hid (And.intro (H4.out.1.below hbk) (H4.out.2.2.2.trans (hbk.mono H4.out.2.2.2.size)))
              have HXk : Hid (w0.heap.size ≤ wr.heap.size ∧ ¬ newIn wd we wr.heap.size) := Lib.hid ⟨H4.out.2.2.2.size, fun h => by have := (H4.out.1.tb _ h).2.1; omega⟩
              clear hx hbk
              go_wp2_with fail
              refine HRC8.out.mono ?_
              rintro e wl ⟨rfl, hv⟩
              obtain ⟨hbl, F5, hatl⟩ := HK1.out.1.dvs HXk.out hv
              simp only at hatl
              have HK2 := Lib.hid (And.intro hatl (HK1.out.2.trans hbl))
              clear hv hbl hatl
              go_wp2_with fail
              refine (dev_of _ D _ _ wl HK2.out.1.d).mono ?_
              rintro e wm ⟨rfl, hx, hbm⟩
              have hz1 : readD L7 [] 1 = zeroD := by
                rw [read_nil]
                rcases HF7.out.1 with h | ⟨-, h⟩
                · exact h.hd
                · exact h.hd
              have hrd := wal_read F5 wl.heap.size D 24 0 ⟨L7, [], 1099511627776, 0⟩ wm ⟨HF7.out.2, Nat.le_refl _, Nat.le_refl _, Nat.le_refl _⟩ (by omega) (by omega) (by omega) (by show 0 < 1099511627776; omega) (fun hm => by rw [hz1] at hm; exact absurd hm (by decide)) (HK2.out.1.dv hx hbm)
              rw [hz_noread (s := ⟨L7, [], 1099511627776, 0⟩) hz1] at hrd
              have HRD := Lib.hid hrd
              have HK3 := Lib.hid (And.intro (HK2.out.1.below hbm) (HK2.out.2.trans (hbm.mono HK2.out.2.size)))
              clear hx hbm hz1 hrd
              go_wp2_with fail
              refine HRD.out.mono ?_
              rintro e wn ⟨ad9, cap9, rfl, -, hbn, -⟩
              have hatn := HK3.out.1.below hbn
              have hBn := HK3.out.2.trans (hbn.mono HK3.out.2.size)
              have HWT := Lib.hid (disk_waiting0 F5 D L7 wn hatn.d)
              have HH1 : Hid (∀ w', Below wn.heap.size wn w' → Calls Tryz.prog 12 #[.pointer (some ⟨D, 0, none⟩), .pointer (some ⟨D', 0, none⟩), .slice lad ml lcap] w' fun e w'' => e = .returned (.bool (holdsB L7 L1 lm)) ∧ Below w'.heap.size w' w'') := Lib.hid fun w' hb => by
                have ha := hatn.below hb
                have h := law_holds F5 (newIn wd we) D D' L7 L1 lad lcap lm w' (by rw [HF7.out.2]; omega) (by rw [HF7.out.2]; omega) (by rw [HF7.out.2, HL1.out.2]) (by have := H16.out.2; omega) ha.d ha.t (HL.out.below (HBW.out w' (hBn.trans (hb.mono hBn.size))).1)
                rwa [← HN.out.2.2.2] at h
              have HH2 : Hid (Calls Tryz.prog 12 #[.pointer (some ⟨D, 0, none⟩), .pointer (some ⟨D', 0, none⟩), .slice none 0 0] wn fun e w'' => e = .returned (.bool (holdsB L7 L1 [])) ∧ Below wn.heap.size wn w'') := Lib.hid
                (law_holds F5 (newIn wd we) D D' L7 L1 none 0 [] wn (by rw [HF7.out.2]; omega) (by rw [HF7.out.2]; omega) (by rw [HF7.out.2, HL1.out.2]) (by simp) hatn.d hatn.t (QReads.nil wn))
              have HBN := Lib.hid hBn
              clear hatn hBn hbn
              simp only [List.length_nil]
              go_wp2_with fail
              refine HWT.out.mono ?_
              rintro e w' ⟨rfl, hw'⟩
              rw [hw']
              clear hw' w'
              go_wp2_with fail
              by_cases hcc : cc
              · first
                  | (exfalso; rw [HCC.out] at hcc; exact absurd hcc (by decide))
                  | (have HE : Hid (holdsB L7 L1 lm = true) := Lib.hid (by
                       rcases HF7.out.1 with h | ⟨h, -⟩
                       · exact holds_fin h fun b => rfl
                       · exact absurd hcc h)
                     have HH3 := Lib.hid (HH1.out wn (Below.refl _ _))
                     clear hcc
                     refine HH3.out.mono ?_
                     rintro e wo ⟨rfl, hbo⟩
                     rw [HE.out]
                     have HBO := Lib.hid (HBN.out.trans (hbo.mono HBN.out.size))
                     clear hbo
                     go_wp2_with fail
                     refine (law_awake wo).mono ?_
                     rintro e wp ⟨rfl, hbp⟩
                     have HBP := Lib.hid (HBO.out.trans (hbp.mono HBO.out.size))
                     clear hbp
                     go_wp2_with fail
                     go_ret
                     exact ⟨rfl, (HBW.out _ HBP.out).1⟩)
              · first
                  | (exfalso; apply hcc; rw [HCC.out]; first | done | trivial)
                  | (clear hcc
                     refine HH2.out.mono ?_
                     rintro e wo ⟨rfl, hbo⟩
                     have HBO := Lib.hid (HBN.out.trans (hbo.mono HBN.out.size))
                     have HH3 := Lib.hid (HH1.out wo hbo)
                     clear hbo
                     by_cases h1 : holdsB L7 L1 [] = true
                     · rw [h1]
                       go_wp2_with fail
                       refine (law_awake wo).mono ?_
                       rintro e wp ⟨rfl, hbp⟩
                       have HBP := Lib.hid (HBO.out.trans (hbp.mono HBO.out.size))
                       clear hbp
                       go_wp2_with fail
                       go_ret
                       exact ⟨rfl, (HBW.out _ HBP.out).1⟩
                     · have HE : Hid (holdsB L7 L1 lm = true) := Lib.hid (by
                         rcases HF7.out.1 with h | ⟨-, h⟩
                         · exact holds_fin h fun b => rfl
                         · exact absurd (holds_fin h fun b => rfl) h1)
                       rw [Bool.eq_false_iff.2 h1]
                       clear h1
                       go_wp2_with fail
                       refine HH3.out.mono ?_
                       rintro e wp ⟨rfl, hbp⟩
                       rw [HE.out]
                       have HBP := Lib.hid (HBO.out.trans (hbp.mono HBO.out.size))
                       clear hbp
                       go_wp2_with fail
                       refine (law_awake wp).mono ?_
                       rintro e wq ⟨rfl, hbq⟩
                       have HBQ := Lib.hid (HBP.out.trans (hbq.mono HBP.out.size))
                       clear hbq
                       go_wp2_with fail
                       go_ret
                       exact ⟨rfl, (HBW.out _ HBQ.out).1⟩)
end Go.Proofs.YtkfmdkbiglkjpaaGreat
