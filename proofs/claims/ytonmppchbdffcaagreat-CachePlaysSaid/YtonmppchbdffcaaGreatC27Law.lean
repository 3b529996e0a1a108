/- CacheDone: the walk. -/
import Derived.Test.YtonmppchbdffcaaGreatC27Law0
namespace Go.Proofs.YtonmppchbdffcaaGreat
open Go Go.RowKit Go.Lib Go.Maps
attribute [local go_sem ↓] exec_alloc_data exec_store_data exec_load_data exec_build0_st exec_eql_data
set_option maxRecDepth 100000

set_option maxHeartbeats 12800000 in
theorem law_done (ad : Option Addr) (cap : Nat) (l : List DeedV) (b : Int) (xad : Option Addr) (xcap : Nat) (xl : List UInt8) (w : World) (hl : EReads w ad cap l) (hx : YReads w xad xcap xl) :
    Calls Tryz.prog 3 #[.slice ad l.length cap, .int .i64 b, .slice xad xl.length xcap] w fun e w' => e = .returned (.bool true) ∧ Below w.heap.size w w' := by
  have HL := Lib.hid hl
  have HX := Lib.hid hx
  obtain ⟨m, hm⟩ : ∃ m, m = l.length := ⟨_, rfl⟩
  obtain ⟨xn, hxn⟩ : ∃ xn, xn = xl.length := ⟨_, rfl⟩
  have HM := Lib.hid (And.intro hm hxn)
  rw [← hm, ← hxn]
  obtain ⟨b4, hb4⟩ : ∃ b4 : Nat, (b4 : Int) = b % 4 := ⟨(b % 4).toNat, by omega⟩
  have hand : bits .and .i64 b 3 = (b4 : Int) := by rw [and3, hb4]
  have hb44 : b4 < 4 := by omega
  have HB4 := Lib.hid hb44
  clear hl hx hm hxn hb4 hb44
  go_enter Tryz.func3, Tryz.ntmps3
  go_wp2_with fail
  refine (disk_new 6 (by decide) (by decide) w).mono ?_
  rintro e wa ⟨D, rfl, hda, hba⟩
  have HA := Lib.hid (And.intro hda hba)
  clear hda hba
  go_wp2_with fail
  refine (dev_of _ D _ _ wa HA.out.1).mono ?_
  rintro e wb ⟨rfl, hxb, hbb⟩
  rw [List.length_replicate] at hxb
  obtain ⟨X, hX⟩ : ∃ X, X = wa.heap.size := ⟨_, rfl⟩
  rw [← hX] at hxb ⊢
  have HB := Lib.hid (And.intro hxb (And.intro hbb hX))
  clear hxb hbb hX
  go_wp2_with fail
  refine (cache_new X wb).mono ?_
  rintro e wc ⟨C, md, mc, rfl, hca, hmd, hmc, hn1, o1, o2, o3, hbc⟩
  have HC := Lib.hid (And.intro hca (And.intro hmd (And.intro hmc (And.intro hn1 hbc))))
  have HO := Lib.hid (And.intro o1 (And.intro o2 o3))
  clear hca hmd hmc hn1 o1 o2 o3 hbc
  go_wp2_with fail
  refine (cache_begin C wc).mono ?_
  rintro e wd ⟨T, mo, rfl, htx, hmo, p1, p2, hbd⟩
  have hz1 := HA.out.2.size
  have hz2 := HB.out.2.1.size
  have hz3 := HC.out.2.2.2.2.size
  have hz4 := hbd.size
  have hbe : Below wd.heap.size wd (wd.alloc (.cells zSt 40)) := (Below.refl _ _).alloc (Nat.le_refl _) _
  obtain ⟨we, hwe⟩ : ∃ we, wd.alloc (.cells zSt 40) = we := ⟨_, rfl⟩
  have hst := st_fresh wd
  rw [hwe] at hst hbe
  have hbce : Below wc.heap.size wc we := hbd.trans (hbe.mono hz4)
  have hbbe : Below wb.heap.size wb we := HC.out.2.2.2.2.trans (hbce.mono hz3)
  have hbae : Below wa.heap.size wa we := HB.out.2.1.trans (hbbe.mono hz2)
  obtain ⟨S, hS⟩ : ∃ S, S = wd.heap.size := ⟨_, rfl⟩
  rw [← hS] at hst
  have hall : All we C X D md mc T mo S 6 1099511627776 0 0 0 0 0 (.map []) (.map []) (.map []) (List.replicate 18 zeroD) (List.replicate 18 false) :=
    ⟨(hbce.block C HC.out.1.lt).trans HC.out.1, (hbe.block T htx.lt).trans htx, HC.out.2.1.on (hbce.block md HC.out.2.1.lt), hmo.on (hbe.block mo hmo.lt), HC.out.2.2.1.on (hbce.block mc HC.out.2.2.1.lt), hst, HB.out.1.on (hbbe.block X HB.out.1.lt), HC.out.2.2.2.1, fun e => by have := HC.out.2.1.lt; omega, fun e => by have := HC.out.2.2.1.lt; omega⟩
  have HE := Lib.hid (And.intro hall hbae)
  have HZ : Hid (w.heap.size ≤ wa.heap.size ∧ wa.heap.size ≤ md ∧ wa.heap.size ≤ mc ∧ wa.heap.size ≤ C ∧ wa.heap.size ≤ mo ∧ wa.heap.size ≤ S ∧ wa.heap.size ≤ we.heap.size) := Lib.hid ⟨hz1, by have := HO.out; omega, by have := HO.out; omega, by have := HO.out; omega, by omega, by omega, hbae.size⟩
  have HS := Lib.hid hS
  clear htx hmo p1 p2 hbd hz1 hz2 hz3 hz4 hbe hst hbce hbbe hbae hS hall
  go_wp2_with fail
  rw [← HS.out]
  clear hwe
  go_loopg [9, 11] 20 (fun k u v wr => ∃ (i T mo nd no : Nat) (Dd Do : DataW Unit) (ds : List Dat) (bs : List Bool), k + i = 20 ∧ u = .pointer (some ⟨T, 0, none⟩) ∧ v = .int .i64 (i : Int) ∧ All wr C X D md mc T mo S 6 1099511627776 0 0 nd no 0 Dd Do (.map []) ds bs ∧ nd + no ≤ i ∧ wa.heap.size ≤ mo ∧ Below wa.heap.size wa wr)
  case atStart => exact ⟨0, T, mo, 0, 0, _, _, _, _, by simp, rfl, rfl, HE.out.1, Nat.le_refl _, HZ.out.2.2.2.2.1, HE.out.2⟩
  case round =>
    obtain ⟨i, T1, mo1, nd, no, Dd, Do, ds, bs, hk, rfl, rfl, hA, hno, hmo, hbr⟩ := hrel
    have hk := Lib.hid hk
    have HR := Lib.hid (And.intro hA (And.intro hno (And.intro hmo hbr)))
    by_cases hi : i < m ∧ i < 20
    · obtain ⟨him, hi20⟩ := hi
      have hi1 : (i : Int) < (m : Int) := by omega
      have hi2 : (i : Int) < 20 := by omega
      have hi3 : (0 : Int) ≤ (i : Int) := by omega
      have wr1 : IntKind.i64.wrap ((i : Int) + 1) = (i : Int) + 1 := by rw [IntKind.wrap_i64] <;> omega
      have hbw : Below w.heap.size w wr := HA.out.2.trans (hbr.mono HA.out.2.size)
      obtain ⟨⟨kind, db, dad, dcap, dl⟩, hc⟩ : ∃ c, l[i]? = some c := ⟨l[i]'(by have := HM.out.1; omega), List.getElem?_eq_getElem _⟩
      obtain ⟨g, o, rfl, e0, e1, e2, e3⟩ := (HL.out.below hbw).at' i _ hc
      simp only at e0 e1 e2 e3
      obtain ⟨g', o', e', -, -, -, hy0⟩ := HL.out.at' i _ hc
      simp only at hy0
      have hdo := does_any C X D md mc T1 mo1 S 1099511627776 0 0 nd no 0 Dd Do (.map []) ds bs ⟨kind, db, dad, dcap, dl⟩ wr hA (by omega) e3 (fun g1 o1 q1 q2 => by
        have := hy0.lt g1 o1 q1 q2
        have := HZ.out
        omega)
      simp only at hdo
      obtain ⟨dn, hdn⟩ : ∃ dn, dn = dl.length := ⟨_, rfl⟩
      rw [← hdn] at hdo e2
      have HDO := Lib.hid hdo
      clear hA hno hmo hbr hbw hc e3 e' hy0 hdo hdn
      go_wp2_with fail
      refine HDO.out.mono ?_
      rintro e w5 ⟨T2, mo2, nd2, no2, Dd2, Do2, ds2, bs2, rfl, ha2, hno2, hmo2, hkk⟩
      have HN : Hid (All w5 C X D md mc T2 mo2 S 6 1099511627776 0 0 nd2 no2 0 Dd2 Do2 (.map []) ds2 bs2 ∧ nd2 + no2 ≤ i + 1 ∧ wa.heap.size ≤ mo2 ∧ Below wa.heap.size wa w5) := Lib.hid ⟨ha2, by have := HR.out.2.1; omega, by
        have q1 := HR.out.2.2.1
        have q2 := HR.out.2.2.2.size
        rcases hmo2 with h | h <;> omega, HR.out.2.2.2.trans (hkk.below (fun k hk => by
          have q1 := HR.out.2.2.1
          have q3 := HZ.out
          rcases hk with h | h | h <;> omega) HR.out.2.2.2.size)⟩
      clear ha2 hno2 hmo2 hkk
      go_wp2_with fail
      go_roundg (gk - 1)
      case measure => have := hk.out; omega
      case rel => exact ⟨i + 1, T2, mo2, nd2, no2, Dd2, Do2, ds2, bs2, by have := hk.out; omega, rfl, by simp, HN.out.1, HN.out.2.1, HN.out.2.2.1, HN.out.2.2.2⟩
    · have he : ¬ (i : Int) < (m : Int) ∨ ((i : Int) < (m : Int) ∧ ¬ (i : Int) < 20) := by omega
      have hbw : Below w.heap.size w wr := HA.out.2.trans (hbr.mono HA.out.2.size)
      obtain ⟨x, hxx⟩ : ∃ x, x = ofD xl := ⟨_, rfl⟩
      have hx64 : x.length = 64 := by rw [hxx]; exact ofI_len _ _
      have HOF : Hid (∀ w', Below w.heap.size w w' → Calls Tryz.prog 11 #[.slice xad xn xcap] w' fun e w'' => e = .returned (.agg (dC x).toArray) ∧ Below w'.heap.size w' w'') := Lib.hid fun w' hb => by
        rw [HM.out.2, hxx]; exact ref_of xad xcap xl w' (HX.out.below hb)
      have HX64 := Lib.hid hx64
      have HBW := Lib.hid hbw
      clear hA hno hmo hbr hbw hxx hx64 hi
      rcases he with he | ⟨he, he2⟩
      all_goals
        go_wp2_with fail
        refine (HOF.out wr HBW.out).mono ?_
        rintro e wf ⟨rfl, hbf⟩
        have HF := Lib.hid (And.intro (HR.out.1.below hbf) (And.intro (HR.out.2.2.2.trans (hbf.mono HR.out.2.2.2.size)) (HBW.out.trans (hbf.mono HBW.out.size))))
        clear hbf
        go_wp2_with fail
        refine (disk_write (newIn w wa) D (List.replicate 6 zeroD) [] b4 x (by have := HB4.out; simp; omega) HX64.out (by simp) wf (HA.out.1.below HF.out.2.1)).mono ?_
        rintro e wg ⟨rfl, hdg, hkg⟩
        have hCg : CaAt wg C X md mc 0 := (hkg.block C HF.out.1.ca.lt fun h => by have := h.2; have := HZ.out; omega).trans HF.out.1.ca
        have hdd : MapAt wg md nd Dd := HF.out.1.dd.on (hkg.block md HF.out.1.dd.lt fun h => by have := h.2; have := HZ.out; omega)
        have hcc : MapAt wg mc 0 (.map []) := HF.out.1.cc.on (hkg.block mc HF.out.1.cc.lt fun h => by have := h.2; have := HZ.out; omega)
        have hXl := HF.out.1.dev.lt
        have hXg : DevAt wg X D 6 1099511627776 0 := HF.out.1.dev.on (hkg.block X hXl fun h => by have := h.2; have := HB.out.2.2; omega)
        have hbg : Below w.heap.size w wg := HF.out.2.2.trans (hkg.below (fun k h => h.1) HF.out.2.2.size)
        have HG := Lib.hid (And.intro hCg (And.intro hdd (And.intro hcc (And.intro hXg (And.intro hbg hdg)))))
        have HGS := Lib.hid (And.intro hkg.size (And.intro HF.out.1.dd.lt HF.out.1.cc.lt))
        clear hCg hdd hcc hXg hbg hdg hkg hXl
        go_wp2_with fail
        refine (cache_done C X md mc nd 0 0 Dd (.map []) wg HG.out.1 HG.out.2.1 HG.out.2.2.1 HC.out.2.2.2.1).mono ?_
        rintro e wh ⟨rfl, hmd, hmc, hkh⟩
        have hCh : CaAt wh C X md mc 0 := (hkh.block C HG.out.1.lt fun e => e.elim (HG.out.1.ne HG.out.2.1) (HG.out.1.ne HG.out.2.2.1)).trans HG.out.1
        have hXh : DevAt wh X D 6 1099511627776 0 := HG.out.2.2.2.1.on (hkh.block X HG.out.2.2.2.1.lt fun e => e.elim (HG.out.2.1.nec HG.out.2.2.2.1) (HG.out.2.2.1.nec HG.out.2.2.2.1))
        have hF2 : ∀ k, orNew (newIn w wa) wf wg k → k < wg.heap.size ∧ k ≠ md ∧ k ≠ mc ∧ k ≠ X := fun k h => by
          have q1 := HZ.out
          have q2 := HGS.out
          have q3 := HB.out.2.2
          have q4 := HF.out.1.dev.lt
          rcases h with h | h
          · have := h.2; exact ⟨by omega, by omega, by omega, by omega⟩
          · have := h.1; have := h.2; exact ⟨by omega, by omega, by omega, by omega⟩
        have hDh : DiskAt wh (orNew (newIn w wa) wf wg) D (List.replicate 6 zeroD) ([] ++ [(b4, x)]) := HG.out.2.2.2.2.2.on fun k hkl hf => hkh.block k hkl fun e => e.elim (hF2 k hf).2.1 (hF2 k hf).2.2.1
        have hDv : Dv wh (orNew (newIn w wa) wf wg) X D ⟨List.replicate 6 zeroD, [(b4, x)], 1099511627776, 0⟩ := ⟨by simpa using hXh, by simpa using hDh, fun h => (hF2 X h).2.2.2 rfl, fun k h => Nat.lt_of_lt_of_le (hF2 k h).1 hkh.size⟩
        have hbh : Below w.heap.size w wh := HG.out.2.2.2.2.1.trans (hkh.below (fun k e => by have := HZ.out; rcases e with e | e <;> omega) HG.out.2.2.2.2.1.size)
        have hrd := cache_read_dev _ C X D md mc 0 0 b4 0 ⟨List.replicate 6 zeroD, [(b4, x)], 1099511627776, 0⟩ (.map []) (.map []) wh hCh hmd hmc (by omega) (by omega) rfl rfl (by decide) ⟨by simp, by simp, by simp, by simp, by simp⟩ (by have := HB4.out; simp; omega) (by show 0 < 1099511627776; omega) hDv
        rw [read_last] at hrd
        have HRD := Lib.hid hrd
        have HH := Lib.hid (And.intro hCh (And.intro hmd hbh))
        clear hmd hmc hkh hCh hXh hF2 hDh hDv hbh hrd
        go_wp2_with fail
        refine HRD.out.mono ?_
        rintro e wi ⟨rfl, hCi, -, hki⟩
        have hmi : MapAt wi md 0 (.map []) := HH.out.2.1.on (hki.block md HH.out.2.1.lt fun e => e.elim (fun e => HH.out.1.ne HH.out.2.1 e.symm) HC.out.2.2.2.1)
        have hbi : Below w.heap.size w wi := HH.out.2.2.trans (hki.below (fun k e => by have := HZ.out; rcases e with e | e <;> omega) HH.out.2.2.size)
        obtain ⟨wj, hwj⟩ : ∃ wj, wj = wi.alloc (.cells (dC x).toArray 34) := ⟨_, rfl⟩
        obtain ⟨th, pt, hbj, hgj, hzj⟩ := lay_dat HX64.out hwj
        have hrj : wj.rangeAt wi.heap.size 0 (dC x) := fun j v hv => by rw [Nat.zero_add, cell_of_row wj _ j _ _ _ hgj, List.getElem?_toArray]; exact hv
        have HJ := Lib.hid (And.intro ((hbj.block C hCi.lt).trans hCi : CaAt wj C X md mc (0 + 1)) (And.intro (hmi.on (hbj.block md hmi.lt)) (And.intro (hbi.trans (hbj.mono hbi.size)) hrj)))
        have agx := agg_ok (cs := dC x) (n := 64) (by rw [dC_len, HX64.out]) (dC_one x)
        have hd1 := isDat_dC HX64.out
        have hde := datEq_dC x x
        rw [decide_eq_true rfl] at hde
        have huu := Tryz.underlying34
        have hin : (Tryz.prog.info? 34).map (·.size) = some (dC x).length := by rw [data_size, dC_len, HX64.out]
        have HOF2 : Hid (∀ w', Below wj.heap.size wj w' → Calls Tryz.prog 11 #[.slice xad xn xcap] w' fun e w'' => e = .returned (.agg (dC x).toArray) ∧ Below wj.heap.size wj w'') := Lib.hid fun w' hb => by
          refine (HOF.out w' (HJ.out.2.2.1.trans (hb.mono HJ.out.2.2.1.size))).mono ?_
          rintro e w'' ⟨he, h2⟩
          exact ⟨he, hb.trans (h2.mono hb.size)⟩
        have HDY : Hid (∀ w', Below wj.heap.size wj w' → Calls Tryz.prog 14 #[.pointer (some ⟨C, 0, none⟩)] w' fun e w'' => (∃ ad cap, e = .returned (.slice ad 0 cap)) ∧ Below wj.heap.size wj w'') := Lib.hid fun w' hb => by
          refine (cache_dirty C X md mc 0 (0 + 1) (.map []) w' ((hb.block C (CaAt.lt (r := 0 + 1) HJ.out.1)).trans HJ.out.1) (HJ.out.2.1.on (hb.block md HJ.out.2.1.lt)) (by omega)).mono ?_
          rintro e w'' ⟨ad2, cap2, ss, rfl, hss, -, h2⟩
          obtain rfl : ss = [] := List.Perm.eq_nil hss
          exact ⟨⟨ad2, cap2, rfl⟩, hb.trans (h2.mono hb.size)⟩
        have HAW : Hid (∀ w', Below wj.heap.size wj w' → Calls Tryz.prog 15 #[] w' fun e w'' => e = .returned (.bool true) ∧ Below wj.heap.size wj w'') := Lib.hid fun w' hb => by
          refine (law_awake w').mono ?_
          rintro e w'' ⟨he, h2⟩
          exact ⟨he, hb.trans (h2.mono hb.size)⟩
        have HSK : Hid (∀ w', Below wj.heap.size wj w' → w'.rangeAt wi.heap.size 0 (dC x)) := Lib.hid fun w' hb j v hv => (World.cell?_of_block (a := ⟨wi.heap.size, 0 + j, none⟩) (hb.block wi.heap.size (by omega))).trans (HJ.out.2.2.2 j v hv)
        clear hCi hki hmi hbi hwj hbj hgj hrj
        go_wp2_with fail
        go_region_held3 (fun w' => w'.rangeAt wi.heap.size 0 (dC x))
          (first | exact HSK.out _ (Below.refl _ _).drew | exact HSK.out _ hq1 | exact HSK.out _ hq2 | exact HSK.out _ hq3)
          (first | (go_at_call 11; refine (HOF2.out _ (Below.refl _ _).drew).mono ?_; rintro e w' ⟨rfl, hq1⟩) | (go_at_call 14; refine (HDY.out _ hq1).mono ?_; rintro e w'' ⟨⟨ad9, cap9, rfl⟩, hq2⟩) | (go_at_call 15; refine (HAW.out _ hq2).mono ?_; rintro e w''' ⟨rfl, hq3⟩))
        have HQ := Lib.hid (HJ.out.2.2.1.trans (hq3.mono HJ.out.2.2.1.size))
        clear hq1 hq2 hq3
        go_wp2_with fail
        go_ret
        exact ⟨rfl, HQ.out⟩
end Go.Proofs.YtonmppchbdffcaaGreat
