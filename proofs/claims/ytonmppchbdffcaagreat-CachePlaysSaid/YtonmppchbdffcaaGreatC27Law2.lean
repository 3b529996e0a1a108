/- CachePlays: the walk. -/
import Derived.Test.YtonmppchbdffcaaGreatC27P2
import Derived.Test.YtonmppchbdffcaaGreatC27Flush
import Derived.Test.YtonmppchbdffcaaGreatC27Law
namespace Go.Proofs.YtonmppchbdffcaaGreat
open Go Go.RowKit Go.Lib Go.Maps
attribute [local go_sem ↓] exec_alloc_data exec_store_data exec_load_data exec_build0_st exec_neq_data
set_option maxRecDepth 100000

/-- rows of bytes that came in -/
structure RowV where
  ad : Option Addr
  cap : Nat
  l : List UInt8
structure FReads (w : World) (ad : Option Addr) (cap : Nat) (l : List RowV) : Prop where
  len : l.length ≤ cap
  max : cap ≤ maxLen
  at' : ∀ (i : Nat) (d : RowV), l[i]? = some d → ∃ g off, ad = some ⟨g, off, none⟩ ∧ w.cell? ⟨g, off + i, none⟩ = some (.slice d.ad d.l.length d.cap) ∧ YReads w d.ad d.cap d.l
theorem FReads.below {w w' : World} {ad : Option Addr} {cap : Nat} {l : List RowV} (h : FReads w ad cap l) (hb : Below w.heap.size w w') : FReads w' ad cap l :=
  ⟨h.len, h.max, fun i c hc => by
    obtain ⟨g, off, e, h1, h2⟩ := h.at' i c hc
    have hg : g < w.heap.size := World.block_lt_of_cell? _ ⟨g, off + i, none⟩ h1
    exact ⟨g, off, e, (World.cell?_of_block (a := ⟨g, off + i, none⟩) (hb.block g hg)).trans h1, h2.below hb⟩⟩
theorem flushN_take (L : List Dat) (W : List (Nat × Dat)) (x : Nat × Dat) : ∀ i, i ≤ W.length → flushN L (W ++ [x]) i = flushN L W i
  | 0, _ => rfl
  | i + 1, h => by
    have e : wAt (W ++ [x]) i = wAt W i := by unfold wAt; rw [List.getD_eq_getElem?_getD, List.getElem?_append_left (by omega), List.getD_eq_getElem?_getD]
    rw [flushN, flushN, flushN_take L W x i (by omega), e]
theorem flushN_snoc (L : List Dat) (W : List (Nat × Dat)) (x : Nat × Dat) : flushN L (W ++ [x]) (W ++ [x]).length = (flushN L W W.length).set x.1 x.2 := by
  rw [List.length_append]
  have e : wAt (W ++ [x]) W.length = x := by unfold wAt; rw [List.getD_eq_getElem?_getD, List.getElem?_append_right (Nat.le_refl _)]; simp
  show flushN L (W ++ [x]) (W.length + 1) = _
  rw [flushN, e, flushN_take L W x _ (Nat.le_refl _)]
/-- the first loop: what the state's row 0 holds, the disk is about to -/
structure P1 (B S D : Nat) (wa : World) (i : Nat) (F : Nat → Prop) (W : List (Nat × Dat)) (ds : List Dat) (wr : World) : Prop where
  st : StAt wr S ds (List.replicate 18 false)
  dk : DiskAt wr F D (List.replicate 6 zeroD) W
  wl : W.length = i
  fb : ∀ k, F k → B ≤ k ∧ k < wr.heap.size ∧ k ≠ S
  eq : ∀ b, b < 6 → ds.getD b zeroD = (flushN (List.replicate 6 zeroD) W W.length).getD b zeroD
  bl : Below B wa wr
/-- the main loop's start -/
theorem P1.start {w wr w1 wb wc wd : World} {S D i C md mc T mo : Nat} {F : Nat → Prop} {W : List (Nat × Dat)} {ds : List Dat} {L : List Dat} (hP : P1 w.heap.size S D w i F W ds wr) (hS : w.heap.size ≤ S) (hL : L = flushN (List.replicate 6 zeroD) W W.length) (hd1 : DiskAt w1 (orNew F wr w1) D L []) (hk1 : Keeps F wr w1)
    (hxb : DevAt wb w1.heap.size D 6 1099511627776 0) (hbb : Below w1.heap.size w1 wb) (hca : CaAt wc C w1.heap.size md mc 0) (hmd : MapAt wc md 0 (.map [])) (hmc : MapAt wc mc 0 (.map [])) (hn1 : md ≠ mc) (o1 : wb.heap.size ≤ md) (o2 : wb.heap.size ≤ mc) (o3 : wb.heap.size ≤ C) (hbc : Below wb.heap.size wb wc)
    (htx : TxAt wd T C mo) (hmo : MapAt wd mo 0 (.map [])) (p1 : wc.heap.size ≤ mo) (hbd : Below wc.heap.size wc wd) :
    PF w.heap.size w1.heap.size S C md mc (orNew F wr w1) L ∧ P2 w1.heap.size S C w1.heap.size D md mc (orNew F wr w1) L w 0 0 T mo 0 0 0 0 (.map []) (.map []) (.map []) ds (List.replicate 18 false) wd := by
  have s1 := hk1.size
  have s2 := hbb.size
  have s3 := hbc.size
  have s4 := hbd.size
  have s0 := hP.bl.size
  have hSl := hP.st.lt
  have hff : ∀ k, orNew F wr w1 k → w.heap.size ≤ k ∧ k < w1.heap.size ∧ k ≠ S := fun k h => by
    rcases h with h | h
    · have := hP.fb k h; exact ⟨this.1, by omega, this.2.2⟩
    · have := h.1; have := h.2; exact ⟨by omega, by omega, by omega⟩
  have hL6 : L.length = 6 := by rw [hL, flushN_len]; rfl
  have b1d : Below w1.heap.size w1 wd := (hbb.trans (hbc.mono s2)).trans (hbd.mono (Nat.le_trans s2 s3))
  have bbd : Below wb.heap.size wb wd := hbc.trans (hbd.mono s3)
  have hrow : ∀ row b, rowF ds (List.replicate 18 false) row b = none := fun row b => by
    unfold rowF
    rw [if_neg]
    rw [List.getD_eq_getElem?_getD, List.getElem?_replicate]
    split <;> simp
  refine ⟨⟨by omega, hS, by omega, by omega, by omega, by omega, hff, hL6⟩, ⟨⟨(hbd.block C hca.lt).trans hca, htx, hmd.on (hbd.block md hmd.lt), hmo, hmc.on (hbd.block mc hmc.lt), ?_, hxb.on (bbd.block _ hxb.lt), hn1, fun e => by have := hmd.lt; omega, fun e => by have := hmc.lt; omega⟩, ⟨Rep.empty.congr fun b _ => (hrow 1 b).symm, Rep.empty.congr fun b _ => (hrow 2 b).symm, fun b hb => by rw [hL]; exact hP.eq b hb, hP.st.dl, by simp⟩, ⟨⟨_, Rep.empty, fun b d _ h => by cases h⟩, rfl⟩, ⟨?_, hd1.below b1d, fun h => by have := hff _ h; omega, fun k h => by have := hff k h; have := b1d.size; omega⟩, Nat.le_refl _, Nat.le_refl _, by omega, ?_⟩⟩
  · have q : Keeps F wr wd := hk1.trans (Keeps.of_below b1d)
    exact hP.st.on (q.block S hP.st.lt fun h => (hP.fb S h).2.2 rfl)
  · have := hxb.on (bbd.block _ hxb.lt)
    simpa [hL6] using this
  · exact hP.bl.trans ((hk1.below (fun k h => (hP.fb k h).1) s0).trans (b1d.mono (by omega)))
set_option maxHeartbeats 12800000 in
theorem law_plays (fad : Option Addr) (fcap : Nat) (fl : List RowV) (ad : Option Addr) (cap : Nat) (l : List DeedV) (w : World) (hf : FReads w fad fcap fl) (hl : EReads w ad cap l) :
    Calls Tryz.prog 4 #[.slice fad fl.length fcap, .slice ad l.length cap] w fun e w' => e = .returned (.bool true) ∧ Below w.heap.size w w' := by
  have HF := Lib.hid hf
  have HL := Lib.hid hl
  obtain ⟨fm, hfm⟩ : ∃ fm, fm = fl.length := ⟨_, rfl⟩
  obtain ⟨m, hm⟩ : ∃ m, m = l.length := ⟨_, rfl⟩
  have HM := Lib.hid (And.intro hfm hm)
  rw [← hfm, ← hm]
  clear hf hl hfm hm
  go_enter Tryz.func4, Tryz.ntmps4
  go_wp2_with fail
  refine (disk_new 6 (by decide) (by decide) w).mono ?_
  rintro e wa ⟨D, rfl, hda, hba⟩
  have hbe : Below wa.heap.size wa (wa.alloc (.cells zSt 40)) := (Below.refl _ _).alloc (Nat.le_refl _) _
  obtain ⟨we, hwe⟩ : ∃ we, wa.alloc (.cells zSt 40) = we := ⟨_, rfl⟩
  have hst := st_fresh wa
  rw [hwe] at hst hbe
  obtain ⟨S, hS⟩ : ∃ S, S = wa.heap.size := ⟨_, rfl⟩
  rw [← hS] at hst
  have hsz := hba.size
  have HP1 : Hid (P1 w.heap.size S D w 0 (newIn w wa) [] (List.replicate 18 zeroD) we) := Lib.hid ⟨hst, hda.below hbe, rfl, fun k h => ⟨h.1, Nat.lt_of_lt_of_le h.2 hbe.size, by have := h.2; omega⟩, fun b hb => by
    show (List.replicate 18 zeroD).getD b zeroD = (List.replicate 6 zeroD).getD b zeroD
    simp only [List.getD_eq_getElem?_getD, List.getElem?_replicate]
    rw [if_pos (by omega), if_pos hb], hba.trans (hbe.mono hsz)⟩
  have HS := Lib.hid (And.intro hS hsz)
  clear hda hbe hst hsz hba hS
  go_wp2_with fail
  rw [← HS.out.1]
  clear hwe
  go_loopg [7] 6 (fun k v wr => ∃ (i : Nat) (F : Nat → Prop) (W : List (Nat × Dat)) (ds : List Dat), k + i = 6 ∧ v = .int .i64 (i : Int) ∧ P1 w.heap.size S D w i F W ds wr)
  case atStart => exact ⟨0, _, _, _, by simp, rfl, HP1.out⟩
  case round =>
    obtain ⟨i, F, W, ds, hk, rfl, hP⟩ := hrel
    have hk := Lib.hid hk
    have HP := Lib.hid hP
    by_cases hi : i < fm ∧ i < 6
    · obtain ⟨him, hi6⟩ := hi
      have hi1 : (i : Int) < (fm : Int) := by omega
      have hi2 : (i : Int) < 6 := by omega
      have hi3 : (0 : Int) ≤ (i : Int) := by omega
      have wr1 : IntKind.i64.wrap ((i : Int) + 1) = (i : Int) + 1 := by rw [IntKind.wrap_i64] <;> omega
      obtain ⟨⟨rad, rcap, rl⟩, hc⟩ : ∃ c, fl[i]? = some c := ⟨fl[i]'(by have := HM.out.1; omega), List.getElem?_eq_getElem _⟩
      obtain ⟨g, o, rfl, e0, e1⟩ := (HF.out.below hP.bl).at' i _ hc
      simp only at e0 e1
      have hgl : g < w.heap.size := by
        obtain ⟨g', o', e', q0, -⟩ := HF.out.at' i _ hc
        obtain ⟨rfl, rfl⟩ : g = g' ∧ o = o' := by simpa using e'
        exact World.block_lt_of_cell? _ ⟨g, o + i, none⟩ q0
      obtain ⟨rn, hrn⟩ : ∃ rn, rn = rl.length := ⟨_, rfl⟩
      have HOF : Hid (∀ w', Below wr.heap.size wr w' → Calls Tryz.prog 11 #[.slice rad rn rcap] w' fun e w'' => e = .returned (.agg (dC (ofD rl)).toArray) ∧ Below wr.heap.size wr w'') := Lib.hid fun w' hb => by
        rw [hrn]
        refine (ref_of rad rcap rl w' (e1.below hb)).mono ?_
        rintro e w'' ⟨he, h2⟩
        exact ⟨he, hb.trans (h2.mono hb.size)⟩
      rw [← hrn] at e0
      have hx64 : (ofD rl).length = 64 := ofI_len _ _
      generalize ofD rl = x at *
      have HX := Lib.hid hx64
      have hone := dC_one x
      have hl64 : (dC x).length = 64 := by rw [dC_len, hx64]
      have hds := data_size
      have hSl := hP.st.lt
      have HTS : Hid (∀ w', Below wr.heap.size wr w' → w'.there S (0 + i * 64) 64 ∧ w'.there S (i * 64) 64) := Lib.hid fun w' hb' => by
        obtain ⟨cs, q1, q2, -, -⟩ := (hP.st.on (hb'.block S hP.st.lt)).mem
        exact ⟨fun j hj => ⟨by rw [cell_of_row w' S _ _ _ _ q1, Array.getElem?_eq_getElem (by omega)]; rfl, frozen_of_row w' S _ _ _ q1⟩, fun j hj => ⟨by rw [cell_of_row w' S _ _ _ _ q1, Array.getElem?_eq_getElem (by omega)]; rfl, frozen_of_row w' S _ _ _ q1⟩⟩
      have HSK : Hid (∀ w', Below wr.heap.size wr w' → w'.cell? ⟨g, o + i, none⟩ = some (.slice rad rn rcap) ∧ (w'.setCells S (i * 64) (dC x)).cell? ⟨g, o + i, none⟩ = some (.slice rad rn rcap)) := Lib.hid fun w' hb' => by
        have q0 : w'.heap[g]? = wr.heap[g]? := hb'.block g (by have := hP.bl.size; omega)
        have q3 : (w'.setCells S (i * 64) (dC x)).heap[g]? = w'.heap[g]? := heap_setCells_other _ _ _ _ _ (by have := HS.out; omega)
        exact ⟨(World.cell?_of_block (a := ⟨g, o + i, none⟩) q0).trans e0, (World.cell?_of_block (a := ⟨g, o + i, none⟩) (q3.trans q0)).trans e0⟩
      clear hP e1 hc hgl hrn hSl
      go_wp2_with fail
      go_region_held3 (fun w' => w'.cell? ⟨g, o + i, none⟩ = some (.slice rad rn rcap))
        (first | exact (HSK.out _ (Below.refl _ _).drew).1 | exact (HSK.out _ hbo).1 | exact (HSK.out _ hbo).2)
        (first | (go_at_call 11; refine (HOF.out _ (Below.refl _ _).drew).mono ?_; rintro e w' ⟨rfl, hbo⟩; have hths := (HTS.out _ hbo).1; have hths2 := (HTS.out _ hbo).2))
      have hP1 := HP.out
      have hst1 := hP1.st.on (hbo.block S hP1.st.lt)
      obtain ⟨hsp, hkp⟩ := hst1.put (i := i) (by omega) HX.out
      have hpe : putAt w' (.pointer (some ⟨S, 64 * i, none⟩)) (dC x).toArray = w'.setCells S (i * 64) (dC x) := by rw [show 64 * i = i * 64 by omega]; simp [putAt]
      rw [hpe] at hsp hkp
      obtain ⟨w1, hw1⟩ : ∃ w1, w1 = w'.setCells S (i * 64) (dC x) := ⟨_, rfl⟩
      rw [← hw1] at hsp hkp ⊢
      have hks : Keeps (· = S) wr w1 := (Keeps.of_below hbo).trans hkp
      have hdk1 := hP1.dk.keeps hks (fun k h e => (hP1.fb k h).2.2 e)
      have hx1 : (ds.set i x)[i]? = some x := by rw [List.getElem?_set, if_pos rfl, if_pos (by rw [hP1.st.dl]; omega)]
      obtain ⟨hdo, hdk⟩ := dat_range (hsp.data hx1) (by rw [dC_len, HX.out] : (dC x).length = 64)
      rw [show 64 * i = i * 64 by omega] at hdo hdk
      have HDW := Lib.hid (disk_write F D (List.replicate 6 zeroD) W i x (by simp; omega) HX.out (by rw [hP1.wl]; omega) w1 hdk1)
      have HS1 := Lib.hid (And.intro hsp hks)
      clear hP1 hst1 hsp hkp hpe hw1 hks hdk1 hx1 hths hths2 e0 hbo
      go_wp2_with fail
      refine HDW.out.mono ?_
      rintro e w2 ⟨rfl, hd2, hk2⟩
      have HN : Hid (P1 w.heap.size S D w (i + 1) (orNew F w1 w2) (W ++ [(i, x)]) (ds.set i x) w2) := Lib.hid (by
        have hP1 := HP.out
        have hsz := HS1.out.2.size
        have hss := HS.out
        refine ⟨HS1.out.1.on (hk2.block S HS1.out.1.lt fun h => (hP1.fb S h).2.2 rfl), hd2, by rw [List.length_append, hP1.wl]; rfl, fun k h => ?_, fun b hb => ?_, hP1.bl.trans ((HS1.out.2.below (fun k e => by omega) hP1.bl.size).trans (hk2.below (fun k h => (hP1.fb k h).1) (by have := hP1.bl.size; omega)))⟩
        · have := hk2.size
          have := HS1.out.1.lt
          rcases h with h | h
          · have := hP1.fb k h; exact ⟨this.1, by omega, this.2.2⟩
          · have h1 := h.1; have h2 := h.2; have := hP1.bl.size; exact ⟨by omega, h2, by omega⟩
        · rw [flushN_snoc]
          by_cases e : b = i
          · subst e; rw [ds_eq (by rw [hP1.st.dl]; omega), ds_eq (by rw [flushN_len]; simp; omega)]
          · rw [ds_ne (by omega), ds_ne (by omega)]; exact hP1.eq b hb)
      clear hd2 hk2
      go_wp2_with fail
      go_roundg (gk - 1)
      case measure => have := hk.out; omega
      case rel => exact ⟨i + 1, _, _, _, by have := hk.out; omega, by simp, HN.out⟩
    · have hP1 := HP.out
      have HDF := Lib.hid (disk_flush F D (List.replicate 6 zeroD) W (by simp) (by simp) (by rw [hP1.wl]; omega) wr hP1.dk)
      have he : ¬ (i : Int) < (fm : Int) ∨ ((i : Int) < (fm : Int) ∧ ¬ (i : Int) < 6) := by omega
      clear hP1 hi
      rcases he with he | ⟨he, he2⟩
      all_goals
        go_wp2_with fail
        refine HDF.out.mono ?_
        rintro e w1 ⟨rfl, hd1, hk1⟩
        obtain ⟨L, hL⟩ : ∃ L, L = flushN (List.replicate 6 zeroD) W W.length := ⟨_, rfl⟩
        rw [← hL] at hd1
        have H1 := Lib.hid (And.intro hd1 (And.intro hk1 hL))
        clear hd1 hk1 hL
        go_wp2_with fail
        refine (dev_of _ D _ _ w1 H1.out.1).mono ?_
        rintro e wb ⟨rfl, hxb, hbb⟩
        rw [show L.length = 6 by rw [H1.out.2.2, flushN_len]; rfl] at hxb
        have HB := Lib.hid (And.intro hxb hbb)
        clear hxb hbb
        go_wp2_with fail
        refine (cache_new w1.heap.size wb).mono ?_
        rintro e wc ⟨C, md, mc, rfl, hca, hmd, hmc, hn1, o1, o2, o3, hbc⟩
        have HC := Lib.hid (And.intro hca (And.intro hmd (And.intro hmc (And.intro hn1 (And.intro o1 (And.intro o2 (And.intro o3 hbc)))))))
        clear hca hmd hmc hn1 o1 o2 o3 hbc
        go_wp2_with fail
        refine (cache_begin C wc).mono ?_
        rintro e wd ⟨T, mo, rfl, htx, hmo, p1, p2, hbd⟩
        have hst := P1.start HP.out (by have := HS.out; omega) H1.out.2.2 H1.out.1 H1.out.2.1 HB.out.1 HB.out.2 HC.out.1 HC.out.2.1 HC.out.2.2.1 HC.out.2.2.2.1 HC.out.2.2.2.2.1 HC.out.2.2.2.2.2.1 HC.out.2.2.2.2.2.2.1 HC.out.2.2.2.2.2.2.2 htx hmo p1 hbd
        clear htx hmo p1 p2 hbd HC HB H1 HP HDF HP1
        generalize orNew F wr w1 = F2 at hst
        generalize w1.heap.size = E at hst
        obtain ⟨hpf, hp2⟩ := hst
        have HPF := Lib.hid hpf
        have HP2 := Lib.hid hp2
        clear hpf hp2
        go_wp2_with fail
        go_loopg [9, 10] 30 (fun k u v wq => ∃ (i T mo nd no nc : Nat) (r : Int) (Dd Do Dc : DataW Unit) (ds : List Dat) (bs : List Bool), k + i = 30 ∧ u = .pointer (some ⟨T, 0, none⟩) ∧ v = .int .i64 (i : Int) ∧ P2 E S C E D md mc F2 L w i (20 * i) T mo nd no nc r Dd Do Dc ds bs wq)
        case atStart => exact ⟨0, T, mo, 0, 0, 0, 0, _, _, _, _, _, by simp, rfl, rfl, HP2.out⟩
        case round =>
          obtain ⟨i, T, mo, nd, no, nc, r, Dd, Do, Dc, ds, bs, hk, rfl, rfl, hP⟩ := hrel
          have hk := Lib.hid hk
          have HP := Lib.hid hP
          by_cases hi : i < m ∧ i < 30
          · obtain ⟨him, hi30⟩ := hi
            have hi1 : (i : Int) < (m : Int) := by omega
            have hi2 : (i : Int) < 30 := by omega
            have hi3 : (0 : Int) ≤ (i : Int) := by omega
            have wr1 : IntKind.i64.wrap ((i : Int) + 1) = (i : Int) + 1 := by rw [IntKind.wrap_i64] <;> omega
            obtain ⟨⟨kind, db, dad, dcap, dl⟩, hc⟩ : ∃ c, l[i]? = some c := ⟨l[i]'(by have := HM.out.2; omega), List.getElem?_eq_getElem _⟩
            obtain ⟨g, o, rfl, e0, e1, e2, e3⟩ := (HL.out.below hP.bl).at' i _ hc
            simp only at e0 e1 e2 e3
            obtain ⟨g', o', e', -, -, -, hy0⟩ := HL.out.at' i _ hc
            simp only at hy0
            have hdo := does_p2 HPF.out hP (by omega) ⟨kind, db, dad, dcap, dl⟩ e3 (fun g1 o1 q1 q2 => by have := hy0.lt g1 o1 q1 q2; have := HPF.out.bs; omega)
            simp only at hdo
            obtain ⟨dn, hdn⟩ : ∃ dn, dn = dl.length := ⟨_, rfl⟩
            rw [← hdn] at hdo e2
            have HDO := Lib.hid hdo
            clear hP hc e3 e' hy0 hdo hdn
            go_wp2_with fail
            refine HDO.out.mono ?_
            rintro e w5 ⟨T2, mo2, nd2, no2, Dd2, Do2, ds2, bs2, rfl, hp5⟩
            have H5 := Lib.hid hp5
            clear hp5 HDO HP e0 e1 e2
            go_wp2_with fail
            obtain ⟨G0, hG0⟩ : ∃ G0, G0 = gk := ⟨_, rfl⟩
            have HG0 := Lib.hid hG0
            clear hG0
            go_loopg [13, 14] 6 (fun k u v wq => ∃ (b nc : Nat) (r : Int) (Dc : DataW Unit), k + b = 6 ∧ u = .int .i64 (costB bs2 b : Int) ∧ v = .int .i64 (b : Int) ∧ P2 E S C E D md mc F2 L w (i + 1) (20 * i + 2 * b) T2 mo2 nd2 no2 nc r Dd2 Do2 Dc ds2 bs2 wq)
            case atStart => exact ⟨0, nc, r, Dc, by simp, rfl, rfl, H5.out⟩
            case round =>
              obtain ⟨b, nc3, r3, Dc3, hk2, rfl, rfl, hP3⟩ := hrel
              have hk2 := Lib.hid hk2
              by_cases hb6 : b < 6
              · have hb1 : (b : Int) < 6 := by omega
                have hb3 : (0 : Int) ≤ (b : Int) := by omega
                have wr2 : IntKind.i64.wrap ((b : Int) + 1) = (b : Int) + 1 := by rw [IntKind.wrap_i64] <;> omega
                have wr3 : IntKind.i64.wrap ((costB bs2 b : Int) + 1) = (costB bs2 b : Int) + 1 := by have := costB_le bs2 b; rw [IntKind.wrap_i64] <;> omega
                obtain ⟨x, hx⟩ : ∃ x, x = atS ds2 bs2 b false := ⟨_, rfl⟩
                obtain ⟨y, hy⟩ : ∃ y, y = atS ds2 bs2 b true := ⟨_, rfl⟩
                have hx64 : x.length = 64 := by rw [hx]; exact atS_len hP3.al.st hb6 false
                have hy64 : y.length = 64 := by rw [hy]; exact atS_len hP3.al.st hb6 true
                have hrd := read_p2 HPF.out hP3 (by omega) hb6
                rw [← hx] at hrd
                have HRD := Lib.hid hrd
                have HXY := Lib.hid (And.intro hx (And.intro hy (And.intro hx64 hy64)))
                have agx := agg_ok (cs := dC x) (n := 64) (by rw [dC_len, hx64]) (dC_one x)
                have agy := agg_ok (cs := dC y) (n := 64) (by rw [dC_len, hy64]) (dC_one y)
                clear hrd hx hy hx64 hy64 hP3
                go_wp2_with fail
                refine HRD.out.mono ?_
                rintro e w6 ⟨rfl, ⟨r4, nc4, Dc4, hP4⟩, -⟩
                obtain ⟨w7, hw7⟩ : ∃ w7, w7 = w6.alloc (.cells (dC x).toArray 34) := ⟨_, rfl⟩
                obtain ⟨th7, pt7, hb7, hg7, hz7⟩ := lay_dat HXY.out.2.2.1 hw7
                have hP5 := hP4.below hb7
                have hrd2 := tread_p2 HPF.out hP5 (by omega) hb6
                rw [← HXY.out.2.1] at hrd2
                have HRD2 := Lib.hid hrd2
                have H7 := Lib.hid (And.intro hg7 (And.intro hz7 (And.intro hP4.al.ca.lt hP4.al.cc.lt)))
                clear hrd2 hP4 hP5 hb7 hg7 hz7 hw7 HRD
                go_wp2_with fail
                refine HRD2.out.mono ?_
                rintro e w8 ⟨rfl, ⟨r5, nc5, Dc5, hP6⟩, hk8⟩
                obtain ⟨w9, hw9⟩ : ∃ w9, w9 = w8.alloc (.cells (dC y).toArray 34) := ⟨_, rfl⟩
                obtain ⟨th9, pt9, hb9, hg9, hz9⟩ := lay_dat HXY.out.2.2.2 hw9
                have hgx : w9.heap[w6.heap.size]? = some (.cells (dC x).toArray 34 (0, 0)) := ((hb9.block w6.heap.size (by have := hk8.size; have := H7.out.2.1; omega)).trans (hk8.block w6.heap.size (by have := H7.out.2.1; omega) (by have := H7.out.2.2; omega))).trans H7.out.1
                have hP7 := hP6.below hb9
                have HSK : Hid (∀ w', Below w9.heap.size w9 w' → w'.rangeAt w6.heap.size 0 (dC x) ∧ w'.rangeAt w8.heap.size 0 (dC y)) := Lib.hid fun w' hb => by
                  have q1 := (hb.block w6.heap.size (by have := hk8.size; have := H7.out.2.1; omega)).trans hgx
                  have q2 := (hb.block w8.heap.size (by omega)).trans hg9
                  exact ⟨fun j v hv => by rw [Nat.zero_add, cell_of_row w' _ j _ _ _ q1, List.getElem?_toArray]; exact hv, fun j v hv => by rw [Nat.zero_add, cell_of_row w' _ j _ _ _ q2, List.getElem?_toArray]; exact hv⟩
                have HSA : Hid (∀ w', Below w9.heap.size w9 w' → Calls Tryz.prog 18 #[.pointer (some ⟨S, 0, none⟩), .int .i64 (b : Int), .bool false] w' fun e w'' => e = .returned (.agg (dC x).toArray) ∧ Below w9.heap.size w9 w'') := Lib.hid fun w' hb => by
                  refine (state_at S b false ds2 bs2 w' (hP7.below hb).al.st hb6).mono ?_
                  rintro e w'' ⟨he, h2⟩
                  exact ⟨by rw [HXY.out.1]; exact he, hb.trans (h2.mono hb.size)⟩
                have HSB : Hid (∀ w', Below w9.heap.size w9 w' → Calls Tryz.prog 18 #[.pointer (some ⟨S, 0, none⟩), .int .i64 (b : Int), .bool true] w' fun e w'' => e = .returned (.agg (dC y).toArray) ∧ Below w9.heap.size w9 w'') := Lib.hid fun w' hb => by
                  refine (state_at S b true ds2 bs2 w' (hP7.below hb).al.st hb6).mono ?_
                  rintro e w'' ⟨he, h2⟩
                  exact ⟨by rw [HXY.out.2.1]; exact he, hb.trans (h2.mono hb.size)⟩
                have HP7 := Lib.hid hP7
                have hdx := isDat_dC HXY.out.2.2.1
                have hdy := isDat_dC HXY.out.2.2.2
                have hex := datEq_dC x x
                rw [decide_eq_true rfl] at hex
                have hey := datEq_dC y y
                rw [decide_eq_true rfl] at hey
                have huu := Tryz.underlying34
                have hinx : (Tryz.prog.info? 34).map (·.size) = some (dC x).length := by rw [data_size, dC_len, HXY.out.2.2.1]
                have hiny : (Tryz.prog.info? 34).map (·.size) = some (dC y).length := by rw [data_size, dC_len, HXY.out.2.2.2]
                clear hk8 hw9 hb9 hg9 hz9 hgx hP6 hP7 HRD2
                go_wp2_with fail
                refine wp_region_held_drew (S := fun w' => w'.rangeAt w6.heap.size 0 (dC x) ∧ w'.rangeAt w8.heap.size 0 (dC y)) (by kernel_rfl) (HSK.out _ (Below.refl _ _).drew) (fun hHeld => ?_)
                refine' wpAnyH_take (i := 0) ?_ (by kernel_rfl) (by kernel_rfl) (by kernel_rfl) ?_ ?_ hHeld ?_
                first | (simp only [List.getElem?_toArray, List.getElem?_cons_succ, List.getElem?_cons_zero]; rfl) | (rotate_left; simp only [List.getElem?_toArray, List.getElem?_cons_succ, List.getElem?_cons_zero]; rfl) | (rotate_left 2; simp only [List.getElem?_toArray, List.getElem?_cons_succ, List.getElem?_cons_zero]; rfl) | (rotate_left 3; simp only [List.getElem?_toArray, List.getElem?_cons_succ, List.getElem?_cons_zero]; rfl)
                rotate_left
                · exact Or.inl ⟨by rfl, by intro w hSw; (try dsimp only at hSw); go_simp; try (with_reducible rfl)⟩
                rotate_left
                · exact fun _ _ _ h => h
                try simp only [Act.put, List.setIfInBounds_toArray, List.set_cons_zero, List.set_cons_succ]
                refine' wpAnyH_take (i := 1) ?_ (by kernel_rfl) (by kernel_rfl) (by kernel_rfl) ?_ ?_ hHeld ?_
                first | (simp only [List.getElem?_toArray, List.getElem?_cons_succ, List.getElem?_cons_zero]; rfl) | (rotate_left; simp only [List.getElem?_toArray, List.getElem?_cons_succ, List.getElem?_cons_zero]; rfl) | (rotate_left 2; simp only [List.getElem?_toArray, List.getElem?_cons_succ, List.getElem?_cons_zero]; rfl) | (rotate_left 3; simp only [List.getElem?_toArray, List.getElem?_cons_succ, List.getElem?_cons_zero]; rfl)
                rotate_left
                · exact Or.inl ⟨by rfl, by intro w hSw; (try dsimp only at hSw); go_simp; try (with_reducible rfl)⟩
                rotate_left
                · exact fun _ _ _ h => h
                try simp only [Act.put, List.setIfInBounds_toArray, List.set_cons_zero, List.set_cons_succ]
                refine' wpAnyH_take (i := 2) ?_ (by kernel_rfl) (by kernel_rfl) (by kernel_rfl) ?_ ?_ hHeld ?_
                first | (simp only [List.getElem?_toArray, List.getElem?_cons_succ, List.getElem?_cons_zero]; rfl) | (rotate_left; simp only [List.getElem?_toArray, List.getElem?_cons_succ, List.getElem?_cons_zero]; rfl) | (rotate_left 2; simp only [List.getElem?_toArray, List.getElem?_cons_succ, List.getElem?_cons_zero]; rfl) | (rotate_left 3; simp only [List.getElem?_toArray, List.getElem?_cons_succ, List.getElem?_cons_zero]; rfl)
                rotate_left
                · exact Or.inl ⟨by rfl, by intro w hSw; (try dsimp only at hSw); go_simp; try (with_reducible rfl)⟩
                rotate_left
                · exact fun _ _ _ h => h
                try simp only [Act.put, List.setIfInBounds_toArray, List.set_cons_zero, List.set_cons_succ]
                refine' wpAnyH_take (i := 3) ?_ (by kernel_rfl) (by kernel_rfl) (by kernel_rfl) ?_ ?_ hHeld ?_
                first | (simp only [List.getElem?_toArray, List.getElem?_cons_succ, List.getElem?_cons_zero]; rfl) | (rotate_left; simp only [List.getElem?_toArray, List.getElem?_cons_succ, List.getElem?_cons_zero]; rfl) | (rotate_left 2; simp only [List.getElem?_toArray, List.getElem?_cons_succ, List.getElem?_cons_zero]; rfl) | (rotate_left 3; simp only [List.getElem?_toArray, List.getElem?_cons_succ, List.getElem?_cons_zero]; rfl)
                rotate_left
                · exact Or.inl ⟨by rfl, by intro w hSw; (try dsimp only at hSw); go_simp; try (with_reducible rfl)⟩
                rotate_left
                · exact fun _ _ _ h => h
                try simp only [Act.put, List.setIfInBounds_toArray, List.set_cons_zero, List.set_cons_succ]
                refine' wpAnyH_take (i := 4) ?_ (by kernel_rfl) (by kernel_rfl) (by kernel_rfl) ?_ ?_ hHeld ?_
                first | (simp only [List.getElem?_toArray, List.getElem?_cons_succ, List.getElem?_cons_zero]; rfl) | (rotate_left; simp only [List.getElem?_toArray, List.getElem?_cons_succ, List.getElem?_cons_zero]; rfl) | (rotate_left 2; simp only [List.getElem?_toArray, List.getElem?_cons_succ, List.getElem?_cons_zero]; rfl) | (rotate_left 3; simp only [List.getElem?_toArray, List.getElem?_cons_succ, List.getElem?_cons_zero]; rfl)
                rotate_left
                · exact Or.inl ⟨by rfl, by intro w hSw; (try dsimp only at hSw); go_simp; try (with_reducible rfl)⟩
                rotate_left
                · exact fun _ _ _ h => h
                try simp only [Act.put, List.setIfInBounds_toArray, List.set_cons_zero, List.set_cons_succ]
                refine' wpAnyH_take (i := 5) ?_ (by kernel_rfl) (by kernel_rfl) (by kernel_rfl) ?_ ?_ hHeld ?_
                first | (simp only [List.getElem?_toArray, List.getElem?_cons_succ, List.getElem?_cons_zero]; rfl) | (rotate_left; simp only [List.getElem?_toArray, List.getElem?_cons_succ, List.getElem?_cons_zero]; rfl) | (rotate_left 2; simp only [List.getElem?_toArray, List.getElem?_cons_succ, List.getElem?_cons_zero]; rfl) | (rotate_left 3; simp only [List.getElem?_toArray, List.getElem?_cons_succ, List.getElem?_cons_zero]; rfl)
                rotate_left
                · exact Or.inl ⟨by rfl, by intro w hSw; (try dsimp only at hSw); go_simp; try (with_reducible rfl)⟩
                rotate_left
                · exact fun _ _ _ h => h
                try simp only [Act.put, List.setIfInBounds_toArray, List.set_cons_zero, List.set_cons_succ]
                refine' wpAnyH_take (i := 6) ?_ (by kernel_rfl) (by kernel_rfl) (by kernel_rfl) ?_ ?_ hHeld ?_
                first | (simp only [List.getElem?_toArray, List.getElem?_cons_succ, List.getElem?_cons_zero]; rfl) | (rotate_left; simp only [List.getElem?_toArray, List.getElem?_cons_succ, List.getElem?_cons_zero]; rfl) | (rotate_left 2; simp only [List.getElem?_toArray, List.getElem?_cons_succ, List.getElem?_cons_zero]; rfl) | (rotate_left 3; simp only [List.getElem?_toArray, List.getElem?_cons_succ, List.getElem?_cons_zero]; rfl)
                rotate_left
                · exact Or.inl ⟨by rfl, by intro w hSw; (try dsimp only at hSw); go_simp; try (with_reducible rfl)⟩
                rotate_left
                · exact fun _ _ _ h => h
                try simp only [Act.put, List.setIfInBounds_toArray, List.set_cons_zero, List.set_cons_succ]
                refine' wpAnyH_take (i := 7) ?_ (by kernel_rfl) (by kernel_rfl) (by kernel_rfl) ?_ ?_ hHeld ?_
                first | (simp only [List.getElem?_toArray, List.getElem?_cons_succ, List.getElem?_cons_zero]; rfl) | (rotate_left; simp only [List.getElem?_toArray, List.getElem?_cons_succ, List.getElem?_cons_zero]; rfl) | (rotate_left 2; simp only [List.getElem?_toArray, List.getElem?_cons_succ, List.getElem?_cons_zero]; rfl) | (rotate_left 3; simp only [List.getElem?_toArray, List.getElem?_cons_succ, List.getElem?_cons_zero]; rfl)
                rotate_left
                · exact yieldsIf_load_mid (by rfl) _ _ rfl _ _ rfl (dC x) _ (by intro w hSw; (try dsimp only at hSw); go_split_ands; assumption) huu rfl hinx
                rotate_left
                · exact fun _ _ _ h => h
                try simp only [Act.put, List.setIfInBounds_toArray, List.set_cons_zero, List.set_cons_succ]
                refine' wpAnyH_take (i := 8) ?_ (by kernel_rfl) (by kernel_rfl) (by kernel_rfl) ?_ ?_ hHeld ?_
                first | (simp only [List.getElem?_toArray, List.getElem?_cons_succ, List.getElem?_cons_zero]; rfl) | (rotate_left; simp only [List.getElem?_toArray, List.getElem?_cons_succ, List.getElem?_cons_zero]; rfl) | (rotate_left 2; simp only [List.getElem?_toArray, List.getElem?_cons_succ, List.getElem?_cons_zero]; rfl) | (rotate_left 3; simp only [List.getElem?_toArray, List.getElem?_cons_succ, List.getElem?_cons_zero]; rfl)
                rotate_left
                · exact Or.inl ⟨by rfl, by intro w hSw; (try dsimp only at hSw); go_simp; try (with_reducible rfl)⟩
                rotate_left
                · exact fun _ _ _ h => h
                try simp only [Act.put, List.setIfInBounds_toArray, List.set_cons_zero, List.set_cons_succ]
                refine' wpAnyH_take (i := 9) ?_ (by kernel_rfl) (by kernel_rfl) (by kernel_rfl) ?_ ?_ hHeld ?_
                first | (simp only [List.getElem?_toArray, List.getElem?_cons_succ, List.getElem?_cons_zero]; rfl) | (rotate_left; simp only [List.getElem?_toArray, List.getElem?_cons_succ, List.getElem?_cons_zero]; rfl) | (rotate_left 2; simp only [List.getElem?_toArray, List.getElem?_cons_succ, List.getElem?_cons_zero]; rfl) | (rotate_left 3; simp only [List.getElem?_toArray, List.getElem?_cons_succ, List.getElem?_cons_zero]; rfl)
                rotate_left
                · exact Or.inl ⟨by rfl, by intro w hSw; (try dsimp only at hSw); go_simp; try (with_reducible rfl)⟩
                rotate_left
                · exact fun _ _ _ h => h
                try simp only [Act.put, List.setIfInBounds_toArray, List.set_cons_zero, List.set_cons_succ]
                refine wpAnyH_ready (rs := [10]) (by kernel_rfl) (by simp) ?_
                refine' AllReadyH.cons ?_ (fun K hK => ?_) AllReadyH.nil
                first | (simp only [List.getElem?_toArray, List.getElem?_cons_succ, List.getElem?_cons_zero]; rfl) | (rotate_left; simp only [List.getElem?_toArray, List.getElem?_cons_succ, List.getElem?_cons_zero]; rfl) | (rotate_left 2; simp only [List.getElem?_toArray, List.getElem?_cons_succ, List.getElem?_cons_zero]; rfl) | (rotate_left 3; simp only [List.getElem?_toArray, List.getElem?_cons_succ, List.getElem?_cons_zero]; rfl)
                go_simp
                go_at_call 18
                refine (HSA.out _ (Below.refl _ _).drew).mono ?_
                rintro e w10 ⟨rfl, hq1⟩
                refine hK.out _ _ (HSK.out _ hq1) (fun hHeld => ?_)
                clear hK K
                try simp only [Act.put, List.setIfInBounds_toArray, List.set_cons_zero, List.set_cons_succ]
                refine' wpAnyH_take (i := 11) ?_ (by kernel_rfl) (by kernel_rfl) (by kernel_rfl) ?_ ?_ hHeld ?_
                first | (simp only [List.getElem?_toArray, List.getElem?_cons_succ, List.getElem?_cons_zero]; rfl) | (rotate_left; simp only [List.getElem?_toArray, List.getElem?_cons_succ, List.getElem?_cons_zero]; rfl) | (rotate_left 2; simp only [List.getElem?_toArray, List.getElem?_cons_succ, List.getElem?_cons_zero]; rfl) | (rotate_left 3; simp only [List.getElem?_toArray, List.getElem?_cons_succ, List.getElem?_cons_zero]; rfl)
                rotate_left
                · exact Or.inl ⟨by rfl, by intro w hSw; (try dsimp only at hSw); go_simp; try (with_reducible rfl)⟩
                rotate_left
                · exact fun _ _ _ h => h
                try simp only [Act.put, List.setIfInBounds_toArray, List.set_cons_zero, List.set_cons_succ]
                refine' wpAnyH_take (i := 12) ?_ (by kernel_rfl) (by kernel_rfl) (by kernel_rfl) ?_ ?_ hHeld ?_
                first | (simp only [List.getElem?_toArray, List.getElem?_cons_succ, List.getElem?_cons_zero]; rfl) | (rotate_left; simp only [List.getElem?_toArray, List.getElem?_cons_succ, List.getElem?_cons_zero]; rfl) | (rotate_left 2; simp only [List.getElem?_toArray, List.getElem?_cons_succ, List.getElem?_cons_zero]; rfl) | (rotate_left 3; simp only [List.getElem?_toArray, List.getElem?_cons_succ, List.getElem?_cons_zero]; rfl)
                rotate_left
                · exact Or.inl ⟨by rfl, by intro w hSw; (try dsimp only at hSw); go_simp; try (with_reducible rfl)⟩
                rotate_left
                · exact fun _ _ _ h => h
                try simp only [Act.put, List.setIfInBounds_toArray, List.set_cons_zero, List.set_cons_succ]
                refine' wpAnyH_take (i := 13) ?_ (by kernel_rfl) (by kernel_rfl) (by kernel_rfl) ?_ ?_ hHeld ?_
                first | (simp only [List.getElem?_toArray, List.getElem?_cons_succ, List.getElem?_cons_zero]; rfl) | (rotate_left; simp only [List.getElem?_toArray, List.getElem?_cons_succ, List.getElem?_cons_zero]; rfl) | (rotate_left 2; simp only [List.getElem?_toArray, List.getElem?_cons_succ, List.getElem?_cons_zero]; rfl) | (rotate_left 3; simp only [List.getElem?_toArray, List.getElem?_cons_succ, List.getElem?_cons_zero]; rfl)
                rotate_left
                · exact Or.inl ⟨by rfl, by intro w hSw; (try dsimp only at hSw); go_simp; try (with_reducible rfl)⟩
                rotate_left
                · exact fun _ _ _ h => h
                try simp only [Act.put, List.setIfInBounds_toArray, List.set_cons_zero, List.set_cons_succ]
                refine' wpAnyH_take (i := 14) ?_ (by kernel_rfl) (by kernel_rfl) (by kernel_rfl) ?_ ?_ hHeld ?_
                first | (simp only [List.getElem?_toArray, List.getElem?_cons_succ, List.getElem?_cons_zero]; rfl) | (rotate_left; simp only [List.getElem?_toArray, List.getElem?_cons_succ, List.getElem?_cons_zero]; rfl) | (rotate_left 2; simp only [List.getElem?_toArray, List.getElem?_cons_succ, List.getElem?_cons_zero]; rfl) | (rotate_left 3; simp only [List.getElem?_toArray, List.getElem?_cons_succ, List.getElem?_cons_zero]; rfl)
                rotate_left
                · exact yieldsIf_load_mid (by rfl) _ _ rfl _ _ rfl (dC y) _ (by intro w hSw; (try dsimp only at hSw); go_split_ands; assumption) huu rfl hiny
                rotate_left
                · exact fun _ _ _ h => h
                try simp only [Act.put, List.setIfInBounds_toArray, List.set_cons_zero, List.set_cons_succ]
                refine' wpAnyH_take (i := 15) ?_ (by kernel_rfl) (by kernel_rfl) (by kernel_rfl) ?_ ?_ hHeld ?_
                first | (simp only [List.getElem?_toArray, List.getElem?_cons_succ, List.getElem?_cons_zero]; rfl) | (rotate_left; simp only [List.getElem?_toArray, List.getElem?_cons_succ, List.getElem?_cons_zero]; rfl) | (rotate_left 2; simp only [List.getElem?_toArray, List.getElem?_cons_succ, List.getElem?_cons_zero]; rfl) | (rotate_left 3; simp only [List.getElem?_toArray, List.getElem?_cons_succ, List.getElem?_cons_zero]; rfl)
                rotate_left
                · exact Or.inl ⟨by rfl, by intro w hSw; (try dsimp only at hSw); go_simp; try (with_reducible rfl)⟩
                rotate_left
                · exact fun _ _ _ h => h
                try simp only [Act.put, List.setIfInBounds_toArray, List.set_cons_zero, List.set_cons_succ]
                refine' wpAnyH_take (i := 16) ?_ (by kernel_rfl) (by kernel_rfl) (by kernel_rfl) ?_ ?_ hHeld ?_
                first | (simp only [List.getElem?_toArray, List.getElem?_cons_succ, List.getElem?_cons_zero]; rfl) | (rotate_left; simp only [List.getElem?_toArray, List.getElem?_cons_succ, List.getElem?_cons_zero]; rfl) | (rotate_left 2; simp only [List.getElem?_toArray, List.getElem?_cons_succ, List.getElem?_cons_zero]; rfl) | (rotate_left 3; simp only [List.getElem?_toArray, List.getElem?_cons_succ, List.getElem?_cons_zero]; rfl)
                rotate_left
                · exact Or.inl ⟨by rfl, by intro w hSw; (try dsimp only at hSw); go_simp; try (with_reducible rfl)⟩
                rotate_left
                · exact fun _ _ _ h => h
                try simp only [Act.put, List.setIfInBounds_toArray, List.set_cons_zero, List.set_cons_succ]
                refine wpAnyH_ready (rs := [17]) (by kernel_rfl) (by simp) ?_
                refine' AllReadyH.cons ?_ (fun K hK => ?_) AllReadyH.nil
                first | (simp only [List.getElem?_toArray, List.getElem?_cons_succ, List.getElem?_cons_zero]; rfl) | (rotate_left; simp only [List.getElem?_toArray, List.getElem?_cons_succ, List.getElem?_cons_zero]; rfl) | (rotate_left 2; simp only [List.getElem?_toArray, List.getElem?_cons_succ, List.getElem?_cons_zero]; rfl) | (rotate_left 3; simp only [List.getElem?_toArray, List.getElem?_cons_succ, List.getElem?_cons_zero]; rfl)
                go_simp
                go_at_call 18
                refine (HSB.out _ hq1).mono ?_
                rintro e w11 ⟨rfl, hq2⟩
                refine hK.out _ _ (HSK.out _ hq2) (fun hHeld => ?_)
                clear hK K
                try simp only [Act.put, List.setIfInBounds_toArray, List.set_cons_zero, List.set_cons_succ]
                refine' wpAnyH_take (i := 18) ?_ (by kernel_rfl) (by kernel_rfl) (by kernel_rfl) ?_ ?_ hHeld ?_
                first | (simp only [List.getElem?_toArray, List.getElem?_cons_succ, List.getElem?_cons_zero]; rfl) | (rotate_left; simp only [List.getElem?_toArray, List.getElem?_cons_succ, List.getElem?_cons_zero]; rfl) | (rotate_left 2; simp only [List.getElem?_toArray, List.getElem?_cons_succ, List.getElem?_cons_zero]; rfl) | (rotate_left 3; simp only [List.getElem?_toArray, List.getElem?_cons_succ, List.getElem?_cons_zero]; rfl)
                rotate_left
                · exact Or.inl ⟨by rfl, by intro w hSw; (try dsimp only at hSw); go_simp; try (with_reducible rfl)⟩
                rotate_left
                · exact fun _ _ _ h => h
                try simp only [Act.put, List.setIfInBounds_toArray, List.set_cons_zero, List.set_cons_succ]
                refine' wpAnyH_take (i := 19) ?_ (by kernel_rfl) (by kernel_rfl) (by kernel_rfl) ?_ ?_ hHeld ?_
                first | (simp only [List.getElem?_toArray, List.getElem?_cons_succ, List.getElem?_cons_zero]; rfl) | (rotate_left; simp only [List.getElem?_toArray, List.getElem?_cons_succ, List.getElem?_cons_zero]; rfl) | (rotate_left 2; simp only [List.getElem?_toArray, List.getElem?_cons_succ, List.getElem?_cons_zero]; rfl) | (rotate_left 3; simp only [List.getElem?_toArray, List.getElem?_cons_succ, List.getElem?_cons_zero]; rfl)
                rotate_left
                · exact Or.inl ⟨by rfl, by intro w hSw; (try dsimp only at hSw); go_simp; try (with_reducible rfl)⟩
                rotate_left
                · exact fun _ _ _ h => h
                try simp only [Act.put, List.setIfInBounds_toArray, List.set_cons_zero, List.set_cons_succ]
                refine wpAnyH_done (by kernel_rfl) ?_ _
                have hP8 := (HP7.out.below hq2).le (show 20 * i + 2 * b + 1 + 1 ≤ 20 * i + 2 * (b + 1) by omega)
                obtain ⟨f2, f1⟩ := hP8.flags hb6
                have hcs := costB_succ bs2 b
                have HP8 := Lib.hid hP8
                generalize bs2.getD (12 + b) false = u2 at f2 hcs
                generalize bs2.getD (6 + b) false = u1 at f1 hcs
                clear hq1 hq2 hP8 HSA HSB HSK HP7
                cases u2 <;> cases u1 <;> simp only [Bool.true_and, Bool.false_and, Bool.not_true, Bool.not_false, if_true, if_false, reduceCtorEq, Nat.add_zero] at hcs
                all_goals
                  go_wp2_with fail
                  go_roundg (gk - 1)
                  case measure => have := hk2.out; omega
                  case rel => exact ⟨b + 1, nc5, r5, Dc5, by have := hk2.out; omega, by first | (rw [hcs]; done) | (rw [hcs]; simp), by simp, HP8.out⟩
              · have hb1 : ¬ (b : Int) < 6 := by omega
                have hb7 : b = 6 := by have := hk2.out; omega
                have hcb : costB bs2 b = costB bs2 6 := by rw [hb7]
                rw [hcb]
                have HDI : Hid (∀ w', Below wr.heap.size wr w' → Calls Tryz.prog 14 #[.pointer (some ⟨C, 0, none⟩)] w' fun e w'' => (∃ ad cap, e = .returned (.slice ad (kI bs2 1).length cap) ∧ IReads w'' ad (kI bs2 1)) ∧ Below w'.heap.size w' w'' ∧ Below wr.heap.size wr w'') := Lib.hid fun w' hb => by
                  refine (dirty_p2 (hP3.below hb) (by omega)).mono ?_
                  rintro e w'' ⟨he, h2⟩
                  exact ⟨he, h2, hb.trans (h2.mono hb.size)⟩
                have HOW : Hid (∀ w', Below wr.heap.size wr w' → Calls Tryz.prog 21 #[.pointer (some ⟨T2, 0, none⟩)] w' fun e w'' => (∃ ad cap, e = .returned (.slice ad (kI bs2 2).length cap) ∧ IReads w'' ad (kI bs2 2)) ∧ Below w'.heap.size w' w'' ∧ Below wr.heap.size wr w'') := Lib.hid fun w' hb => by
                  refine (own_p2 (hP3.below hb) (by omega)).mono ?_
                  rintro e w'' ⟨he, h2⟩
                  exact ⟨he, h2, hb.trans (h2.mono hb.size)⟩
                have HBL : Hid (∀ w' (row : Nat), row < 3 → Below wr.heap.size wr w' → Calls Tryz.prog 20 #[.pointer (some ⟨S, 0, none⟩), .int .i64 (row : Int)] w' fun e w'' => (∃ ad cap, e = .returned (.slice ad (kI bs2 row).length cap) ∧ IReads w'' ad (kI bs2 row)) ∧ Below w'.heap.size w' w'' ∧ Below wr.heap.size wr w'') := Lib.hid fun w' row hrow hb => by
                  refine (blocks_p2 (hP3.below hb) row hrow).mono ?_
                  rintro e w'' ⟨he, h2⟩
                  exact ⟨he, h2, hb.trans (h2.mono hb.size)⟩
                have HSI : Hid (∀ (row : Nat) ad ad' cap cap' w', IReads w' ad (kI bs2 row) → IReads w' ad' (kI bs2 row) → Below wr.heap.size wr w' → Calls Tryz.prog 19 #[.slice ad (kI bs2 row).length cap, .slice ad' (kI bs2 row).length cap'] w' fun e w'' => e = .returned (.bool true) ∧ Below wr.heap.size wr w'') := Lib.hid fun row ad ad' cap cap' w' h1 h2 hb => by
                  refine (same_ints ad ad' cap cap' (kI bs2 row) (kI bs2 row) (by have := kI_le bs2 row; omega) w' h1 h2).mono ?_
                  rintro e w'' ⟨he, h2⟩
                  rw [decide_eq_true rfl] at he
                  exact ⟨he, hb.trans (h2.mono hb.size)⟩
                have HCO : Hid (∀ w', Below wr.heap.size wr w' → Calls Tryz.prog 22 #[.pointer (some ⟨T2, 0, none⟩)] w' fun e w'' => e = .returned (.int .i64 (costB bs2 6 : Int)) ∧ Below wr.heap.size wr w'') := Lib.hid fun w' hb => by
                  refine (cost_p2 (hP3.below hb) (by omega)).mono ?_
                  rintro e w'' ⟨he, h2⟩
                  exact ⟨he, hb.trans (h2.mono hb.size)⟩
                have HWA : Hid (∀ w', Below wr.heap.size wr w' → Calls Tryz.prog 23 #[.pointer (some ⟨D, 0, none⟩)] w' fun e w'' => e = .returned (.slice none 0 0) ∧ w'' = w') := Lib.hid fun w' hb => waiting_p2 (hP3.below hb)
                obtain ⟨zz, hzz⟩ : ∃ zz, zz = zeroD := ⟨_, rfl⟩
                have hz64 : zz.length = 64 := by rw [hzz]; rfl
                have HRO : Hid (∀ w', Below wr.heap.size wr w' → Calls Tryz.prog 13 #[.pointer (some ⟨C, 0, none⟩), .int .i64 6] w' fun e w'' => e = .returned (.tuple #[.agg (dC zz).toArray, .bool false]) ∧ Below wr.heap.size wr w'') := Lib.hid fun w' hb => by
                  refine (read_out_p2 (hP3.below hb) (b := 6) (by omega) (by omega)).mono ?_
                  rintro e w'' ⟨he, h2⟩
                  exact ⟨by rw [hzz]; exact he, hb.trans (h2.mono hb.size)⟩
                have HTO : Hid (∀ w', Below wr.heap.size wr w' → Calls Tryz.prog 17 #[.pointer (some ⟨T2, 0, none⟩), .int .i64 (-1)] w' fun e w'' => e = .returned (.tuple #[.agg (dC zz).toArray, .bool false]) ∧ Below wr.heap.size wr w'') := Lib.hid fun w' hb => by
                  refine (tread_out_p2 (hP3.below hb) (b := -1) (by omega) (by omega)).mono ?_
                  rintro e w'' ⟨he, h2⟩
                  exact ⟨by rw [hzz]; exact he, hb.trans (h2.mono hb.size)⟩
                have HP3 := Lib.hid hP3
                have HZ64 := Lib.hid hz64
                have agz := agg_ok (cs := dC zz) (n := 64) (by rw [dC_len, hz64]) (dC_one zz)
                clear hP3 hzz hz64 hb7 hcb
                go_wp2_with fail
                refine (HDI.out _ (Below.refl _ _)).mono ?_
                rintro e v1 ⟨⟨ad1, cap1, rfl, ir1⟩, -, q1⟩
                have HQ1 := Lib.hid (And.intro ir1 q1)
                clear ir1 q1
                go_wp2_with fail
                refine (HBL.out v1 1 (by decide) HQ1.out.2).mono ?_
                rintro e v2 ⟨⟨ad2, cap2, rfl, ir2⟩, q2, q3⟩
                have HQ2 := Lib.hid (And.intro (HQ1.out.1.below q2) (And.intro ir2 q3))
                clear ir2 q2 q3
                go_wp2_with fail
                refine (HSI.out 1 ad1 ad2 cap1 cap2 v2 HQ2.out.1 HQ2.out.2.1 HQ2.out.2.2).mono ?_
                rintro e v3 ⟨rfl, q3⟩
                have HQ3 := Lib.hid q3
                clear q3
                go_wp2_with fail
                refine (HOW.out _ HQ3.out).mono ?_
                rintro e v4 ⟨⟨ad3, cap3, rfl, ir3⟩, -, q4⟩
                have HQ4 := Lib.hid (And.intro ir3 q4)
                clear ir3 q4
                go_wp2_with fail
                refine (HBL.out v4 2 (by decide) HQ4.out.2).mono ?_
                rintro e v5 ⟨⟨ad4, cap4, rfl, ir4⟩, q5, q6⟩
                have HQ5 := Lib.hid (And.intro (HQ4.out.1.below q5) (And.intro ir4 q6))
                clear ir4 q5 q6
                go_wp2_with fail
                refine (HSI.out 2 ad3 ad4 cap3 cap4 v5 HQ5.out.1 HQ5.out.2.1 HQ5.out.2.2).mono ?_
                rintro e v6 ⟨rfl, q6⟩
                have HQ6 := Lib.hid q6
                clear q6
                go_wp2_with fail
                refine (HCO.out _ HQ6.out).mono ?_
                rintro e v7 ⟨rfl, q7⟩
                have HQ7 := Lib.hid q7
                clear q7
                go_wp2_with fail
                refine (HWA.out _ HQ7.out).mono ?_
                rintro e v8 ⟨rfl, hv8⟩
                rw [hv8]
                clear hv8 v8
                go_wp2_with fail
                refine (HRO.out _ HQ7.out).mono ?_
                rintro e v9 ⟨rfl, q9⟩
                obtain ⟨x9, hx9⟩ : ∃ x9, x9 = v9.alloc (.cells (dC zz).toArray 34) := ⟨_, rfl⟩
                obtain ⟨th9, pt9, hb9, -, -⟩ := lay_dat HZ64.out hx9
                have HQ9 := Lib.hid (q9.trans (hb9.mono q9.size))
                clear q9 hx9 hb9
                go_wp2_with fail
                refine (HTO.out _ HQ9.out).mono ?_
                rintro e v10 ⟨rfl, q10⟩
                obtain ⟨x10, hx10⟩ : ∃ x10, x10 = v10.alloc (.cells (dC zz).toArray 34) := ⟨_, rfl⟩
                obtain ⟨th10, pt10, hb10, -, -⟩ := lay_dat HZ64.out hx10
                have HQ10 := Lib.hid (q10.trans (hb10.mono q10.size))
                clear q10 hx10 hb10
                go_wp2_with fail
                go_roundg (G0 - 1)
                case measure => have := hk.out; have := HG0.out; omega
                case rel => exact ⟨i + 1, T2, mo2, nd2, no2, nc3, r3, Dd2, Do2, Dc3, ds2, bs2, by have := hk.out; have := HG0.out; omega, rfl, by simp, (HP3.out.below HQ10.out).le (by have := hk2.out; omega)⟩
          · have hr6 : r ≤ 6 := hP.r6
            have he : ¬ (i : Int) < (m : Int) ∨ ((i : Int) < (m : Int) ∧ ¬ (i : Int) < 30) := by omega
            have HRR := Lib.hid (reads_p2 hP)
            have HAW : Hid (Calls Tryz.prog 15 #[] wr fun e w'' => e = .returned (.bool true) ∧ Below w.heap.size w w'') := Lib.hid (by
              refine (law_awake wr).mono ?_
              rintro e w'' ⟨he, h2⟩
              exact ⟨he, hP.bl.trans (h2.mono hP.bl.size)⟩)
            clear hP hi
            rcases he with he | ⟨he, he2⟩
            all_goals
              go_wp2_with fail
              refine HRR.out.mono ?_
              rintro e v1 ⟨rfl, hv1⟩
              rw [hv1]
              clear hv1 v1
              go_wp2_with fail
              refine HAW.out.mono ?_
              rintro e v2 ⟨rfl, q2⟩
              have HQ2 := Lib.hid q2
              clear q2
              go_wp2_with fail
              go_ret
              exact ⟨rfl, HQ2.out⟩
end Go.Proofs.YtonmppchbdffcaaGreat
