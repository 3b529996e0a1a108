/- asm.Read: a text's words. -/
import Derived.Test.YtapjfcljbdlnkaaGreatDoorAsmBound
namespace Go.Proofs.YtapjfcljbdlnkaaGreatDoor
open Go Go.RowKit Go.Lib
set_option maxRecDepth 100000

def rdCells (m : Nat) : List Value := [.int .u32 0, .int .i32 0, .int .u32 0] ++ (List.replicate 25 (.int .i64 0) ++ [.map (some m), .slice none 0 0])
theorem reader_new (w : World) (lo : Nat) : RdAt ((w.alloc (.map #[] 0)).alloc (.cells (rdCells w.heap.size).toArray 53)) lo (w.heap.size + 1) w.heap.size [] [] ∧
    TabN ((w.alloc (.map #[] 0)).alloc (.cells (rdCells w.heap.size).toArray 53)) (w.heap.size + 1) := by
  have hb : ((w.alloc (.map #[] 0)).alloc (.cells (rdCells w.heap.size).toArray 53)).heap[w.heap.size + 1]? = some (.cells (rdCells w.heap.size).toArray 53 (0, 0)) := by
    have := heap_alloc_new (w.alloc (.map #[] 0)) (.cells (rdCells w.heap.size).toArray 53)
    simpa using this
  have hc := fun j => cell_of_row _ (w.heap.size + 1) j _ _ _ hb
  have hf := fun j => frozen_of_row _ (w.heap.size + 1) j _ _ hb
  refine ⟨⟨⟨_, hb⟩, ?_, hf 29, ⟨.map [], ((World.ownsMap_made w Tryz.prog 9 (plainElem Tryz.prog 3)).alloc _), labD_nil⟩, ⟨.slice none 0 0, [], ?_, rfl, World.ownsRow_nil _ _ _ _, by simp⟩⟩, ⟨?_, ?_, hf 0, hf 1, fun i hi => ⟨?_, hf _⟩⟩⟩
  · rw [hc 28]; rfl
  · rw [hc 29]; rfl
  · rw [hc 0]; rfl
  · rw [hc 1]; rfl
  · rw [hc (3 + i)]
    simp only [rdCells, List.getElem?_toArray]
    rw [List.getElem?_append_right (by simp), List.getElem?_append_left (by simp; omega)]
    rw [List.getElem?_replicate, if_pos (by simp; omega)]

set_option maxHeartbeats 12800000 in
theorem read_any (s : List UInt8) (hs : s.length ≤ 100000) (w : World) (he : Errs w) :
    Calls Tryz.prog 6 #[.string (bs s)] w (ReadPost w (readP s)) := by
  have HFI := Lib.hid (fun b m n₀ w1 (h1 : RdAt w1 (w1.heap.size + 7) b m [] []) (h2 : n₀ ≤ b) (h3 : n₀ ≤ m) => asm_first b m n₀ s hs w1 h1 h2 h3)
  have HBD := Lib.hid (fun x (h : firstP s = .ok x) => first_bounds hs h)
  have HE := Lib.hid he
  have hmk : (Instr.makeMap 35 none).run Tryz.prog w = .ok (.map (some w.heap.size)) (w.alloc (.map #[] 0)) := run_makeMap _ _
  obtain ⟨i0, hi0, hz0, hz1, hz2⟩ := info_parts u32_info
  clear he
  go_enter Tryz.func6, Tryz.ntmps6
  go_wp2_with fail
  clear hmk
  obtain ⟨W1, hW1⟩ : ∃ W1, ((w.alloc (.map #[] 0)).alloc (.cells #[.int .u32 0, .int .i32 0, .int .u32 0, .int .i64 0, .int .i64 0, .int .i64 0, .int .i64 0, .int .i64 0, .int .i64 0, .int .i64 0, .int .i64 0, .int .i64 0, .int .i64 0, .int .i64 0, .int .i64 0, .int .i64 0, .int .i64 0, .int .i64 0, .int .i64 0, .int .i64 0, .int .i64 0, .int .i64 0, .int .i64 0, .int .i64 0, .int .i64 0, .int .i64 0, .int .i64 0, .int .i64 0, .map (some w.heap.size), .slice none 0 0] 53)) = W1 := ⟨_, rfl⟩
  have hrd : ∀ lo, RdAt W1 lo (w.heap.size + 1) w.heap.size [] [] := fun lo => by rw [← hW1]; exact (reader_new w lo).1
  have htn : TabN W1 (w.heap.size + 1) := by rw [← hW1]; exact (reader_new w 0).2
  have hb1 : Below w.heap.size w W1 := by rw [← hW1]; exact ((Below.refl _ _).alloc (Nat.le_refl _) _).alloc (by simp) _
  rw [hW1]
  obtain ⟨b, hb⟩ : ∃ b, b = w.heap.size + 1 := ⟨_, rfl⟩
  obtain ⟨m, hm⟩ : ∃ m, m = w.heap.size := ⟨_, rfl⟩
  have HM := Lib.hid hm
  rw [← hb] at hrd htn ⊢
  rw [← hm] at hrd ⊢
  have hbm : m ≤ b := by omega
  obtain ⟨lo, hlo⟩ : ∃ lo, lo = W1.heap.size + 7 := ⟨_, rfl⟩
  have HF := Lib.hid (HFI.out b m m W1 (hrd _) hbm (Nat.le_refl _))
  have HB1 := Lib.hid hb1
  have HTN := Lib.hid htn
  clear hW1 hrd htn hb1 hb hm HFI
  refine HF.out.mono ?_
  rintro e w2 ⟨hfr, hpost⟩
  have hml : w.heap.size ≤ m := Nat.le_of_eq HM.out.symm
  have hbel2 : Below w.heap.size w w2 := HB1.out.trans (by rw [← HM.out]; exact hfr.below)
  have hts : TabS w2 b := .inl ⟨(hfr.tab 0 (by omega)).1.trans HTN.out.c0, (hfr.tab 1 (by omega)).1.trans HTN.out.c1, (hfr.tab 0 (by omega)).2.trans HTN.out.f0, (hfr.tab 1 (by omega)).2.trans HTN.out.f1, fun i hi => ⟨(hfr.tab (3 + i) (by omega)).1.trans (HTN.out.tb i hi).1, (hfr.tab (3 + i) (by omega)).2.trans (HTN.out.tb i hi).2⟩⟩
  have HB2 := Lib.hid hbel2
  have HTS := Lib.hid hts
  clear hfr hbel2 hts HF HTN HB1
  cases hfp : firstP s with
  | error k =>
    rw [hfp] at hpost
    have HRP : Hid (readP s = ([], (k : Int), 19)) := Lib.hid (by unfold readP; rw [hfp])
    subst hpost
    clear hfp
    go_wp2_with fail
    go_ret3
    rw [HRP.out]
    exact ⟨.slice none 0 0, rfl, World.ownsRow_nil _ _ _ _, HB2.out⟩
  | ok x =>
    rcases x with ⟨labs, lines⟩
    rw [hfp] at hpost
    obtain ⟨rfl, hrd2⟩ := hpost
    obtain ⟨hlv, hll, hgl⟩ := HBD.out _ hfp
    have HRP : Hid (readP s = readGo labs 0 [] lines) := Lib.hid (by unfold readP; rw [hfp])
    simp only at hlv hll hgl hrd2
    obtain ⟨v0, L, c29, hL, hrow, hpl⟩ := hrd2.ln
    obtain ⟨n, hn⟩ : ∃ n, n = lines.length := ⟨_, rfl⟩
    rw [← hn] at hrow hll
    obtain ⟨ad, cap, rfl, hnm⟩ := own_len hrow
    have hS : RdS w2 (W1.heap.size + 7) b m n cap ad labs lines L := ⟨hrd2, hrow, hpl, HTS.out⟩
    have HS := Lib.hid hS
    have HLV := Lib.hid hlv
    have HGL := Lib.hid hgl
    have HLL : Hid (L.map (·.2) = lines) := Lib.hid hL
    have HN := Lib.hid hn
    have hsz2 := HB2.out.size
    clear hfp hrd2 hrow hpl hS hlv hgl hL hn HBD
    go_wp2_with fail
    go_loopg [8, 30] n (fun k v8 v30 wr => ∃ (i : Nat) (out : List Int) (ad1 : Option Addr) (c1 : Nat), k + i = n ∧ v8 = .slice ad1 out.length c1 ∧ v30 = .int .i64 (i : Int) ∧ out.length ≤ 512 ∧ readGo labs 0 [] lines = readGo labs i out (lines.drop i) ∧
      wr.ownsRow w2.heap.size 39 1 (.slice ad1 out.length c1) out.length (u32s out) ∧ RdS wr (W1.heap.size + 7) b m n cap ad labs lines L ∧ Below w.heap.size w wr ∧ w2.heap.size ≤ wr.heap.size)
    case atStart => exact ⟨0, [], none, 0, by omega, rfl, rfl, by simp, rfl, World.ownsRow_nil _ _ _ _, HS.out, HB2.out, Nat.le_refl _⟩
    case round =>
      obtain ⟨i, out, ad1, c1, hk, rfl, rfl, hol, hgo, hrow, hS, hB, hsw⟩ := hrel
      have hk := Lib.hid hk
      have HGO := Lib.hid hgo
      have HRW := Lib.hid hrow
      have HSR := Lib.hid hS
      have HBR := Lib.hid hB
      have wr1 : IntKind.i64.wrap ((i : Int) + 1) = (i : Int) + 1 := by rw [IntKind.wrap_i64]; have := hk.out; omega
      have hii0 : (0 : Int) ≤ (i : Int) := by omega
      clear hgo hrow hS hB
      by_cases hi : i < n
      · have hi1 : (i : Int) < (n : Int) := by omega
        have hnL : L.length = n := by rw [HN.out, ← HLL.out, List.length_map]
        obtain ⟨x, hx⟩ : ∃ x, L[i]? = some x := ⟨L[i], List.getElem?_eq_getElem (by omega)⟩
        obtain ⟨pv, ps, a⟩ := x
        obtain ⟨g, rfl, d1, d2⟩ := HSR.out.at_ hx
        rw [Nat.mul_comm] at d1 d2
        simp only at d1 d2
        have hlx : lines[i]? = some (ps, a) := by rw [← HLL.out, List.getElem?_map, hx]; rfl
        have hdr : lines.drop i = (ps, a) :: lines.drop (i + 1) := by
          obtain ⟨h1, h2⟩ := List.getElem?_eq_some_iff.1 hlx
          rw [List.drop_eq_getElem_cons h1, h2]
        have hpin := HSR.out.pl _ (List.mem_of_getElem? hx)
        obtain ⟨hg1, hg2, hg3⟩ := HGL.out _ (List.mem_of_getElem? hlx)
        obtain ⟨g1, off1, cp1, rfl⟩ : ∃ g1 off1 cp1, pv = .slice (some ⟨g1, off1, none⟩) ps.length cp1 := by
          obtain ⟨g', off', cap', hsl, _⟩ := hpin
          exact ⟨_, _, _, hsl⟩
        obtain ⟨pn, hpn⟩ : ∃ pn, pn = ps.length := ⟨_, rfl⟩
        simp only at hpin hg1 hg2 hg3
        have hbA : Below wr.heap.size wr (wr.alloc (.cells #[.slice (some ⟨g1, off1, none⟩) ps.length cp1, .int .i64 (a : Int)] 58)) := (Below.refl _ _).alloc (Nat.le_refl _) _
        have HWD := Lib.hid (word_any b m (W1.heap.size + 7) i g1 off1 cp1 labs lines ps _ (HE.out.on (HBR.out.trans (hbA.mono HBR.out.size))) (HSR.out.below hbA).rd (HSR.out.below hbA).tb (hpin.kept fun k cs _ hc => hbA.block k (Array.getElem?_eq_some_iff.1 hc).1) hg1 hg2 HLV.out (by omega))
        have HSA := Lib.hid (HSR.out.below hbA)
        have HRA := Lib.hid (own_on HRW.out hbA)
        have HBA := Lib.hid hbA
        have HDR := Lib.hid hdr
        rw [← hpn] at HWD d1 HSA HRA HBA
        clear hnL hx hlx hdr hpin hg1 hg2 hg3 hpn hbA
        go_wp2_with fail
        refine HWD.out.mono ?_
        rintro e w4 ⟨⟨v, rfl, hv⟩, hs4, ht4⟩
        have hbl2 := HTS.out.lt
        have hsz4 := hs4.but.size
        simp only [World.size_alloc] at hsz4
        have hl4 := (hs4.but.block wr.heap.size (by simp) (by omega)).trans (heap_alloc_new wr _)
        have dl1 := cell_of_row w4 wr.heap.size 1 _ _ _ hl4
        simp only [List.getElem?_toArray, List.getElem?_cons_succ, List.getElem?_cons_zero] at dl1
        have HS4 := Lib.hid (HSA.out.step hs4 ht4)
        have hr4 := own_move HRA.out (Nat.le_refl _) fun k e => hs4.but.block k (own_lt HRA.out k e).2 (by have := (own_lt HRA.out k e).1; omega)
        have HR4 := Lib.hid hr4
        have HB4 : Hid (Below w.heap.size w w4) := Lib.hid ((HBR.out.trans (HBA.out.mono HBR.out.size)).trans (hs4.but.below _ (by omega) (by have := HBR.out.size; simp; omega)))
        clear hs4 ht4 hl4 hr4
        cases hwp : wordP labs i ps with
        | none =>
          have HEQ : Hid (readP s = ([], (a : Int), 19)) := Lib.hid (by rw [HRP.out, HGO.out, HDR.out, readGo_none hwp])
          clear hv hwp
          go_wp2_with fail
          go_region
          go_wp2_with fail
          go_ret3
          rw [HEQ.out]
          exact ⟨.slice none 0 0, rfl, World.ownsRow_nil _ _ _ _, HB4.out.drew⟩
        | some z =>
          obtain rfl := hv z hwp
          by_cases hbig : out.length = 512
          · have HEQ : Hid (readP s = ([], (a : Int), 22)) := Lib.hid (by rw [HRP.out, HGO.out, HDR.out, readGo_big hwp hbig])
            have k1 : ((out.length : Int) == 512) = true := beq_iff_eq.2 (by omega)
            clear hv hwp hbig
            go_wp2_with fail
            go_region
            go_wp2_with fail
            go_ret3
            rw [HEQ.out]
            exact ⟨.slice none 0 0, rfl, World.ownsRow_nil _ _ _ _, HB4.out.drew⟩
          · have HEQ : Hid (readGo labs 0 [] lines = readGo labs (i + 1) (out ++ [v]) (lines.drop (i + 1))) := Lib.hid (by rw [HGO.out, HDR.out, readGo_some hwp hbig])
            have k1 : ((out.length : Int) == 512) = false := beq_eq_false_iff_ne.2 (by omega)
            have hol2 : out.length + 1 ≤ 512 := by omega
            have HNews := Lib.hid (World.news_of_block (w := w4.alloc (.cells #[.int .u32 v] 39)) (B := w4.heap.size) (cs := #[.int .u32 v]) (t := 39) (fr := (0, 0)) (heap_alloc_new w4 _))
            have HO1 : Hid (∀ u ∈ [Value.int .u32 v], u.oneCell' = true) := Lib.hid (by
              intro u hu
              simp only [List.mem_cons, List.not_mem_nil, or_false] at hu
              subst hu; rfl)
            clear hv hwp hbig
            go_wp2_with (at_builtin; refine wpList_append_lies _ rfl _ _ 23 rfl w2.heap.size 39 i0 _ 1 4 Tryz.underlying23 hi0 hz0 hz1 hz2 rfl (by omega) (.slice ad1 out.length c1) out.length (u32s out) rfl (HR4.out.alloc _) ⟨w4.heap.size, 0, none⟩ 1 1 [.int .u32 v] rfl rfl HNews.out HO1.out (by omega) (by unfold maxLen; omega) (by omega) (by simp; omega) (w4.heap.size + 1) (by simp) ?_)
            intro g2 cap2 w5 hown5 hgrow5 _ _
            have hrow5 : ∀ k, some k = (Value.slice ad1 out.length c1).ownBlock → w2.heap.size ≤ k ∧ ∃ cs, w4.heap[k]? = some (.cells cs 39 (0, 0)) := fun k e => row_block HR4.out k e.symm
            have hS5 : RdS w5 (W1.heap.size + 7) b m n cap (some ⟨g, 0, none⟩) labs lines L := HS4.out.same fun k hk hno => (hgrow5.block k (by simp; omega) (fun e => by obtain ⟨_, cs, hc⟩ := hrow5 k e; exact hno cs hc)).trans (Below.heap_alloc w4 _ k hk)
            have hB5 : Below w.heap.size w w5 := (HB4.out.alloc (by have := HB4.out.size; omega) _).grown hgrow5 (by have := HB4.out.size; simp; omega) (fun k e => by have := (hrow5 k e.symm).1; omega)
            have hs5 : w2.heap.size ≤ w5.heap.size := by have := hgrow5.size; simp at this; omega
            have HQ5 := Lib.hid (And.intro hown5 (And.intro hS5 (And.intro hB5 hs5)))
            clear hown5 hgrow5 hrow5 hS5 hB5 hs5
            go_wp2_with fail
            go_roundg (gk - 1)
            case measure => have := hk.out; omega
            case rel => exact ⟨i + 1, out ++ [v], some ⟨g2, 0, none⟩, cap2, by have := hk.out; omega, by simp, by simp, by simp; omega, HEQ.out, by rw [u32s_snoc]; simpa using HQ5.out.1, HQ5.out.2.1, HQ5.out.2.2.1, HQ5.out.2.2.2⟩
      · have hi1 : ¬ (i : Int) < (n : Int) := by omega
        have HEQ : Hid (readP s = (out, 0, 0)) := Lib.hid (by
          rw [HRP.out, HGO.out, List.drop_eq_nil_of_le (by rw [← HN.out]; omega)]
          rfl)
        go_wp2_with fail
        go_ret3
        rw [HEQ.out]
        exact ⟨_, rfl, own_weak HRW.out hsz2, HBR.out⟩
end Go.Proofs.YtapjfcljbdlnkaaGreatDoor

