/- wal.Commit. -/
import Derived.Test.YtkfmdkbiglkjpaaGreatWal4
namespace Go.Proofs.YtkfmdkbiglkjpaaGreat
open Go Go.RowKit Go.Lib
attribute [local go_sem ↓] wp_bslice exec_load_data exec_load_put exec_store_data exec_store_put exec_build0
set_option maxRecDepth 100000

def DS.logs : DS → Nat → List PutV → Bool × DS
  | s, _, [] => (true, s)
  | s, i, p :: l => DS.bind (s.write (2 + i) p.2) fun t => t.logs (i + 1) l
/-- what is done where something is to be written -/
def DS.doit (s : DS) (l : List PutV) : Bool × DS := DS.bind (s.logs 0 l) fun s1 => DS.bind (s1.flush (logN l.length)) fun s2 => DS.bind (s2.write 1 (headN l)) fun s3 => DS.bind (s3.flush [1]) fun s4 => s4.home l
def DS.commit (s : DS) (l : List PutV) : Int × DS :=
  if 16 < l.length then (22, s) else if rightB s.L.length l = false then (1, s) else if l.length = 0 then (0, s) else (if (s.doit l).1 = true then 0 else 20, (s.doit l).2)
theorem sm_logs {N : Nat} : ∀ (l : List PutV) {s : DS} {c i : Nat}, s.sm N c → (s.logs i l).2.sm N (c + l.length)
  | [], _, _, _, h => h
  | p :: l, s, c, i, h => by
    rw [DS.logs, DS.bind]
    split
    · have := sm_logs l (i := i + 1) (sm_write (2 + i) p.2 h)
      rw [List.length_cons, show c + (l.length + 1) = c + 1 + l.length by omega]; exact this
    · exact (sm_write (2 + i) p.2 h).mono (by simp)
theorem right_nat {N : Nat} {l : List PutV} (h : rightB N l = true) : ∀ p ∈ l, ∃ b : Nat, p.1 = (b : Int) ∧ 18 ≤ b ∧ b < N := fun p hp => by
  obtain ⟨i, hi⟩ := List.mem_iff_getElem?.1 hp
  have h1 := List.all_eq_true.1 h i (List.mem_range.2 (List.getElem?_eq_some_iff.1 hi).1)
  rw [List.getD_eq_getElem?_getD, hi, Option.getD_some] at h1
  simp only [okAt, Bool.and_eq_true, decide_eq_true_eq] at h1
  exact ⟨p.1.toNat, by omega, by omega, by omega⟩
structure CmI (w : World) (F : Nat → Prop) (X D N c : Nat) (s : DS) (l : List PutV) (m : Nat) (ada : Option Addr) (capa : Nat) (i : Nat) (t : DS) (wr : World) (F1 : Nat → Prop) : Prop where
  hF : ∀ k, F1 k → F k ∨ newIn w wr k
  dv : Dv wr F1 X D t
  kp : Keeps (fun k => F k ∨ k = X) w wr
  eq : s.logs 0 l = t.logs i (l.drop i)
  sm : t.sm N (c + i)
  row : wr.ownsRow w.heap.size 3 1 (.slice ada m capa) m (kC (logN m))
  far : ∀ k, (Value.slice ada m capa).ownBlock = some k → ¬ F1 k
set_option maxHeartbeats 6400000 in
theorem wal_commit (F : Nat → Prop) (X D N c : Nat) (ad : Option Addr) (cap : Nat) (l : List PutV) (s : DS) (w : World) (hs : s.sm N c) (hN : 18 ≤ N) (hN2 : N ≤ 1000) (hc : c ≤ 5000) (hl : l.length ≤ 1000) (h : Dv w F X D s) (hp : PReads w ad cap l) (hin : PIn w F X ad) :
    Calls Tryz.prog 7 #[.pointer (some ⟨X, 0, none⟩), .slice ad l.length cap] w fun e w' => e = .returned (.int .i64 (s.commit l).1) ∧ Dvs w F X D (s.commit l).2 w' := by
  have HP := Lib.hid hp
  have HS := Lib.hid hs
  have HH := Lib.hid h
  have HIN := Lib.hid hin
  have hcap := hp.len
  have hcm := hp.max
  obtain ⟨m, hm⟩ : ∃ m, m = l.length := ⟨_, rfl⟩
  have HM := Lib.hid hm
  have HRT := Lib.hid (wal_right X D N s.left s.dn ad cap l w hN2 (hs.len ▸ h.dev) hl hp)
  rw [← hm] at hl hcap HRT ⊢
  clear h hm hp hs hin
  by_cases h16 : 16 < m
  · have k1 : (16 : Int) < (m : Int) := by omega
    have HE : Hid (s.commit l = (22, s)) := Lib.hid (by unfold DS.commit; rw [if_pos (by rw [← HM.out]; exact h16)])
    go_enter Tryz.func7, Tryz.ntmps7
    go_wp2_with fail
    go_ret
    rw [HE.out]
    exact ⟨rfl, HH.out.same (Below.refl _ _)⟩
  · have k1 : ¬ (16 : Int) < (m : Int) := by omega
    cases hr : rightB N l with
    | false =>
      have HE : Hid (s.commit l = (1, s)) := Lib.hid (by unfold DS.commit; rw [if_neg (by rw [← HM.out]; exact h16), HS.out.len, if_pos hr])
      rw [hr] at HRT
      clear hr
      go_enter Tryz.func7, Tryz.ntmps7
      go_wp2_with fail
      refine HRT.out.mono ?_
      rintro e w1 ⟨rfl, hb⟩
      have HB1 := Lib.hid hb
      clear hb
      go_wp2_with fail
      go_ret
      rw [HE.out]
      exact ⟨rfl, HH.out.same HB1.out⟩
    | true =>
      have HNAT := Lib.hid (right_nat hr)
      have HRB := Lib.hid hr
      rw [hr] at HRT
      clear hr
      by_cases h0 : m = 0
      · subst h0
        have HE : Hid (s.commit l = (0, s)) := Lib.hid (by unfold DS.commit; rw [if_neg (by rw [← HM.out]; omega), HS.out.len, if_neg (by rw [HRB.out]; simp), if_pos HM.out.symm])
        go_enter Tryz.func7, Tryz.ntmps7
        go_wp2_with fail
        refine HRT.out.mono ?_
        rintro e w1 ⟨rfl, hb⟩
        have HB1 := Lib.hid hb
        clear hb
        go_wp2_with fail
        go_ret
        rw [HE.out]
        exact ⟨rfl, HH.out.same HB1.out⟩
      · have k2 : ((m : Int) == 0) = false := beq_eq_false_iff_ne.2 (by omega)
        have HE : Hid (s.commit l = (if (s.doit l).1 = true then 0 else 20, (s.doit l).2)) := Lib.hid (by unfold DS.commit; rw [if_neg (by rw [← HM.out]; omega), HS.out.len, if_neg (by rw [HRB.out]; simp), if_neg (by rw [← HM.out]; exact h0)])
        have H16 : Hid (m ≤ 16 ∧ 0 < m) := Lib.hid ⟨by omega, by omega⟩
        have HLG := Lib.hid fun w1 => wal_log m (by omega) w1
        go_enter Tryz.func7, Tryz.ntmps7
        go_wp2_with fail
        refine HRT.out.mono ?_
        rintro e w1 ⟨rfl, hb1⟩
        have HB1 := Lib.hid hb1
        clear hb1
        go_wp2_with fail
        refine (HLG.out w1).mono ?_
        rintro e w2 ⟨ada, capa, rfl, hown, hb2⟩
        have hbw := HB1.out.trans (hb2.mono HB1.out.size)
        have HST : Hid (CmI w F X D N c s l m ada capa 0 s w2 F) := Lib.hid ⟨fun k h => .inl h, HH.out.below hbw, Keeps.of_below hbw, rfl, HS.out, own_weak hown HB1.out.size, fun k e hf => by
          have h1 := (own_lt hown k e).1
          have h2 := HH.out.bd k hf
          have := HB1.out.size
          omega⟩
        clear hown hb2 hbw
        go_wp2_with fail
        go_loopg [26] m (fun k v wr => ∃ (i : Nat) (t : DS) (F1 : Nat → Prop), k + i = m ∧ v = .int .i64 (i : Int) ∧ CmI w F X D N c s l m ada capa i t wr F1)
        case atStart => exact ⟨0, s, F, by simp, rfl, HST.out⟩
        case round =>
          obtain ⟨i, t, F1, hk, rfl, hI⟩ := hrel
          have hk := Lib.hid hk
          have HI := Lib.hid hI
          clear hI
          by_cases hi : i < m
          · have hi1 : (i : Int) < (m : Int) := by omega
            have hi3 : (0 : Int) ≤ (i : Int) := by omega
            have wr1 : IntKind.i64.wrap ((i : Int) + 1) = (i : Int) + 1 := by rw [IntKind.wrap_i64] <;> omega
            obtain ⟨⟨pz, d⟩, hp⟩ : ∃ p, l[i]? = some p := ⟨l[i]'(by have := HM.out; omega), List.getElem?_eq_getElem _⟩
            have hd64 := HP.out.d64 _ (List.mem_of_getElem? hp)
            simp only at hd64
            obtain ⟨g, rfl, hr⟩ := HP.out.at' i _ hp
            obtain ⟨hgl, hgF, hgX⟩ := HIN.out g rfl
            have hr2 : wr.rangeAt g (i * 65) (pC (pz, d)) := fun j v hv => (World.cell?_of_block (a := ⟨g, i * 65 + j, none⟩) (HI.out.kp.block g hgl fun h => by rcases h with h | h; exact hgF h; exact hgX h)).trans (hr j v hv)
            obtain ⟨hdo, hdk, hag, hth, hpt, hbx, hbl, hsz⟩ := put_round hr2 hd64
            obtain ⟨-, hrg⟩ := put_cell hbx
            simp only at hrg
            obtain ⟨ga, offa, hada, hca⟩ := KReads.of_row HI.out.row i (2 + i) (by unfold logN; rw [List.getElem?_map, List.getElem?_range hi]; rfl)
            have hgal : ga < wr.heap.size := World.block_lt_of_cell? _ _ hca
            obtain ⟨w3, hw3⟩ : ∃ w3, w3 = wr.alloc (.cells (pC (pz, d)).toArray 60) := ⟨_, rfl⟩
            rw [← hw3] at hpt hbx hbl hsz hrg
            have hrg3 : w3.drew.rangeAt wr.heap.size 1 (dC d) := hrg
            obtain ⟨hdo2, hdk2⟩ := dat_range hrg3 (by rw [dC_len, hd64] : (dC d).length = 64)
            have c5 : w3.cell? ⟨ga, offa + i, none⟩ = some (.int .i64 ((2 + i : Nat) : Int)) := by rw [World.cell?_of_block (a := ⟨ga, offa + i, none⟩) (hbl.block ga hgal)]; exact hca
            have hbd : Below w3.heap.size w3 w3.drew := (Below.refl _ _).drew
            have hbl3 : Below wr.heap.size wr w3.drew := hbl.drew
            have HDW := Lib.hid (dev_write F1 X D (2 + i) d t w3.drew (HI.out.sm.ok (by omega) hN2 (by have := hk.out; omega)) (by rw [HI.out.sm.len]; have := H16.out.1; omega) hd64 (HI.out.dv.below hbl3))
            have hdrop : l.drop i = (pz, d) :: l.drop (i + 1) := by
              rw [List.drop_eq_getElem_cons (by have := HM.out; omega)]
              congr 1
              exact (List.getElem?_eq_some_iff.1 hp).2
            have HWE : Hid (s.logs 0 l = DS.bind (t.write (2 + i) d) fun t' => t'.logs (i + 1) (l.drop (i + 1))) := Lib.hid (by rw [HI.out.eq, hdrop]; rfl)
            have HX := Lib.hid (And.intro hbl3 hsz)
            have HW3 := Lib.hid hw3
            have hF13 : ∀ k, F1 k → F k ∨ newIn w w3.drew k := fun k hf => by
              rcases HI.out.hF k hf with h | h
              · exact .inl h
              · exact .inr ⟨h.1, by have := h.2; show k < w3.heap.size; omega⟩
            have HF13 := Lib.hid hF13
            have HV1 : Hid (∀ s2 w2, Dvs w3.drew F1 X D s2 w2 → Dvs w F X D s2 w2) := Lib.hid fun s2 w2 h2 => Dvs.comp HF13.out (HI.out.kp.trans (Keeps.of_below HX.out.1)) h2
            subst hada
            clear hr hr2 hp hgl hgF hgX hrg hrg3 hbx hbl hw3 hdrop hF13 hbl3 hbd hca hgal
            cases hwd : (t.write (2 + i) d).1 with
            | false =>
              rw [hwd] at HDW
              have HEE : Hid (s.doit l = (false, (t.write (2 + i) d).2)) := Lib.hid (by
                have e1 : s.logs 0 l = (false, (t.write (2 + i) d).2) := by rw [HWE.out, bind_no hwd]
                unfold DS.doit; rw [e1]; rfl)
              clear hwd
              go_wp2_with fail
              refine reg_still_tail 7 (by kernel_rfl) (by kernel_rfl) ?_
              simp only [List.take_succ_cons, List.take_zero, List.drop_succ_cons, List.drop_zero]
              repeat still_step
              refine wpStill_nil ?_
              go_wp2_with fail
              refine HDW.out.mono ?_
              rintro e w4 ⟨rfl, hv⟩
              have HV := Lib.hid (HV1.out _ _ hv)
              clear hv
              go_wp2_with fail
              go_ret
              rw [HE.out, HEE.out]
              exact ⟨rfl, HV.out⟩
            | true =>
              rw [hwd] at HDW
              have HEQ : Hid (s.logs 0 l = (t.write (2 + i) d).2.logs (i + 1) (l.drop (i + 1))) := Lib.hid (by rw [HWE.out, bind_yes hwd])
              clear hwd
              go_wp2_with fail
              refine reg_still_tail 7 (by kernel_rfl) (by kernel_rfl) ?_
              simp only [List.take_succ_cons, List.take_zero, List.drop_succ_cons, List.drop_zero]
              repeat still_step
              refine wpStill_nil ?_
              go_wp2_with fail
              refine HDW.out.mono ?_
              rintro e w4 ⟨rfl, F2, hF2, hd2, hk2⟩
              have hXw : X < w.heap.size := HH.out.dev.lt
              have hk34 := keeps_comp HF13.out (HI.out.kp.trans (Keeps.of_below HX.out.1)) hk2
              have HNX : Hid (CmI w F X D N c s l m (some ⟨ga, offa, none⟩) capa (i + 1) (t.write (2 + i) d).2 w4 F2) := Lib.hid (by
                have hsz3 : w3.drew.heap.size = wr.heap.size + 1 := HX.out.2
                refine ⟨fun k hf => ?_, hd2, hk34, HEQ.out, by have := sm_write (2 + i) d HI.out.sm; rwa [Nat.add_assoc] at this, own_move HI.out.row (Nat.le_refl _) fun k e => ?_, fun k e hf => ?_⟩
                · rcases hF2 k hf with h | h
                  · rcases HF13.out k h with h | h
                    · exact .inl h
                    · exact .inr ⟨h.1, by have := h.2; have := hk2.size; omega⟩
                  · exact .inr ⟨by have := h.1; have := HI.out.kp.size; omega, h.2⟩
                · have h1 := own_lt HI.out.row k e
                  rw [hk2.block k (by omega) fun h => by
                    rcases h with h | h
                    · exact HI.out.far k e h
                    · omega]
                  exact HX.out.1.block k h1.2
                · rcases hF2 k hf with h | h
                  · exact HI.out.far k e h
                  · have h1 := (own_lt HI.out.row k e).2
                    have := h.1; omega)
              clear hF2 hd2 hk2 hk34
              go_wp2_with fail
              go_roundg (gk - 1)
              case measure => have := hk.out; omega
              case rel => exact ⟨i + 1, _, F2, by have := hk.out; omega, by simp, HNX.out⟩
          · have hi1 : ¬ (i : Int) < (m : Int) := by omega
            obtain rfl : i = m := by have := hk.out; omega
            have hwe : s.logs 0 l = (true, t) := by rw [HI.out.eq, List.drop_of_length_le (by rw [HM.out]; exact Nat.le_refl _)]; rfl
            have hll := logN_len i
            have HFL := dev_flush F1 X D ada capa (logN i) t wr (HI.out.sm.ok (by omega) hN2 (by have := H16.out.1; omega)) (fun b hb => by
              rw [HI.out.sm.len]
              obtain ⟨j, hj, rfl⟩ := List.mem_map.1 hb
              have := List.mem_range.1 hj
              have := H16.out.1
              omega) (by rw [hll]; have := H16.out.1; omega) HI.out.dv (KReads.of_row HI.out.row) (fun g off e => by
              have h1 := own_lt HI.out.row g (by rw [e]; rfl)
              exact ⟨h1.2, HI.out.far g (by rw [e]; rfl), by have := HH.out.dev.lt; omega⟩)
            rw [hll] at HFL
            have hsm2 := sm_flush (logN i) HI.out.sm
            rw [hll] at hsm2
            have HSM := Lib.hid (hsm2.mono (by have := H16.out.1; omega : c + i + i ≤ c + 32))
            have HWE : Hid (s.doit l = DS.bind (t.flush (logN i)) fun s2 => DS.bind (s2.write 1 (headN l)) fun s3 => DS.bind (s3.flush [1]) fun s4 => s4.home l) := Lib.hid (by unfold DS.doit; rw [hwe, bind_yes rfl, ← HM.out])
            have V1 : Hid (∀ s2 w2, Dvs wr F1 X D s2 w2 → Dvs w F X D s2 w2) := Lib.hid fun s2 w2 h2 => Dvs.comp HI.out.hF HI.out.kp h2
            have HPW : Hid (∀ (s2 : DS) (w2 : World), Dvs w F X D s2 w2 → PReads w2 ad cap l ∧ ∀ F2, (∀ k, F2 k → F k ∨ newIn w w2 k) → PIn w2 F2 X ad) := Lib.hid fun s2 w2 h2 => by
              obtain ⟨F2', hF2', hd2', hk2'⟩ := h2
              refine ⟨HP.out.on fun g e => ?_, fun F2 hF2 g e => ?_⟩
              · obtain ⟨q1, q2, q3⟩ := HIN.out g e
                exact hk2'.block g q1 fun h => by rcases h with h | h; exact q2 h; exact q3 h
              · obtain ⟨q1, q2, q3⟩ := HIN.out g e
                refine ⟨Nat.lt_of_lt_of_le q1 hk2'.size, fun h => ?_, q3⟩
                rcases hF2 g h with h | h
                · exact q2 h
                · have := h.1; omega
            obtain ⟨r, hr⟩ : ∃ r, r = t.flush (logN i) := ⟨_, rfl⟩
            rw [← hr] at HFL HSM HWE
            obtain ⟨r1, t2⟩ := r
            simp only at HFL HSM
            have HF := Lib.hid HFL
            clear hwe hll HFL hsm2 hr
            cases r1 with
            | false =>
              have HEE : Hid (s.doit l = (false, t2)) := Lib.hid (by rw [HWE.out]; rfl)
              go_wp2_with fail
              refine HF.out.mono ?_
              rintro e w2 ⟨rfl, hv⟩
              have HV := Lib.hid (V1.out _ _ hv)
              clear hv
              go_wp2_with fail
              go_ret
              rw [HE.out, HEE.out]
              exact ⟨rfl, HV.out⟩
            | true =>
              have HE1 : Hid (s.doit l = DS.bind (t2.write 1 (headN l)) fun s3 => DS.bind (s3.flush [1]) fun s4 => s4.home l) := Lib.hid (by rw [HWE.out]; rfl)
              go_wp2_with fail
              refine HF.out.mono ?_
              rintro e w2 ⟨rfl, hv2⟩
              have HV2w := Lib.hid (V1.out _ _ hv2)
              obtain ⟨F2, hF2, hd2, hk2⟩ := hv2
              have HHD := Lib.hid (super_header w2)
              have HWH := Lib.hid (wal_header ad cap l w2 (by rw [← HM.out]; exact H16.out.1) (fun p hp => by obtain ⟨b, e, h1, h2⟩ := HNAT.out p hp; exact ⟨b, e, by omega⟩) (HPW.out _ _ HV2w.out).1)
              rw [← HM.out] at HWH
              have V2 : Hid (∀ s2 w3, Dvs w2 F2 X D s2 w3 → Dvs w F X D s2 w3) := Lib.hid fun s2 w3 h2 => V1.out _ _ (Dvs.comp hF2 hk2 h2)
              have HD2 := Lib.hid hd2
              have HSM3 := Lib.hid (sm_write 1 (headN l) HSM.out)
              have hdw := fun w3 (hb : Below w2.heap.size w2 w3) => dev_write F2 X D 1 (headN l) t2 w3 (HSM.out.ok (by omega) hN2 (by omega)) (by rw [HSM.out.len]; omega) (headN_len l) (HD2.out.below hb)
              obtain ⟨r, hr⟩ : ∃ r, r = t2.write 1 (headN l) := ⟨_, rfl⟩
              rw [← hr] at hdw HSM3 HE1
              obtain ⟨r1, t3⟩ := r
              simp only at hdw HSM3
              have HDW := Lib.hid hdw
              clear hF2 hd2 hk2 hdw hr
              go_wp2_with fail
              refine HHD.out.mono ?_
              rintro e w' ⟨rfl, hw'⟩
              rw [hw']
              clear hw' w'
              go_wp2_with fail
              refine HWH.out.mono ?_
              rintro e w3 ⟨rfl, hb3⟩
              have HC := Lib.hid (HDW.out w3 hb3)
              have V3 : Hid (∀ s2 w4, Dvs w3 F2 X D s2 w4 → Dvs w F X D s2 w4) := Lib.hid fun s2 w4 h2 => V2.out _ _ (Dvs.comp (F1 := F2) (fun k h => .inl h) (Keeps.of_below hb3) h2)
              clear hb3
              cases r1 with
              | false =>
                have HEE : Hid (s.doit l = (false, t3)) := Lib.hid (by rw [HE1.out]; rfl)
                go_wp2_with fail
                refine HC.out.mono ?_
                rintro e w4 ⟨rfl, hv⟩
                have HV := Lib.hid (V3.out _ _ hv)
                clear hv
                go_wp2_with fail
                go_ret
                rw [HE.out, HEE.out]
                exact ⟨rfl, HV.out⟩
              | true =>
                have HE2 : Hid (s.doit l = DS.bind (t3.flush [1]) fun s4 => s4.home l) := Lib.hid (by rw [HE1.out]; rfl)
                go_wp2_with fail
                refine HC.out.mono ?_
                rintro e w4 ⟨rfl, F3, hF3, hd3, hk3⟩
                have HH3 := Lib.hid (super_header w4)
                have hfo := flush_one F3 X D 1 t3 w4 (HSM3.out.ok (by omega) hN2 (by omega)) (by rw [HSM3.out.len]; omega) hd3
                have V4 : Hid (∀ s2 w5, Dvs w4 F3 X D s2 w5 → Dvs w F X D s2 w5) := Lib.hid fun s2 w5 h2 => V3.out _ _ (Dvs.comp hF3 hk3 h2)
                have hsm4 := sm_flush [1] HSM3.out
                obtain ⟨r, hr⟩ : ∃ r, r = t3.flush [1] := ⟨_, rfl⟩
                rw [← hr] at hfo hsm4 HE2
                obtain ⟨r1, t4⟩ := r
                simp only at hfo hsm4
                have HFO := Lib.hid hfo
                have HSM4 := Lib.hid hsm4
                clear hF3 hd3 hk3 hfo hsm4 hr
                go_wp2_with fail
                refine HH3.out.mono ?_
                rintro e w' ⟨rfl, hw'⟩
                rw [hw']
                clear hw' w'
                cases r1 with
                | false =>
                  have HEE : Hid (s.doit l = (false, t4)) := Lib.hid (by rw [HE2.out]; rfl)
                  go_wp2_with fail
                  refine HFO.out.mono ?_
                  rintro e w5 ⟨rfl, hv⟩
                  have HV := Lib.hid (V4.out _ _ hv)
                  clear hv
                  go_wp2_with fail
                  go_ret
                  rw [HE.out, HEE.out]
                  exact ⟨rfl, HV.out⟩
                | true =>
                  have HEE : Hid (s.doit l = t4.home l) := Lib.hid (by rw [HE2.out]; rfl)
                  go_wp2_with fail
                  refine HFO.out.mono ?_
                  rintro e w5 ⟨rfl, hv5⟩
                  have hvw := V4.out _ _ hv5
                  obtain ⟨F5, hF5, hd5, hk5⟩ := hvw
                  have hp5 := HPW.out _ _ (V4.out _ _ hv5)
                  have hho := wal_home F5 X D N (c + 32 + 1 + 1) ad cap l t4 w5 (HSM4.out.mono (by simp)) (by omega) hN2 (by omega) (by rw [← HM.out]; exact H16.out.1) (fun p hp => by obtain ⟨b, e, h1, h2⟩ := HNAT.out p hp; exact ⟨b, e, h2⟩) hd5 hp5.1 (hp5.2 F5 hF5)
                  rw [← HM.out] at hho
                  have V5 : Hid (∀ s2 w6, Dvs w5 F5 X D s2 w6 → Dvs w F X D s2 w6) := Lib.hid fun s2 w6 h2 => Dvs.comp hF5 hk5 h2
                  obtain ⟨r, hr⟩ : ∃ r, r = t4.home l := ⟨_, rfl⟩
                  rw [← hr] at hho HEE
                  obtain ⟨r1, t6⟩ := r
                  simp only at hho
                  have HHO := Lib.hid hho
                  clear hv5 hF5 hd5 hk5 hp5 hho hr
                  cases r1 with
                  | false =>
                    go_wp2_with fail
                    refine HHO.out.mono ?_
                    rintro e w6 ⟨rfl, hv⟩
                    have HV := Lib.hid (V5.out _ _ hv)
                    clear hv
                    go_wp2_with fail
                    go_ret
                    rw [HE.out, HEE.out]
                    exact ⟨rfl, HV.out⟩
                  | true =>
                    go_wp2_with fail
                    refine HHO.out.mono ?_
                    rintro e w6 ⟨rfl, hv⟩
                    have HV := Lib.hid (V5.out _ _ hv)
                    clear hv
                    go_wp2_with fail
                    go_ret
                    rw [HE.out, HEE.out]
                    exact ⟨rfl, HV.out⟩
end Go.Proofs.YtkfmdkbiglkjpaaGreat
