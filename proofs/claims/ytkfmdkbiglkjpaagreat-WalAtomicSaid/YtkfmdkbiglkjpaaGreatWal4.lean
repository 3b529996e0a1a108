/- word.Bytes, bytes.Equal, wal.header. -/
import Derived.Test.YtkfmdkbiglkjpaaGreatWal3
import Derived.Laws.CopyOwn
namespace Go.Proofs.YtkfmdkbiglkjpaaGreat
open Go Go.RowKit Go.Lib
set_option maxRecDepth 100000

theorem results_c1 {P : Program} {fn : Func} {p : Tmp} {ty : TypeId} (h : fn.results = #[.cell p ty]) (tmps : Array Value) (w : World) (g : Nat) (t : TypeId) (cs : Array Value) (fr : Nat × Nat) (d : TypeDesc)
    (hp : tmps.getD p undef = .pointer (some ⟨g, 0, none⟩)) (hg : w.heap[g]? = some (.cells cs t fr))
    (hu : P.underlying ty = some d) (hd : (match d with | .struct _ | .array _ _ => true | _ => false) = true) (hi : (P.info? ty).map (·.size) = some cs.size) :
    (results fn tmps).run P w = .ok (.agg cs) w := by
  have hp' : tmps[p]?.getD undef = .pointer (some ⟨g, 0, none⟩) := by simpa using hp
  simp [results, h, hp', asAddr, run_loadVar_row w g t ty cs fr d hg hu hd hi]
theorem addr_add (g j : Nat) : (⟨g, 0, none⟩ : Addr).add j = ⟨g, j, none⟩ := by
  unfold Addr.add
  by_cases h : j = 0
  · simp [h]
  · simp [h]
def mag : List Value := [.int .u8 33, .int .u8 71, .int .u8 79, .int .u8 76]
set_option maxHeartbeats 3200000 in
theorem word_bytes (w : World) : Calls Tryz.prog 32 #[.int .u32 1280263969] w fun e w' => e = .returned (.agg #[.int .u8 33, .int .u8 71, .int .u8 79, .int .u8 76]) ∧ Below w.heap.size w w' := by
  go_enter Tryz.func32, Tryz.ntmps32
  go_wp2_with fail
  refine bodyPost_ret (results_c1 Tryz.results32 _ _ w.heap.size 80 _ (0, 0) _ rfl (heap_alloc_last _ _) Tryz.underlying80 rfl (by kernel_rfl)) rfl ⟨rfl, (Below.refl _ _).alloc (Nat.le_refl _) _⟩
theorem str_eq (a b : List UInt8) : (a == b) = decide (a = b) := by
  by_cases h : a = b <;> simp [h]

def hd0 (n : Nat) : Dat := [33, 71, 79, 76, UInt8.ofNat n] ++ List.replicate 59 0
def headI (l : List PutV) : Nat → Dat
  | 0 => hd0 l.length
  | i + 1 => ((headI l i).set (6 + 2 * i) (UInt8.ofNat (l.getD i (0, [])).1.toNat)).set (7 + 2 * i) (UInt8.ofNat ((l.getD i (0, [])).1.toNat / 256))
theorem dC_set (d : Dat) (k : Nat) (x : UInt8) : (dC d).toArray.setIfInBounds k (.int .u8 (x.toNat : Int)) = (dC (d.set k x)).toArray := by
  refine Array.ext_getElem? fun i => ?_
  rw [Array.getElem?_setIfInBounds, List.getElem?_toArray, List.getElem?_toArray]
  simp only [dC, List.getElem?_map, List.getElem?_set, List.size_toArray, List.length_map]
  by_cases h : k = i
  · simp only [h, if_true]
    by_cases h2 : i < d.length <;> simp [h2]
  · simp [h]
theorem hd0_cells (m : Nat) (hm : m ≤ 16) : (splice (dC zeroD) 0 mag).toArray.setIfInBounds 4 (.int .u8 (m : Int)) = (dC (hd0 m)).toArray := by
  have h : m = (UInt8.ofNat m).toNat := by simp; omega
  have e : splice (dC zeroD) 0 mag = dC ([33, 71, 79, 76, 0] ++ List.replicate 59 0) := rfl
  have e2 : ([33, 71, 79, 76, 0] ++ List.replicate 59 0 : Dat).set 4 (UInt8.ofNat m) = hd0 m := by simp [hd0]
  rw [e]
  have := dC_set ([33, 71, 79, 76, 0] ++ List.replicate 59 0) 4 (UInt8.ofNat m)
  rw [← h, e2] at this
  exact this
structure HdI (w : World) (V : Nat) (l : List PutV) (i : Nat) (wr : World) : Prop where
  bl : Below V w wr
  rs : wr.heap[V]? = some (.cells z64 49 (0, 0))
  hd : wr.heap[V + 1]? = some (.cells (dC (headI l i)).toArray 49 (0, 0))
def headN (l : List PutV) : Dat := if l.length = 0 then zeroD else headI l l.length
theorem headI_len (l : List PutV) : ∀ i, (headI l i).length = 64
  | 0 => by simp [headI, hd0]
  | i + 1 => by simp [headI, headI_len l i]
theorem headN_len (l : List PutV) : (headN l).length = 64 := by
  unfold headN
  split
  · rfl
  · exact headI_len _ _
/-- a rule for the walk: a block of noughts is laid, unopened -/
theorem exec_alloc_data {d : Tmp} {ty : TypeId} {p : String} {af : Array Edge} {gd : Option (Tmp × Bool)} {ρ : Operand → Value} {w : World} :
    (execOp ρ { dst := some d, op := .alloc 49, type := ty, pos := p, after := af, guard := gd }).run Tryz.prog w = .ok (.value (.pointer (some ⟨w.heap.size, 0, none⟩))) (w.alloc (.cells z64 49)) := by
  unfold execOp
  simp [Instr.alloc, newVar, newRow, data_zero, Value.cells]
  rfl
attribute [local go_sem ↓] wp_bslice exec_load_data exec_load_put exec_store_data exec_store_put exec_build0 exec_alloc_data
set_option maxHeartbeats 6400000 in
theorem wal_header (ad : Option Addr) (cap : Nat) (l : List PutV) (w : World) (hl : l.length ≤ 16) (hb : ∀ p ∈ l, ∃ b : Nat, p.1 = (b : Int) ∧ b < 65536) (hp : PReads w ad cap l) :
    Calls Tryz.prog 24 #[.slice ad l.length cap] w fun e w' => e = .returned (.agg (dC (headN l)).toArray) ∧ Below w.heap.size w w' := by
  have HP := Lib.hid hp
  have HB := Lib.hid hb
  obtain ⟨m, hm⟩ : ∃ m, m = l.length := ⟨_, rfl⟩
  have HM := Lib.hid hm
  rw [← hm] at hl ⊢
  obtain ⟨W0, hW0⟩ : ∃ W0, (w.alloc (.cells z64 49)).alloc (.cells z64 49) = W0 := ⟨_, rfl⟩
  obtain ⟨V, hV⟩ : ∃ V, V = w.heap.size := ⟨_, rfl⟩
  have hb0 : W0.heap[V]? = some (.cells z64 49 (0, 0)) := by rw [← hW0, hV]; exact heap_alloc2_old _ _ _
  have hb1 : W0.heap[V + 1]? = some (.cells z64 49 (0, 0)) := by rw [← hW0, hV]; exact heap_alloc2_new _ _ _
  have hbl : Below V w W0 := by rw [← hW0, hV]; exact ((Below.refl _ _).alloc (Nat.le_refl _) _).alloc (by simp) _
  have hsz : W0.heap.size = V + 2 := by rw [← hW0, hV]; simp
  have hpW := HP.out.below (hV ▸ hbl)
  have HPW := Lib.hid hpW
  have HQ := Lib.hid (And.intro hb0 (And.intro hb1 (And.intro hbl hsz)))
  have HV := Lib.hid hV
  have hz : z64 = (dC zeroD).toArray := by simp [z64, dC, zeroD]
  clear hm hp hb hpW hbl
  cases m with
  | zero =>
    have HE : Hid (headN l = zeroD) := Lib.hid (by unfold headN; rw [if_pos HM.out.symm])
    have hr1 : W0.rangeAt (V + 1) 0 (dC zeroD) := fun j v hv => by
      rw [Nat.zero_add, cell_of_row W0 _ j _ _ _ hb1, hz, List.getElem?_toArray]; exact hv
    obtain ⟨hdo, hdk⟩ := dat_range hr1 (by rfl : (dC zeroD).length = 64)
    have hth := there_row (n := 64) hb0 rfl
    have hag := agg_ok (n := 64) (cs := dC zeroD) rfl (dC_one zeroD)
    have hpt := putAt_row 49 data_size W0 V _ z64 (dC zeroD).toArray hb0 rfl (by rfl) (all_oneCell_toArray (dC_one zeroD))
    have hs1 := setRow_heap W0 V _ (dC zeroD).toArray _ _ hb0
    have HX := Lib.hid hs1
    rw [hV, ← hW0] at hdo hdk hth hpt
    have HW0 := Lib.hid hW0
    clear hr1 hs1 hz hb0 hb1 hW0 hV hsz
    go_enter Tryz.func24, Tryz.ntmps24
    go_wp2_with fail
    rw [HW0.out, ← HV.out]
    refine bodyPost_ret (results_c1 Tryz.results24 _ _ V 49 _ (0, 0) _ ?hg HX.out Tryz.underlying49 rfl (by rw [data_size]; rfl)) ?hr ?hq
    case hg => rfl
    case hr => rfl
    case hq => rw [HE.out]; exact ⟨rfl, below_setRow HQ.out.2.2.1 (Nat.le_refl _) _⟩
  | succ m =>
    subst hV
    have HWB := Lib.hid (word_bytes W0)
    have HW0 := Lib.hid hW0
    have HZ := Lib.hid hz
    clear hb0 hb1 hW0 hz
    go_enter Tryz.func24, Tryz.ntmps24
    go_wp2_with fail
    rw [HW0.out]
    refine HWB.out.mono ?_
    rintro e w1 ⟨rfl, hw1⟩
    obtain ⟨W2, hW2⟩ : ∃ W2, W2 = w1.alloc (.cells #[.int .u8 33, .int .u8 71, .int .u8 79, .int .u8 76] 80) := ⟨_, rfl⟩
    have hbl2 : Below W0.heap.size W0 W2 := by rw [hW2]; exact hw1.alloc hw1.size _
    have hg2 : W2.heap[w1.heap.size]? = some (.cells #[.int .u8 33, .int .u8 71, .int .u8 79, .int .u8 76] 80 (0, 0)) := by rw [hW2]; exact heap_alloc_last _ _
    have hv2 : W2.heap[w.heap.size]? = some (.cells z64 49 (0, 0)) := (hbl2.block w.heap.size (by omega)).trans HQ.out.1
    have hd2 : W2.heap[w.heap.size + 1]? = some (.cells (dC zeroD).toArray 49 (0, 0)) := by rw [← HZ.out]; exact (hbl2.block (w.heap.size + 1) (by omega)).trans HQ.out.2.1
    have hs2 : W2.heap.size = w1.heap.size + 1 := by rw [hW2]; simp
    have hs1 := hw1.size
    have hsrc : ∀ j v, mag[j]? = some v → W2.drew.cell? ((⟨w1.heap.size, 0, none⟩ : Addr).add j) = some v := fun j v hv => by
      rw [addr_add, World.cell?_drew, cell_of_row W2 _ j _ _ _ hg2]
      rw [← hv]; simp [mag]
    have HS := Lib.hid (And.intro hsrc (And.intro hbl2 (And.intro hv2 hd2)))
    have HW2 := Lib.hid hW2
    clear hw1 hsrc hbl2 hg2 hv2 hd2 hW2
    go_wp2_with fail
    rw [← HW2.out]
    refine reg_still_tail 2 (by kernel_rfl) (by kernel_rfl) ?_
    simp only [List.take_succ_cons, List.take_zero, List.drop_succ_cons, List.drop_zero]
    still_step
    still_step
    refine wpStill_nil ?_
    refine wpList_copy_splice rfl _ _ _ _ rfl 5 Tryz.underlying84 (by kernel_rfl) _ _ _ _ _ _ rfl rfl (w.heap.size + 1) 0 (dC zeroD) _ HS.out.2.2.2 mag rfl (fun _ => ⟨rfl, _, rfl, HS.out.1⟩) (by decide) (by decide) (w.heap.size + 1) W2 (Below.refl _ _).drew (Nat.le_refl _) ?_
    intro w3 hw3 hb3
    have e4 : w3.cell? ⟨w.heap.size + 1, 4, none⟩ = some (.int .u8 0) := by rw [cell_of_row w3 _ 4 _ _ _ hw3.out]; rfl
    have f4 : w3.frozen? ⟨w.heap.size + 1, 4, none⟩ = false := frozen_of_row w3 _ 4 _ _ hw3.out
    have HST : Hid (HdI w w.heap.size l 0 (w3.setCell ⟨w.heap.size + 1, 4, none⟩ (.int .u8 ((m : Int) + 1)))) := Lib.hid (by
      refine ⟨(HQ.out.2.2.1.trans ((HS.out.2.1.mono (by omega)).trans (hb3.mono (by omega)))).setCell (by simp) _, ?_, ?_⟩
      · rw [heap_setCell_other _ _ _ _ (by simp)]; exact (hb3.block w.heap.size (by omega)).trans HS.out.2.2.1
      · have h1 := heap_setCell_same w3 (w.heap.size + 1) 4 _ _ (.int .u8 ((m : Int) + 1)) hw3.out
        have h2 := hd0_cells (m + 1) hl
        rw [Int.natCast_add, Int.natCast_one] at h2
        rw [h1, h2]
        unfold headI
        rw [← HM.out])
    obtain ⟨W4, hW4⟩ : ∃ W4, W4 = w3.setCell ⟨w.heap.size + 1, 4, none⟩ (.int .u8 ((m : Int) + 1)) := ⟨_, rfl⟩
    rw [← hW4] at HST
    have HW4 := Lib.hid hW4
    clear hW4
    go_wp2_with fail
    rw [← HW4.out]
    clear e4 f4 hb3 hw3 hs2 hs1 hsz
    obtain ⟨n, hn⟩ : ∃ n, n = m + 1 := ⟨_, rfl⟩
    have hni : (m : Int) + 1 = (n : Int) := by omega
    rw [hni]
    simp only [← hn] at hl HM ⊢
    have HN := Lib.hid hn
    clear hn hni
    go_loopg [21] n (fun k v wr => ∃ (i : Nat), k + i = n ∧ v = .int .i64 (i : Int) ∧ HdI w w.heap.size l i wr)
    case atStart => exact ⟨0, by simp, rfl, HST.out⟩
    case round =>
      obtain ⟨i, hk, rfl, hI⟩ := hrel
      have hk := Lib.hid hk
      have HI := Lib.hid hI
      clear hI
      by_cases hi : i < n
      · have hi1 : (i : Int) < (n : Int) := by omega
        have hi3 : (0 : Int) ≤ (i : Int) := by omega
        have wr1 : IntKind.i64.wrap ((i : Int) + 1) = (i : Int) + 1 := by rw [IntKind.wrap_i64] <;> omega
        obtain ⟨⟨pz, d⟩, hp⟩ : ∃ p, l[i]? = some p := ⟨l[i]'(by have := HM.out; omega), List.getElem?_eq_getElem _⟩
        obtain ⟨b, hpb, hbN⟩ := HB.out _ (List.mem_of_getElem? hp)
        simp only at hpb
        subst hpb
        have hd64 := HP.out.d64 _ (List.mem_of_getElem? hp)
        simp only at hd64
        have HPI := Lib.hid hp
        obtain ⟨g, rfl, hr⟩ := HP.out.at' i _ hp
        have hgl : g < w.heap.size := by
          exact World.block_lt_of_cell? _ ⟨g, i * 65 + 0, none⟩ (hr 0 _ rfl)
        have hr2 : wr.rangeAt g (i * 65) (pC ((b : Int), d)) := fun j v hv => (World.cell?_of_block (a := ⟨g, i * 65 + j, none⟩) (HI.out.bl.block g hgl)).trans (hr j v hv)
        obtain ⟨hdo, hdk, hag, hth, hpt, hbx, hbl, hsz⟩ := put_round hr2 hd64
        obtain ⟨c0, -⟩ := put_cell hbx
        simp only at c0
        have hbV : w.heap.size + 1 < wr.heap.size := (Array.getElem?_eq_some_iff.1 HI.out.hd).1
        obtain ⟨w5, hw5⟩ : ∃ w5, w5 = wr.alloc (.cells (pC ((b : Int), d)).toArray 60) := ⟨_, rfl⟩
        rw [← hw5] at hpt hbx hbl hsz c0
        have c5 : w5.drew.cell? ⟨wr.heap.size, 0, none⟩ = some (.int .i64 (b : Int)) := c0
        have h5 : w5.heap[w.heap.size + 1]? = some (.cells (dC (headI l i)).toArray 49 (0, 0)) := (hbl.block _ hbV).trans HI.out.hd
        have HW5 := Lib.hid hw5
        have i1 : IntKind.i64.wrap (2 * (i : Int)) = 2 * (i : Int) := by rw [IntKind.wrap_i64] <;> omega
        have i2 : IntKind.i64.wrap (6 + 2 * (i : Int)) = 6 + 2 * (i : Int) := by rw [IntKind.wrap_i64] <;> omega
        have i3 : IntKind.i64.wrap (7 + 2 * (i : Int)) = 7 + 2 * (i : Int) := by rw [IntKind.wrap_i64] <;> omega
        have q1 : (0 : Int) ≤ 6 + 2 * (i : Int) := by omega
        have q2 : 6 + 2 * (i : Int) < 64 := by omega
        have q3 : (0 : Int) ≤ 7 + 2 * (i : Int) := by omega
        have q4 : 7 + 2 * (i : Int) < 64 := by omega
        have u1 : IntKind.u8.wrap (b : Int) = ((UInt8.ofNat b).toNat : Int) := by rw [IntKind.wrap_u8]; simp
        have u2 : IntKind.u8.wrap ((b : Int) / 256) = ((UInt8.ofNat (b / 256)).toNat : Int) := by rw [IntKind.wrap_u8]; simp
        obtain ⟨lo, hlo⟩ : ∃ lo, lo = UInt8.ofNat b := ⟨_, rfl⟩
        obtain ⟨hi, hhi⟩ : ∃ hi, hi = UInt8.ofNat (b / 256) := ⟨_, rfl⟩
        rw [← hlo] at u1
        rw [← hhi] at u2
        have HLO := Lib.hid (And.intro hlo hhi)
        clear hlo hhi
        have hi6 : 6 + 2 * i < (headI l i).length := by rw [headI_len]; omega
        have hi7 : 7 + 2 * i < (headI l i).length := by rw [headI_len]; omega
        have e6 : w5.cell? ⟨w.heap.size + 1, 6 + 2 * i, none⟩ = some (.int .u8 ((headI l i)[6 + 2 * i].toNat : Int)) := by
          rw [cell_of_row w5 _ _ _ _ _ h5, List.getElem?_toArray, dC, List.getElem?_map, List.getElem?_eq_getElem hi6]; rfl
        have e7 : w5.cell? ⟨w.heap.size + 1, 7 + 2 * i, none⟩ = some (.int .u8 ((headI l i)[7 + 2 * i].toNat : Int)) := by
          rw [cell_of_row w5 _ _ _ _ _ h5, List.getElem?_toArray, dC, List.getElem?_map, List.getElem?_eq_getElem hi7]; rfl
        have f6 : w5.frozen? ⟨w.heap.size + 1, 6 + 2 * i, none⟩ = false := by exact frozen_of_row w5 _ _ _ _ h5
        have f7 : w5.frozen? ⟨w.heap.size + 1, 7 + 2 * i, none⟩ = false := by exact frozen_of_row w5 _ _ _ _ h5
        generalize (headI l i)[6 + 2 * i] = y6 at e6
        generalize (headI l i)[7 + 2 * i] = y7 at e7
        have k6 : (6 + 2 * (i : Int)).toNat = 6 + 2 * i := by omega
        have k7 : (7 + 2 * (i : Int)).toNat = 7 + 2 * i := by omega
        have H5 := Lib.hid h5
        have HB5 := Lib.hid hbl
        have HBV := Lib.hid hbV
        have HGL := Lib.hid hgl
        clear hr hr2 hp hw5 h5 hbl hbV hgl
        go_wp2_with fail
        go_region_law (fail)
        all_goals
          have HNX : Hid (HdI w w.heap.size l (i + 1) ((w5.setCell ⟨w.heap.size + 1, 6 + 2 * i, none⟩ (.int .u8 (lo.toNat : Int))).setCell ⟨w.heap.size + 1, 7 + 2 * i, none⟩ (.int .u8 (hi.toNat : Int))).drew) := Lib.hid (by
            refine ⟨((((HI.out.bl.trans (HB5.out.mono (by have := HI.out.bl.size; omega))).setCell (by simp) _).setCell (by simp) _).drew), ?_, ?_⟩
            · have : ((w5.setCell ⟨w.heap.size + 1, 6 + 2 * i, none⟩ (.int .u8 (lo.toNat : Int))).setCell ⟨w.heap.size + 1, 7 + 2 * i, none⟩ (.int .u8 (hi.toNat : Int))).heap[w.heap.size]? = some (.cells z64 49 (0, 0)) := by
                rw [heap_setCell_other _ _ _ _ (by simp), heap_setCell_other _ _ _ _ (by simp)]
                exact (HB5.out.block w.heap.size (by have := HBV.out; omega)).trans HI.out.rs
              exact this
            · have h1 := heap_setCell_same _ (w.heap.size + 1) (7 + 2 * i) _ _ (.int .u8 (hi.toNat : Int)) (heap_setCell_same w5 (w.heap.size + 1) (6 + 2 * i) _ _ (.int .u8 (lo.toNat : Int)) H5.out)
              rw [dC_set, dC_set] at h1
              have e : headI l (i + 1) = ((headI l i).set (6 + 2 * i) lo).set (7 + 2 * i) hi := by
                rw [headI, List.getD_eq_getElem?_getD, HPI.out, Option.getD_some, HLO.out.1, HLO.out.2]
                simp
              rw [e]
              exact h1)
          go_wp2_with fail
          go_roundg (gk - 1)
          case measure => have := hk.out; omega
          case rel => exact ⟨i + 1, by have := hk.out; omega, by simp, HNX.out⟩
      · have hi1 : ¬ (i : Int) < (n : Int) := by omega
        obtain rfl : i = n := by have := hk.out; omega
        have HE : Hid (headN l = headI l i) := Lib.hid (by
          unfold headN
          rw [if_neg (by rw [← HM.out, HN.out]; omega), ← HM.out])
        have hdr := HI.out.hd
        have hrs := HI.out.rs
        have hr1 : wr.rangeAt (w.heap.size + 1) 0 (dC (headI l i)) := fun j v hv => by
          rw [Nat.zero_add, cell_of_row wr _ j _ _ _ hdr, List.getElem?_toArray]; exact hv
        have h64 : (dC (headI l i)).length = 64 := by rw [dC_len, headI_len]
        obtain ⟨hdo, hdk⟩ := dat_range hr1 h64
        have hone := dC_one (headI l i)
        have hth := there_row (n := 64) hrs rfl
        have hag := agg_ok (n := 64) h64 hone
        have hpt := putAt_row 49 data_size wr w.heap.size _ z64 (dC (headI l i)).toArray hrs rfl (by simpa using h64) (all_oneCell_toArray hone)
        have HX := Lib.hid (setRow_heap wr w.heap.size _ (dC (headI l i)).toArray _ _ hrs)
        have H64 := Lib.hid h64
        clear hr1 hone hdr hrs h64
        go_wp2_with fail
        refine bodyPost_ret (results_c1 Tryz.results24 _ _ w.heap.size 49 _ (0, 0) _ ?hg HX.out Tryz.underlying49 rfl (by rw [data_size, List.size_toArray, H64.out])) ?hr ?hq
        case hg => rfl
        case hr => rfl
        case hq =>
          rw [HE.out]
          have hb := HI.out.bl
          exact ⟨rfl, below_setRow hb (Nat.le_refl _) _⟩
end Go.Proofs.YtkfmdkbiglkjpaaGreat
