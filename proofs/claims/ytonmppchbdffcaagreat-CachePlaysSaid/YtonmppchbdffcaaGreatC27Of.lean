/- The reference's Of: bytes as a block, noughts behind. -/
import Derived.Test.YtonmppchbdffcaaGreatC27Ops
namespace Go.Proofs.YtonmppchbdffcaaGreat
open Go Go.RowKit Go.Lib
attribute [local go_sem ↓] exec_alloc_b64 exec_build0_b64 exec_store_b64 exec_load_b64
set_option maxRecDepth 100000

/-- a slice of bytes that came in -/
def YReads (w : World) (ad : Option Addr) (cap : Nat) (l : List UInt8) : Prop := l.length ≤ cap ∧ ∀ j x, l[j]? = some x → ∃ b off, ad = some ⟨b, off, none⟩ ∧ w.cell? ⟨b, off + j, none⟩ = some (.int .u8 (x.toNat : Int))
theorem YReads.on {w w' : World} {ad : Option Addr} {cap : Nat} {l : List UInt8} (h : YReads w ad cap l) (hk : ∀ b off, ad = some ⟨b, off, none⟩ → 0 < l.length → w'.heap[b]? = w.heap[b]?) : YReads w' ad cap l :=
  ⟨h.1, fun j x hx => by
    obtain ⟨b, off, e, hc⟩ := h.2 j x hx
    exact ⟨b, off, e, (World.cell?_of_block (a := ⟨b, off + j, none⟩) (hk b off e (by have := (List.getElem?_eq_some_iff.1 hx).1; omega))).trans hc⟩⟩
theorem YReads.lt {w : World} {ad : Option Addr} {cap : Nat} {l : List UInt8} (h : YReads w ad cap l) : ∀ b off, ad = some ⟨b, off, none⟩ → 0 < l.length → b < w.heap.size := fun b off e h0 => by
  obtain ⟨b', off', e', hc⟩ := h.2 0 _ (List.getElem?_eq_getElem h0)
  rw [e] at e'
  obtain ⟨rfl, rfl⟩ : b = b' ∧ off = off' := by simpa using e'
  exact World.block_lt_of_cell? _ ⟨b, off + 0, none⟩ hc
theorem YReads.below {w w' : World} {ad : Option Addr} {cap : Nat} {l : List UInt8} (h : YReads w ad cap l) (hb : Below w.heap.size w w') : YReads w' ad cap l :=
  ⟨h.1, fun j x hx => by
    obtain ⟨b, off, e, hc⟩ := h.2 j x hx
    exact ⟨b, off, e, (World.cell?_of_block (a := ⟨b, off + j, none⟩) (hb.block b (World.block_lt_of_cell? _ ⟨b, off + j, none⟩ hc))).trans hc⟩⟩
/-- the block that the bytes make -/
def ofI (l : List UInt8) : Nat → Dat
  | 0 => zeroD
  | i + 1 => (ofI l i).set i (l.getD i 0)
def ofD (l : List UInt8) : Dat := ofI l (min l.length 64)
theorem ofI_len (l : List UInt8) : ∀ i, (ofI l i).length = 64
  | 0 => rfl
  | i + 1 => by rw [ofI, List.length_set, ofI_len l i]
/-- Of's own block, as far as it is filled -/
structure OfI (w : World) (V : Nat) (l : List UInt8) (i : Nat) (wr : World) : Prop where
  bl : Below V w wr
  rs : wr.heap[V]? = some (.cells z64 33 (0, 0))
  row : wr.heap[V + 1]? = some (.cells (dC (ofI l i)).toArray 33 (0, 0))
set_option maxHeartbeats 3200000 in
theorem ref_of (ad : Option Addr) (cap : Nat) (l : List UInt8) (w : World) (h : YReads w ad cap l) :
    Calls Tryz.prog 11 #[.slice ad l.length cap] w fun e w' => e = .returned (.agg (dC (ofD l)).toArray) ∧ Below w.heap.size w w' := by
  have H := Lib.hid h
  obtain ⟨m, hm⟩ : ∃ m, m = l.length := ⟨_, rfl⟩
  have HM := Lib.hid hm
  rw [← hm]
  obtain ⟨V, hV⟩ : ∃ V, V = w.heap.size := ⟨_, rfl⟩
  obtain ⟨w1, hw1⟩ : ∃ w1, w1 = (w.alloc (.cells z64 33)).alloc (.cells (dC zeroD).toArray 33) := ⟨_, rfl⟩
  have hg0 : w1.heap[V]? = some (.cells z64 33 (0, 0)) := by rw [hw1, hV]; exact heap_alloc2_old _ _ _
  have hg1 : w1.heap[V + 1]? = some (.cells (dC zeroD).toArray 33 (0, 0)) := by rw [hw1, hV]; exact heap_alloc2_new _ _ _
  have hb1 : Below V w w1 := by rw [hw1, hV]; exact ((Below.refl _ _).alloc (Nat.le_refl _) _).alloc (by simp) _
  have hag := agg_ok (cs := dC zeroD) (n := 64) rfl (dC_one zeroD)
  have hth := there_row (n := 64) (heap_alloc2_new w (.cells z64 33) (.cells z64 33)) rfl
  have hpt : putAt ((w.alloc (.cells z64 33)).alloc (.cells z64 33)) (.pointer (some ⟨w.heap.size + 1, 0, none⟩)) (dC zeroD).toArray = w1 := by
    have h := putAt_new 33 b64_size (w.alloc (.cells z64 33)) 33 z64 (dC zeroD).toArray rfl rfl (all_oneCell_toArray (dC_one zeroD))
    rw [hw1, ← h]
    simp
  have H1 := Lib.hid (And.intro hg0 (And.intro hg1 hb1))
  have HV := Lib.hid hV
  have HW1 := Lib.hid hw1
  clear h hm hg0 hg1 hb1 hV hw1
  go_enter Tryz.func11, Tryz.ntmps11
  go_wp2_with fail
  rw [← HV.out]
  go_loopg [4] (min m 64) (fun k s wr => ∃ i : Nat, k + i = min m 64 ∧ s = .int .i64 (i : Int) ∧ OfI w V l i wr)
  case atStart => exact ⟨0, by simp, rfl, H1.out.2.2, H1.out.1, H1.out.2.1⟩
  case round =>
    obtain ⟨i, hk, rfl, hI⟩ := hrel
    have hk := Lib.hid hk
    have HI := Lib.hid hI
    have hVl : V + 1 < wr.heap.size := (Array.getElem?_eq_some_iff.1 hI.row).1
    clear hI
    by_cases hi : i < min m 64
    · have hi1 : (i : Int) < (m : Int) := by omega
      have hi2 : (i : Int) < 64 := by omega
      have hi3 : (0 : Int) ≤ (i : Int) := by omega
      have wr1 : IntKind.i64.wrap ((i : Int) + 1) = (i : Int) + 1 := by rw [IntKind.wrap_i64] <;> omega
      obtain ⟨x, hx⟩ : ∃ x, l[i]? = some x := ⟨l[i]'(by have := HM.out; omega), List.getElem?_eq_getElem _⟩
      have hbl := HI.out.bl
      rw [HV.out] at hbl
      obtain ⟨b, o, rfl, hc⟩ := (H.out.below hbl).2 i x hx
      have hfr := frozen_of_row wr (V + 1) i _ _ HI.out.row
      have hcx : ∃ u, wr.cell? ⟨V + 1, i, none⟩ = some u := by
        rw [cell_of_row wr (V + 1) i _ _ _ HI.out.row, Array.getElem?_eq_getElem (by simp [dC_len, ofI_len]; omega)]
        exact ⟨_, rfl⟩
      obtain ⟨u, hu⟩ := hcx
      have hst := heap_setCell_same wr (V + 1) i _ _ (.int .u8 (x.toNat : Int)) HI.out.row
      rw [dC_set] at hst
      have e1 : (ofI l i).set i x = ofI l (i + 1) := by rw [ofI, List.getD_eq_getElem?_getD, hx]; rfl
      rw [e1] at hst
      have HN : Hid (OfI w V l (i + 1) (wr.setCell ⟨V + 1, i, none⟩ (.int .u8 (x.toNat : Int)))) := Lib.hid ⟨HI.out.bl.setCell (by simp) _, (heap_setCell_other _ _ _ _ (by simp)).trans HI.out.rs, hst⟩
      clear hbl hst e1 hx
      go_wp2_with fail
      go_roundg (gk - 1)
      case measure => have := hk.out; omega
      case rel => exact ⟨i + 1, by have := hk.out; omega, by simp, HN.out⟩
    · have he : ¬ (i : Int) < (m : Int) ∨ ((i : Int) < (m : Int) ∧ ¬ (i : Int) < 64) := by omega
      have hi2 : i = min m 64 := by have := hk.out; omega
      have HE : Hid (ofI l i = ofD l) := Lib.hid (by unfold ofD; rw [hi2, HM.out])
      have hr1 : wr.rangeAt (V + 1) 0 (dC (ofI l i)) := fun j v hv => by rw [Nat.zero_add, cell_of_row wr _ j _ _ _ HI.out.row, List.getElem?_toArray]; exact hv
      have hl : (dC (ofI l i)).length = 64 := by rw [dC_len, ofI_len]
      obtain ⟨hdo, hdk⟩ := dat_range hr1 hl
      have hag2 := agg_ok hl (dC_one _)
      have hth2 := there_row (n := 64) HI.out.rs rfl
      have hpt2 := putAt_row 33 b64_size wr V _ z64 (dC (ofI l i)).toArray HI.out.rs rfl (by simpa using hl) (all_oneCell_toArray (dC_one _))
      have hsr := setRow_heap wr V _ (dC (ofI l i)).toArray _ _ HI.out.rs
      have HQ := Lib.hid (And.intro hsr (below_setRow HI.out.bl (Nat.le_refl _) (dC (ofI l i)).toArray))
      have HL := Lib.hid hl
      clear hr1 hsr hi hi2 hl hth hpt hag
      rcases he with he | ⟨he, he2⟩
      all_goals
        go_wp2_with fail
        refine bodyPost_ret (results_c1 Tryz.results11 _ _ V 33 _ (0, 0) _ ?hg HQ.out.1 Tryz.underlying33 rfl (by rw [b64_size]; simp only [List.size_toArray]; rw [HL.out])) ?hr ?hq
        case hg => rfl
        case hr => rfl
        case hq => rw [HE.out] at HQ ⊢; exact ⟨rfl, by have := HQ.out.2; rwa [HV.out] at this ⊢⟩
end Go.Proofs.YtonmppchbdffcaaGreat
