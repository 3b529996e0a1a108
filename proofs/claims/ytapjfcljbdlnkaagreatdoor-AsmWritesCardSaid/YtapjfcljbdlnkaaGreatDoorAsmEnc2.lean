/- (*isa.Table).Encode. -/
import Derived.Test.YtapjfcljbdlnkaaGreatDoorAsmEnc
import Derived.Lib.EndianBits
namespace Go.Proofs.YtapjfcljbdlnkaaGreatDoor
open Go Go.RowKit Go.Lib
set_option maxRecDepth 100000

/-- an instruction's word -/
def encV (op : Nat) (a b imm : Int) : Int := (((op : Int) * 16 + a) * 16 + b) * 65536 + imm % 65536

theorem fits_low {h : Bool} {v : Int} (hf : fitsP h v 0 15 = true) : 0 ≤ v ∧ v ≤ 15 := by
  unfold fitsP at hf
  split at hf
  · simpa using hf
  · have : v = 0 := by simpa using hf
    omega
theorem fits_imm {h : Bool} {v : Int} (hf : fitsP h v (-32768) 32767 = true) : -32768 ≤ v ∧ v ≤ 32767 := by
  unfold fitsP at hf
  split at hf
  · simpa using hf
  · have : v = 0 := by simpa using hf
    omega
theorem valid_parts {op : Nat} {a b imm : Int} (h : validP op a b imm = true) : 1 ≤ op ∧ (0 ≤ a ∧ a ≤ 15) ∧ (0 ≤ b ∧ b ≤ 15) ∧ (-32768 ≤ imm ∧ imm ≤ 32767) := by
  simp only [validP, Bool.and_eq_true, decide_eq_true_eq] at h
  exact ⟨h.1.1.1, fits_low h.1.1.2, fits_low h.1.2, fits_imm h.2⟩
theorem enc_bits (op : Nat) (a b imm : Int) (h0 : op ≤ 24) (ha : 0 ≤ a ∧ a ≤ 15) (hb : 0 ≤ b ∧ b ≤ 15) :
    bits .or .u32 (bits .or .u32 (bits .or .u32 ((op : Int) * 16777216) (a % 4294967296 * 1048576 % 4294967296)) (b % 4294967296 * 65536 % 4294967296)) (bits .and .u32 (imm % 4294967296) 65535) = encV op a b imm := by
  have e1 : a % 4294967296 * 1048576 % 4294967296 = a * 1048576 := by omega
  have e2 : b % 4294967296 * 65536 % 4294967296 = b * 65536 := by omega
  have e3 : bits .and .u32 (imm % 4294967296) 65535 = imm % 65536 := by
    rw [show (65535 : Int) = 2 ^ 16 - 1 from rfl, bits_mask .u32 32 (by decide) wraps_u32 16 (by decide) _ (by omega) (by omega)]
    omega
  rw [e1, e2, e3]
  rw [bits_join .u32 32 (by decide) wraps_u32 24 ((op : Int) * 16777216) (a * 1048576) (by omega) (by omega) (by omega) (by omega) (by omega) (by omega)]
  rw [bits_join .u32 32 (by decide) wraps_u32 20 ((op : Int) * 16777216 + a * 1048576) (b * 65536) (by omega) (by omega) (by omega) (by omega) (by omega) (by omega)]
  rw [bits_join .u32 32 (by decide) wraps_u32 16 ((op : Int) * 16777216 + a * 1048576 + b * 65536) (imm % 65536) (by omega) (by omega) (by omega) (by omega) (by omega) (by omega)]
  unfold encV
  omega
def encR (op : Nat) (a b imm : Int) : Int := if validP op a b imm then encV op a b imm else 0
set_option maxHeartbeats 3200000 in
theorem encode_any (t op : Nat) (a b imm : Int) (hop : op ≤ 24) (w : World) (h : TabS w t) :
    Calls Tryz.prog 40 #[.pointer (some ⟨t, 0, none⟩), .agg #[.int .i64 (op : Int), .int .i64 a, .int .i64 b, .int .i64 imm]] w fun e w' =>
      e = .returned (.tuple #[.int .u32 (encR op a b imm), .bool (validP op a b imm)]) ∧ Step28 t w w' ∧ TabF w' t := by
  have htl := h.lt
  have HV := Lib.hid (fun w1 (hb : w1.heap[t]? = w.heap[t]?) => valid_any t op a b imm hop w1 (h.on hb))
  clear h
  go_enter Tryz.func40, Tryz.ntmps40
  go_wp2_with fail
  refine (HV.out _ (Below.heap_alloc _ _ _ htl)).mono ?_
  rintro e w1 ⟨rfl, hs, hf⟩
  have hsz := hs.but.size
  simp only [World.size_alloc] at hsz
  have hblk : ∀ k, k < w.heap.size + 1 → k ≠ t → w1.heap[k]? = (w.alloc (.cells #[.int .i64 (op : Int), .int .i64 a, .int .i64 b, .int .i64 imm] 74)).heap[k]? := fun k hk hne => hs.but.block k (by simpa using hk) hne
  have hnew := (hblk w.heap.size (by omega) (by omega)).trans (heap_alloc_new w _)
  have c0 := cell_of_row w1 w.heap.size 0 _ _ _ hnew
  have c1 := cell_of_row w1 w.heap.size 1 _ _ _ hnew
  have c2 := cell_of_row w1 w.heap.size 2 _ _ _ hnew
  have c3 := cell_of_row w1 w.heap.size 3 _ _ _ hnew
  simp only [List.getElem?_toArray, List.getElem?_cons_succ, List.getElem?_cons_zero] at c0 c1 c2 c3
  have HS : Hid (Step28 t w w1) := Lib.hid ((Step28.of_below ((Below.refl _ _).alloc (Nat.le_refl _) _) htl).trans hs)
  have HT := Lib.hid hf
  clear hs hf hblk hnew HV
  cases hv : validP op a b imm with
  | false =>
    have HVV := Lib.hid hv
    clear hv
    go_wp2_with fail
    go_ret2
    rw [HVV.out, show encR op a b imm = 0 by simp [encR, HVV.out]]
    exact ⟨rfl, HS.out, HT.out⟩
  | true =>
    have HVV := Lib.hid hv
    clear hv
    go_wp2_with fail
    go_ret2
    rw [HVV.out, show encR op a b imm = encV op a b imm by simp [encR, HVV.out]]
    obtain ⟨v1, v2, v3, v4⟩ := valid_parts HVV.out
    rw [← enc_bits op a b imm hop v2 v3]
    exact ⟨rfl, HS.out, HT.out⟩
end Go.Proofs.YtapjfcljbdlnkaaGreatDoor
