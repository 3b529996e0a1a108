/- Chapter 38's answers: what each function does to a context. -/
import Derived.Test.YtdijbkfcfjhajaaDoorCtx
import Derived.Test.YtdijbkfcfjhajaaDoorSysc
namespace Go.Proofs.YtdijbkfcfjhajaaDoor
open Go.RowKit Go.Sort Go.Lib
set_option maxRecDepth 100000

set_option maxHeartbeats 1000000 in
theorem again_any (g : Nat → Int) (w : World) :
    Calls Tryd.prog 18 #[.agg (ctxArr g)] w fun e w' => e = .returned (.agg (ctxArr (gset g 16 ((g 16 - 4) % 4294967296)))) ∧ Below w.heap.size w w' := by
  have hc := ctxArr_at g 16 (by omega)
  have hs := ctxArr_set g 16 ((g 16 - 4) % 4294967296) (by omega)
  go_enter Tryd.func18, Tryd.ntmps18
  go_wp2_with (first
    | refine wpList_load_row rfl 37 _ rfl w.heap.size rfl 37 _ (0, 0) _ (heap_past w _ _) Tryd.underlying37 rfl (by kernel_rfl) ?_
    | refine wpList_store_newN rfl 37 _ _ rfl rfl _ _ _ (w.heap.size + 1) (by simp) rfl rfl (by kernel_rfl) (by kernel_rfl) (ctxArr_one _) ?_)
  exact bodyPost_ret (results_cell_row Tryd.results18 _ _ (w.heap.size + 1) 37 (ctxArr (gset g 16 ((g 16 - 4) % 4294967296))) (0, 0) _ rfl (by rw [show w.heap.size + 1 = (w.alloc (.cells (ctxArr (gset g 16 ((g 16 - 4) % 4294967296))) 37)).heap.size by simp]; exact Go.heap_alloc_new _ _) Tryd.underlying37 rfl (by kernel_rfl)) rfl ⟨rfl, ((Below.refl _ _).alloc (Nat.le_refl _) _).alloc (by simp) _⟩

/-- an error's word -/
def codeOf (n : Int) : Int := (4294967296 - n) % 4294967296

set_option maxHeartbeats 1000000 in
theorem failed_any (g : Nat → Int) (n : Int) (h0 : 0 ≤ n) (h1 : n ≤ 31) (w : World) :
    Calls Tryd.prog 17 #[.agg (ctxArr g), .int .i64 n] w fun e w' => e = .returned (.agg (ctxArr (gset g 1 (codeOf n)))) ∧ Below w.heap.size w w' := by
  have hc := ctxArr_at g 1 (by omega)
  have hs := ctxArr_set g 1 (codeOf n) (by omega)
  have HC := Lib.hid (show ∀ w, Calls Tryd.prog 12 #[.int .i64 n] w fun e w' => e = .returned (.int .u32 (codeOf n)) ∧ w = w' from fun w => by
    by_cases hz : n = 0
    · subst hz; exact code_zero w
    · have e : codeOf n = 4294967296 - n := by unfold codeOf; omega
      rw [e]; exact code_any n (by omega) h1 w)
  clear h0 h1
  go_enter Tryd.func17, Tryd.ntmps17
  go_wp2_with fail
  refine (HC.out _).mono ?_
  rintro e w' ⟨rfl, rfl⟩
  go_wp2_with (first
    | refine wpList_load_row rfl 37 _ rfl w.heap.size rfl 37 _ (0, 0) _ (heap_past w _ _) Tryd.underlying37 rfl (by kernel_rfl) ?_
    | refine wpList_store_newN rfl 37 _ _ rfl rfl _ _ _ (w.heap.size + 1) (by simp) rfl rfl (by kernel_rfl) (by kernel_rfl) (ctxArr_one _) ?_)
  exact bodyPost_ret (results_cell_row Tryd.results17 _ _ (w.heap.size + 1) 37 (ctxArr (gset g 1 (codeOf n))) (0, 0) _ rfl (by rw [show w.heap.size + 1 = (w.alloc (.cells (ctxArr (gset g 1 (codeOf n))) 37)).heap.size by simp]; exact Go.heap_alloc_new _ _) Tryd.underlying37 rfl (by kernel_rfl)) rfl ⟨rfl, ((Below.refl _ _).alloc (Nat.le_refl _) _).alloc (by simp) _⟩

/-- a context whose registers from 1 on are the first k of a row's words -/
def gDone (g : Nat → Int) (z : Nat → Int) (k : Nat) : Nat → Int := fun i => if 1 ≤ i ∧ i ≤ k ∧ i ≤ 15 then z (i - 1) else g i
theorem gDone_zero (g z : Nat → Int) : gDone g z 0 = g := by
  funext i; unfold gDone; rw [if_neg (by omega)]
theorem gDone_set (g z : Nat → Int) (k : Nat) (h : k < 15) : gset (gDone g z k) (k + 1) (z k) = gDone g z (k + 1) := by
  funext i
  unfold gset gDone
  by_cases e : i = k + 1
  · rw [if_pos e, if_pos (by omega), e]; rfl
  · rw [if_neg e]
    by_cases h1 : 1 ≤ i ∧ i ≤ k ∧ i ≤ 15
    · rw [if_pos h1, if_pos (by omega)]
    · rw [if_neg h1, if_neg (by omega)]
theorem gDone_stop (g z : Nat → Int) (k : Nat) (h : 15 ≤ k) : gDone g z k = gDone g z (k + 1) := by
  funext i
  unfold gDone
  by_cases h1 : 1 ≤ i ∧ i ≤ k ∧ i ≤ 15
  · rw [if_pos h1, if_pos (by omega)]
  · rw [if_neg h1, if_neg (by omega)]

def zeros17 : Array Value := #[.int .u32 0, .int .u32 0, .int .u32 0, .int .u32 0, .int .u32 0, .int .u32 0, .int .u32 0, .int .u32 0, .int .u32 0, .int .u32 0, .int .u32 0, .int .u32 0, .int .u32 0, .int .u32 0, .int .u32 0, .int .u32 0, .int .u32 0]

/-- what stands at a round's head of Done -/
def InDone (w : World) (g z : Nat → Int) (k : Nat) (wr : World) : Prop :=
  wr.heap[w.heap.size]? = some (.cells (ctxArr (gDone g z k)) 37) ∧ wr.heap[w.heap.size + 1]? = some (.cells zeros17 37) ∧ Below w.heap.size w wr

theorem InDone.step {w : World} {g z : Nat → Int} {k : Nat} {wr : World} (h : InDone w g z k wr) (hk : k < 15) : InDone w g z (k + 1) (wr.setCell ⟨w.heap.size, k + 1, none⟩ (.int .u32 (z k))) := by
  obtain ⟨h1, h2, h3⟩ := h
  refine ⟨?_, ?_, h3.setCell (Nat.le_refl _) _⟩
  · rw [setCell_eq_setRow wr _ _ _ _ _ _ h1, setRow_heap wr _ _ _ _ _ h1, ctxArr_set _ _ _ (by omega), gDone_set g z k hk]
  · rw [setCell_eq_setRow wr _ _ _ _ _ _ h1, setRow_other _ _ _ _ (by omega)]; exact h2
theorem InDone.stop {w : World} {g z : Nat → Int} {k : Nat} {wr : World} (h : InDone w g z k wr) (hk : 15 ≤ k) : InDone w g z (k + 1) wr := by
  obtain ⟨h1, h2, h3⟩ := h
  exact ⟨by rw [← gDone_stop g z k hk]; exact h1, h2, h3⟩
theorem Below.setRow' {B : Nat} {a w : World} (h : Below B a w) (b : Nat) (hb : B ≤ b) (cs : Array Value) : Below B a (w.setRow b cs) :=
  h.trans ⟨rfl, rfl, rfl, by simp, fun k hk => setRow_other _ _ _ _ (by omega)⟩

set_option maxHeartbeats 2000000 in
theorem done_any (g z : Nat → Int) (a : Option Addr) (b off len cap : Nat) (hlen : len ≤ 9223372036854775807) (ha : 0 < len → a = some ⟨b, off, none⟩) (w : World) (hz : ∀ j, j < len → w.cell? ⟨b, off + j, none⟩ = some (.int .u32 (z j))) :
    Calls Tryd.prog 16 #[.agg (ctxArr g), .slice a len cap] w fun e w' => e = .returned (.agg (ctxArr (gDone g z len))) ∧ Below w.heap.size w w' := by
  have HA := Lib.hid ha
  have HZ := Lib.hid hz
  have hsz := ctxArr_size g
  clear ha hz
  go_enter Tryd.func16, Tryd.ntmps16
  go_wp2_with fail
  go_loopw [9] (fun i wr => ∃ k : Nat, k ≤ len ∧ i = .int .i64 k ∧ Hid (InDone w g z k wr)) (fun i _ => len - (RowKit.intOf i).toNat)
  case atStart =>
    refine ⟨0, Nat.zero_le _, rfl, ?_⟩
    refine ⟨?_, ?_, ((Below.refl _ _).alloc (Nat.le_refl _) _).alloc (by simp) _⟩
    · rw [gDone_zero]; exact heap_past w _ _
    · rw [show w.heap.size + 1 = (w.alloc (.cells (ctxArr g) 37)).heap.size by simp]; exact Go.heap_alloc_new _ _
  case round =>
    obtain ⟨k, hk, rfl, HI⟩ := hrel
    by_cases hlt : k < len
    · have hb : b < w.heap.size := World.block_lt_of_cell? w _ (HZ.out k hlt)
      have hcell : wr.cell? ⟨b, off + k, none⟩ = some (.int .u32 (z k)) := by rw [HI.out.2.2.cell (p := ⟨b, off + k, none⟩) hb]; exact HZ.out k hlt
      obtain rfl := HA.out (by omega)
      by_cases h15 : k < 15
      · have hc1 : wr.cell? ⟨w.heap.size, k + 1, none⟩ = some (.int .u32 (gDone g z k (k + 1))) := by rw [cell_of_row _ _ _ _ _ _ HI.out.1]; exact ctxArr_at _ _ (by omega)
        have hf1 : wr.frozen? ⟨w.heap.size, k + 1, none⟩ = false := by simp [World.frozen?, HI.out.1]
        go_wp2
        go_roundw
        case rel => exact ⟨k + 1, by omega, by go_num, HI.out.step h15⟩
        case measure => simp [RowKit.intOf]; omega
      · go_wp2
        go_roundw
        case rel => exact ⟨k + 1, by omega, by go_num, HI.out.stop (by omega)⟩
        case measure => simp [RowKit.intOf]; omega
    · obtain rfl : k = len := by omega
      have hI := HI.out
      go_wp2_with (first
        | refine wpList_load_row rfl 37 _ rfl w.heap.size rfl 37 _ (0, 0) _ hI.1 Tryd.underlying37 rfl (by kernel_rfl) ?_
        | refine wpList_store_rowTo rfl 37 _ _ rfl rfl (w.heap.size + 1) (ctxArr (gDone g z k)) rfl rfl 37 zeros17 hI.2.1 (by kernel_rfl) (by kernel_rfl) (ctxArr_one _) ?_)
      exact bodyPost_ret (results_cell_row Tryd.results16 _ _ (w.heap.size + 1) 37 (ctxArr (gDone g z k)) (0, 0) _ rfl (setRow_heap _ _ _ _ _ _ hI.2.1) Tryd.underlying37 rfl (by kernel_rfl)) rfl ⟨rfl, Below.setRow' hI.2.2 _ (by omega) _⟩

theorem i64_and31 (n : Int) : bits .and .i64 n 31 = n % 32 := by
  have h31 : (BitVec.ofInt 64 31).toNat = 2 ^ 5 - 1 := by decide
  have key : (BitVec.ofInt 64 n &&& BitVec.ofInt 64 31).toNat = (n % ((2 ^ 64 : Nat) : Int)).toNat % 2 ^ 5 := by
    rw [BitVec.toNat_and, BitVec.toNat_ofInt, h31, Nat.and_two_pow_sub_one_eq_mod]
  show IntKind.i64.wrap ((BitVec.ofInt 64 n &&& BitVec.ofInt 64 31).toNat : Nat) = n % 32
  rw [key, IntKind.wrap_i64]
  omega
end Go.Proofs.YtdijbkfcfjhajaaDoor
