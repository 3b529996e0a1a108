/- The walk of chapter 38's law on answers. -/
import Derived.Test.YtdijbkfcfjhajaaDoorDone
import Derived.Test.YtdijbkfcfjhajaaDoorAwake
import Derived.Lib.ItoaWalk
namespace Go.Proofs.YtdijbkfcfjhajaaDoor
open Go.RowKit Go.Sort Go.Lib
set_option maxRecDepth 100000

/-- a block that holds a context -/
def CtxAt (W : World) (n : Nat) (g : Nat → Int) : Prop := W.heap[n]? = some (.cells (ctxArr g) 37)
theorem CtxAt.lt {W : World} {n : Nat} {g : Nat → Int} (h : CtxAt W n g) : n < W.heap.size := (Array.getElem?_eq_some_iff.1 h).1
theorem CtxAt.on {W W' : World} {n : Nat} {g : Nat → Int} (h : CtxAt W n g) (hb : Below W.heap.size W W') : CtxAt W' n g := (hb.block n h.lt).trans h
theorem CtxAt.alloc {W : World} {n : Nat} {g : Nat → Int} (h : CtxAt W n g) (o : Obj) : CtxAt (W.alloc o) n g := (Go.heap_alloc_old W o h.lt).trans h
theorem CtxAt.new (W : World) (g : Nat → Int) : CtxAt (W.alloc (.cells (ctxArr g) 37)) W.heap.size g := Go.heap_alloc_new W _
theorem CtxAt.set {W : World} {n : Nat} {g : Nat → Int} (h : CtxAt W n g) (i : Nat) (hi : i < 17) (v : Int) : CtxAt (W.setCell ⟨n, i, none⟩ (.int .u32 v)) n (gset g i v) := by
  unfold CtxAt at *
  rw [setCell_eq_setRow W _ _ _ _ _ _ h, setRow_heap W _ _ _ _ _ h, ctxArr_set _ _ _ hi]
theorem CtxAt.other {W : World} {n m : Nat} {g g' : Nat → Int} (h : CtxAt W n g) (hm : CtxAt W m g') (hn : n ≠ m) (i : Nat) (v : Int) : CtxAt (W.setCell ⟨m, i, none⟩ (.int .u32 v)) n g := by
  unfold CtxAt at *
  rw [setCell_eq_setRow W _ _ _ _ _ _ hm, setRow_other _ _ _ _ hn]; exact h
theorem CtxAt.cell {W : World} {n : Nat} {g : Nat → Int} (h : CtxAt W n g) (i : Nat) (hi : i < 17) : W.cell? ⟨n, i, none⟩ = some (.int .u32 (g i)) := by
  rw [cell_of_row _ _ _ _ _ _ h]; exact ctxArr_at _ _ hi
theorem CtxAt.free {W : World} {n : Nat} {g : Nat → Int} (h : CtxAt W n g) (i : Nat) : W.frozen? ⟨n, i, none⟩ = false := by
  unfold CtxAt at h; simp [World.frozen?, h]

theorem gDone_min (g z : Nat → Int) (len : Nat) (h : 15 ≤ len) : gDone g z 15 = gDone g z len := by
  funext i
  unfold gDone
  by_cases h1 : 1 ≤ i ∧ i ≤ 15 ∧ i ≤ 15
  · rw [if_pos h1, if_pos (by omega)]
  · rw [if_neg h1, if_neg (by omega)]

/-- what stands at a round's head of the law's loop -/
def InWant (w : World) (N : Nat) (g z : Nat → Int) (len k : Nat) (wr : World) : Prop :=
  CtxAt wr w.heap.size g ∧ CtxAt wr N (gDone g z len) ∧ CtxAt wr (N + 1) (gDone g z k) ∧ Below w.heap.size w wr ∧ w.heap.size < N

theorem InWant.step {w : World} {N : Nat} {g z : Nat → Int} {len k : Nat} {wr : World} (h : InWant w N g z len k wr) (hk : k < 15) : InWant w N g z len (k + 1) (wr.setCell ⟨N + 1, k + 1, none⟩ (.int .u32 (z k))) := by
  obtain ⟨h1, h2, h3, h4, h5⟩ := h
  refine ⟨h1.other h3 (by omega) _ _, h2.other h3 (by omega) _ _, ?_, h4.setCell (by simp only; omega) _, h5⟩
  rw [← gDone_set g z k hk]
  exact h3.set _ (by omega) _

set_option maxHeartbeats 8000000 in
theorem law_answers (g z : Nat → Int) (a : Option Addr) (b off len cap : Nat) (n : Int) (hlen : len ≤ 9223372036854775807) (ha : 0 < len → a = some ⟨b, off, none⟩) (w : World) (hz : ∀ j, j < len → w.cell? ⟨b, off + j, none⟩ = some (.int .u32 (z j))) (ht : Tab w) :
    Calls Tryd.prog 6 #[.agg (ctxArr g), .slice a len cap, .int .i64 n] w fun e w' => e = .returned (.bool true) ∧ Below w.heap.size w w' := by
  have HA := Lib.hid ha
  have HZ := Lib.hid hz
  have HT := Lib.hid ht
  have HD := Lib.hid (done_any g z a b off len cap hlen ha (w.alloc (.cells (ctxArr g) 37)) fun j hj => by
    rw [World.cell?_alloc_lt _ _ _ (World.block_lt_of_cell? w _ (hz j hj))]; exact hz j hj)
  have hsz := ctxArr_size g
  obtain ⟨m, hm, hm0, hm1⟩ : ∃ m : Int, bits BinOp.and IntKind.i64 n 31 = m ∧ 0 ≤ m ∧ m ≤ 31 := ⟨n % 32, i64_and31 n, by omega, by omega⟩
  have HF := Lib.hid (fun w => failed_any g m hm0 hm1 w)
  have hs1 : (ctxArr g).setIfInBounds 1 (.int .u32 (-m % 4294967296)) = ctxArr (gset g 1 (codeOf m)) := by
    rw [ctxArr_set g 1 _ (by omega), show -m % 4294967296 = codeOf m by unfold codeOf; omega]
  have hs2 := ctxArr_set g 16 ((g 16 - 4) % 4294967296) (by omega)
  clear ha hz ht
  go_enter Tryd.func6, Tryd.ntmps6
  go_wp2_with (refine wpList_load_row rfl 37 _ rfl w.heap.size rfl 37 _ (0, 0) _ (Go.heap_alloc_new w _) Tryd.underlying37 rfl (by kernel_rfl) ?_)
  refine HD.out.mono ?_
  rintro e w1 ⟨rfl, hb1⟩
  have k1 : CtxAt w1 w.heap.size g := (CtxAt.new w g).on hb1
  have hw1 : Below w.heap.size w w1 := ((Below.refl _ _).alloc (Nat.le_refl _) _).trans (hb1.mono (by simp))
  have K1 := Lib.hid k1
  clear hb1 HD k1
  go_wp2_with (first
    | refine wpList_load_row rfl 37 _ rfl w.heap.size rfl 37 _ (0, 0) _ (K1.out.alloc _) Tryd.underlying37 rfl (by kernel_rfl) ?_
    | refine wpList_store_newN rfl 37 _ _ rfl rfl _ _ _ w1.heap.size rfl rfl rfl (by kernel_rfl) (by kernel_rfl) (ctxArr_one _) ?_
    | refine wpList_store_newN rfl 37 _ _ rfl rfl _ _ _ (w1.heap.size + 1) (by simp) rfl rfl (by kernel_rfl) (by kernel_rfl) (ctxArr_one _) ?_)
  go_loopw [9] (fun i wr => ∃ k : Nat, k ≤ len ∧ k ≤ 15 ∧ i = .int .i64 k ∧ Hid (InWant w w1.heap.size g z len k wr)) (fun i _ => len - (RowKit.intOf i).toNat)
  case atStart =>
    refine ⟨0, Nat.zero_le _, Nat.zero_le _, rfl, (K1.out.alloc _).alloc _, (CtxAt.new w1 _).alloc _, ?_, (hw1.alloc (by have := K1.out.lt; omega) _).alloc (by have := K1.out.lt; simp; omega) _, K1.out.lt⟩
    rw [gDone_zero, show w1.heap.size + 1 = (w1.alloc (.cells (ctxArr (gDone g z len)) 37)).heap.size by simp]
    exact CtxAt.new _ g
  case round =>
    obtain ⟨k, hk, hk15, rfl, HI⟩ := hrel
    by_cases hgo : k < len ∧ k < 15
    · obtain ⟨hlt, h15⟩ := hgo
      have hb : b < w.heap.size := World.block_lt_of_cell? w _ (HZ.out k hlt)
      have hcell : wr.cell? ⟨b, off + k, none⟩ = some (.int .u32 (z k)) := by rw [HI.out.2.2.2.1.cell (p := ⟨b, off + k, none⟩) hb]; exact HZ.out k hlt
      obtain rfl := HA.out (by omega)
      have hc1 := HI.out.2.2.1.cell (k + 1) (by omega)
      have hf1 := HI.out.2.2.1.free (k + 1)
      go_wp2
      go_roundw
      case rel => exact ⟨k + 1, by omega, by omega, by go_num, HI.out.step h15⟩
      case measure => simp [RowKit.intOf]; omega
    · have HE : InWant w w1.heap.size g z len len wr := by
        have hh := HI.out
        by_cases e : k = len
        · rw [e] at hh; exact hh
        · obtain rfl : k = 15 := by omega
          have e2 := gDone_min g z len (by omega)
          obtain ⟨h1, h2, h3, h4⟩ := hh
          rw [e2] at h3
          exact ⟨h1, h2, h3, h4⟩
      have hexit : ¬ k < len ∨ (k < len ∧ ¬ k < 15) := by omega
      obtain ⟨r0, r1, r2, hw2, hN⟩ := HE
      have R0 := Lib.hid r0
      have R1 := Lib.hid r1
      have R2 := Lib.hid r2
      have HX := Lib.hid hexit
      clear r0 r1 r2 HI hgo hexit K1 hw1
      rcases HX.out with hx | ⟨hx, hy⟩
      · go_wp2_with (first
          | refine wpList_load_row rfl 37 _ rfl w.heap.size rfl 37 _ (0, 0) _ R0.out Tryd.underlying37 rfl (by kernel_rfl) ?_
          | fail)
        refine (HF.out _).mono ?_
        rintro e w2 ⟨rfl, hb2⟩
        have q0 := R0.out.on hb2
        have q1 := R1.out.on hb2
        have q2 := R2.out.on hb2
        have hw3 := hw2.trans (hb2.mono hw2.size)
        have R0 := Lib.hid q0
        have R1 := Lib.hid q1
        have R2 := Lib.hid q2
        clear q0 q1 q2 hb2
        go_wp2_with (first
          | refine wpList_load_row rfl 37 _ rfl w.heap.size rfl 37 _ (0, 0) _ (R0.out.alloc _) Tryd.underlying37 rfl (by kernel_rfl) ?_
          | refine wpList_load_row rfl 37 _ rfl w.heap.size rfl 37 _ (0, 0) _ ((R0.out.alloc _).alloc _) Tryd.underlying37 rfl (by kernel_rfl) ?_
          | refine wpList_store_newN rfl 37 _ _ rfl rfl _ _ _ w2.heap.size rfl rfl rfl (by kernel_rfl) (by kernel_rfl) (ctxArr_one _) ?_
          | refine wpList_store_newN rfl 37 _ _ rfl rfl _ _ _ (w2.heap.size + 1) (by simp) rfl rfl (by kernel_rfl) (by kernel_rfl) (ctxArr_one _) ?_)
        refine (again_any g _).mono ?_
        rintro e w3 ⟨rfl, hb3⟩
        have q0 := ((R0.out.alloc _).alloc _).on hb3
        have q1 := ((R1.out.alloc _).alloc _).on hb3
        have q2 := ((R2.out.alloc _).alloc _).on hb3
        have q3 := ((CtxAt.new w2 (gset g 1 (codeOf m))).alloc _).on hb3
        have q4 := (CtxAt.new (w2.alloc (.cells (ctxArr (gset g 1 (codeOf m))) 37)) (gset g 1 (codeOf m))).on hb3
        rw [show (w2.alloc (.cells (ctxArr (gset g 1 (codeOf m))) 37)).heap.size = w2.heap.size + 1 by simp] at q4
        have hsz2 := hb3.size
        simp at hsz2
        have hw4 : Below w.heap.size w w3 := ((hw3.alloc (by have := hw3.size; omega) _).alloc (by have := hw3.size; simp; omega) _).trans (hb3.mono (by have := hw3.size; simp; omega))
        have c16 := q0.cell 16 (by omega)
        have hB0 : w.heap.size < w3.heap.size := q0.lt
        have hB1 : w.heap.size < w3.heap.size + 1 := by omega
        have R0 := Lib.hid q0
        have R1 := Lib.hid q1
        have R2 := Lib.hid q2
        have R3 := Lib.hid q3
        have R4 := Lib.hid q4
        have HW := Lib.hid hw4
        clear q0 q1 q2 q3 q4 hb3 hsz2 hw4
        go_wp2_with (first
          | refine wpList_load_row rfl 37 _ rfl w.heap.size rfl 37 _ (0, 0) _ (R0.out.alloc _) Tryd.underlying37 rfl (by kernel_rfl) ?_
          | refine wpList_load_row rfl 37 _ rfl w.heap.size rfl 37 _ (0, 0) _ ((R0.out.alloc _).alloc _) Tryd.underlying37 rfl (by kernel_rfl) ?_
          | refine wpList_store_newN rfl 37 _ _ rfl rfl _ _ _ w3.heap.size rfl rfl rfl (by kernel_rfl) (by kernel_rfl) (ctxArr_one _) ?_
          | refine wpList_store_newN rfl 37 _ _ rfl rfl _ _ _ (w3.heap.size + 1) (by simp) rfl rfl (by kernel_rfl) (by kernel_rfl) (ctxArr_one _) ?_
          | refine wpList_load_rowG (by rfl) 37 _ rfl w1.heap.size rfl 37 _ (0, 0) _ ((R1.out.alloc _).alloc _) Tryd.underlying37 rfl (by kernel_rfl) ?_
          | refine wpList_load_rowG (by rfl) 37 _ rfl (w1.heap.size + 1) rfl 37 _ (0, 0) _ ((R2.out.alloc _).alloc _) Tryd.underlying37 rfl (by kernel_rfl) ?_
          | refine wpList_load_rowG (by rfl) 37 _ rfl w2.heap.size rfl 37 _ (0, 0) _ ((R3.out.alloc _).alloc _) Tryd.underlying37 rfl (by kernel_rfl) ?_
          | refine wpList_load_rowG (by rfl) 37 _ rfl (w2.heap.size + 1) rfl 37 _ (0, 0) _ ((R4.out.alloc _).alloc _) Tryd.underlying37 rfl (by kernel_rfl) ?_
          | refine wpList_load_rowG (by rfl) 37 _ rfl w3.heap.size rfl 37 _ (0, 0) _ ((CtxAt.new w3 _).alloc _) Tryd.underlying37 rfl (by kernel_rfl) ?_
          | refine wpList_load_rowG (by rfl) 37 _ rfl (w3.heap.size + 1) rfl 37 _ (0, 0) _ (by rw [show w3.heap.size + 1 = (w3.alloc (.cells (ctxArr (gset g 16 ((g 16 - 4) % 4294967296))) 37)).heap.size by simp]; exact Go.heap_alloc_new _ _) Tryd.underlying37 rfl (by kernel_rfl) ?_
          | refine wpList_eql_agg (by rfl) 37 37 _ _ rfl _ _ rfl rfl (by kernel_rfl) true (ctx_same _) ?_)
        have hw5 := (HW.out.alloc (Nat.le_of_lt hB0) (.cells (ctxArr (gset g 16 ((g 16 - 4) % 4294967296))) 37)).alloc (by simp; omega) (.cells (ctxArr (gset g 16 ((g 16 - 4) % 4294967296))) 37)
        refine (awake_true _ (HT.out.on hw5)).mono ?_
        rintro e w4 ⟨rfl, hb4⟩
        go_wp2
        go_ret
        exact ⟨rfl, hw5.trans (hb4.mono hw5.size)⟩
      · go_wp2_with (first
          | refine wpList_load_row rfl 37 _ rfl w.heap.size rfl 37 _ (0, 0) _ R0.out Tryd.underlying37 rfl (by kernel_rfl) ?_
          | fail)
        refine (HF.out _).mono ?_
        rintro e w2 ⟨rfl, hb2⟩
        have q0 := R0.out.on hb2
        have q1 := R1.out.on hb2
        have q2 := R2.out.on hb2
        have hw3 := hw2.trans (hb2.mono hw2.size)
        have R0 := Lib.hid q0
        have R1 := Lib.hid q1
        have R2 := Lib.hid q2
        clear q0 q1 q2 hb2
        go_wp2_with (first
          | refine wpList_load_row rfl 37 _ rfl w.heap.size rfl 37 _ (0, 0) _ (R0.out.alloc _) Tryd.underlying37 rfl (by kernel_rfl) ?_
          | refine wpList_load_row rfl 37 _ rfl w.heap.size rfl 37 _ (0, 0) _ ((R0.out.alloc _).alloc _) Tryd.underlying37 rfl (by kernel_rfl) ?_
          | refine wpList_store_newN rfl 37 _ _ rfl rfl _ _ _ w2.heap.size rfl rfl rfl (by kernel_rfl) (by kernel_rfl) (ctxArr_one _) ?_
          | refine wpList_store_newN rfl 37 _ _ rfl rfl _ _ _ (w2.heap.size + 1) (by simp) rfl rfl (by kernel_rfl) (by kernel_rfl) (ctxArr_one _) ?_)
        refine (again_any g _).mono ?_
        rintro e w3 ⟨rfl, hb3⟩
        have q0 := ((R0.out.alloc _).alloc _).on hb3
        have q1 := ((R1.out.alloc _).alloc _).on hb3
        have q2 := ((R2.out.alloc _).alloc _).on hb3
        have q3 := ((CtxAt.new w2 (gset g 1 (codeOf m))).alloc _).on hb3
        have q4 := (CtxAt.new (w2.alloc (.cells (ctxArr (gset g 1 (codeOf m))) 37)) (gset g 1 (codeOf m))).on hb3
        rw [show (w2.alloc (.cells (ctxArr (gset g 1 (codeOf m))) 37)).heap.size = w2.heap.size + 1 by simp] at q4
        have hsz2 := hb3.size
        simp at hsz2
        have hw4 : Below w.heap.size w w3 := ((hw3.alloc (by have := hw3.size; omega) _).alloc (by have := hw3.size; simp; omega) _).trans (hb3.mono (by have := hw3.size; simp; omega))
        have c16 := q0.cell 16 (by omega)
        have hB0 : w.heap.size < w3.heap.size := q0.lt
        have hB1 : w.heap.size < w3.heap.size + 1 := by omega
        have R0 := Lib.hid q0
        have R1 := Lib.hid q1
        have R2 := Lib.hid q2
        have R3 := Lib.hid q3
        have R4 := Lib.hid q4
        have HW := Lib.hid hw4
        clear q0 q1 q2 q3 q4 hb3 hsz2 hw4
        go_wp2_with (first
          | refine wpList_load_row rfl 37 _ rfl w.heap.size rfl 37 _ (0, 0) _ (R0.out.alloc _) Tryd.underlying37 rfl (by kernel_rfl) ?_
          | refine wpList_load_row rfl 37 _ rfl w.heap.size rfl 37 _ (0, 0) _ ((R0.out.alloc _).alloc _) Tryd.underlying37 rfl (by kernel_rfl) ?_
          | refine wpList_store_newN rfl 37 _ _ rfl rfl _ _ _ w3.heap.size rfl rfl rfl (by kernel_rfl) (by kernel_rfl) (ctxArr_one _) ?_
          | refine wpList_store_newN rfl 37 _ _ rfl rfl _ _ _ (w3.heap.size + 1) (by simp) rfl rfl (by kernel_rfl) (by kernel_rfl) (ctxArr_one _) ?_
          | refine wpList_load_rowG (by rfl) 37 _ rfl w1.heap.size rfl 37 _ (0, 0) _ ((R1.out.alloc _).alloc _) Tryd.underlying37 rfl (by kernel_rfl) ?_
          | refine wpList_load_rowG (by rfl) 37 _ rfl (w1.heap.size + 1) rfl 37 _ (0, 0) _ ((R2.out.alloc _).alloc _) Tryd.underlying37 rfl (by kernel_rfl) ?_
          | refine wpList_load_rowG (by rfl) 37 _ rfl w2.heap.size rfl 37 _ (0, 0) _ ((R3.out.alloc _).alloc _) Tryd.underlying37 rfl (by kernel_rfl) ?_
          | refine wpList_load_rowG (by rfl) 37 _ rfl (w2.heap.size + 1) rfl 37 _ (0, 0) _ ((R4.out.alloc _).alloc _) Tryd.underlying37 rfl (by kernel_rfl) ?_
          | refine wpList_load_rowG (by rfl) 37 _ rfl w3.heap.size rfl 37 _ (0, 0) _ ((CtxAt.new w3 _).alloc _) Tryd.underlying37 rfl (by kernel_rfl) ?_
          | refine wpList_load_rowG (by rfl) 37 _ rfl (w3.heap.size + 1) rfl 37 _ (0, 0) _ (by rw [show w3.heap.size + 1 = (w3.alloc (.cells (ctxArr (gset g 16 ((g 16 - 4) % 4294967296))) 37)).heap.size by simp]; exact Go.heap_alloc_new _ _) Tryd.underlying37 rfl (by kernel_rfl) ?_
          | refine wpList_eql_agg (by rfl) 37 37 _ _ rfl _ _ rfl rfl (by kernel_rfl) true (ctx_same _) ?_)
        have hw5 := (HW.out.alloc (Nat.le_of_lt hB0) (.cells (ctxArr (gset g 16 ((g 16 - 4) % 4294967296))) 37)).alloc (by simp; omega) (.cells (ctxArr (gset g 16 ((g 16 - 4) % 4294967296))) 37)
        refine (awake_true _ (HT.out.on hw5)).mono ?_
        rintro e w4 ⟨rfl, hb4⟩
        go_wp2
        go_ret
        exact ⟨rfl, hw5.trans (hb4.mono hw5.size)⟩
end Go.Proofs.YtdijbkfcfjhajaaDoor
