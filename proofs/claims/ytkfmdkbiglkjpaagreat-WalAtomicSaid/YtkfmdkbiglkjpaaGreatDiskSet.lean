/- disk.Settle, as dev.Flush calls it. -/
import Derived.Test.YtkfmdkbiglkjpaaGreatDiskPut
import Derived.StillTail
namespace Go.Proofs.YtkfmdkbiglkjpaaGreat
open Go Go.RowKit Go.Lib
attribute [local go_sem ↓] wp_bslice exec_load_data exec_load_write exec_store_data exec_store_write
set_option maxRecDepth 100000

theorem reg_still_tail {P : Program} {id : Nat} {Q : Exit → Act → World → Prop} {a : Act} {w : World} {l : List Oper} (n : Nat) (hm : P.follows .mixedOrders = true) (hB : Region.lexTailB .any l.toArray n = true)
    (h : wpStill P l.toArray w.drew (fun a' => wpList P l.toArray Q (l.drop n) a' w.drew) (l.take n) a) : (Code.region id l.toArray true).wp P Q a w := wp_region_still_tail n hm hB h
def settleL (L : List Dat) (W : List (Nat × Dat)) (b : Nat) : List Dat := W.foldl (fun L x => if x.1 = b then L.set b x.2 else L) L
def settleW (W : List (Nat × Dat)) (b : Nat) : List (Nat × Dat) := W.filter fun x => decide (x.1 ≠ b)
theorem settleL_snoc (L : List Dat) (W : List (Nat × Dat)) (x : Nat × Dat) (b : Nat) : settleL L (W ++ [x]) b = if x.1 = b then (settleL L W b).set b x.2 else settleL L W b := by simp [settleL]
theorem settleW_snoc (W : List (Nat × Dat)) (x : Nat × Dat) (b : Nat) : settleW (W ++ [x]) b = settleW W b ++ if x.1 = b then [] else [x] := by
  unfold settleW
  rw [List.filter_append]
  by_cases h : x.1 = b <;> simp [h]
theorem settleL_len (b : Nat) : ∀ (W : List (Nat × Dat)) (L : List Dat), (settleL L W b).length = L.length
  | [], _ => rfl
  | x :: W, L => by
    show (settleL (if x.1 = b then L.set b x.2 else L) W b).length = _
    rw [settleL_len b W]; split <;> simp
theorem settleL_ok (b : Nat) : ∀ (W : List (Nat × Dat)) (L : List Dat), (∀ d ∈ L, d.length = 64) → (∀ x ∈ W, x.2.length = 64) → ∀ d ∈ settleL L W b, d.length = 64
  | [], _, hL, _ => hL
  | x :: W, L, hL, hW => by
    show ∀ d ∈ settleL (if x.1 = b then L.set b x.2 else L) W b, d.length = 64
    refine settleL_ok b W _ (fun d hd => ?_) fun y hy => hW y (by simp [hy])
    split at hd
    · rcases List.mem_or_eq_of_mem_set hd with h1 | h1
      · exact hL d h1
      · rw [h1]; exact hW x (by simp)
    · exact hL d hd
theorem settle_fn (x b : Int) (C : Nat) (w : World) (hC : w.cell? ⟨C, 0, none⟩ = some (.int .i64 b)) :
    Calls Tryz.prog 44 #[.int .i64 x, .pointer (some ⟨C, 0, none⟩)] w fun e w' => e = .returned (.bool (x == b)) ∧ w' = w := by
  go_enter Tryz.func44, Tryz.ntmps44
  go_wp2_with fail
  go_ret
  exact ⟨rfl, rfl⟩
structure SettI (F : Nat → Prop) (D : Nat) (L : List Dat) (W : List (Nat × Dat)) (b : Nat) (vl vw : Value) (w : World) (i : Nat) (u : Value) (wr : World) : Prop where
  kp : Keeps F w wr
  blk : wr.heap[D]? = some (.cells #[vl, vw] 56 (0, 0))
  las : wr.ownsRow 0 49 64 vl L.length (lasC (settleL L (W.take i) b))
  wai : ∀ k, vw.ownBlock = some k → wr.heap[k]? = w.heap[k]?
  rest : wr.ownsRow w.heap.size 79 65 u (settleW (W.take i) b).length (waiC (settleW (W.take i) b))

set_option maxHeartbeats 6400000 in
theorem disk_settle (F : Nat → Prop) (D : Nat) (L : List Dat) (W : List (Nat × Dat)) (b C : Nat) (hb : b < L.length) (hL : L.length ≤ 1000) (hW : W.length ≤ 100000) (w : World) (h : DiskAt w F D L W) (hC : w.heap[C]? = some (.cells #[.int .i64 (b : Int)] 3 (0, 0))) (hCF : ¬ F C) :
    Calls Tryz.prog 43 #[.pointer (some ⟨D, 0, none⟩), .func (.func 44) #[] #[.pointer (some ⟨C, 0, none⟩)]] w fun e w' => (∃ n : Int, e = .returned (.int .i64 n)) ∧ DiskAt w' (orNew F w w') D (settleL L W b) (settleW W b) ∧ Keeps F w w' := by
  obtain ⟨vl, vw, h1, h2, h3, h4, h5⟩ := h.mem
  obtain ⟨ad, cap0, rfl, hn63⟩ := own_len h3
  obtain ⟨adl, capl, rfl, hnl⟩ := own_len h2
  obtain ⟨c0, c1, f0, f1⟩ := DiskAt.cells h1
  have hlt := h.lt
  obtain ⟨i0, hi0, hz0, hz1, hz2⟩ := info_parts write_info
  obtain ⟨gl, hgl⟩ : ∃ gl, adl = some ⟨gl, 0, none⟩ := by
    obtain ⟨g, cap', hsl, _⟩ := own_cell h2 (by omega)
    cases hsl; exact ⟨g, rfl⟩
  subst hgl
  have hzW : ∀ x ∈ W, x.2.length = 64 := fun x hx => (h.wz x hx).1
  have HM := Lib.hid (And.intro h1 (And.intro h2 (And.intro h3 (And.intro h4 h5))))
  have H := Lib.hid h
  have HZ := Lib.hid hzW
  have HC := Lib.hid (And.intro hC hCF)
  obtain ⟨m, hm⟩ : ∃ m, m = W.length := ⟨_, rfl⟩
  have HMM := Lib.hid hm
  rw [← hm] at c1 hW hn63
  have hcC : w.cell? ⟨C, 0, none⟩ = some (.int .i64 (b : Int)) := by rw [cell_of_row w C 0 _ _ _ hC]; rfl
  have HCC := Lib.hid hcC
  clear h h1 h2 h3 h4 h5 hC hCF hzW hm hcC
  go_enter Tryz.func43, Tryz.ntmps43
  go_wp2_with fail
  go_loopg [6, 21] m (fun k u v wr => ∃ i : Nat, k + i = m ∧ v = .int .i64 (i : Int) ∧ SettI F D L W b (.slice (some ⟨gl, 0, none⟩) L.length capl) (.slice ad m cap0) w i u wr)
  case atStart => exact ⟨0, by simp, rfl, Keeps.refl _ _, by rw [HMM.out]; exact HM.out.1, HM.out.2.1, fun _ _ => rfl, World.ownsRow_nil _ _ _ _⟩
  case round =>
    obtain ⟨i, hk, rfl, hS⟩ := hrel
    have hk := Lib.hid hk
    have HS := Lib.hid hS
    obtain ⟨adr, capr, rfl, hnr⟩ := own_len hS.rest
    obtain ⟨e0, e1, g0, g1⟩ := DiskAt.cells hS.blk
    have hDr : D < wr.heap.size := (Array.getElem?_eq_some_iff.1 hS.blk).1
    clear hS c0 c1 f0 f1
    by_cases hi : i < m
    · have hi1 : (i : Int) < (m : Int) := by omega
      have hi3 : (0 : Int) ≤ (i : Int) := by omega
      have wr1 : IntKind.i64.wrap ((i : Int) + 1) = (i : Int) + 1 := by rw [IntKind.wrap_i64]; omega
      obtain ⟨⟨xb, d⟩, hx⟩ : ∃ x, W[i]? = some x := ⟨W[i]'(by have := HMM.out; omega), List.getElem?_eq_getElem _⟩
      obtain ⟨hd64, hxb⟩ := H.out.wz _ (List.mem_of_getElem? hx)
      simp only at hd64 hxb
      obtain ⟨g, rfl, hr⟩ := row_at HM.out.2.2.1 HZ.out i _ hx
      have hgl2 := (own_lt HM.out.2.2.1 g rfl).2
      have hrr : wr.rangeAt g (i * 65) (wC (xb, d)) := fun j v hv => (World.cell?_of_block (a := ⟨g, i * 65 + j, none⟩) (HS.out.wai g rfl)).trans (hr j v hv)
      have hwl : (wC (xb, d)).length = 65 := by rw [wC_len, hd64]
      obtain ⟨hdo, hdk⟩ := dat_range hrr hwl
      have hag := agg_ok hwl (wC_one (xb, d))
      have hal := all_oneCell_toArray (wC_one (xb, d))
      have hzc : (Array.size Tryz.zeroCells79) = 65 := by decide
      have hth := there_row (n := 65) (heap_alloc_last wr (.cells Tryz.zeroCells79 79)) hzc
      have hpt := putAt_new 79 write_size wr 79 Tryz.zeroCells79 (wC (xb, d)).toArray hzc (by simpa using hwl) hal
      have hnb := heap_alloc_last wr (.cells (wC (xb, d)).toArray 79)
      have r0 : (wr.alloc (.cells (wC (xb, d)).toArray 79)).cell? ⟨wr.heap.size, 0, none⟩ = some (.int .i64 (xb : Int)) := by rw [cell_of_row _ _ 0 _ _ _ hnb]; rfl
      have hkC : (wr.alloc (.cells (wC (xb, d)).toArray 79)).cell? ⟨C, 0, none⟩ = some (.int .i64 (b : Int)) := by
        have hCl : C < w.heap.size := World.block_lt_of_cell? _ _ HCC.out
        have hs := HS.out.kp.size
        rw [World.cell?_of_block (a := ⟨C, 0, none⟩) (Below.heap_alloc _ _ _ (show C < wr.heap.size by omega)), World.cell?_of_block (a := ⟨C, 0, none⟩) (HS.out.kp.block C hCl HC.out.2)]
        exact HCC.out
      have HF := Lib.hid (settle_fn (xb : Int) (b : Int) C _ hkC)
      have HX := Lib.hid (And.intro hx (And.intro hd64 hxb))
      have HNB := Lib.hid hnb
      clear hr hrr hwl hal hzc hkC hx hnb
      have hbW1 : Below wr.heap.size wr (wr.alloc (.cells (wC (xb, d)).toArray 79)) := (Below.refl _ _).alloc (Nat.le_refl _) _
      have hsW1 : (wr.alloc (.cells (wC (xb, d)).toArray 79)).heap.size = wr.heap.size + 1 := by simp
      go_wp2_with fail
      refine HF.out.mono ?_
      rintro e w' ⟨rfl, hw'⟩
      rw [hw']
      clear hw' w' HF
      obtain ⟨R, hR⟩ : ∃ R, R = wr.heap.size := ⟨_, rfl⟩
      rw [← hR] at r0 HNB hsW1 ⊢
      have hDR : D < R := by omega
      have HSW : Hid (SettI F D L W b (.slice (some ⟨gl, 0, none⟩) L.length capl) (.slice (some ⟨g, 0, none⟩) m cap0) w i (.slice adr (settleW (W.take i) b).length capr) (wr.alloc (.cells (wC (xb, d)).toArray 79))) := Lib.hid ⟨HS.out.kp.trans (Keeps.of_below hbW1), (hbW1.block D (by omega)).trans HS.out.blk, own_on HS.out.las hbW1, fun k e => (hbW1.block k (by have := HS.out.kp.size; have := (own_lt HM.out.2.2.1 k e).2; omega)).trans (HS.out.wai k e), own_on HS.out.rest hbW1⟩
      have hRw : w.heap.size ≤ R := by rw [hR]; exact HS.out.kp.size
      clear hbW1 HS e0 e1 g0 g1 hth hpt hdo hdk hDr
      generalize hW1 : wr.alloc (.cells (wC (xb, d)).toArray 79) = w1 at *
      clear hW1 hR wr
      obtain ⟨e0, e1, g0, g1⟩ := DiskAt.cells HSW.out.blk
      have hSL := settleL_len b (W.take i) L
      have hzS := settleL_ok b (W.take i) L H.out.lz (fun y hy => HZ.out y (List.mem_of_mem_take hy))
      have htk : W.take (i + 1) = W.take i ++ [(xb, d)] := by rw [List.take_add_one, HX.out.1]; rfl
      by_cases he : xb = b
      · subst he
        have k5 : ((xb : Int) == (xb : Int)) = true := beq_self_eq_true _
        have hD1 : w1.drew.heap[D]? = w1.heap[D]? := rfl
        have hlas : (w1.drew).ownsRow 0 49 64 (.slice (some ⟨gl, 0, none⟩) (settleL L (W.take i) xb).length capl) (settleL L (W.take i) xb).length (lasC (settleL L (W.take i) xb)) := by rw [hSL]; exact HSW.out.las
        have hnew := las_put hlas hzS (i := xb) (x := d) (by rw [hSL]; exact hb) HX.out.2.1
        have hrg : w1.drew.rangeAt R 1 (dC d) := fun j v hv => by
          rw [World.cell?_drew, cell_of_row w1 R (1 + j) _ _ _ HNB.out, List.getElem?_toArray, Nat.add_comm]
          exact hv
        have hdl : (dC d).length = 64 := by rw [dC_len, HX.out.2.1]
        obtain ⟨hdo, hdk⟩ := dat_range hrg hdl
        have hag2 := agg_ok hdl (dC_one d)
        have hthr : thereOk 64 w1.drew (.pointer (some ⟨gl, xb * 64, none⟩)) = true := ok_there fun j hj => by
          rcases hlas.2 with ⟨h1, _⟩ | ⟨g', cap', cur, h1, _, h3, h4, _, h6, _⟩
          · cases h1
          · cases h1
            refine ⟨?_, frozen_of_row _ gl _ _ _ h3⟩
            rw [cell_of_row _ gl _ _ _ _ h3, Array.getElem?_eq_getElem (by rw [h6]; have := Nat.mul_le_mul_right 64 h4; omega)]; rfl
        have hput : putAt w1.drew (.pointer (some ⟨gl, xb * 64, none⟩)) (dC d).toArray = w1.drew.setCells gl (xb * 64) (dC d) := rfl
        have hFg : F gl := HM.out.2.2.2.1 gl rfl
        have hglD : gl ≠ D := by
          obtain ⟨cur, hc⟩ := row_tag HSW.out.las gl rfl
          exact tag_ne hc HSW.out.blk (by decide)
        have hglw : gl < w.heap.size := (own_lt HM.out.2.1 gl rfl).2
        have hg3 : ∀ k, k ≠ gl → (w1.drew.setCells gl (xb * 64) (dC d)).heap[k]? = w1.heap[k]? := fun k hk => heap_setCells_other _ _ _ _ k hk
        have HSN : Hid (SettI F D L W xb (.slice (some ⟨gl, 0, none⟩) L.length capl) (.slice (some ⟨g, 0, none⟩) m cap0) w (i + 1) (.slice adr (settleW (W.take i) xb).length capr) (w1.drew.setCells gl (xb * 64) (dC d))) := Lib.hid ⟨HSW.out.kp.trans ((Keeps.of_below (Below.refl _ _).drew).trans (setCells_keeps hFg)), (hg3 D (Ne.symm hglD)).trans HSW.out.blk, by
            rw [htk, settleL_snoc, if_pos rfl]
            rw [hSL] at hnew
            exact hnew, fun k e => by
            rw [hg3 k (fun e2 => by
              obtain ⟨cur, hc⟩ := row_tag HM.out.2.2.1 k e
              obtain ⟨cur', hc'⟩ := row_tag HM.out.2.1 gl rfl
              exact tag_ne hc hc' (by decide) e2)]
            exact HSW.out.wai k e, by
            rw [htk, settleW_snoc, if_pos rfl, List.append_nil]
            exact own_move HSW.out.rest (Nat.le_refl _) fun k e => hg3 k (by have := (own_lt HSW.out.rest k e).1; omega)⟩
        have e0' : w1.drew.cell? ⟨D, 0, none⟩ = some (.slice (some ⟨gl, 0, none⟩) L.length capl) := e0
        have k6 : (xb : Int) < (L.length : Int) := by omega
        have k7 : (0 : Int) ≤ (xb : Int) := by omega
        clear hlas hnew hrg hzS htk hglw hg3 hD1 hSL g0 g1 e1
        generalize w1.drew.setCells gl (xb * 64) (dC d) = w2 at *
        go_wp2_with fail
        refine reg_still_tail 9 (by kernel_rfl) (by kernel_rfl) ?_
        simp only [List.take_succ_cons, List.take_zero, List.drop_succ_cons, List.drop_zero]
        repeat still_step
        refine wpStill_nil ?_
        go_wp2_with fail
        go_roundg (gk - 1)
        case measure => have := hk.out; omega
        case rel => exact ⟨i + 1, by have := hk.out; omega, by simp, HSN.out⟩
      · have k5 : ((xb : Int) == (b : Int)) = false := beq_eq_false_iff_ne.2 (by omega)
        have hwl : (wC (xb, d)).length = 65 := by rw [wC_len, HX.out.2.1]
        have hone := wC_one (xb, d)
        have hrg : w1.rangeAt R 0 (wC (xb, d)) := fun j v hv => by
          rw [Nat.zero_add, cell_of_row w1 R j _ _ _ HNB.out, List.getElem?_toArray]
          exact hv
        obtain ⟨hdo, hdk⟩ := dat_range hrg hwl
        have hwr : wrLen (.agg (wC (xb, d)).toArray) = true := decide_eq_true (by simp [Value.cells, hwl])
        have hnw := World.news_of_block (w := w1.alloc (.cells (wC (xb, d)).toArray 79)) (B := w1.heap.size) (cs := (wC (xb, d)).toArray) (t := 79) (fr := (0, 0)) (heap_alloc_last _ _)
        have hbW2 : Below w1.heap.size w1 (w1.alloc (.cells (wC (xb, d)).toArray 79)) := (Below.refl _ _).alloc (Nat.le_refl _) _
        have hro := own_on HSW.out.rest hbW2
        have hfl : (settleW (W.take i) b).length ≤ i := Nat.le_trans (List.length_filter_le _ _) (by simp; omega)
        have hSN : ∀ (g2 cap2 : Nat) (w5 : World), w5.ownsRow w.heap.size 79 65 (.slice (some ⟨g2, 0, none⟩) ((settleW (W.take i) b).length + 1) cap2) ((settleW (W.take i) b).length + 1) (waiC (settleW (W.take i) b) ++ wC (xb, d)) → (w1.alloc (.cells (wC (xb, d)).toArray 79)).grownBy w5 (Value.slice adr (settleW (W.take i) b).length capr).ownBlock →
            SettI F D L W b (.slice (some ⟨gl, 0, none⟩) L.length capl) (.slice (some ⟨g, 0, none⟩) m cap0) w (i + 1) (.slice (some ⟨g2, 0, none⟩) ((settleW (W.take i) b).length + 1) cap2) w5 := fun g2 cap2 w5 ho hg => by
          have hkeep : ∀ k, k < w1.heap.size → (Value.slice adr (settleW (W.take i) b).length capr).ownBlock ≠ some k → w5.heap[k]? = w1.heap[k]? := fun k hk hne => (hg.block k (by simp; omega) (Ne.symm hne)).trans (hbW2.block k hk)
          have hnb : ∀ k, k < w.heap.size → (Value.slice adr (settleW (W.take i) b).length capr).ownBlock ≠ some k := fun k hk e => by have := (own_lt HSW.out.rest k e).1; omega
          have hwz := HSW.out.kp.size
          refine ⟨⟨hg.os.trans HSW.out.kp.os, hg.tape.trans HSW.out.kp.tape, hg.output.trans HSW.out.kp.output, by have := hg.size; simp at this; omega, fun k hk hf => (hkeep k (by omega) (hnb k hk)).trans (HSW.out.kp.block k hk hf)⟩, (hkeep D (by omega) (hnb D hlt)).trans HSW.out.blk, ?_, fun k e => ?_, ?_⟩
          · rw [htk, settleL_snoc, if_neg he]
            exact own_move HSW.out.las (Nat.le_refl _) fun k e => hkeep k (own_lt HSW.out.las k e).2 (hnb k (by cases e; exact (own_lt HM.out.2.1 gl rfl).2))
          · rw [hkeep k (by have := (own_lt HM.out.2.2.1 k e).2; omega) (hnb k (own_lt HM.out.2.2.1 k e).2)]
            exact HSW.out.wai k e
          · rw [htk, settleW_snoc, if_neg he]
            have e1 : (settleW (W.take i) b ++ [(xb, d)]).length = (settleW (W.take i) b).length + 1 := by simp
            rw [e1, waiC_snoc]
            exact ho
        have HSN := Lib.hid hSN
        have HRO := Lib.hid hro
        rw [hsW1] at hnw
        have HNW := Lib.hid hnw
        have HWL := Lib.hid hwl
        have HON := Lib.hid hone
        clear hSN hro hnw hwl hone hrg hSL hzS htk hbW2 g0 g1
        generalize (settleW (W.take i) b).length = nf at *
        go_wp2_with (first
          | (at_builtin; refine wpList_append_lies _ rfl _ _ _ rfl w.heap.size 79 i0 _ 65 72 Tryz.underlying54 hi0 hz0 hz1 hz2 rfl (by omega) (.slice adr nf capr) nf _ rfl HRO.out ⟨R + 1, 0, none⟩ 1 1 (wC (xb, d)) rfl (by rw [HWL.out]) HNW.out HON.out (by omega) (by unfold maxLen; omega) (by omega) (by have := HSW.out.kp.size; simp; omega) (R + 1 + 1) (by simp [hsW1]) ?_; intro g2 cap2 w5 hown5 hgrow5 _ _; have HX5 := Lib.hid (HSN.out g2 cap2 w5 hown5 hgrow5); clear hown5 hgrow5)
          | fail)
        go_roundg (gk - 1)
        case measure => have := hk.out; omega
        case rel => exact ⟨i + 1, by have := hk.out; omega, by simp, HX5.out⟩
    · have hi1 : ¬ (i : Int) < (m : Int) := by omega
      have him : i = m := by have := hk.out; omega
      subst him
      have htk : W.take i = W := by rw [HMM.out, List.take_length]
      rw [htk] at HS
      have hsn : (settleW W b).length ≤ i := by rw [HMM.out]; exact List.length_filter_le _ _
      have wr2 : IntKind.i64.wrap ((i : Int) - ((settleW W b).length : Int)) = (i : Int) - ((settleW W b).length : Int) := by rw [IntKind.wrap_i64] <;> omega
      rw [htk]
      go_wp2_with fail
      go_ret
      refine ⟨⟨_, rfl⟩, ⟨?_, ?_, .inl H.out.own, .slice (some ⟨gl, 0, none⟩) L.length capl, .slice adr (settleW W b).length capr, heap_setCell_same wr D 1 _ _ _ HS.out.blk, ?_, ?_, fun k e => .inl (HM.out.2.2.2.1 k e), fun k e => .inr ⟨(own_lt HS.out.rest k e).1, by simp only [World.size_setCell]; exact (own_lt HS.out.rest k e).2⟩⟩, HS.out.kp.trans ⟨rfl, rfl, rfl, by simp, fun k _ hf => heap_setCell_other _ _ _ _ (fun e => hf (e ▸ H.out.own))⟩⟩
      · exact settleL_ok b W L H.out.lz HZ.out
      · intro x hx
        have := H.out.wz x (List.mem_filter.1 hx).1
        rw [settleL_len]; exact this
      · have hl := HS.out.las
        rw [htk] at hl
        rw [settleL_len]
        obtain ⟨cur, hc⟩ := row_tag hl gl rfl
        refine ownsRow_setCell_other hl (fun e => ?_) _
        have e : gl = D := by simpa [Value.ownBlock] using e
        exact tag_ne hc HS.out.blk (by decide) e
      · have hl := HS.out.rest
        rw [htk] at hl
        refine ownsRow_setCell_other (own_weak hl (Nat.zero_le _)) (fun e => ?_) _
        obtain ⟨cur, hc⟩ := row_tag hl _ e
        exact tag_ne hc HS.out.blk (by decide) rfl
end Go.Proofs.YtkfmdkbiglkjpaaGreat
