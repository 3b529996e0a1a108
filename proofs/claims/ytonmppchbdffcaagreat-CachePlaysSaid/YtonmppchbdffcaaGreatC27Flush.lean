/- disk.Flush. -/
import Derived.Test.YtonmppchbdffcaaGreatDiskPut
import Derived.Test.YtonmppchbdffcaaGreatC27Cache
namespace Go.Proofs.YtonmppchbdffcaaGreat
open Go Go.RowKit Go.Lib
attribute [local go_sem ↓] wp_bslice exec_load_data exec_load_write exec_store_data exec_store_write
set_option maxRecDepth 100000

theorem wAt_64' {W : List (Nat × Dat)} (h : ∀ x ∈ W, x.2.length = 64) (i : Nat) : (wAt W i).2.length = 64 := by
  unfold wAt
  rw [List.getD_eq_getElem?_getD]
  cases hh : W[i]? with
  | none => rfl
  | some y => exact h y (List.mem_of_getElem? hh)
/-- what lasts behind a flush of the first i writes -/
def flushN (L : List Dat) (W : List (Nat × Dat)) : Nat → List Dat
  | 0 => L
  | i + 1 => (flushN L W i).set (wAt W i).1 (wAt W i).2
theorem flushN_len (L : List Dat) (W : List (Nat × Dat)) : ∀ i, (flushN L W i).length = L.length
  | 0 => rfl
  | i + 1 => by rw [flushN, List.length_set, flushN_len L W i]
theorem flushN_ok {L : List Dat} {W : List (Nat × Dat)} (hL : ∀ d ∈ L, d.length = 64) (hW : ∀ x ∈ W, x.2.length = 64) : ∀ i, ∀ d ∈ flushN L W i, d.length = 64
  | 0 => hL
  | i + 1 => fun d hd => by
    rw [flushN] at hd
    rcases List.mem_or_eq_of_mem_set hd with h1 | h1
    · exact flushN_ok hL hW i d h1
    · rw [h1]; exact wAt_64' hW i
structure FuI (F : Nat → Prop) (D : Nat) (L : List Dat) (W : List (Nat × Dat)) (vl vw : Value) (w : World) (i : Nat) (wr : World) : Prop where
  kp : Keeps F w wr
  blk : wr.heap[D]? = some (.cells #[vl, vw] 62 (0, 0))
  las : wr.ownsRow 0 34 64 vl L.length (lasC (flushN L W i))
  wai : ∀ k, vw.ownBlock = some k → wr.heap[k]? = w.heap[k]?

set_option maxHeartbeats 6400000 in
theorem disk_flush (F : Nat → Prop) (D : Nat) (L : List Dat) (W : List (Nat × Dat)) (h0L : 0 < L.length) (hL : L.length ≤ 1000) (hW : W.length ≤ 100000) (w : World) (h : DiskAt w F D L W) :
    Calls Tryz.prog 16 #[.pointer (some ⟨D, 0, none⟩)] w fun e w' => e = .returned (.tuple #[]) ∧ DiskAt w' (orNew F w w') D (flushN L W W.length) [] ∧ Keeps F w w' := by
  obtain ⟨vl, vw, h1, h2, h3, h4, h5⟩ := h.mem
  obtain ⟨ad, cap0, rfl, hn63⟩ := own_len h3
  obtain ⟨adl, capl, rfl, hnl⟩ := own_len h2
  obtain ⟨c0, c1, f0, f1⟩ := DiskAt.cells h1
  have hlt := h.lt
  obtain ⟨gl, hgl⟩ : ∃ gl, adl = some ⟨gl, 0, none⟩ := by
    obtain ⟨g, cap', hsl, _⟩ := own_cell h2 h0L
    cases hsl; exact ⟨g, rfl⟩
  subst hgl
  have hzW : ∀ x ∈ W, x.2.length = 64 := fun x hx => (h.wz x hx).1
  have HM := Lib.hid (And.intro h1 (And.intro h2 (And.intro h3 (And.intro h4 h5))))
  have H := Lib.hid h
  have HZ := Lib.hid hzW
  obtain ⟨m, hm⟩ : ∃ m, m = W.length := ⟨_, rfl⟩
  have HMM := Lib.hid hm
  rw [← hm] at c1 hW hn63
  clear h h1 h2 h3 h4 h5 hzW hm
  go_enter Tryz.func16, Tryz.ntmps16
  go_wp2_with fail
  go_loopg [11] m (fun k v wr => ∃ (i : Nat), k + i = m ∧ v = .int .i64 (i : Int) ∧ FuI F D L W (.slice (some ⟨gl, 0, none⟩) L.length capl) (.slice ad m cap0) w i wr)
  case atStart => exact ⟨0, by simp, rfl, Keeps.refl _ _, by rw [HMM.out]; exact HM.out.1, HM.out.2.1, fun _ _ => rfl⟩
  case round =>
    obtain ⟨i, hk, rfl, hS⟩ := hrel
    have hk := Lib.hid hk
    have HS := Lib.hid hS
    obtain ⟨e0, e1, g0, g1⟩ := DiskAt.cells hS.blk
    have hDr : D < wr.heap.size := (Array.getElem?_eq_some_iff.1 hS.blk).1
    clear hS c0 c1 f0 f1
    by_cases hi : i < m
    · have hi1 : (i : Int) < (m : Int) := by omega
      have hi3 : (0 : Int) ≤ (i : Int) := by omega
      have wr1 : IntKind.i64.wrap ((i : Int) + 1) = (i : Int) + 1 := by rw [IntKind.wrap_i64]; omega
      obtain ⟨⟨xb, d⟩, hx⟩ : ∃ x, W[i]? = some x := ⟨W[i]'(by have := HMM.out; omega), List.getElem?_eq_getElem _⟩
      have hwx : wAt W i = (xb, d) := by unfold wAt; rw [List.getD_eq_getElem?_getD, hx]; rfl
      obtain ⟨hd64, hxb⟩ := H.out.wz _ (List.mem_of_getElem? hx)
      simp only at hd64 hxb
      obtain ⟨g, rfl, hr⟩ := row_at HM.out.2.2.1 HZ.out i _ hx
      have hgl2 := (own_lt HM.out.2.2.1 g rfl).2
      have hrr : wr.rangeAt g (i * 65) (wC (xb, d)) := fun j v hv => (World.cell?_of_block (a := ⟨g, i * 65 + j, none⟩) (HS.out.wai g rfl)).trans (hr j v hv)
      have hwl : (wC (xb, d)).length = 65 := by rw [wC_len, hd64]
      obtain ⟨hdo, hdk⟩ := dat_range hrr hwl
      have hag := agg_ok hwl (wC_one (xb, d))
      have hal := all_oneCell_toArray (wC_one (xb, d))
      have hzc : (Array.size Tryz.zeroCells78) = 65 := by decide
      have hth := there_row (n := 65) (heap_alloc_last wr (.cells Tryz.zeroCells78 78)) hzc
      have hpt := putAt_new 78 write_size wr 78 Tryz.zeroCells78 (wC (xb, d)).toArray hzc (by simpa using hwl) hal
      have hnb := heap_alloc_last wr (.cells (wC (xb, d)).toArray 78)
      have r0 : (wr.alloc (.cells (wC (xb, d)).toArray 78)).cell? ⟨wr.heap.size, 0, none⟩ = some (.int .i64 (xb : Int)) := by rw [cell_of_row _ _ 0 _ _ _ hnb]; rfl
      have HX := Lib.hid (And.intro hx (And.intro hd64 (And.intro hxb hwx)))
      have HNB := Lib.hid hnb
      have hbW1 : Below wr.heap.size wr (wr.alloc (.cells (wC (xb, d)).toArray 78)) := (Below.refl _ _).alloc (Nat.le_refl _) _
      have hsW1 : (wr.alloc (.cells (wC (xb, d)).toArray 78)).heap.size = wr.heap.size + 1 := by simp
      have HSW : Hid (FuI F D L W (.slice (some ⟨gl, 0, none⟩) L.length capl) (.slice (some ⟨g, 0, none⟩) m cap0) w i (wr.alloc (.cells (wC (xb, d)).toArray 78))) := Lib.hid ⟨HS.out.kp.trans (Keeps.of_below hbW1), (hbW1.block D (by omega)).trans HS.out.blk, own_on HS.out.las hbW1, fun k e => (hbW1.block k (by have := HS.out.kp.size; have := (own_lt HM.out.2.2.1 k e).2; omega)).trans (HS.out.wai k e)⟩
      have hRw : w.heap.size ≤ wr.heap.size := HS.out.kp.size
      clear hr hrr hwl hal hzc hx hnb
      clear hbW1 HS e0 e1 g0 g1
      obtain ⟨R, hR⟩ : ∃ R, R = wr.heap.size := ⟨_, rfl⟩
      have hpt' := hpt
      have hSL := flushN_len L W i
      have hzS := flushN_ok H.out.lz HZ.out i
      obtain ⟨w1, hw1⟩ : ∃ w1, w1 = wr.alloc (.cells (wC (xb, d)).toArray 78) := ⟨_, rfl⟩
      rw [← hw1] at hpt r0 HSW HNB
      have hlas : (w1.drew).ownsRow 0 34 64 (.slice (some ⟨gl, 0, none⟩) (flushN L W i).length capl) (flushN L W i).length (lasC (flushN L W i)) := by rw [hSL]; exact HSW.out.las
      have hnew := las_put hlas hzS (i := xb) (x := d) (by rw [hSL]; exact hxb) HX.out.2.1
      have hrg : w1.drew.rangeAt wr.heap.size 1 (dC d) := fun j v hv => by
        rw [World.cell?_drew, cell_of_row w1 _ (1 + j) _ _ _ HNB.out, List.getElem?_toArray, Nat.add_comm]
        exact hv
      have hdl : (dC d).length = 64 := by rw [dC_len, HX.out.2.1]
      obtain ⟨hdo2, hdk2⟩ := dat_range hrg hdl
      have hag2 := agg_ok hdl (dC_one d)
      have hthr : thereOk 64 w1.drew (.pointer (some ⟨gl, xb * 64, none⟩)) = true := ok_there fun j hj => by
        rcases hlas.2 with ⟨h1, _⟩ | ⟨g', cap', cur, h1, _, h3, h4, _, h6, _⟩
        · cases h1
        · cases h1
          refine ⟨?_, frozen_of_row _ gl _ _ _ h3⟩
          rw [cell_of_row _ gl _ _ _ _ h3, Array.getElem?_eq_getElem (by rw [h6]; have := Nat.mul_le_mul_right 64 h4; omega)]; rfl
      have hput : putAt w1.drew (.pointer (some ⟨gl, xb * 64, none⟩)) (dC d).toArray = w1.drew.setCells gl (xb * 64) (dC d) := rfl
      have hFg : F gl := HM.out.2.2.2.1 gl rfl
      have hglD : gl ≠ D := by
        obtain ⟨cur, hc⟩ := row_tag HSW.out.las gl rfl
        exact tag_ne hc HSW.out.blk (by decide)
      have hg3 : ∀ k, k ≠ gl → (w1.drew.setCells gl (xb * 64) (dC d)).heap[k]? = w1.heap[k]? := fun k hk => heap_setCells_other _ _ _ _ k hk
      have HSN : Hid (FuI F D L W (.slice (some ⟨gl, 0, none⟩) L.length capl) (.slice (some ⟨g, 0, none⟩) m cap0) w (i + 1) (w1.drew.setCells gl (xb * 64) (dC d))) := Lib.hid ⟨HSW.out.kp.trans ((Keeps.of_below (Below.refl _ _).drew).trans (setCells_keeps hFg)), (hg3 D (Ne.symm hglD)).trans HSW.out.blk, by
          rw [flushN, HX.out.2.2.2]
          rw [hSL] at hnew
          exact hnew, fun k e => by
          rw [hg3 k (fun e2 => by
            obtain ⟨cur, hc⟩ := row_tag HM.out.2.2.1 k e
            obtain ⟨cur', hc'⟩ := row_tag HM.out.2.1 gl rfl
            exact tag_ne hc hc' (by decide) e2)]
          exact HSW.out.wai k e⟩
      obtain ⟨e0, e1, g0, g1⟩ := DiskAt.cells HSW.out.blk
      have e0' : w1.drew.cell? ⟨D, 0, none⟩ = some (.slice (some ⟨gl, 0, none⟩) L.length capl) := e0
      have r0' : w1.drew.cell? ⟨wr.heap.size, 0, none⟩ = some (.int .i64 (xb : Int)) := r0
      have k6 : (xb : Int) < (L.length : Int) := by omega
      have k7 : (0 : Int) ≤ (xb : Int) := by omega
      have HW1 := Lib.hid hw1
      clear hlas hnew hrg hzS hg3 hSL g0 g1 e1 hR hpt' hw1
      generalize w1.drew.setCells gl (xb * 64) (dC d) = w2 at *
      go_wp2_with fail
      refine reg_still_tail 9 (by kernel_rfl) (by kernel_rfl) ?_
      simp only [List.take_succ_cons, List.take_zero, List.drop_succ_cons, List.drop_zero]
      repeat still_step
      refine wpStill_nil ?_
      go_wp2_with fail
      go_roundg (gk - 1)
      case measure => have := hk.out; omega
      case rel => exact ⟨i + 1, by have := hk.out; omega, by simp, HSN.out⟩
    · have hi1 : ¬ (i : Int) < (m : Int) := by omega
      have him : i = m := by have := hk.out; omega
      subst him
      go_wp2_with fail
      go_end0
      refine ⟨rfl, ⟨?_, fun x hx => (by cases hx), .inl H.out.own, .slice (some ⟨gl, 0, none⟩) L.length capl, .slice none 0 0, heap_setCell_same wr D 1 _ _ _ HS.out.blk, ?_, World.ownsRow_nil _ _ _ _, fun k e => .inl (HM.out.2.2.2.1 k e), fun k e => by cases e⟩, HS.out.kp.trans ⟨rfl, rfl, rfl, by simp, fun k _ hf => heap_setCell_other _ _ _ _ (fun e => hf (e ▸ H.out.own))⟩⟩
      · exact flushN_ok H.out.lz HZ.out W.length
      · have hl := HS.out.las
        rw [flushN_len, ← HMM.out]
        obtain ⟨cur, hc⟩ := row_tag hl gl rfl
        refine ownsRow_setCell_other hl (fun e => ?_) _
        have e : gl = D := by simpa [Value.ownBlock] using e
        exact tag_ne hc HS.out.blk (by decide) e
end Go.Proofs.YtonmppchbdffcaaGreat
