/- disk.Crash. -/
import Derived.Test.YtkfmdkbiglkjpaaGreatDiskSet
namespace Go.Proofs.YtkfmdkbiglkjpaaGreat
open Go Go.RowKit Go.Lib
attribute [local go_sem ↓] wp_bslice exec_load_data exec_load_write exec_store_data exec_store_write
set_option maxRecDepth 100000

/-- a slice of bools that can be read: these -/
def BReads (w : World) (v : Value) (l : List Bool) : Prop :=
  ∃ ad cap, v = .slice ad l.length cap ∧ l.length ≤ maxLen ∧ ∀ (j : Nat) (x : Bool), l[j]? = some x → ∃ b off, ad = some ⟨b, off, none⟩ ∧ w.cell? ⟨b, off + j, none⟩ = some (.bool x)
theorem BReads.on {w w' : World} {v : Value} {l : List Bool} (h : BReads w v l) (hk : ∀ ad cap b off, v = .slice (some ⟨b, off, ad⟩) l.length cap → w'.heap[b]? = w.heap[b]?) : BReads w' v l := by
  obtain ⟨ad, cap, hv, hm, hc⟩ := h
  refine ⟨ad, cap, hv, hm, fun j x hx => ?_⟩
  obtain ⟨b, off, e, h1⟩ := hc j x hx
  exact ⟨b, off, e, (World.cell?_of_block (a := ⟨b, off + j, none⟩) (hk none cap b off (by rw [hv, e]))).trans h1⟩
def crashN (L : List Dat) (W : List (Nat × Dat)) (ks : List Bool) : Nat → List Dat
  | 0 => L
  | i + 1 => if ks.getD i false then (crashN L W ks i).set (wAt W i).1 (wAt W i).2 else crashN L W ks i
def crashL (L : List Dat) (W : List (Nat × Dat)) (ks : List Bool) : List Dat := crashN L W ks W.length
theorem crashN_len (L : List Dat) (W : List (Nat × Dat)) (ks : List Bool) : ∀ i, (crashN L W ks i).length = L.length
  | 0 => rfl
  | i + 1 => by rw [crashN]; split <;> simp [crashN_len L W ks i]
theorem wAt_64 {W : List (Nat × Dat)} (h : ∀ x ∈ W, x.2.length = 64) (i : Nat) : (wAt W i).2.length = 64 := by
  unfold wAt
  rw [List.getD_eq_getElem?_getD]
  cases hh : W[i]? with
  | none => rfl
  | some y => exact h y (List.mem_of_getElem? hh)
theorem crashN_ok {L : List Dat} {W : List (Nat × Dat)} (ks : List Bool) (hL : ∀ d ∈ L, d.length = 64) (hW : ∀ x ∈ W, x.2.length = 64) : ∀ i, ∀ d ∈ crashN L W ks i, d.length = 64
  | 0 => hL
  | i + 1 => fun d hd => by
    rw [crashN] at hd
    split at hd
    · rcases List.mem_or_eq_of_mem_set hd with h1 | h1
      · exact crashN_ok ks hL hW i d h1
      · rw [h1]; exact wAt_64 hW i
    · exact crashN_ok ks hL hW i d hd
structure CrI (F : Nat → Prop) (D : Nat) (L : List Dat) (W : List (Nat × Dat)) (ks : List Bool) (vl vw : Value) (w : World) (i : Nat) (wr : World) : Prop where
  kp : Keeps F w wr
  blk : wr.heap[D]? = some (.cells #[vl, vw] 56 (0, 0))
  las : wr.ownsRow 0 49 64 vl L.length (lasC (crashN L W ks i))
  wai : ∀ k, vw.ownBlock = some k → wr.heap[k]? = w.heap[k]?

set_option maxHeartbeats 6400000 in
theorem disk_crash (F : Nat → Prop) (D : Nat) (L : List Dat) (W : List (Nat × Dat)) (ks : List Bool) (kv : Value) (h0L : 0 < L.length) (hL : L.length ≤ 1000) (hW : W.length ≤ 100000) (w : World) (h : DiskAt w F D L W) (hks : BReads w kv ks) (hkF : ∀ ad cap b off, kv = .slice (some ⟨b, off, ad⟩) ks.length cap → 0 < ks.length → b < w.heap.size ∧ ¬ F b) :
    Calls Tryz.prog 14 #[.pointer (some ⟨D, 0, none⟩), kv] w fun e w' => (∃ n : Int, e = .returned (.int .i64 n)) ∧ DiskAt w' (orNew F w w') D (crashL L W ks) [] ∧ Keeps F w w' := by
  obtain ⟨vl, vw, h1, h2, h3, h4, h5⟩ := h.mem
  obtain ⟨ad, cap0, rfl, hn63⟩ := own_len h3
  obtain ⟨adl, capl, rfl, hnl⟩ := own_len h2
  obtain ⟨adk, capk, rfl, hkm, hkc⟩ := hks
  obtain ⟨c0, c1, f0, f1⟩ := DiskAt.cells h1
  have hlt := h.lt
  obtain ⟨gl, hgl⟩ : ∃ gl, adl = some ⟨gl, 0, none⟩ := by
    obtain ⟨g, cap', hsl, _⟩ := own_cell h2 h0L
    cases hsl; exact ⟨g, rfl⟩
  subst hgl
  have hzW : ∀ x ∈ W, x.2.length = 64 := fun x hx => (h.wz x hx).1
  have HM := Lib.hid (And.intro h1 (And.intro h2 (And.intro h3 (And.intro h4 h5))))
  have H := Lib.hid h
  have HZ := Lib.hid hzW
  have HKC := Lib.hid (And.intro hkc hkF)
  obtain ⟨m, hm⟩ : ∃ m, m = W.length := ⟨_, rfl⟩
  obtain ⟨nk, hnk⟩ : ∃ nk, nk = ks.length := ⟨_, rfl⟩
  have HMM := Lib.hid hm
  have HNK := Lib.hid hnk
  rw [← hm] at c1 hW hn63
  rw [← hnk] at hkm ⊢
  clear h h1 h2 h3 h4 h5 hzW hm hkc hkF hnk
  go_enter Tryz.func14, Tryz.ntmps14
  go_wp2_with fail
  go_loopg [5, 15] m (fun k u v wr => ∃ (i : Nat) (n : Int), k + i = m ∧ u = .int .i64 n ∧ v = .int .i64 (i : Int) ∧ CrI F D L W ks (.slice (some ⟨gl, 0, none⟩) L.length capl) (.slice ad m cap0) w i wr)
  case atStart => exact ⟨0, 0, by simp, rfl, rfl, Keeps.refl _ _, by rw [HMM.out]; exact HM.out.1, HM.out.2.1, fun _ _ => rfl⟩
  case round =>
    obtain ⟨i, nc, hk, rfl, rfl, hS⟩ := hrel
    have hk := Lib.hid hk
    have HS := Lib.hid hS
    obtain ⟨e0, e1, g0, g1⟩ := DiskAt.cells hS.blk
    have hDr : D < wr.heap.size := (Array.getElem?_eq_some_iff.1 hS.blk).1
    clear hS c0 c1 f0 f1
    by_cases hi : i < m
    · have hi1 : (i : Int) < (m : Int) := by omega
      have hi3 : (0 : Int) ≤ (i : Int) := by omega
      have wr1 : IntKind.i64.wrap ((i : Int) + 1) = (i : Int) + 1 := by rw [IntKind.wrap_i64]; omega
      obtain ⟨⟨xb, d⟩, hx⟩ : ∃ x, W[i]? = some x := ⟨W[i]'(by have := HMM.out; omega), List.getElem?_eq_getElem _⟩
      have hwx : wAt W i = (xb, d) := by unfold wAt; rw [List.getD_eq_getElem?_getD, hx]; rfl
      obtain ⟨hd64, hxb⟩ := H.out.wz _ (List.mem_of_getElem? hx)
      simp only at hd64 hxb
      obtain ⟨g, rfl, hr⟩ := row_at HM.out.2.2.1 HZ.out i _ hx
      have hgl2 := (own_lt HM.out.2.2.1 g rfl).2
      have hrr : wr.rangeAt g (i * 65) (wC (xb, d)) := fun j v hv => (World.cell?_of_block (a := ⟨g, i * 65 + j, none⟩) (HS.out.wai g rfl)).trans (hr j v hv)
      have hwl : (wC (xb, d)).length = 65 := by rw [wC_len, hd64]
      obtain ⟨hdo, hdk⟩ := dat_range hrr hwl
      have hag := agg_ok hwl (wC_one (xb, d))
      have hal := all_oneCell_toArray (wC_one (xb, d))
      have hzc : (Array.size Tryz.zeroCells79) = 65 := by decide
      have hth := there_row (n := 65) (heap_alloc_last wr (.cells Tryz.zeroCells79 79)) hzc
      have hpt := putAt_new 79 write_size wr 79 Tryz.zeroCells79 (wC (xb, d)).toArray hzc (by simpa using hwl) hal
      have hnb := heap_alloc_last wr (.cells (wC (xb, d)).toArray 79)
      have r0 : (wr.alloc (.cells (wC (xb, d)).toArray 79)).cell? ⟨wr.heap.size, 0, none⟩ = some (.int .i64 (xb : Int)) := by rw [cell_of_row _ _ 0 _ _ _ hnb]; rfl
      have HX := Lib.hid (And.intro hx (And.intro hd64 (And.intro hxb hwx)))
      have HNB := Lib.hid hnb
      have hbW1 : Below wr.heap.size wr (wr.alloc (.cells (wC (xb, d)).toArray 79)) := (Below.refl _ _).alloc (Nat.le_refl _) _
      have hsW1 : (wr.alloc (.cells (wC (xb, d)).toArray 79)).heap.size = wr.heap.size + 1 := by simp
      have HSW : Hid (CrI F D L W ks (.slice (some ⟨gl, 0, none⟩) L.length capl) (.slice (some ⟨g, 0, none⟩) m cap0) w i (wr.alloc (.cells (wC (xb, d)).toArray 79))) := Lib.hid ⟨HS.out.kp.trans (Keeps.of_below hbW1), (hbW1.block D (by omega)).trans HS.out.blk, own_on HS.out.las hbW1, fun k e => (hbW1.block k (by have := HS.out.kp.size; have := (own_lt HM.out.2.2.1 k e).2; omega)).trans (HS.out.wai k e)⟩
      have hRw : w.heap.size ≤ wr.heap.size := HS.out.kp.size
      clear hr hrr hwl hal hzc hx hnb
      have hq : (¬ (i : Int) < (nk : Int) ∧ ks.getD i false = false) ∨ ((i : Int) < (nk : Int) ∧ i < nk ∧ ∃ b off, adk = some ⟨b, off, none⟩ ∧ (wr.alloc (.cells (wC (xb, d)).toArray 79)).cell? ⟨b, off + i, none⟩ = some (.bool (ks.getD i false))) := by
        by_cases h : i < nk
        · right
          have hki : ks[i]? = some (ks.getD i false) := by rw [List.getD_eq_getElem?_getD, List.getElem?_eq_getElem (by have := HNK.out; omega)]; rfl
          obtain ⟨b, off, rfl, hc⟩ := HKC.out.1 i _ hki
          obtain ⟨hbl, hbF⟩ := HKC.out.2 none capk b off rfl (by have := (List.getElem?_eq_some_iff.1 hki).1; omega)
          refine ⟨by omega, h, b, off, rfl, ?_⟩
          rw [World.cell?_of_block (a := ⟨b, off + i, none⟩) (hbW1.block b (by omega)), World.cell?_of_block (a := ⟨b, off + i, none⟩) (HS.out.kp.block b hbl hbF)]
          exact hc
        · left
          refine ⟨by omega, ?_⟩
          rw [List.getD_eq_getElem?_getD, List.getElem?_eq_none (by have := HNK.out; omega)]; rfl
      have hno : ks.getD i false = false → CrI F D L W ks (.slice (some ⟨gl, 0, none⟩) L.length capl) (.slice (some ⟨g, 0, none⟩) m cap0) w (i + 1) (wr.alloc (.cells (wC (xb, d)).toArray 79)) := fun hf => ⟨HSW.out.kp, HSW.out.blk, by rw [crashN, hf]; exact HSW.out.las, HSW.out.wai⟩
      have HNO := Lib.hid hno
      have HHQ := Lib.hid hq
      clear hno hq
      rcases HHQ.out with ⟨k1, hf⟩ | ⟨k1, k2, kb, koff, rfl, hkc⟩
      · have HF := Lib.hid (HNO.out hf)
        clear hbW1 HS e0 e1 g0 g1 hf
        go_wp2_with fail
        go_roundg (gk - 1)
        case measure => have := hk.out; omega
        case rel => exact ⟨i + 1, nc, by have := hk.out; omega, rfl, by simp, HF.out⟩
      · cases hkv : ks.getD i false with
        | false =>
          have HF := Lib.hid (HNO.out hkv)
          rw [hkv] at hkc
          clear hbW1 HS e0 e1 g0 g1 hkv
          go_wp2_with fail
          go_roundg (gk - 1)
          case measure => have := hk.out; omega
          case rel => exact ⟨i + 1, nc, by have := hk.out; omega, rfl, by simp, HF.out⟩
        | true =>
          rw [hkv] at hkc
          have HKV := Lib.hid hkv
          clear hbW1 HS e0 e1 g0 g1 hkv
          obtain ⟨R, hR⟩ : ∃ R, R = wr.heap.size := ⟨_, rfl⟩
          have hpt' := hpt
          have hSL := crashN_len L W ks i
          have hzS := crashN_ok ks H.out.lz HZ.out i
          obtain ⟨w1, hw1⟩ : ∃ w1, w1 = wr.alloc (.cells (wC (xb, d)).toArray 79) := ⟨_, rfl⟩
          rw [← hw1] at hpt hkc r0 HSW HNB
          have hlas : (w1.drew).ownsRow 0 49 64 (.slice (some ⟨gl, 0, none⟩) (crashN L W ks i).length capl) (crashN L W ks i).length (lasC (crashN L W ks i)) := by rw [hSL]; exact HSW.out.las
          have hnew := las_put hlas hzS (i := xb) (x := d) (by rw [hSL]; exact hxb) HX.out.2.1
          have hrg : w1.drew.rangeAt wr.heap.size 1 (dC d) := fun j v hv => by
            rw [World.cell?_drew, cell_of_row w1 _ (1 + j) _ _ _ HNB.out, List.getElem?_toArray, Nat.add_comm]
            exact hv
          have hdl : (dC d).length = 64 := by rw [dC_len, HX.out.2.1]
          obtain ⟨hdo2, hdk2⟩ := dat_range hrg hdl
          have hag2 := agg_ok hdl (dC_one d)
          have hthr : thereOk 64 w1.drew (.pointer (some ⟨gl, xb * 64, none⟩)) = true := ok_there fun j hj => by
            rcases hlas.2 with ⟨h1, _⟩ | ⟨g', cap', cur, h1, _, h3, h4, _, h6, _⟩
            · cases h1
            · cases h1
              refine ⟨?_, frozen_of_row _ gl _ _ _ h3⟩
              rw [cell_of_row _ gl _ _ _ _ h3, Array.getElem?_eq_getElem (by rw [h6]; have := Nat.mul_le_mul_right 64 h4; omega)]; rfl
          have hput : putAt w1.drew (.pointer (some ⟨gl, xb * 64, none⟩)) (dC d).toArray = w1.drew.setCells gl (xb * 64) (dC d) := rfl
          have hFg : F gl := HM.out.2.2.2.1 gl rfl
          have hglD : gl ≠ D := by
            obtain ⟨cur, hc⟩ := row_tag HSW.out.las gl rfl
            exact tag_ne hc HSW.out.blk (by decide)
          have hg3 : ∀ k, k ≠ gl → (w1.drew.setCells gl (xb * 64) (dC d)).heap[k]? = w1.heap[k]? := fun k hk => heap_setCells_other _ _ _ _ k hk
          have HSN : Hid (CrI F D L W ks (.slice (some ⟨gl, 0, none⟩) L.length capl) (.slice (some ⟨g, 0, none⟩) m cap0) w (i + 1) (w1.drew.setCells gl (xb * 64) (dC d))) := Lib.hid ⟨HSW.out.kp.trans ((Keeps.of_below (Below.refl _ _).drew).trans (setCells_keeps hFg)), (hg3 D (Ne.symm hglD)).trans HSW.out.blk, by
              rw [crashN, HKV.out, HX.out.2.2.2]
              rw [hSL] at hnew
              exact hnew, fun k e => by
              rw [hg3 k (fun e2 => by
                obtain ⟨cur, hc⟩ := row_tag HM.out.2.2.1 k e
                obtain ⟨cur', hc'⟩ := row_tag HM.out.2.1 gl rfl
                exact tag_ne hc hc' (by decide) e2)]
              exact HSW.out.wai k e⟩
          obtain ⟨e0, e1, g0, g1⟩ := DiskAt.cells HSW.out.blk
          have e0' : w1.drew.cell? ⟨D, 0, none⟩ = some (.slice (some ⟨gl, 0, none⟩) L.length capl) := e0
          have r0' : w1.drew.cell? ⟨wr.heap.size, 0, none⟩ = some (.int .i64 (xb : Int)) := r0
          have k6 : (xb : Int) < (L.length : Int) := by omega
          have k7 : (0 : Int) ≤ (xb : Int) := by omega
          have HW1 := Lib.hid hw1
          clear hlas hnew hrg hzS hg3 hSL g0 g1 e1 hR hpt' hw1
          generalize w1.drew.setCells gl (xb * 64) (dC d) = w2 at *
          go_wp2_with fail
          refine reg_still_tail 9 (by kernel_rfl) (by kernel_rfl) ?_
          simp only [List.take_succ_cons, List.take_zero, List.drop_succ_cons, List.drop_zero]
          repeat still_step
          refine wpStill_nil ?_
          go_wp2_with fail
          go_roundg (gk - 1)
          case measure => have := hk.out; omega
          case rel => exact ⟨i + 1, _, by have := hk.out; omega, rfl, by simp, HSN.out⟩
    · have hi1 : ¬ (i : Int) < (m : Int) := by omega
      have him : i = m := by have := hk.out; omega
      subst him
      go_wp2_with fail
      go_ret
      refine ⟨⟨_, rfl⟩, ⟨?_, fun x hx => (by cases hx), .inl H.out.own, .slice (some ⟨gl, 0, none⟩) L.length capl, .slice none 0 0, heap_setCell_same wr D 1 _ _ _ HS.out.blk, ?_, World.ownsRow_nil _ _ _ _, fun k e => .inl (HM.out.2.2.2.1 k e), fun k e => by cases e⟩, HS.out.kp.trans ⟨rfl, rfl, rfl, by simp, fun k _ hf => heap_setCell_other _ _ _ _ (fun e => hf (e ▸ H.out.own))⟩⟩
      · exact crashN_ok ks H.out.lz HZ.out W.length
      · have hl := HS.out.las
        unfold crashL
        rw [crashN_len, ← HMM.out]
        obtain ⟨cur, hc⟩ := row_tag hl gl rfl
        refine ownsRow_setCell_other hl (fun e => ?_) _
        have e : gl = D := by simpa [Value.ownBlock] using e
        exact tag_ne hc HS.out.blk (by decide) e
end Go.Proofs.YtkfmdkbiglkjpaaGreat
