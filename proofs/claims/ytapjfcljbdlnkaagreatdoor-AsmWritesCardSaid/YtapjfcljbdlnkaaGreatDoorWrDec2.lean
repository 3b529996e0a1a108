/- Decode, isa's and the reference's: the walks. -/
import Derived.Test.YtapjfcljbdlnkaaGreatDoorWrDec
namespace Go.Proofs.YtapjfcljbdlnkaaGreatDoor
open Go Go.RowKit Go.Lib
set_option maxRecDepth 100000

theorem set4_same (w : World) (B : Nat) (v0 v1 v2 v3 : Value) (t : TypeId) (c0 c1 c2 c3 : Value) (h : w.heap[B]? = some (.cells #[c0, c1, c2, c3] t (0, 0))) :
    ((((w.setCell ⟨B, 0, none⟩ v0).setCell ⟨B, 1, none⟩ v1).setCell ⟨B, 2, none⟩ v2).setCell ⟨B, 3, none⟩ v3).heap[B]? = some (.cells #[v0, v1, v2, v3] t (0, 0)) := by
  have h0 := heap_setCell_same _ B 0 _ _ v0 h
  have h1 := heap_setCell_same _ B 1 _ _ v1 h0
  have h2 := heap_setCell_same _ B 2 _ _ v2 h1
  exact heap_setCell_same _ B 3 _ _ v3 h2
theorem set4_below {n : Nat} {w wr : World} {B : Nat} {v0 v1 v2 v3 : Value} (h : Below n w wr) (hn : n ≤ B) : Below n w ((((wr.setCell ⟨B, 0, none⟩ v0).setCell ⟨B, 1, none⟩ v1).setCell ⟨B, 2, none⟩ v2).setCell ⟨B, 3, none⟩ v3) :=
  (((h.setCell hn _).setCell hn _).setCell hn _).setCell hn _
structure Four (w : World) (B : Nat) (t : TypeId) (v0 v1 v2 v3 : Value) : Prop where
  blk : w.heap[B]? = some (.cells #[v0, v1, v2, v3] t (0, 0))
theorem Four.cells {w : World} {B : Nat} {t : TypeId} {v0 v1 v2 v3 : Value} (h : Four w B t v0 v1 v2 v3) : (w.cell? ⟨B, 0, none⟩ = some v0 ∧ w.cell? ⟨B, 1, none⟩ = some v1 ∧ w.cell? ⟨B, 2, none⟩ = some v2 ∧ w.cell? ⟨B, 3, none⟩ = some v3) ∧ (w.frozen? ⟨B, 0, none⟩ = false ∧ w.frozen? ⟨B, 1, none⟩ = false ∧ w.frozen? ⟨B, 2, none⟩ = false ∧ w.frozen? ⟨B, 3, none⟩ = false) := by
  have c0 := cell_of_row w B 0 _ _ _ h.blk
  have c1 := cell_of_row w B 1 _ _ _ h.blk
  have c2 := cell_of_row w B 2 _ _ _ h.blk
  have c3 := cell_of_row w B 3 _ _ _ h.blk
  simp only [List.getElem?_toArray, List.getElem?_cons_succ, List.getElem?_cons_zero] at c0 c1 c2 c3
  exact ⟨⟨c0, c1, c2, c3⟩, frozen_of_row w B 0 _ _ h.blk, frozen_of_row w B 1 _ _ h.blk, frozen_of_row w B 2 _ _ h.blk, frozen_of_row w B 3 _ _ h.blk⟩
set_option maxHeartbeats 3200000 in
theorem ref_decode (x : Nat) (hx : x < 4294967296) (w : World) :
    Calls Tryz.prog 26 #[.int .u32 (x : Int)] w fun e w' => e = .returned (.tuple #[.agg (insX x), .bool (decOk x)]) ∧ Below w.heap.size w w' := by
  have HV := Lib.hid (fun w => ref_valid_x x w)
  have HIT : Hid (decOk x = true → insX x = #[.int .i64 (opX x : Int), .int .i64 (aX x : Int), .int .i64 (bX x : Int), .int .i64 (immX x)]) := Lib.hid fun h => by unfold insX; rw [if_pos h]
  have HIF : Hid (decOk x = false → insX x = #[.int .i64 0, .int .i64 0, .int .i64 0, .int .i64 0]) := Lib.hid fun h => by unfold insX; rw [if_neg (by rw [h]; simp)]
  generalize insX x = I at HIT HIF
  have e1 : (x : Int) / 16777216 = (opX x : Int) := by unfold opX; omega
  have e2 : (x : Int) / 1048576 % 16 = (aX x : Int) := by unfold aX; omega
  have e3 : (x : Int) / 65536 % 16 = (bX x : Int) := by unfold bX; omega
  obtain ⟨m, hm⟩ : ∃ m, m = x % 65536 := ⟨_, rfl⟩
  have e4 : (x : Int) % 65536 = (m : Int) := by omega
  have hi : immX x = if 32768 ≤ m then (m : Int) - 65536 else (m : Int) := by rw [hm]; rfl
  generalize opX x = o at HV HIT e1
  generalize aX x = a at HV HIT e2
  generalize bX x = b at HV HIT e3
  generalize immX x = n at HV HIT hi
  generalize decOk x = D at HV HIT HIF
  have hm2 : m < 65536 := by omega
  have hx0 : (0 : Int) ≤ (x : Int) := by omega
  clear hm
  have HI := Lib.hid hi
  clear hi
  go_enter Tryz.func26, Tryz.ntmps26
  have hBA : Below w.heap.size w ((w.alloc (.cells #[.int .i64 0, .int .i64 0, .int .i64 0, .int .i64 0] 87)).alloc (.cells #[.int .i64 (o : Int), .int .i64 (a : Int), .int .i64 (b : Int), .int .i64 n] 87)) := ((Below.refl _ _).alloc (Nat.le_refl _) _).alloc (by simp) _
  have hRA : ((w.alloc (.cells #[.int .i64 0, .int .i64 0, .int .i64 0, .int .i64 0] 87)).alloc (.cells #[.int .i64 (o : Int), .int .i64 (a : Int), .int .i64 (b : Int), .int .i64 n] 87)).heap[w.heap.size]? = some (.cells #[.int .i64 0, .int .i64 0, .int .i64 0, .int .i64 0] 87 (0, 0)) := (Below.heap_alloc _ _ _ (by simp)).trans (heap_alloc_new w _)
  have hIA : ((w.alloc (.cells #[.int .i64 0, .int .i64 0, .int .i64 0, .int .i64 0] 87)).alloc (.cells #[.int .i64 (o : Int), .int .i64 (a : Int), .int .i64 (b : Int), .int .i64 n] 87)).heap[w.heap.size + 1]? = some (.cells #[.int .i64 (o : Int), .int .i64 (a : Int), .int .i64 (b : Int), .int .i64 n] 87 (0, 0)) := by
    have h9 := heap_alloc_new (w.alloc (.cells #[.int .i64 0, .int .i64 0, .int .i64 0, .int .i64 0] 87)) (.cells #[.int .i64 (o : Int), .int .i64 (a : Int), .int .i64 (b : Int), .int .i64 n] 87)
    rwa [World.size_alloc] at h9
  by_cases h : 32768 ≤ m
  · have k1 : (32768 : Int) ≤ (m : Int) := by omega
    have wr1 : IntKind.i64.wrap ((m : Int) - 65536) = n := by rw [HI.out, if_pos h, IntKind.wrap_i64] <;> omega
    clear h
    go_wp2_with fail
    have hR : ((w.alloc (.cells #[.int .i64 0, .int .i64 0, .int .i64 0, .int .i64 0] 87)).alloc (.cells #[.int .i64 (o : Int), .int .i64 (a : Int), .int .i64 (b : Int), .int .i64 n] 87)).heap[w.heap.size]? = some (.cells #[.int .i64 0, .int .i64 0, .int .i64 0, .int .i64 0] 87 (0, 0)) := by first | exact hRA | exact (heap_setCell_other _ _ _ _ (by simp)).trans hRA
    have hIn : ((w.alloc (.cells #[.int .i64 0, .int .i64 0, .int .i64 0, .int .i64 0] 87)).alloc (.cells #[.int .i64 (o : Int), .int .i64 (a : Int), .int .i64 (b : Int), .int .i64 n] 87)).heap[w.heap.size + 1]? = some (.cells #[.int .i64 (o : Int), .int .i64 (a : Int), .int .i64 (b : Int), .int .i64 n] 87 (0, 0)) := by first | exact hIA | exact heap_setCell_same _ _ 3 _ _ _ hIA
    have hBE : Below w.heap.size w ((w.alloc (.cells #[.int .i64 0, .int .i64 0, .int .i64 0, .int .i64 0] 87)).alloc (.cells #[.int .i64 (o : Int), .int .i64 (a : Int), .int .i64 (b : Int), .int .i64 n] 87)) := by first | exact hBA | exact hBA.setCell (by simp) _
    have hsE : ((w.alloc (.cells #[.int .i64 0, .int .i64 0, .int .i64 0, .int .i64 0] 87)).alloc (.cells #[.int .i64 (o : Int), .int .i64 (a : Int), .int .i64 (b : Int), .int .i64 n] 87)).heap.size = w.heap.size + 2 := by simp
    refine (HV.out _).mono ?_
    rintro e w1 ⟨rfl, hb1⟩
    have q1 : Four w1 w.heap.size 87 (.int .i64 0) (.int .i64 0) (.int .i64 0) (.int .i64 0) := ⟨(hb1.block _ (by rw [hsE]; omega)).trans hR⟩
    have q2 : Four w1 (w.heap.size + 1) 87 (.int .i64 (o : Int)) (.int .i64 (a : Int)) (.int .i64 (b : Int)) (.int .i64 n) := ⟨(hb1.block _ (by rw [hsE]; omega)).trans hIn⟩
    have HB := Lib.hid (hBE.trans (hb1.mono (by rw [hsE]; omega)))
    obtain ⟨⟨d0, d1, d2, d3⟩, f0, f1, f2, f3⟩ := q1.cells
    obtain ⟨⟨g0, g1, g2, g3⟩, -⟩ := q2.cells
    have HQ := Lib.hid q1
    clear q1 q2 hb1 hR hIn hBE hsE hRA hIA hBA
    cases D with
    | false =>
      have HE := Lib.hid (HIF.out rfl)
      go_wp2_with fail
      refine bodyPost_ret (results_cell2 Tryz.results26 _ _ w.heap.size 87 _ (0, 0) _ ?hp (set4_same _ _ _ _ _ _ _ _ _ _ _ HQ.out.blk) Tryz.underlying87 rfl ?hi) ?hr ?hq
      case hp => rfl
      case hi => kernel_rfl
      case hr => rfl
      case hq => exact ⟨by rw [HE.out]; rfl, set4_below HB.out (Nat.le_refl _)⟩
    | true =>
      have HE := Lib.hid (HIT.out rfl)
      go_wp2_with fail
      refine bodyPost_ret (results_cell2 Tryz.results26 _ _ w.heap.size 87 _ (0, 0) _ ?hp (set4_same _ _ _ _ _ _ _ _ _ _ _ HQ.out.blk) Tryz.underlying87 rfl ?hi) ?hr ?hq
      case hp => rfl
      case hi => kernel_rfl
      case hr => rfl
      case hq => exact ⟨by rw [HE.out]; rfl, set4_below HB.out (Nat.le_refl _)⟩
  · have hn : n = (m : Int) := by rw [HI.out, if_neg h]
    have k1 : ¬ (32768 : Int) ≤ n := by omega
    rw [← hn] at e4
    clear h hn
    go_wp2_with fail
    have hR : ((w.alloc (.cells #[.int .i64 0, .int .i64 0, .int .i64 0, .int .i64 0] 87)).alloc (.cells #[.int .i64 (o : Int), .int .i64 (a : Int), .int .i64 (b : Int), .int .i64 n] 87)).heap[w.heap.size]? = some (.cells #[.int .i64 0, .int .i64 0, .int .i64 0, .int .i64 0] 87 (0, 0)) := by first | exact hRA | exact (heap_setCell_other _ _ _ _ (by simp)).trans hRA
    have hIn : ((w.alloc (.cells #[.int .i64 0, .int .i64 0, .int .i64 0, .int .i64 0] 87)).alloc (.cells #[.int .i64 (o : Int), .int .i64 (a : Int), .int .i64 (b : Int), .int .i64 n] 87)).heap[w.heap.size + 1]? = some (.cells #[.int .i64 (o : Int), .int .i64 (a : Int), .int .i64 (b : Int), .int .i64 n] 87 (0, 0)) := by first | exact hIA | exact heap_setCell_same _ _ 3 _ _ _ hIA
    have hBE : Below w.heap.size w ((w.alloc (.cells #[.int .i64 0, .int .i64 0, .int .i64 0, .int .i64 0] 87)).alloc (.cells #[.int .i64 (o : Int), .int .i64 (a : Int), .int .i64 (b : Int), .int .i64 n] 87)) := by first | exact hBA | exact hBA.setCell (by simp) _
    have hsE : ((w.alloc (.cells #[.int .i64 0, .int .i64 0, .int .i64 0, .int .i64 0] 87)).alloc (.cells #[.int .i64 (o : Int), .int .i64 (a : Int), .int .i64 (b : Int), .int .i64 n] 87)).heap.size = w.heap.size + 2 := by simp
    refine (HV.out _).mono ?_
    rintro e w1 ⟨rfl, hb1⟩
    have q1 : Four w1 w.heap.size 87 (.int .i64 0) (.int .i64 0) (.int .i64 0) (.int .i64 0) := ⟨(hb1.block _ (by rw [hsE]; omega)).trans hR⟩
    have q2 : Four w1 (w.heap.size + 1) 87 (.int .i64 (o : Int)) (.int .i64 (a : Int)) (.int .i64 (b : Int)) (.int .i64 n) := ⟨(hb1.block _ (by rw [hsE]; omega)).trans hIn⟩
    have HB := Lib.hid (hBE.trans (hb1.mono (by rw [hsE]; omega)))
    obtain ⟨⟨d0, d1, d2, d3⟩, f0, f1, f2, f3⟩ := q1.cells
    obtain ⟨⟨g0, g1, g2, g3⟩, -⟩ := q2.cells
    have HQ := Lib.hid q1
    clear q1 q2 hb1 hR hIn hBE hsE hRA hIA hBA
    cases D with
    | false =>
      have HE := Lib.hid (HIF.out rfl)
      go_wp2_with fail
      refine bodyPost_ret (results_cell2 Tryz.results26 _ _ w.heap.size 87 _ (0, 0) _ ?hp (set4_same _ _ _ _ _ _ _ _ _ _ _ HQ.out.blk) Tryz.underlying87 rfl ?hi) ?hr ?hq
      case hp => rfl
      case hi => kernel_rfl
      case hr => rfl
      case hq => exact ⟨by rw [HE.out]; rfl, set4_below HB.out (Nat.le_refl _)⟩
    | true =>
      have HE := Lib.hid (HIT.out rfl)
      go_wp2_with fail
      refine bodyPost_ret (results_cell2 Tryz.results26 _ _ w.heap.size 87 _ (0, 0) _ ?hp (set4_same _ _ _ _ _ _ _ _ _ _ _ HQ.out.blk) Tryz.underlying87 rfl ?hi) ?hr ?hq
      case hp => rfl
      case hi => kernel_rfl
      case hr => rfl
      case hq => exact ⟨by rw [HE.out]; rfl, set4_below HB.out (Nat.le_refl _)⟩
end Go.Proofs.YtapjfcljbdlnkaaGreatDoor
