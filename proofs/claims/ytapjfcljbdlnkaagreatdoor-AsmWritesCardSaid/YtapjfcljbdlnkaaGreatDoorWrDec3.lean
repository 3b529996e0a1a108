/- (*isa.Table).Decode. -/
import Derived.Test.YtapjfcljbdlnkaaGreatDoorWrImm
namespace Go.Proofs.YtapjfcljbdlnkaaGreatDoor
open Go Go.RowKit Go.Lib
set_option maxRecDepth 100000

theorem imm_bounds (x : Nat) : -32768 ≤ immX x ∧ immX x ≤ 32767 := by
  unfold immX
  split <;> omega
theorem imm_w32 (x : Nat) : wrap32 (immX x) = immX x := by
  have := imm_bounds x
  unfold wrap32
  omega
theorem imm_back (x : Nat) : wrap32 (immX x % 4294967296) = immX x := by
  have := imm_bounds x
  unfold wrap32
  omega
set_option maxHeartbeats 1600000 in
theorem word_sign (x : Nat) (w : World) :
    Calls Tryz.prog 47 #[.int .u32 (x : Int)] w fun e w' => e = .returned (.int .u32 (immX x % 4294967296)) ∧ w' = w := by
  have s1 := imm_i16 x
  have s2 := imm_w32 x
  generalize immX x = n at s1 s2 ⊢
  go_enter Tryz.func47, Tryz.ntmps47
  go_wp2_with fail
  go_ret
  exact ⟨rfl, rfl⟩
theorem but_set4 {t B : Nat} {w w1 : World} {v0 v1 v2 v3 : Value} (h : Step28 t w w1) (hts : TabS w1 t) (htB : t ≠ B) (hB : w.heap.size ≤ B) :
    Step28 t w ((((w1.setCell ⟨B, 0, none⟩ v0).setCell ⟨B, 1, none⟩ v1).setCell ⟨B, 2, none⟩ v2).setCell ⟨B, 3, none⟩ v3) ∧ TabS ((((w1.setCell ⟨B, 0, none⟩ v0).setCell ⟨B, 1, none⟩ v1).setCell ⟨B, 2, none⟩ v2).setCell ⟨B, 3, none⟩ v3) t := by
  have hk : ∀ k, k ≠ B → ((((w1.setCell ⟨B, 0, none⟩ v0).setCell ⟨B, 1, none⟩ v1).setCell ⟨B, 2, none⟩ v2).setCell ⟨B, 3, none⟩ v3).heap[k]? = w1.heap[k]? := fun k hk => by
    rw [heap_setCell_other _ _ _ _ hk, heap_setCell_other _ _ _ _ hk, heap_setCell_other _ _ _ _ hk, heap_setCell_other _ _ _ _ hk]
  have ht := hk t htB
  refine ⟨⟨⟨fun n hn hs => ?_, by simpa using h.but.size, fun k hkl hkt => (hk k (by omega)).trans (h.but.block k hkl hkt), fun cs ty hc => ?_⟩, fun j hj => ⟨(World.cell?_of_block (a := ⟨t, j, none⟩) ht).trans (h.out j hj).1, (World.frozen?_of_block (a := ⟨t, j, none⟩) ht).trans (h.out j hj).2⟩⟩, hts.on ht⟩
  · exact set4_below (h.but.below n hn hs) (by omega)
  · obtain ⟨cs', hc'⟩ := h.but.typ cs ty hc
    exact ⟨cs', ht.trans hc'⟩
set_option maxHeartbeats 3200000 in
theorem isa_decode (t x : Nat) (hx : x < 4294967296) (w : World) (ht : TabS w t) :
    Calls Tryz.prog 18 #[.pointer (some ⟨t, 0, none⟩), .int .u32 (x : Int)] w fun e w' => e = .returned (.tuple #[.agg (insX x), .bool (decOk x)]) ∧ Step28 t w w' ∧ TabS w' t := by
  have htl := ht.lt
  have HS := Lib.hid (fun w => word_sign x w)
  have HV := Lib.hid (fun w (h : TabS w t) => isa_valid_x t x w h)
  have HIT : Hid (decOk x = true → insX x = #[.int .i64 (opX x : Int), .int .i64 (aX x : Int), .int .i64 (bX x : Int), .int .i64 (immX x)]) := Lib.hid fun h => by unfold insX; rw [if_pos h]
  have HIF : Hid (decOk x = false → insX x = #[.int .i64 0, .int .i64 0, .int .i64 0, .int .i64 0]) := Lib.hid fun h => by unfold insX; rw [if_neg (by rw [h]; simp)]
  generalize insX x = I at HIT HIF
  have e1 : (x : Int) / 16777216 = (opX x : Int) := by unfold opX; omega
  have e2 : bits .and .u32 ((x : Int) / 1048576) 15 = (aX x : Int) := by
    rw [show (15 : Int) = 2 ^ 4 - 1 from rfl, bits_mask .u32 32 (by decide) wraps_u32 4 (by decide) _ (by omega) (by omega)]
    unfold aX; omega
  have e3 : bits .and .u32 ((x : Int) / 65536) 15 = (bX x : Int) := by
    rw [show (15 : Int) = 2 ^ 4 - 1 from rfl, bits_mask .u32 32 (by decide) wraps_u32 4 (by decide) _ (by omega) (by omega)]
    unfold bX; omega
  have s3 := imm_back x
  have hnb := imm_bounds x
  have ha : aX x < 16 := by unfold aX; omega
  have hb : bX x < 16 := by unfold bX; omega
  generalize opX x = o at HV HIT e1
  generalize aX x = a at HV HIT e2 ha
  generalize bX x = b at HV HIT e3 hb
  generalize immX x = n at HV HIT HS s3 hnb
  generalize decOk x = D at HV HIT HIF
  have s4 : wrap64 n = n := by rw [← IntWalk.i64_left, IntKind.wrap_i64] <;> omega
  have s5 : wrap64 (a : Int) = (a : Int) := by rw [← IntWalk.i64_left, IntKind.wrap_i64] <;> omega
  have s6 : wrap64 (b : Int) = (b : Int) := by rw [← IntWalk.i64_left, IntKind.wrap_i64] <;> omega
  have hBA : Below w.heap.size w ((w.alloc (.cells #[.int .i64 0, .int .i64 0, .int .i64 0, .int .i64 0] 74)).alloc (.cells #[.int .i64 (o : Int), .int .i64 (a : Int), .int .i64 (b : Int), .int .i64 n] 74)) := ((Below.refl _ _).alloc (Nat.le_refl _) _).alloc (by simp) _
  have hRA : ((w.alloc (.cells #[.int .i64 0, .int .i64 0, .int .i64 0, .int .i64 0] 74)).alloc (.cells #[.int .i64 (o : Int), .int .i64 (a : Int), .int .i64 (b : Int), .int .i64 n] 74)).heap[w.heap.size]? = some (.cells #[.int .i64 0, .int .i64 0, .int .i64 0, .int .i64 0] 74 (0, 0)) := (Below.heap_alloc _ _ _ (by simp)).trans (heap_alloc_new w _)
  have hIA : ((w.alloc (.cells #[.int .i64 0, .int .i64 0, .int .i64 0, .int .i64 0] 74)).alloc (.cells #[.int .i64 (o : Int), .int .i64 (a : Int), .int .i64 (b : Int), .int .i64 n] 74)).heap[w.heap.size + 1]? = some (.cells #[.int .i64 (o : Int), .int .i64 (a : Int), .int .i64 (b : Int), .int .i64 n] 74 (0, 0)) := by
    have h9 := heap_alloc_new (w.alloc (.cells #[.int .i64 0, .int .i64 0, .int .i64 0, .int .i64 0] 74)) (.cells #[.int .i64 (o : Int), .int .i64 (a : Int), .int .i64 (b : Int), .int .i64 n] 74)
    rwa [World.size_alloc] at h9
  have hTA : TabS ((w.alloc (.cells #[.int .i64 0, .int .i64 0, .int .i64 0, .int .i64 0] 74)).alloc (.cells #[.int .i64 (o : Int), .int .i64 (a : Int), .int .i64 (b : Int), .int .i64 n] 74)) t := ht.on (hBA.block t htl)
  have HH := Lib.hid (And.intro hBA (And.intro hRA (And.intro hIA hTA)))
  clear hBA hRA hIA hTA
  go_enter Tryz.func18, Tryz.ntmps18
  go_wp2_with fail
  refine (HS.out _).mono ?_
  rintro e w1 ⟨rfl, hw1⟩
  rw [hw1]
  clear hw1 w1
  go_wp2_with fail
  refine (HV.out _ HH.out.2.2.2).mono ?_
  rintro e w1 ⟨rfl, hs1, ht1⟩
  have hsE : ((w.alloc (.cells #[.int .i64 0, .int .i64 0, .int .i64 0, .int .i64 0] 74)).alloc (.cells #[.int .i64 (o : Int), .int .i64 (a : Int), .int .i64 (b : Int), .int .i64 n] 74)).heap.size = w.heap.size + 2 := by simp
  have q1 : Four w1 w.heap.size 74 (.int .i64 0) (.int .i64 0) (.int .i64 0) (.int .i64 0) := ⟨(hs1.but.block _ (by rw [hsE]; omega) (by omega)).trans HH.out.2.1⟩
  have q2 : Four w1 (w.heap.size + 1) 74 (.int .i64 (o : Int)) (.int .i64 (a : Int)) (.int .i64 (b : Int)) (.int .i64 n) := ⟨(hs1.but.block _ (by rw [hsE]; omega) (by omega)).trans HH.out.2.2.1⟩
  have HST := Lib.hid ((Step28.of_below HH.out.1 htl).trans hs1)
  have HTS := Lib.hid ht1
  obtain ⟨⟨d0, d1, d2, d3⟩, f0, f1, f2, f3⟩ := q1.cells
  obtain ⟨⟨g0, g1, g2, g3⟩, -⟩ := q2.cells
  have HQ := Lib.hid q1
  clear q1 q2 hs1 ht1 hsE HH
  cases D with
  | false =>
    have HE := Lib.hid (HIF.out rfl)
    go_wp2_with fail
    refine bodyPost_ret (results_cell2 Tryz.results18 _ _ w.heap.size 74 _ (0, 0) _ ?hp (set4_same _ _ _ _ _ _ _ _ _ _ _ HQ.out.blk) Tryz.underlying74 rfl ?hi) ?hr ?hq
    case hp => rfl
    case hi => kernel_rfl
    case hr => rfl
    case hq =>
      have h9 := but_set4 (v0 := .int .i64 0) (v1 := .int .i64 0) (v2 := .int .i64 0) (v3 := .int .i64 0) HST.out HTS.out (by omega : t ≠ w.heap.size) (Nat.le_refl _)
      exact ⟨by rw [HE.out]; rfl, h9.1, h9.2⟩
  | true =>
    have HE := Lib.hid (HIT.out rfl)
    go_wp2_with fail
    refine bodyPost_ret (results_cell2 Tryz.results18 _ _ w.heap.size 74 _ (0, 0) _ ?hp (set4_same _ _ _ _ _ _ _ _ _ _ _ HQ.out.blk) Tryz.underlying74 rfl ?hi) ?hr ?hq
    case hp => rfl
    case hi => kernel_rfl
    case hr => rfl
    case hq =>
      have h9 := but_set4 (v0 := .int .i64 (o : Int)) (v1 := .int .i64 (a : Int)) (v2 := .int .i64 (b : Int)) (v3 := .int .i64 n) HST.out HTS.out (by omega : t ≠ w.heap.size) (Nat.le_refl _)
      exact ⟨by rw [HE.out]; rfl, h9.1, h9.2⟩
end Go.Proofs.YtapjfcljbdlnkaaGreatDoor
