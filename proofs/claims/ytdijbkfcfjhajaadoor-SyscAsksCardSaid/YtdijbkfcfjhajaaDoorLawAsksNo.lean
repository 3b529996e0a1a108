/- The walk of chapter 38's law on requests, of a program that did not stop by a call. -/
import Derived.Test.YtdijbkfcfjhajaaDoorLawAsks
namespace Go.Proofs.YtdijbkfcfjhajaaDoor
open Go.RowKit Go.Sort Go.Lib
set_option maxRecDepth 100000

set_option maxHeartbeats 8000000 in
theorem asks_no (r0 r1 r2 r3 r4 r5 r6 r7 r8 r9 r10 r11 r12 r13 r14 r15 pc cause page call : Int) (wr : Bool) (hc : (cause == 6) = false) (hn : (cause != 6) = true) (w : World) (ht : Tab w) :
    Calls Tryd.prog 5 #[.agg #[.int .u32 r0, .int .u32 r1, .int .u32 r2, .int .u32 r3, .int .u32 r4, .int .u32 r5, .int .u32 r6, .int .u32 r7, .int .u32 r8, .int .u32 r9, .int .u32 r10, .int .u32 r11, .int .u32 r12, .int .u32 r13, .int .u32 r14, .int .u32 r15, .int .u32 pc], .agg #[.int .i64 cause, .int .i64 page, .bool wr, .int .i64 call]] w fun e w' =>
      e = .returned (.bool true) ∧ Below w.heap.size w w' := by
  have HT := Lib.hid ht
  clear ht
  go_enter Tryd.func5, Tryd.ntmps5
  go_wp2_with fail
  refine (of_no r0 r1 r2 r3 r4 r5 r6 r7 r8 r9 r10 r11 r12 r13 r14 r15 pc cause page call wr hn _).mono ?_
  rintro e w1 ⟨rfl, hb⟩
  obtain ⟨ca, cb, hz, hbw⟩ := cells_two hb
  have g1 : w1.cell? ⟨w.heap.size, 1, none⟩ = some (.int .u32 r1) := ca 1
  have g2 : w1.cell? ⟨w.heap.size, 2, none⟩ = some (.int .u32 r2) := ca 2
  have g3 : w1.cell? ⟨w.heap.size, 3, none⟩ = some (.int .u32 r3) := ca 3
  have g4 : w1.cell? ⟨w.heap.size, 4, none⟩ = some (.int .u32 r4) := ca 4
  have t0 : w1.cell? ⟨w.heap.size + 1, 0, none⟩ = some (.int .i64 cause) := cb 0
  have t3 : w1.cell? ⟨w.heap.size + 1, 3, none⟩ = some (.int .i64 call) := cb 3
  have hz0 : w.heap.size < w1.heap.size := by omega
  have hz1 : w.heap.size < w1.heap.size + 1 := by omega
  have hz2 : w.heap.size ≤ w1.heap.size := by omega
  clear ca cb hb
  go_wp2_with fail
  go_name_world W0 hW0
  have E0 : Aq w w1.heap.size 0 0 0 0 0 cause call ((w1.alloc (.cells #[.int .i64 0, .int .u32 0, .int .u32 0, .int .u32 0, .int .u32 0] 41)).alloc (.cells #[.int .i64 0, .int .u32 0, .int .u32 0, .int .u32 0, .int .u32 0] 41)) := by
    clear hW0
    refine ⟨⟨?_, ?_, ?_, ?_, ?_⟩, ⟨?_, ?_, ?_, ?_, ?_⟩, ⟨?_, ?_⟩, ((hbw.alloc hz2 _).alloc (by simp <;> omega) _), ((HT.out.on hbw).alloc _).alloc _, by simp, hz⟩
    all_goals go_simp
  rw [hW0] at E0
  have HE := Lib.hid E0
  clear E0 hW0
  have hcases : (call < 1 ∨ 22 < call) ∨ call = 4 ∨ call = 8 ∨ call = 9 ∨ (1 ≤ call ∧ call ≤ 22 ∧ call ≠ 4 ∧ call ≠ 8 ∧ call ≠ 9) := by omega
  have HCA := Lib.hid hcases
  clear hcases g1 g2 g3 g4 t0 t3
  rcases HCA.out with (hl | hh) | h4 | h8 | h9 | ⟨hm0, hm1, hn4, hn8, hn9⟩
  · have e4 : (call == 4) = false := by simp; omega
    have e8 : (call == 8) = false := by simp; omega
    have e9 : (call == 9) = false := by simp; omega
    have d1 : decide (1 ≤ call) = false := decide_eq_false (by omega)
    clear HCA
    obtain ⟨s0, s1, s2, s3, s4, s5, s6, s7, s8, s9, u0, u3, _⟩ := HE.out.cells
    refine region_still_tail 44 (by kernel_rfl) (by kernel_rfl) ?_
    simp only [List.take_succ_cons, List.take_zero, List.drop_succ_cons, List.drop_zero]
    repeat (first | still_step | (refine wpStill_step (fun K hK => ?_); go_simp; refine ⟨_, (known_any _ _).mono (fun _ _ ⟨h1, h2⟩ => ⟨h1, h2.symm⟩), hK _ ?_⟩; clear hK K) | (refine wpStill_step (fun K hK => ?_); go_simp; refine ⟨_, (blocks_any _ _).mono (fun _ _ ⟨h1, h2⟩ => ⟨h1, h2.symm⟩), hK _ ?_⟩; clear hK K))
    refine wpStill_nil ?_
    clear s0 s1 s2 s3 s4 s5 s6 s7 s8 s9 u0 u3
    go_wp2_with fail
    refine (awake_true _ HE.out.drew.2.2.2.2.1).mono ?_
    rintro e w2 ⟨rfl, hb2⟩
    go_wp2
    go_ret
    exact ⟨rfl, (HE.out.drew.on hb2).2.2.2.1⟩
  · have e4 : (call == 4) = false := by simp; omega
    have e8 : (call == 8) = false := by simp; omega
    have e9 : (call == 9) = false := by simp; omega
    have d1 : 1 ≤ call := by omega
    have d2 : decide (call ≤ 22) = false := decide_eq_false (by omega)
    clear HCA
    obtain ⟨s0, s1, s2, s3, s4, s5, s6, s7, s8, s9, u0, u3, _⟩ := HE.out.cells
    refine region_still_tail 44 (by kernel_rfl) (by kernel_rfl) ?_
    simp only [List.take_succ_cons, List.take_zero, List.drop_succ_cons, List.drop_zero]
    repeat (first | still_step | (refine wpStill_step (fun K hK => ?_); go_simp; refine ⟨_, (known_any _ _).mono (fun _ _ ⟨h1, h2⟩ => ⟨h1, h2.symm⟩), hK _ ?_⟩; clear hK K) | (refine wpStill_step (fun K hK => ?_); go_simp; refine ⟨_, (blocks_any _ _).mono (fun _ _ ⟨h1, h2⟩ => ⟨h1, h2.symm⟩), hK _ ?_⟩; clear hK K))
    refine wpStill_nil ?_
    clear s0 s1 s2 s3 s4 s5 s6 s7 s8 s9 u0 u3
    go_wp2_with fail
    refine (awake_true _ HE.out.drew.2.2.2.2.1).mono ?_
    rintro e w2 ⟨rfl, hb2⟩
    go_wp2
    go_ret
    exact ⟨rfl, (HE.out.drew.on hb2).2.2.2.1⟩
  · have d1 : 1 ≤ call := by omega
    have d2 : call ≤ 22 := by omega
    have e4 : (call == 4) = true := by simp; omega
    have e8 : (call == 8) = false := by simp; omega
    have e9 : (call == 9) = false := by simp; omega
    clear h4 HCA
    obtain ⟨s0, s1, s2, s3, s4, s5, s6, s7, s8, s9, u0, u3, _⟩ := HE.out.cells
    refine region_still_tail 44 (by kernel_rfl) (by kernel_rfl) ?_
    simp only [List.take_succ_cons, List.take_zero, List.drop_succ_cons, List.drop_zero]
    repeat (first | still_step | (refine wpStill_step (fun K hK => ?_); go_simp; refine ⟨_, (known_any _ _).mono (fun _ _ ⟨h1, h2⟩ => ⟨h1, h2.symm⟩), hK _ ?_⟩; clear hK K) | (refine wpStill_step (fun K hK => ?_); go_simp; refine ⟨_, (blocks_any _ _).mono (fun _ _ ⟨h1, h2⟩ => ⟨h1, h2.symm⟩), hK _ ?_⟩; clear hK K))
    refine wpStill_nil ?_
    clear s0 s1 s2 s3 s4 s5 s6 s7 s8 s9 u0 u3
    go_wp2_with fail
    refine (awake_true _ HE.out.drew.2.2.2.2.1).mono ?_
    rintro e w2 ⟨rfl, hb2⟩
    go_wp2
    go_ret
    exact ⟨rfl, (HE.out.drew.on hb2).2.2.2.1⟩
  · have d1 : 1 ≤ call := by omega
    have d2 : call ≤ 22 := by omega
    have e4 : (call == 4) = false := by simp; omega
    have e8 : (call == 8) = true := by simp; omega
    have e9 : (call == 9) = false := by simp; omega
    clear h8 HCA
    obtain ⟨s0, s1, s2, s3, s4, s5, s6, s7, s8, s9, u0, u3, _⟩ := HE.out.cells
    refine region_still_tail 44 (by kernel_rfl) (by kernel_rfl) ?_
    simp only [List.take_succ_cons, List.take_zero, List.drop_succ_cons, List.drop_zero]
    repeat (first | still_step | (refine wpStill_step (fun K hK => ?_); go_simp; refine ⟨_, (known_any _ _).mono (fun _ _ ⟨h1, h2⟩ => ⟨h1, h2.symm⟩), hK _ ?_⟩; clear hK K) | (refine wpStill_step (fun K hK => ?_); go_simp; refine ⟨_, (blocks_any _ _).mono (fun _ _ ⟨h1, h2⟩ => ⟨h1, h2.symm⟩), hK _ ?_⟩; clear hK K))
    refine wpStill_nil ?_
    clear s0 s1 s2 s3 s4 s5 s6 s7 s8 s9 u0 u3
    go_wp2_with fail
    refine (awake_true _ HE.out.drew.2.2.2.2.1).mono ?_
    rintro e w2 ⟨rfl, hb2⟩
    go_wp2
    go_ret
    exact ⟨rfl, (HE.out.drew.on hb2).2.2.2.1⟩
  · have d1 : 1 ≤ call := by omega
    have d2 : call ≤ 22 := by omega
    have e4 : (call == 4) = false := by simp; omega
    have e8 : (call == 8) = false := by simp; omega
    have e9 : (call == 9) = true := by simp; omega
    clear h9 HCA
    obtain ⟨s0, s1, s2, s3, s4, s5, s6, s7, s8, s9, u0, u3, _⟩ := HE.out.cells
    refine region_still_tail 44 (by kernel_rfl) (by kernel_rfl) ?_
    simp only [List.take_succ_cons, List.take_zero, List.drop_succ_cons, List.drop_zero]
    repeat (first | still_step | (refine wpStill_step (fun K hK => ?_); go_simp; refine ⟨_, (known_any _ _).mono (fun _ _ ⟨h1, h2⟩ => ⟨h1, h2.symm⟩), hK _ ?_⟩; clear hK K) | (refine wpStill_step (fun K hK => ?_); go_simp; refine ⟨_, (blocks_any _ _).mono (fun _ _ ⟨h1, h2⟩ => ⟨h1, h2.symm⟩), hK _ ?_⟩; clear hK K))
    refine wpStill_nil ?_
    clear s0 s1 s2 s3 s4 s5 s6 s7 s8 s9 u0 u3
    go_wp2_with fail
    refine (awake_true _ HE.out.drew.2.2.2.2.1).mono ?_
    rintro e w2 ⟨rfl, hb2⟩
    go_wp2
    go_ret
    exact ⟨rfl, (HE.out.drew.on hb2).2.2.2.1⟩
  · have e4 : (call == 4) = false := by simp; omega
    have e8 : (call == 8) = false := by simp; omega
    have e9 : (call == 9) = false := by simp; omega
    clear hn4 hn8 hn9 HCA
    obtain ⟨s0, s1, s2, s3, s4, s5, s6, s7, s8, s9, u0, u3, _⟩ := HE.out.cells
    refine region_still_tail 44 (by kernel_rfl) (by kernel_rfl) ?_
    simp only [List.take_succ_cons, List.take_zero, List.drop_succ_cons, List.drop_zero]
    repeat (first | still_step | (refine wpStill_step (fun K hK => ?_); go_simp; refine ⟨_, (known_any _ _).mono (fun _ _ ⟨h1, h2⟩ => ⟨h1, h2.symm⟩), hK _ ?_⟩; clear hK K) | (refine wpStill_step (fun K hK => ?_); go_simp; refine ⟨_, (blocks_any _ _).mono (fun _ _ ⟨h1, h2⟩ => ⟨h1, h2.symm⟩), hK _ ?_⟩; clear hK K))
    refine wpStill_nil ?_
    clear s0 s1 s2 s3 s4 s5 s6 s7 s8 s9 u0 u3
    go_wp2_with fail
    refine (awake_true _ HE.out.drew.2.2.2.2.1).mono ?_
    rintro e w2 ⟨rfl, hb2⟩
    go_wp2
    go_ret
    exact ⟨rfl, (HE.out.drew.on hb2).2.2.2.1⟩
end Go.Proofs.YtdijbkfcfjhajaaDoor
