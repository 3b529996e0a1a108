/- Chapter 38's requests: what each function returns. -/
import Derived.Test.YtdijbkfcfjhajaaDoorSysc
import Derived.Test.YtdijbkfcfjhajaaDoorLaws
namespace Go.Proofs.YtdijbkfcfjhajaaDoor
open Go.RowKit Go.Sort Go.Lib
set_option maxRecDepth 100000

set_option maxHeartbeats 400000 in
theorem known_any (n : Int) (w : World) :
    Calls Tryd.prog 14 #[.int .i64 n] w fun e w' => e = .returned (.bool (decide (1 ≤ n) && decide (n ≤ 22))) ∧ w = w' := by
  by_cases h1 : 1 ≤ n
  · by_cases h2 : n ≤ 22
    · go_enter Tryd.func14, Tryd.ntmps14
      go_wp2
      go_ret
      exact ⟨by simp [h1, h2], rfl⟩
    · go_enter Tryd.func14, Tryd.ntmps14
      go_wp2
      go_ret
      exact ⟨by simp [h2], rfl⟩
  · have _e1 : decide (1 ≤ n) = false := by simpa using h1
    go_enter Tryd.func14, Tryd.ntmps14
    go_wp2
    go_ret
    exact ⟨by simp, rfl⟩

set_option maxHeartbeats 400000 in
theorem blocks_any (n : Int) (w : World) :
    Calls Tryd.prog 15 #[.int .i64 n] w fun e w' => e = .returned (.bool (n == 4 || n == 8 || n == 9)) ∧ w = w' := by
  by_cases h1 : n = 4
  · subst h1
    go_enter Tryd.func15, Tryd.ntmps15
    go_wp2
    go_ret
    exact ⟨rfl, rfl⟩
  · have e1 : (n == 4) = false := by simp [h1]
    by_cases h2 : n = 8
    · subst h2
      go_enter Tryd.func15, Tryd.ntmps15
      go_wp2
      go_ret
      exact ⟨rfl, rfl⟩
    · have e2 : (n == 8) = false := by simp [h2]
      go_enter Tryd.func15, Tryd.ntmps15
      go_wp2
      go_ret
      exact ⟨by simp [e1, e2], rfl⟩

set_option maxHeartbeats 2000000 in
theorem of_yes (r0 r1 r2 r3 r4 r5 r6 r7 r8 r9 r10 r11 r12 r13 r14 r15 pc page call : Int) (wr : Bool) (w : World) :
    Calls Tryd.prog 13 #[.agg #[.int .u32 r0, .int .u32 r1, .int .u32 r2, .int .u32 r3, .int .u32 r4, .int .u32 r5, .int .u32 r6, .int .u32 r7, .int .u32 r8, .int .u32 r9, .int .u32 r10, .int .u32 r11, .int .u32 r12, .int .u32 r13, .int .u32 r14, .int .u32 r15, .int .u32 pc], .agg #[.int .i64 6, .int .i64 page, .bool wr, .int .i64 call]] w fun e w' =>
      e = .returned (.tuple #[.agg #[.int .i64 call, .int .u32 r1, .int .u32 r2, .int .u32 r3, .int .u32 r4], .bool true]) ∧ Below w.heap.size w w' := by
  go_enter Tryd.func13, Tryd.ntmps13
  go_wp2
  exact bodyPost_ret (v := .tuple #[.agg #[.int .i64 call, .int .u32 r1, .int .u32 r2, .int .u32 r3, .int .u32 r4], .bool true]) (by simp [results, Tryd.results13, go_sem]) rfl
    ⟨rfl, by repeat' (first | exact Below.refl _ _ | (refine Below.alloc ?_ (by simp <;> omega) _))⟩

set_option maxHeartbeats 2000000 in
theorem of_no (r0 r1 r2 r3 r4 r5 r6 r7 r8 r9 r10 r11 r12 r13 r14 r15 pc cause page call : Int) (wr : Bool) (hc : (cause != 6) = true) (w : World) :
    Calls Tryd.prog 13 #[.agg #[.int .u32 r0, .int .u32 r1, .int .u32 r2, .int .u32 r3, .int .u32 r4, .int .u32 r5, .int .u32 r6, .int .u32 r7, .int .u32 r8, .int .u32 r9, .int .u32 r10, .int .u32 r11, .int .u32 r12, .int .u32 r13, .int .u32 r14, .int .u32 r15, .int .u32 pc], .agg #[.int .i64 cause, .int .i64 page, .bool wr, .int .i64 call]] w fun e w' =>
      e = .returned (.tuple #[.agg #[.int .i64 0, .int .u32 0, .int .u32 0, .int .u32 0, .int .u32 0], .bool false]) ∧ Below w.heap.size w w' := by
  go_enter Tryd.func13, Tryd.ntmps13
  go_wp2
  exact bodyPost_ret (v := .tuple #[.agg #[.int .i64 0, .int .u32 0, .int .u32 0, .int .u32 0, .int .u32 0], .bool false]) (by simp [results, Tryd.results13, go_sem]) rfl
    ⟨rfl, by repeat' (first | exact Below.refl _ _ | (refine Below.alloc ?_ (by simp <;> omega) _))⟩
end Go.Proofs.YtdijbkfcfjhajaaDoor
