/- Chapter 38's example. -/
import Derived.Test.YtdijbkfcfjhajaaDoorRPrint
namespace Go.Proofs.YtdijbkfcfjhajaaDoor
open Go.RowKit Go.Sort Go.Lib
set_option maxRecDepth 100000

theorem line_one : lineB 2 4 3 9 = [50, 32, 119, 97, 105, 116, 32, 51, 32, 57, 10] := by
  simp [lineB, nameB, Lib.itoa, Lib.decDigits, nameAt, nameL]
theorem line_two : lineB 1 6 4294967293 0 = [49, 32, 111, 112, 101, 110, 32, 101, 114, 114, 111, 114, 32, 51, 10] := by
  simp [lineB, nameB, Lib.itoa, Lib.decDigits, nameAt, nameL]

theorem print_one (w : World) (ht : Tab w) :
    Calls Tryd.prog 8 #[.agg #[.int .i64 2, .int .i64 4, .int .u32 3, .int .u32 9]] w fun e w' => e = .returned (.string ⟨#[50, 32, 119, 97, 105, 116, 32, 51, 32, 57, 10]⟩) ∧ Below w.heap.size w w' := by
  have h := print_any 2 4 3 9 (by omega) (by omega) (by omega) (by omega) (by omega) (by omega) (by omega) (by omega) w ht
  rw [line_one] at h
  exact h
theorem print_two (w : World) (ht : Tab w) :
    Calls Tryd.prog 8 #[.agg #[.int .i64 1, .int .i64 6, .int .u32 4294967293, .int .u32 0]] w fun e w' => e = .returned (.string ⟨#[49, 32, 111, 112, 101, 110, 32, 101, 114, 114, 111, 114, 32, 51, 10]⟩) ∧ Below w.heap.size w w' := by
  have h := print_any 1 6 4294967293 0 (by omega) (by omega) (by omega) (by omega) (by omega) (by omega) (by omega) (by omega) w ht
  rw [line_two] at h
  exact h

set_option maxHeartbeats 1000000 in
theorem awake_true (w : World) (ht : Tab w) :
    Calls Tryd.prog 7 #[] w fun e w' => e = .returned (.bool true) ∧ Below w.heap.size w w' := by
  have H1 := Lib.hid (print_one w ht)
  have H2 := Lib.hid (fun w2 (hb : Below w.heap.size w w2) => print_two w2 (ht.on hb))
  clear ht
  go_enter Tryd.func7, Tryd.ntmps7
  go_wp2_with fail
  refine H1.out.mono ?_
  rintro e w1 ⟨rfl, hb1⟩
  go_wp2_with fail
  refine (H2.out _ hb1).mono ?_
  rintro e w2 ⟨rfl, hb2⟩
  go_wp2
  go_ret
  exact ⟨rfl, hb1.trans (hb2.mono hb1.size)⟩
end Go.Proofs.YtdijbkfcfjhajaaDoor
