/- Chapter 38's small functions: what each returns. -/
import Derived.Test.YtdijbkfcfjhajaaDoorDigits
import Derived.Test.YtdijbkfcfjhajaaDoorFmtUint
namespace Go.Proofs.YtdijbkfcfjhajaaDoor
open Go.RowKit Go.Sort Go.Lib
set_option maxRecDepth 100000

/-- is a word an error's? -/
def isE (v : Int) : Bool := decide (4294967272 ≤ v)

set_option maxHeartbeats 400000 in
theorem error_yes (v : Int) (_h0 : 4294967272 ≤ v) (_h1 : v ≤ 4294967295) (w : World) :
    Calls Tryd.prog 10 #[.int .u32 v] w fun e w' => e = .returned (.tuple #[.int .i64 (4294967296 - v), .bool true]) ∧ w = w' := by
  have hw : IntKind.u32.wrap (-v) = 4294967296 - v := by rw [IntKind.wrap_u32]; omega
  go_enter Tryd.func10, Tryd.ntmps10
  go_wp2
  go_ret2
  exact ⟨rfl, rfl⟩

set_option maxHeartbeats 400000 in
theorem error_no (v : Int) (_h0 : 0 ≤ v) (_h1 : v < 4294967272) (w : World) :
    Calls Tryd.prog 10 #[.int .u32 v] w fun e w' => e = .returned (.tuple #[.int .i64 0, .bool false]) ∧ w = w' := by
  by_cases h : v = 0
  · subst h
    go_enter Tryd.func10, Tryd.ntmps10
    go_wp2
    go_ret2
    exact ⟨rfl, rfl⟩
  · have hw : IntKind.u32.wrap (-v) = 4294967296 - v := by rw [IntKind.wrap_u32]; omega
    go_enter Tryd.func10, Tryd.ntmps10
    go_wp2
    go_ret2
    exact ⟨rfl, rfl⟩

set_option maxHeartbeats 400000 in
theorem rerror_yes (v : Int) (_h0 : 4294967272 ≤ v) (_h1 : v ≤ 4294967295) (w : World) :
    Calls Tryd.prog 11 #[.int .u32 v] w fun e w' => e = .returned (.int .i64 (4294967296 - v)) ∧ w = w' := by
  go_enter Tryd.func11, Tryd.ntmps11
  go_wp2
  go_ret
  exact ⟨rfl, rfl⟩

set_option maxHeartbeats 400000 in
theorem rerror_no (v : Int) (_h0 : 0 ≤ v) (_h1 : v < 4294967272) (w : World) :
    Calls Tryd.prog 11 #[.int .u32 v] w fun e w' => e = .returned (.int .i64 0) ∧ w = w' := by
  go_enter Tryd.func11, Tryd.ntmps11
  go_wp2
  go_ret
  exact ⟨rfl, rfl⟩

set_option maxHeartbeats 400000 in
theorem code_any (n : Int) (_h0 : 1 ≤ n) (_h1 : n ≤ 31) (w : World) :
    Calls Tryd.prog 12 #[.int .i64 n] w fun e w' => e = .returned (.int .u32 (4294967296 - n)) ∧ w = w' := by
  have hw : IntKind.u32.wrap (-n) = 4294967296 - n := by rw [IntKind.wrap_u32]; omega
  go_enter Tryd.func12, Tryd.ntmps12
  go_wp2
  go_ret
  exact ⟨rfl, rfl⟩

theorem code_zero (w : World) :
    Calls Tryd.prog 12 #[.int .i64 0] w fun e w' => e = .returned (.int .u32 0) ∧ w = w' := by
  go_enter Tryd.func12, Tryd.ntmps12
  go_wp2
  go_ret
  exact ⟨rfl, rfl⟩
end Go.Proofs.YtdijbkfcfjhajaaDoor
