/- The lower half of a word, as a number with a sign. -/
import Derived.Test.YtapjfcljbdlnkaaGreatDoorWrDec2
namespace Go.Proofs.YtapjfcljbdlnkaaGreatDoor
open Go Go.RowKit Go.Lib
set_option maxRecDepth 100000

theorem wrap_i16' (n : Int) : IntKind.i16.wrap n = (n + 32768) % 65536 - 32768 := by
  simp [IntKind.wrap, IntKind.bits, IntKind.signed]
  split <;> omega
theorem imm_i16 (x : Nat) : IntKind.i16.wrap (x : Int) = immX x := by
  rw [wrap_i16']
  unfold immX
  split <;> omega
end Go.Proofs.YtapjfcljbdlnkaaGreatDoor
