/- Chapter 3's examples. -/
import Derived.Test.YtapjfcljbdlnkaaGreatDoorAsmRead
namespace Go.Proofs.YtapjfcljbdlnkaaGreatDoor
open Go Go.RowKit Go.Lib
set_option maxRecDepth 100000

theorem asm_ex : readP [97, 58, 32, 106, 109, 112, 32, 97, 10, 115, 101, 116, 32, 114, 49, 32, 53] = ([301989888, 17825797], 0, 0) := by decide +kernel

set_option maxHeartbeats 3200000 in
theorem asm_awake (w : World) (he : Errs w) :
    Calls Tryz.prog 9 #[] w fun e w' => e = .returned (.bool true) ∧ Below w.heap.size w w' := by
  have HP := Lib.hid (show Calls Tryz.prog 6 #[.string ⟨#[97, 58, 32, 106, 109, 112, 32, 97, 10, 115, 101, 116, 32, 114, 49, 32, 53]⟩] w (ReadPost w ([301989888, 17825797], 0, 0)) from by
    have h := read_any [97, 58, 32, 106, 109, 112, 32, 97, 10, 115, 101, 116, 32, 114, 49, 32, 53] (by decide) w he
    rw [asm_ex] at h
    exact h)
  clear he
  go_enter Tryz.func9, Tryz.ntmps9
  go_wp2_with fail
  refine HP.out.mono ?_
  rintro e w1 ⟨v, rfl, hown, hb⟩
  obtain ⟨g, cap, rfl, -, hc⟩ := own_cell hown (by decide)
  have c0 := hc 0 (.int .u32 301989888) rfl
  have c1 := hc 1 (.int .u32 17825797) rfl
  have HB := Lib.hid hb
  clear hown hc hb HP
  go_wp2_with fail
  go_ret
  exact ⟨rfl, HB.out⟩
end Go.Proofs.YtapjfcljbdlnkaaGreatDoor
