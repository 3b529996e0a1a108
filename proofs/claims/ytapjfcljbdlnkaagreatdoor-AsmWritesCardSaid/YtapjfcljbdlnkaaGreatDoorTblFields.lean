/- (*isa.Table).fields. -/
import Derived.Test.YtapjfcljbdlnkaaGreatDoorFits
namespace Go.Proofs.YtapjfcljbdlnkaaGreatDoor
open Go Go.RowKit Go.Lib
set_option maxRecDepth 100000

set_option maxHeartbeats 1600000 in
theorem fields_full (b op : Nat) (g : Nat → Int) (hop : op ≤ 24) (w : World) (h : w.cell? ⟨b, 0, none⟩ = some (.int .u32 1)) (ht : TabAt w b g) :
    Calls Tryz.prog 60 #[.pointer (some ⟨b, 0, none⟩), .int .i64 (op : Int)] w fun e w' => e = .returned (.int .i64 (g op)) ∧ w' = w := by
  have HD := Lib.hid (fun f => do_full b f w h)
  obtain ⟨t1, -⟩ := ht op (by omega)
  have k1 : ¬ (op : Int) < 0 := by omega
  have k2 : ¬ (24 : Int) < (op : Int) := by omega
  have k3 : (0 : Int) ≤ (op : Int) := by omega
  have k4 : (op : Int) < 25 := by omega
  have k5 : op < 25 := by omega
  clear h ht
  go_enter Tryz.func60, Tryz.ntmps60
  go_wp2_with fail
  refine (HD.out _).mono ?_
  rintro e w1 ⟨rfl, rfl⟩
  go_wp2_with fail
  go_ret
  exact ⟨rfl, rfl⟩
end Go.Proofs.YtapjfcljbdlnkaaGreatDoor
