/- (*sync.Once).Do at the table's fill: done, and not yet done. -/
import Derived.Test.YtapjfcljbdlnkaaGreatDoorOnceSlow
namespace Go.Proofs.YtapjfcljbdlnkaaGreatDoor
open Go Go.RowKit Go.Lib
set_option maxRecDepth 100000

theorem do_full (b : Nat) (f : Value) (w : World) (h : w.cell? ⟨b, 0, none⟩ = some (.int .u32 1)) :
    Calls Tryz.prog 76 #[.pointer (some ⟨b, 0, none⟩), f] w fun e w' => e = .returned (.tuple #[]) ∧ w' = w := by
  have HL := Lib.hid (bool_load ⟨b, 0, none⟩ 1 w h)
  clear h
  go_enter Tryz.func76, Tryz.ntmps76
  go_wp2_with fail
  refine HL.out.mono ?_
  rintro e w1 ⟨rfl, rfl⟩
  go_wp2_with fail
  go_end0
  exact ⟨rfl, rfl⟩

/-- which fields an instruction has, as the table holds it -/
def fieldsG (g : Nat → Int) : Nat → Int := fun i => if i = 23 then 9 else putAll (putAll (putAll (putAll g 13 [1, 2, 13, 19, 20]) 11 [3, 4, 5, 6, 7, 8, 9, 10, 11, 12]) 15 [14, 15, 16, 17, 21]) 12 [18, 22, 24] i
theorem do_new (b : Nat) (g : Nat → Int) (w : World)
    (h0 : w.cell? ⟨b, 0, none⟩ = some (.int .u32 0)) (h1 : w.cell? ⟨b, 1, none⟩ = some (.int .i32 0)) (ht : TabAt w b g)
    (f0 : w.frozen? ⟨b, 0, none⟩ = false) (f1 : w.frozen? ⟨b, 1, none⟩ = false) :
    Calls Tryz.prog 76 #[.pointer (some ⟨b, 0, none⟩), .func (.func 77) #[.pointer (some ⟨b, 0, none⟩)] #[]] w fun e w' => ∃ w2 : World, e = .returned (.tuple #[]) ∧ w' = (w2.drew.setCell ⟨b, 0, none⟩ (.int .u32 1)).setCell ⟨b, 1, none⟩ (.int .i32 0) ∧ ButT b (w.setCell ⟨b, 1, none⟩ (.int .i32 1)) w2 ∧ TabAt w2 b (fieldsG g) := by
  have HL := Lib.hid (bool_load ⟨b, 0, none⟩ 0 w h0)
  have HS := Lib.hid (slow_fill b g w h0 h1 ht f0 f1)
  clear h0 h1 ht f0 f1
  go_enter Tryz.func76, Tryz.ntmps76
  go_wp2_with fail
  refine HL.out.mono ?_
  rintro e w1 ⟨rfl, rfl⟩
  go_wp2_with fail
  refine HS.out.mono ?_
  rintro e w3 ⟨w2, rfl, hw, hb, ht⟩
  have HQ := Lib.hid (And.intro hw (And.intro hb ht))
  clear hw hb ht
  go_wp2_with fail
  go_end0
  exact ⟨w2, rfl, HQ.out.1, HQ.out.2.1, HQ.out.2.2⟩
end Go.Proofs.YtapjfcljbdlnkaaGreatDoor
