/- What the law's example wants: Steps, Waiting, Puts built of literals; its numbers. -/
import Derived.Test.YtkfmdkbiglkjpaaGreatL28Puts
import Derived.Test.YtkfmdkbiglkjpaaGreatL28Plain3
namespace Go.Proofs.YtkfmdkbiglkjpaaGreat
open Go Go.RowKit Go.Lib
set_option maxRecDepth 100000

theorem dev_steps (X D n left dn : Nat) (w : World) (h : DevAt w X D n left dn) :
    Calls Tryz.prog 30 #[.pointer (some ⟨X, 0, none⟩)] w fun e w' => e = .returned (.int .i64 (dn : Int)) ∧ w' = w := by
  obtain ⟨c0, c3, c4, c5, f4, f5⟩ := h.cells
  have HL := Lib.hid (atom_load ⟨X, 5, none⟩ (dn : Int) w c5)
  clear h
  go_enter Tryz.func30, Tryz.ntmps30
  go_wp2_with fail
  refine HL.out.mono ?_
  rintro e w' ⟨rfl, rfl⟩
  go_wp2_with fail
  go_ret
  exact ⟨rfl, rfl⟩
theorem disk_waiting0 (F : Nat → Prop) (D : Nat) (L : List Dat) (w : World) (h : DiskAt w F D L []) :
    Calls Tryz.prog 17 #[.pointer (some ⟨D, 0, none⟩)] w fun e w' => e = .returned (.slice none 0 0) ∧ w' = w := by
  obtain ⟨vl, vw, h1, h2, h3, h4, h5⟩ := h.mem
  obtain ⟨ad, cap0, rfl, hn63⟩ := own_len h3
  obtain ⟨c0, c1, f0, f1⟩ := DiskAt.cells h1
  simp only [List.length_nil] at c1
  clear h h1 h2 h3 h4 h5
  go_enter Tryz.func17, Tryz.ntmps17
  go_wp2_with fail
  go_loopg [3, 13] 0 (fun k u v wr => k = 0 ∧ v = .int .i64 0 ∧ u = .slice none 0 0 ∧ wr = w)
  case atStart => exact ⟨rfl, rfl, rfl, rfl⟩
  case round =>
    obtain ⟨-, rfl, rfl, rfl⟩ := hrel
    go_wp2_with fail
    go_ret
    exact ⟨rfl, rfl⟩
def one (c : UInt8) : Dat := c :: List.replicate 63 0
def exPuts : List PutV := [(20, one 1), (30, one 2)]
def exS : DS := ⟨List.replicate 40 zeroD, [], 1099511627776, 0⟩
theorem ex_num : (exS.commit exPuts).1 = 0 ∧ (exS.commit exPuts).2.dn = 12 ∧ (exS.commit exPuts).2.W = [] ∧ readD (exS.commit exPuts).2.L (exS.commit exPuts).2.W 30 = one 2 := by decide +kernel
end Go.Proofs.YtkfmdkbiglkjpaaGreat
