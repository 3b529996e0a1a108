/- dev: the small ones: Len, in, Live, step, Fuse. -/
import Derived.Test.YtonmppchbdffcaaGreatDskBase
namespace Go.Proofs.YtonmppchbdffcaaGreat
open Go Go.RowKit Go.Lib
set_option maxRecDepth 100000

/-- a dev over a disk: n blocks, so many steps left, so many done -/
def DevAt (w : World) (X D n left dn : Nat) : Prop :=
  w.heap[X]? = some (.cells #[.pointer (some ⟨D, 0, none⟩), .pointer none, .int .i64 0, .int .i64 (n : Int), .int .i64 (left : Int), .int .i64 (dn : Int)] 73 (0, 0))
theorem DevAt.lt {w : World} {X D n left dn : Nat} (h : DevAt w X D n left dn) : X < w.heap.size := (Array.getElem?_eq_some_iff.1 h).1
theorem DevAt.cells {w : World} {X D n left dn : Nat} (h : DevAt w X D n left dn) :
    w.cell? ⟨X, 0, none⟩ = some (.pointer (some ⟨D, 0, none⟩)) ∧ w.cell? ⟨X, 3, none⟩ = some (.int .i64 (n : Int)) ∧ w.cell? ⟨X, 4, none⟩ = some (.int .i64 (left : Int)) ∧ w.cell? ⟨X, 5, none⟩ = some (.int .i64 (dn : Int)) ∧ w.frozen? ⟨X, 4, none⟩ = false ∧ w.frozen? ⟨X, 5, none⟩ = false := by
  have c0 := cell_of_row w X 0 _ _ _ h
  have c3 := cell_of_row w X 3 _ _ _ h
  have c4 := cell_of_row w X 4 _ _ _ h
  have c5 := cell_of_row w X 5 _ _ _ h
  simp only [List.getElem?_toArray, List.getElem?_cons_succ, List.getElem?_cons_zero] at c0 c3 c4 c5
  exact ⟨c0, c3, c4, c5, frozen_of_row w X 4 _ _ h, frozen_of_row w X 5 _ _ h⟩
theorem DevAt.on {w w' : World} {X D n left dn : Nat} (h : DevAt w X D n left dn) (hb : w'.heap[X]? = w.heap[X]?) : DevAt w' X D n left dn := hb.trans h

theorem dev_len (X D n left dn : Nat) (w : World) (h : DevAt w X D n left dn) :
    Calls Tryz.prog 33 #[.pointer (some ⟨X, 0, none⟩)] w fun e w' => e = .returned (.int .i64 (n : Int)) ∧ w' = w := by
  obtain ⟨c0, c3, c4, c5, f4, f5⟩ := h.cells
  clear h
  go_enter Tryz.func33, Tryz.ntmps33
  go_wp2_with fail
  go_ret
  exact ⟨rfl, rfl⟩
theorem dev_in (X D n left dn : Nat) (b : Int) (w : World) (h : DevAt w X D n left dn) :
    Calls Tryz.prog 35 #[.pointer (some ⟨X, 0, none⟩), .int .i64 b] w fun e w' => e = .returned (.bool (decide (0 ≤ b ∧ b < n))) ∧ w' = w := by
  have HL := Lib.hid (dev_len X D n left dn w h)
  clear h
  by_cases h0 : 0 ≤ b
  · have E : Hid (decide (0 ≤ b ∧ b < (n : Int)) = decide (b < (n : Int))) := Lib.hid (by simp [h0])
    go_enter Tryz.func35, Tryz.ntmps35
    go_wp2_with fail
    refine HL.out.mono ?_
    rintro e w' ⟨rfl, rfl⟩
    go_wp2_with fail
    go_ret
    exact ⟨by rw [E.out]; rfl, rfl⟩
  · rw [decide_eq_false (fun h => h0 h.1)]
    go_enter Tryz.func35, Tryz.ntmps35
    go_wp2_with fail
    go_ret
    exact ⟨rfl, rfl⟩
theorem atom_load (a : Addr) (x : Int) (w : World) (hc : w.cell? a = some (.int .i64 x)) :
    Calls Tryz.prog 43 #[.pointer (some a)] w fun e w' => e = .returned (.int .i64 x) ∧ w' = w := by
  have hl := run_call_load (P := Tryz.prog) Tryz.func58 (by kernel_rfl) (by kernel_rfl) (by kernel_rfl) .i64 (by kernel_rfl) (w := w) (a := a) (x := x) hc
  go_enter Tryz.func43, Tryz.ntmps43
  go_wp2
  go_ret
  exact ⟨rfl, rfl⟩
theorem atom_store (a : Addr) (x : Value) (y : Int) (w : World) (hc : w.cell? a = some x) (hz : w.frozen? a = false) :
    Calls Tryz.prog 26 #[.pointer (some a), .int .i64 y] w fun e w' => e = .returned (.tuple #[]) ∧ w' = w.setCell a (.int .i64 y) := by
  have hl := run_call_store (P := Tryz.prog) Tryz.func32 (by kernel_rfl) (by kernel_rfl) (by kernel_rfl) (by kernel_rfl) (k := .i64) (y := y) hc hz
  go_enter Tryz.func26, Tryz.ntmps26
  go_wp2
  go_end0
  exact ⟨rfl, rfl⟩
theorem atom_add (a : Addr) (x y s : Int) (w : World) (hc : w.cell? a = some (.int .i64 x)) (hz : w.frozen? a = false) (hs : IntKind.i64.wrap (x + y) = s) :
    Calls Tryz.prog 180 #[.pointer (some a), .int .i64 y] w fun e w' => e = .returned (.int .i64 s) ∧ w' = w.setCell a (.int .i64 s) := by
  have hl := run_call_add (P := Tryz.prog) Tryz.func199 (by kernel_rfl) (by kernel_rfl) (by kernel_rfl) .i64 (by kernel_rfl) (y := y) (s := s) hc hz (by simp [go_sem]; exact hs)
  clear hs
  go_enter Tryz.func180, Tryz.ntmps180
  go_wp2
  go_ret
  exact ⟨rfl, rfl⟩
theorem dev_live (X D n left dn : Nat) (w : World) (h : DevAt w X D n left dn) :
    Calls Tryz.prog 36 #[.pointer (some ⟨X, 0, none⟩)] w fun e w' => e = .returned (.bool (decide (0 < left))) ∧ w' = w := by
  obtain ⟨c0, c3, c4, c5, f4, f5⟩ := h.cells
  have HL := Lib.hid (atom_load ⟨X, 4, none⟩ (left : Int) w c4)
  have E : Hid (decide ((0 : Int) < (left : Int)) = decide (0 < left)) := Lib.hid (by simp)
  clear h
  go_enter Tryz.func36, Tryz.ntmps36
  go_wp2_with fail
  refine HL.out.mono ?_
  rintro e w' ⟨rfl, rfl⟩
  go_wp2_with fail
  go_ret
  exact ⟨by rw [← E.out]; rfl, rfl⟩
/-- how many steps are left behind Fuse -/
def fused (left : Nat) (n : Int) : Nat := if n < 0 then left else if n ≤ 1099511627776 then n.toNat else 1099511627776
theorem fused_le (left : Nat) (n : Int) (h : left ≤ 1099511627776) : fused left n ≤ 1099511627776 := by
  unfold fused
  split
  · exact h
  · split <;> omega
end Go.Proofs.YtonmppchbdffcaaGreat
