/- dev: the small ones: Len, in, Live, step, Fuse. -/
import Derived.Test.YtkfmdkbiglkjpaaGreatDskBase
namespace Go.Proofs.YtkfmdkbiglkjpaaGreat
open Go Go.RowKit Go.Lib
set_option maxRecDepth 100000

/-- a dev over a disk: n blocks, so many steps left, so many done -/
def DevAt (w : World) (X D n left dn : Nat) : Prop :=
  w.heap[X]? = some (.cells #[.pointer (some ⟨D, 0, none⟩), .pointer none, .int .i64 0, .int .i64 (n : Int), .int .i64 (left : Int), .int .i64 (dn : Int)] 72 (0, 0))
theorem DevAt.lt {w : World} {X D n left dn : Nat} (h : DevAt w X D n left dn) : X < w.heap.size := (Array.getElem?_eq_some_iff.1 h).1
theorem DevAt.cells {w : World} {X D n left dn : Nat} (h : DevAt w X D n left dn) :
    w.cell? ⟨X, 0, none⟩ = some (.pointer (some ⟨D, 0, none⟩)) ∧ w.cell? ⟨X, 3, none⟩ = some (.int .i64 (n : Int)) ∧ w.cell? ⟨X, 4, none⟩ = some (.int .i64 (left : Int)) ∧ w.cell? ⟨X, 5, none⟩ = some (.int .i64 (dn : Int)) ∧ w.frozen? ⟨X, 4, none⟩ = false ∧ w.frozen? ⟨X, 5, none⟩ = false := by
  have c0 := cell_of_row w X 0 _ _ _ h
  have c3 := cell_of_row w X 3 _ _ _ h
  have c4 := cell_of_row w X 4 _ _ _ h
  have c5 := cell_of_row w X 5 _ _ _ h
  simp only [List.getElem?_toArray, List.getElem?_cons_succ, List.getElem?_cons_zero] at c0 c3 c4 c5
  exact ⟨c0, c3, c4, c5, frozen_of_row w X 4 _ _ h, frozen_of_row w X 5 _ _ h⟩
theorem DevAt.on {w w' : World} {X D n left dn : Nat} (h : DevAt w X D n left dn) (hb : w'.heap[X]? = w.heap[X]?) : DevAt w' X D n left dn := hb.trans h

theorem dev_len (X D n left dn : Nat) (w : World) (h : DevAt w X D n left dn) :
    Calls Tryz.prog 36 #[.pointer (some ⟨X, 0, none⟩)] w fun e w' => e = .returned (.int .i64 (n : Int)) ∧ w' = w := by
  obtain ⟨c0, c3, c4, c5, f4, f5⟩ := h.cells
  clear h
  go_enter Tryz.func36, Tryz.ntmps36
  go_wp2_with fail
  go_ret
  exact ⟨rfl, rfl⟩
theorem dev_in (X D n left dn : Nat) (b : Int) (w : World) (h : DevAt w X D n left dn) :
    Calls Tryz.prog 38 #[.pointer (some ⟨X, 0, none⟩), .int .i64 b] w fun e w' => e = .returned (.bool (decide (0 ≤ b ∧ b < n))) ∧ w' = w := by
  have HL := Lib.hid (dev_len X D n left dn w h)
  clear h
  by_cases h0 : 0 ≤ b
  · have E : Hid (decide (0 ≤ b ∧ b < (n : Int)) = decide (b < (n : Int))) := Lib.hid (by simp [h0])
    go_enter Tryz.func38, Tryz.ntmps38
    go_wp2_with fail
    refine HL.out.mono ?_
    rintro e w' ⟨rfl, rfl⟩
    go_wp2_with fail
    go_ret
    exact ⟨by rw [E.out]; rfl, rfl⟩
  · rw [decide_eq_false (fun h => h0 h.1)]
    go_enter Tryz.func38, Tryz.ntmps38
    go_wp2_with fail
    go_ret
    exact ⟨rfl, rfl⟩
theorem atom_load (a : Addr) (x : Int) (w : World) (hc : w.cell? a = some (.int .i64 x)) :
    Calls Tryz.prog 46 #[.pointer (some a)] w fun e w' => e = .returned (.int .i64 x) ∧ w' = w := by
  have hl := run_call_load (P := Tryz.prog) Tryz.func61 (by kernel_rfl) (by kernel_rfl) (by kernel_rfl) .i64 (by kernel_rfl) (w := w) (a := a) (x := x) hc
  go_enter Tryz.func46, Tryz.ntmps46
  go_wp2
  go_ret
  exact ⟨rfl, rfl⟩
theorem atom_store (a : Addr) (x : Value) (y : Int) (w : World) (hc : w.cell? a = some x) (hz : w.frozen? a = false) :
    Calls Tryz.prog 27 #[.pointer (some a), .int .i64 y] w fun e w' => e = .returned (.tuple #[]) ∧ w' = w.setCell a (.int .i64 y) := by
  have hl := run_call_store (P := Tryz.prog) Tryz.func45 (by kernel_rfl) (by kernel_rfl) (by kernel_rfl) (by kernel_rfl) (k := .i64) (y := y) hc hz
  go_enter Tryz.func27, Tryz.ntmps27
  go_wp2
  go_end0
  exact ⟨rfl, rfl⟩
theorem atom_add (a : Addr) (x y s : Int) (w : World) (hc : w.cell? a = some (.int .i64 x)) (hz : w.frozen? a = false) (hs : IntKind.i64.wrap (x + y) = s) :
    Calls Tryz.prog 50 #[.pointer (some a), .int .i64 y] w fun e w' => e = .returned (.int .i64 s) ∧ w' = w.setCell a (.int .i64 s) := by
  have hl := run_call_add (P := Tryz.prog) Tryz.func62 (by kernel_rfl) (by kernel_rfl) (by kernel_rfl) .i64 (by kernel_rfl) (y := y) (s := s) hc hz (by simp [go_sem]; exact hs)
  clear hs
  go_enter Tryz.func50, Tryz.ntmps50
  go_wp2
  go_ret
  exact ⟨rfl, rfl⟩
theorem dev_live (X D n left dn : Nat) (w : World) (h : DevAt w X D n left dn) :
    Calls Tryz.prog 47 #[.pointer (some ⟨X, 0, none⟩)] w fun e w' => e = .returned (.bool (decide (0 < left))) ∧ w' = w := by
  obtain ⟨c0, c3, c4, c5, f4, f5⟩ := h.cells
  have HL := Lib.hid (atom_load ⟨X, 4, none⟩ (left : Int) w c4)
  have E : Hid (decide ((0 : Int) < (left : Int)) = decide (0 < left)) := Lib.hid (by simp)
  clear h
  go_enter Tryz.func47, Tryz.ntmps47
  go_wp2_with fail
  refine HL.out.mono ?_
  rintro e w' ⟨rfl, rfl⟩
  go_wp2_with fail
  go_ret
  exact ⟨by rw [← E.out]; rfl, rfl⟩
theorem dev_step_no (X D n dn : Nat) (w : World) (h : DevAt w X D n 0 dn) :
    Calls Tryz.prog 39 #[.pointer (some ⟨X, 0, none⟩)] w fun e w' => e = .returned (.bool false) ∧ w' = w := by
  have HL := Lib.hid (dev_live X D n 0 dn w h)
  clear h
  go_enter Tryz.func39, Tryz.ntmps39
  go_wp2_with fail
  refine HL.out.mono ?_
  rintro e w' ⟨rfl, rfl⟩
  go_wp2_with fail
  go_ret
  exact ⟨rfl, rfl⟩
theorem dev_step (X D n left dn : Nat) (w : World) (h : DevAt w X D n (left + 1) dn) (hl : left ≤ 1099511627776) (hd : dn ≤ 1000000) :
    Calls Tryz.prog 39 #[.pointer (some ⟨X, 0, none⟩)] w fun e w' => e = .returned (.bool true) ∧ DevAt w' X D n left (dn + 1) ∧ Keeps (· = X) w w' ∧ w'.heap.size = w.heap.size := by
  obtain ⟨c0, c3, c4, c5, f4, f5⟩ := h.cells
  have HL := Lib.hid (dev_live X D n (left + 1) dn w h)
  have HA := Lib.hid (atom_add ⟨X, 4, none⟩ ((left + 1 : Nat) : Int) (-1) (left : Int) w c4 f4 (by rw [IntKind.wrap_i64] <;> omega))
  have HB := Lib.hid (atom_add ⟨X, 5, none⟩ (dn : Int) 1 ((dn + 1 : Nat) : Int) (w.setCell ⟨X, 4, none⟩ (.int .i64 (left : Int))) ((World.cell?_setCell_other _ _ _ _ (by simp)).trans c5) (by simp [f5]) (by rw [IntKind.wrap_i64] <;> omega))
  have h1 := heap_setCell_same w X 4 _ _ (.int .i64 (left : Int)) h
  have h2 := heap_setCell_same _ X 5 _ _ (.int .i64 ((dn + 1 : Nat) : Int)) h1
  have H2 := Lib.hid h2
  clear h h1 h2 c0 c3 c4 c5 f4 f5
  go_enter Tryz.func39, Tryz.ntmps39
  go_wp2_with fail
  refine HL.out.mono ?_
  rintro e w' ⟨rfl, hw'⟩
  rw [hw']
  clear hw' w'
  rw [decide_eq_true (Nat.succ_pos _)]
  go_wp2_with fail
  refine HA.out.mono ?_
  rintro e w' ⟨rfl, rfl⟩
  go_wp2_with fail
  refine HB.out.mono ?_
  rintro e w' ⟨rfl, rfl⟩
  go_wp2_with fail
  go_ret
  refine ⟨rfl, H2.out, ⟨rfl, rfl, rfl, by simp, fun k _ hk => ?_⟩, by simp⟩
  rw [heap_setCell_other _ _ _ _ hk, heap_setCell_other _ _ _ _ hk]
/-- how many steps are left behind Fuse -/
def fused (left : Nat) (n : Int) : Nat := if n < 0 then left else if n ≤ 1099511627776 then n.toNat else 1099511627776
theorem fused_le (left : Nat) (n : Int) (h : left ≤ 1099511627776) : fused left n ≤ 1099511627776 := by
  unfold fused
  split
  · exact h
  · split <;> omega
theorem dev_fuse (X D n left dn : Nat) (m : Int) (w : World) (h : DevAt w X D n left dn) :
    Calls Tryz.prog 11 #[.pointer (some ⟨X, 0, none⟩), .int .i64 m] w fun e w' => e = .returned (.tuple #[]) ∧ DevAt w' X D n (fused left m) dn ∧ Keeps (· = X) w w' ∧ w'.heap.size = w.heap.size := by
  obtain ⟨c0, c3, c4, c5, f4, f5⟩ := h.cells
  by_cases h0 : m < 0
  · have e1 : fused left m = left := by unfold fused; rw [if_pos h0]
    rw [e1]
    have k1 : ¬ 0 ≤ m := by omega
    have H := Lib.hid h
    clear h h0 e1
    go_enter Tryz.func11, Tryz.ntmps11
    go_wp2_with fail
    go_end0
    exact ⟨rfl, H.out, Keeps.refl _ _, rfl⟩
  · have k1 : 0 ≤ m := by omega
    by_cases h2 : m ≤ 1099511627776
    · have e1 : ((fused left m : Nat) : Int) = m := by unfold fused; rw [if_neg h0, if_pos h2]; omega
      have HA := Lib.hid (atom_store ⟨X, 4, none⟩ _ m w c4 f4)
      have h1 := heap_setCell_same w X 4 _ _ (.int .i64 m) h
      have H1 := Lib.hid (And.intro h1 e1)
      clear h h1 e1 h0
      go_enter Tryz.func11, Tryz.ntmps11
      go_wp2_with fail
      refine HA.out.mono ?_
      rintro e w' ⟨rfl, rfl⟩
      go_wp2_with fail
      go_end0
      refine ⟨rfl, ?_, ⟨rfl, rfl, rfl, by simp, fun k _ hk => heap_setCell_other _ _ _ _ hk⟩, by simp⟩
      unfold DevAt
      rw [H1.out.2]
      exact H1.out.1
    · have e1 : fused left m = 1099511627776 := by unfold fused; rw [if_neg h0, if_neg h2]
      have HA := Lib.hid (atom_store ⟨X, 4, none⟩ _ 1099511627776 w c4 f4)
      have h1 := heap_setCell_same w X 4 _ _ (.int .i64 1099511627776) h
      have k3 : ¬ m < 1099511627776 := by omega
      rw [e1]
      have H1 := Lib.hid h1
      clear h h1 e1 h0
      go_enter Tryz.func11, Tryz.ntmps11
      go_wp2_with fail
      refine HA.out.mono ?_
      rintro e w' ⟨rfl, rfl⟩
      go_wp2_with fail
      go_end0
      exact ⟨rfl, H1.out, ⟨rfl, rfl, rfl, by simp, fun k _ hk => heap_setCell_other _ _ _ _ hk⟩, by simp⟩
end Go.Proofs.YtkfmdkbiglkjpaaGreat
