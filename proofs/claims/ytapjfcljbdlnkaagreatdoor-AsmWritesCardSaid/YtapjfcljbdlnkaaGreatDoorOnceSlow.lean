/- (*sync.Once).doSlow, not yet done, the lock free, the function the table's fill (turned from the kit's worked proof 'lazy'). -/
import Derived.Test.YtapjfcljbdlnkaaGreatDoorFill
namespace Go.Proofs.YtapjfcljbdlnkaaGreatDoor
open Go Go.RowKit Go.Lib
set_option maxRecDepth 100000

theorem TabAt.other {w : World} {b : Nat} {g : Nat → Int} (h : TabAt w b g) (k : Nat) (v : Value) (hk : k < 3) : TabAt (w.setCell ⟨b, k, none⟩ v) b g := fun i hi => by
  obtain ⟨h1, h2⟩ := h i hi
  exact ⟨by rw [World.cell?_setCell_other _ _ _ _ (by simp <;> omega), h1], by simp [h2]⟩
theorem run_not (x : Bool) (w : World) : (Op.unary .not (.bool x)).run Tryz.prog w = .ok (.bool (!x)) w := rfl
theorem bool_load (a : Addr) (x : Int) (w : World) (hc : w.cell? a = some (.int .u32 x)) :
    Calls Tryz.prog 92 #[.pointer (some a)] w fun e w' => e = .returned (.bool (x != 0)) ∧ w' = w := by
  have hl := run_call_load (P := Tryz.prog) Tryz.func103 (by kernel_rfl) (by kernel_rfl) (by kernel_rfl) .u32 (by kernel_rfl) (w := w) (a := a) (x := x) hc
  go_enter Tryz.func92, Tryz.ntmps92
  go_wp2
  go_ret
  exact ⟨rfl, rfl⟩
set_option maxHeartbeats 1600000 in
theorem slow_fill (b : Nat) (g : Nat → Int) (w : World)
    (h0 : w.cell? ⟨b, 0, none⟩ = some (.int .u32 0)) (h1 : w.cell? ⟨b, 1, none⟩ = some (.int .i32 0)) (ht : TabAt w b g)
    (f0 : w.frozen? ⟨b, 0, none⟩ = false) (f1 : w.frozen? ⟨b, 1, none⟩ = false) :
    Calls Tryz.prog 93 #[.pointer (some ⟨b, 0, none⟩), .func (.func 77) #[.pointer (some ⟨b, 0, none⟩)] #[]] w fun e w' => ∃ w2 : World, e = .returned (.tuple #[]) ∧ w' = (w2.drew.setCell ⟨b, 0, none⟩ (.int .u32 1)).setCell ⟨b, 1, none⟩ (.int .i32 0) ∧ ButT b (w.setCell ⟨b, 1, none⟩ (.int .i32 1)) w2 ∧ TabAt w2 b (fun i => if i = 23 then 9 else putAll (putAll (putAll (putAll g 13 [1, 2, 13, 19, 20]) 11 [3, 4, 5, 6, 7, 8, 9, 10, 11, 12]) 15 [14, 15, 16, 17, 21]) 12 [18, 22, 24] i) := by
  have HL := Lib.hid (bool_load ⟨b, 0, none⟩ 0 (w.setCell ⟨b, 1, none⟩ (.int .i32 1)) ((World.cell?_setCell_other _ ⟨b, 1, none⟩ ⟨b, 0, none⟩ _ (by simp)).trans h0))
  have hnot := run_not
  have HT1 := Lib.hid (ht.other 1 (.int .i32 1) (by omega))
  clear ht
  go_enter_defers Tryz.func93, Tryz.ntmps93
  go_wp2_with (go_at_call 104; refine (lock_free ⟨b, 1, none⟩ _ (by go_simp) (by go_simp)).mono ?_; rintro e w' ⟨rfl, rfl⟩)
  go_wp2_with fail
  refine HL.out.mono ?_
  rintro e w1 ⟨rfl, rfl⟩
  go_wp2_with (go_at_call 77; refine (fill_ok b g _ HT1.out).mono ?_; rintro e w2 ⟨rfl, hb2, ht2⟩)
  have x0 : w2.cell? ⟨b, 0, none⟩ = some (.int .u32 0) := (hb2.out 0 (by omega)).1.trans ((World.cell?_setCell_other _ ⟨b, 1, none⟩ ⟨b, 0, none⟩ _ (by simp)).trans h0)
  have x1 : w2.cell? ⟨b, 1, none⟩ = some (.int .i32 1) := (hb2.out 1 (by omega)).1.trans (World.cell?_setCell_same w _ _ h1)
  have y0 : w2.frozen? ⟨b, 0, none⟩ = false := (hb2.out 0 (by omega)).2.trans (by simp [f0])
  have y1 : w2.frozen? ⟨b, 1, none⟩ = false := (hb2.out 1 (by omega)).2.trans (by simp [f1])
  refine leaves_cons (f := 106) (args := #[.pointer (some ⟨b, 0, none⟩), .bool true]) (by simp) (by simp [go_sem]) ?_
  refine (store_deferred ⟨b, 0, none⟩ (.int .u32 0) .returning _ x0 y0).mono ?_
  rintro e u' w'' ⟨rfl, rfl, rfl⟩
  refine leaves_cons (f := 105) (args := #[.pointer (some ⟨b, 1, none⟩)]) (by simp [settle]) (by simp [go_sem]) ?_
  refine (unlock_deferred ⟨b, 1, none⟩ _ _ ?_ (by simp [y1])).mono ?_
  · refine (World.cell?_setCell_other _ ⟨b, 0, none⟩ ⟨b, 1, none⟩ _ (by simp)).trans ?_
    rw [World.cell?_drew]; exact x1
  rintro e u' w'' ⟨rfl, rfl, rfl⟩
  simp [Leaves, settle, results, Tryz.results93]
  exact ⟨w2, rfl, hb2, ht2⟩
end Go.Proofs.YtapjfcljbdlnkaaGreatDoor
