/- The law's does: a Write out of range. -/
import Derived.Test.YtonmppchbdffcaaGreatC27Does3
namespace Go.Proofs.YtonmppchbdffcaaGreat
open Go Go.RowKit Go.Lib Go.Maps
attribute [local go_sem ↓] exec_alloc_data exec_store_data exec_load_data exec_build0
set_option maxRecDepth 100000

set_option maxHeartbeats 6400000 in
theorem does_write_no (C X D md mc T mo S left dn : Nat) (r : Int) (nd no nc : Nat) (Dd Do Dc : DataW Unit) (ds : List Dat) (bs : List Bool) (kind b : Int) (ad : Option Addr) (cap : Nat) (l : List UInt8) (w : World)
    (h : All w C X D md mc T mo S 6 left dn r nd no nc Dd Do Dc ds bs) (hk : kind = 0 ∨ kind = 1 ∨ kind = 2 ∨ kind = 3 ∨ kind = 4) (hb : ¬ (0 ≤ b ∧ b < 6)) (hy : YReads w ad cap l) :
    Calls Tryz.prog 9 #[.pointer (some ⟨C, 0, none⟩), .pointer (some ⟨T, 0, none⟩), .pointer (some ⟨S, 0, none⟩), .agg #[.int .i64 kind, .int .i64 b, .slice ad l.length cap]] w fun e w' =>
      e = .returned (.tuple #[.pointer (some ⟨T, 0, none⟩), .bool true]) ∧ Below w.heap.size w w' := by
  obtain ⟨n, hn⟩ : ∃ n, n = l.length := ⟨_, rfl⟩
  obtain ⟨w0, hw0⟩ : ∃ w0, w0 = w.alloc (.cells #[.int .i64 kind, .int .i64 b, .slice ad n cap] 44) := ⟨_, rfl⟩
  have hb0 : Below w.heap.size w w0 := by rw [hw0]; exact (Below.refl _ _).alloc (Nat.le_refl _) _
  have hg0 : w0.heap[w.heap.size]? = some (.cells #[.int .i64 kind, .int .i64 b, .slice ad n cap] 44 (0, 0)) := by rw [hw0]; exact heap_alloc_last _ _
  have hs0 : w0.heap.size = w.heap.size + 1 := by rw [hw0]; simp
  have HBX : Hid (∀ w', Below w0.heap.size w0 w' → w'.cell? ⟨w.heap.size, 0, none⟩ = some (.int .i64 kind) ∧ w'.cell? ⟨w.heap.size, 1, none⟩ = some (.int .i64 b) ∧ w'.cell? ⟨w.heap.size, 2, none⟩ = some (.slice ad n cap)) := Lib.hid fun w' hb => by
    have hg : w'.heap[w.heap.size]? = _ := (hb.block _ (by omega)).trans hg0
    exact ⟨by rw [cell_of_row _ _ 0 _ _ _ hg]; rfl, by rw [cell_of_row _ _ 1 _ _ _ hg]; rfl, by rw [cell_of_row _ _ 2 _ _ _ hg]; rfl⟩
  have HO : Hid (∀ w', Below w0.heap.size w0 w' → Calls Tryz.prog 11 #[.slice ad n cap] w' fun e w'' => e = .returned (.agg (dC (ofD l)).toArray) ∧ Below w0.heap.size w0 w'') := Lib.hid fun w' hb => by
    rw [hn]
    refine (ref_of ad cap l w' (hy.below (hb0.trans (hb.mono hb0.size)))).mono ?_
    rintro e w'' ⟨he, h2⟩
    exact ⟨he, hb.trans (h2.mono hb.size)⟩
  have HTW : Hid (∀ w', Below w0.heap.size w0 w' → Calls Tryz.prog 27 #[.pointer (some ⟨T, 0, none⟩), .int .i64 b, .agg (dC (ofD l)).toArray] w' fun e w'' => e = .returned (.bool false) ∧ Below w0.heap.size w0 w'') := Lib.hid fun w' hb' => by
    have ha := (h.below hb0).below hb'
    refine (tx_write_no T C X md mc mo 6 left dn D r b (ofD l) w' ha.tx ha.ca ha.dev hb).mono ?_
    rintro e w'' ⟨he, h2⟩
    exact ⟨he, hb'.trans (h2.mono hb'.size)⟩
  have HB0 := Lib.hid hb0
  rw [← hn]
  generalize ofD l = x at *
  obtain ⟨c0, c1, c2⟩ := HBX.out w0 (Below.refl _ _)
  have aw0 := hw0.symm
  have hbb : b < 0 ∨ (0 ≤ b ∧ ¬ b < 6) := by omega
  clear h hb0 hg0 hs0 hw0 hy hn hb
  rcases hbb with b1 | ⟨b1, b2⟩
  all_goals try (have b3 : ¬ 0 ≤ b := by omega)
  all_goals
    rcases hk with rfl | rfl | rfl | rfl | rfl
  all_goals
    go_enter Tryz.func9, Tryz.ntmps9
    go_wp2_with fail
    go_region_held3 (fun w' => w'.cell? ⟨w.heap.size, 1, none⟩ = some (.int .i64 b) ∧ w'.cell? ⟨w.heap.size, 2, none⟩ = some (.slice ad n cap))
      (first | exact (HBX.out _ (Below.refl _ _).drew).2 | exact (HBX.out _ hbq).2 | exact (HBX.out _ hbr).2)
      (first | (go_at_call 11; refine (HO.out _ (Below.refl _ _).drew).mono ?_; rintro e w' ⟨rfl, hbq⟩) | (go_at_call 27; refine (HTW.out _ hbq).mono ?_; rintro e w'' ⟨rfl, hbr⟩))
    have HQ := Lib.hid hbr
    clear hbr hbq
    go_wp2_with fail
    go_ret2
    exact ⟨rfl, HB0.out.trans (HQ.out.mono HB0.out.size)⟩
end Go.Proofs.YtonmppchbdffcaaGreat
