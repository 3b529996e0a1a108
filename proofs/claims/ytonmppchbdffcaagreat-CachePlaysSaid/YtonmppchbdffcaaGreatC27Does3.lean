/- The law's does: a Write out of range, a deed anew, nothing. -/
import Derived.Test.YtonmppchbdffcaaGreatC27Does2
namespace Go.Proofs.YtonmppchbdffcaaGreat
open Go Go.RowKit Go.Lib Go.Maps
attribute [local go_sem ↓] exec_alloc_data exec_store_data exec_load_data exec_build0
set_option maxRecDepth 100000

/-- the flags behind i rounds of a new deed's loop -/
def anewI (bs : List Bool) : Nat → List Bool
  | 0 => bs
  | i + 1 => (anewI bs i).set (12 + i) false
theorem All.mark {w : World} {C X D md mc T mo S n left dn : Nat} {r : Int} {nd no nc : Nat} {Dd Do Dc : DataW Unit} {ds : List Dat} {bs : List Bool} (h : All w C X D md mc T mo S n left dn r nd no nc Dd Do Dc ds bs) {i : Nat} (hi : i < 6) :
    (∃ u, w.cell? ⟨S, 1164 + i, none⟩ = some (.bool u)) ∧ w.frozen? ⟨S, 1164 + i, none⟩ = false ∧ All (w.setCell ⟨S, 1164 + i, none⟩ (.bool false)) C X D md mc T mo S n left dn r nd no nc Dd Do Dc ds (bs.set (12 + i) false) ∧ Keeps (· = S) w (w.setCell ⟨S, 1164 + i, none⟩ (.bool false)) := by
  have hbl := h.st.bl
  obtain ⟨f3, f4⟩ := h.st.flag (List.getElem?_eq_getElem (by omega : 12 + i < bs.length))
  obtain ⟨h3, k3⟩ := h.st.mark (i := 12 + i) (by omega) false
  rw [show 1164 + i = 1152 + (12 + i) by omega]
  exact ⟨⟨_, f3⟩, f4, h.turn k3 h3, k3⟩
set_option maxHeartbeats 6400000 in
theorem does_anew (C X D md mc T mo S left dn : Nat) (r : Int) (nd no nc : Nat) (Dd Do Dc : DataW Unit) (ds : List Dat) (bs : List Bool) (b : Int) (ad : Option Addr) (cap n : Nat) (w : World)
    (h : All w C X D md mc T mo S 6 left dn r nd no nc Dd Do Dc ds bs) :
    Calls Tryz.prog 9 #[.pointer (some ⟨C, 0, none⟩), .pointer (some ⟨T, 0, none⟩), .pointer (some ⟨S, 0, none⟩), .agg #[.int .i64 6, .int .i64 b, .slice ad n cap]] w fun e w' =>
      ∃ T' mo', e = .returned (.tuple #[.pointer (some ⟨T', 0, none⟩), .bool true]) ∧ All w' C X D md mc T' mo' S 6 left dn r nd 0 nc Dd (.map []) Dc ds (anewI bs 6) ∧ w.heap.size ≤ mo' ∧ Keeps (Mine md mo S) w w' := by
  obtain ⟨w0, hw0⟩ : ∃ w0, w0 = w.alloc (.cells #[.int .i64 6, .int .i64 b, .slice ad n cap] 44) := ⟨_, rfl⟩
  have hb0 : Below w.heap.size w w0 := by rw [hw0]; exact (Below.refl _ _).alloc (Nat.le_refl _) _
  have hg0 : w0.heap[w.heap.size]? = some (.cells #[.int .i64 6, .int .i64 b, .slice ad n cap] 44 (0, 0)) := by rw [hw0]; exact heap_alloc_last _ _
  have c0 : w0.cell? ⟨w.heap.size, 0, none⟩ = some (.int .i64 6) := by rw [cell_of_row _ _ 0 _ _ _ hg0]; rfl
  have c1 : w0.cell? ⟨w.heap.size, 1, none⟩ = some (.int .i64 b) := by rw [cell_of_row _ _ 1 _ _ _ hg0]; rfl
  have H0 := Lib.hid (And.intro (h.below hb0) hb0)
  have aw0 := hw0.symm
  clear h hb0 hg0 hw0
  have hbb : (0 ≤ b ∧ b < 6) ∨ b < 0 ∨ (0 ≤ b ∧ ¬ b < 6) := by omega
  go_enter Tryz.func9, Tryz.ntmps9
  rcases hbb with ⟨b1, b2⟩ | b1 | ⟨b1, b2⟩
  all_goals try (have b3 : ¬ 0 ≤ b := by omega)
  all_goals
    go_wp2_with fail
    go_loopg [12] 6 (fun k v wr => ∃ i : Nat, k + i = 6 ∧ v = .int .i64 (i : Int) ∧ All wr C X D md mc T mo S 6 left dn r nd no nc Dd Do Dc ds (anewI bs i) ∧ Keeps (Mine md mo S) w wr)
    case atStart => exact ⟨0, by simp, rfl, H0.out.1, Keeps.of_below H0.out.2⟩
    case round =>
      obtain ⟨i, hk, rfl, hA, hK⟩ := hrel
      have hk := Lib.hid hk
      have HA := Lib.hid (And.intro hA hK)
      by_cases hi : i < 6
      · have hi1 : (i : Int) < 6 := by omega
        have hi3 : (0 : Int) ≤ (i : Int) := by omega
        have wr1 : IntKind.i64.wrap ((i : Int) + 1) = (i : Int) + 1 := by rw [IntKind.wrap_i64] <;> omega
        obtain ⟨⟨u, g1⟩, g2, hAn, hKn⟩ := hA.mark hi
        have HAN := Lib.hid (And.intro hAn (hK.trans (hKn.mono fun k e => .inr (.inr e) : Keeps (Mine md mo S) wr _)))
        clear hA hK hAn hKn
        go_wp2_with fail
        go_roundg (gk - 1)
        case measure => have := hk.out; omega
        case rel => exact ⟨i + 1, by have := hk.out; omega, by simp, HAN.out.1, HAN.out.2⟩
      · have hi1 : ¬ (i : Int) < 6 := by omega
        obtain rfl : i = 6 := by have := hk.out; omega
        clear hA hK
        go_wp2_with fail
        refine (cache_begin C wr).mono ?_
        rintro e w5 ⟨T', mo', rfl, ht, hm, ho1, ho2, hb5⟩
        have HB := Lib.hid (And.intro ht (And.intro hm (And.intro ho1 hb5)))
        clear ht hm ho1 ho2 hb5
        go_wp2_with fail
        go_ret2
        have hA := HA.out.1
        have hb5 := HB.out.2.2.2
        have ho1 := HB.out.2.2.1
        refine ⟨T', mo', rfl, ⟨(hb5.block C hA.ca.lt).trans hA.ca, HB.out.1, hA.dd.on (hb5.block md hA.dd.lt), HB.out.2.1, hA.cc.on (hb5.block mc hA.cc.lt), hA.st.on (hb5.block S hA.st.lt), hA.dev.on (hb5.block X hA.dev.lt), hA.n1, fun e => by have := hA.dd.lt; omega, fun e => by have := hA.cc.lt; omega⟩, Nat.le_trans HA.out.2.size ho1, HA.out.2.trans (Keeps.of_below hb5)⟩
set_option maxHeartbeats 6400000 in
theorem does_none (C T S : Nat) (kind b : Int) (ad : Option Addr) (cap n : Nat) (w : World) (hk : kind < 0 ∨ 6 < kind) :
    Calls Tryz.prog 9 #[.pointer (some ⟨C, 0, none⟩), .pointer (some ⟨T, 0, none⟩), .pointer (some ⟨S, 0, none⟩), .agg #[.int .i64 kind, .int .i64 b, .slice ad n cap]] w fun e w' =>
      e = .returned (.tuple #[.pointer (some ⟨T, 0, none⟩), .bool true]) ∧ Below w.heap.size w w' := by
  obtain ⟨w0, hw0⟩ : ∃ w0, w0 = w.alloc (.cells #[.int .i64 kind, .int .i64 b, .slice ad n cap] 44) := ⟨_, rfl⟩
  have hb0 : Below w.heap.size w w0 := by rw [hw0]; exact (Below.refl _ _).alloc (Nat.le_refl _) _
  have hg0 : w0.heap[w.heap.size]? = some (.cells #[.int .i64 kind, .int .i64 b, .slice ad n cap] 44 (0, 0)) := by rw [hw0]; exact heap_alloc_last _ _
  have c0 : w0.cell? ⟨w.heap.size, 0, none⟩ = some (.int .i64 kind) := by rw [cell_of_row _ _ 0 _ _ _ hg0]; rfl
  have c1 : w0.cell? ⟨w.heap.size, 1, none⟩ = some (.int .i64 b) := by rw [cell_of_row _ _ 1 _ _ _ hg0]; rfl
  have H0 := Lib.hid hb0
  have aw0 := hw0.symm
  have e0 : (kind == 0) = false := beq_eq_false_iff_ne.2 (by omega)
  have e1 : (kind == 1) = false := beq_eq_false_iff_ne.2 (by omega)
  have e2 : (kind == 2) = false := beq_eq_false_iff_ne.2 (by omega)
  have e3 : (kind == 3) = false := beq_eq_false_iff_ne.2 (by omega)
  have e4 : (kind == 4) = false := beq_eq_false_iff_ne.2 (by omega)
  have e5 : (kind == 5) = false := beq_eq_false_iff_ne.2 (by omega)
  have e6 : (kind == 6) = false := beq_eq_false_iff_ne.2 (by omega)
  clear hb0 hg0 hw0 hk
  have hbb : (0 ≤ b ∧ b < 6) ∨ b < 0 ∨ (0 ≤ b ∧ ¬ b < 6) := by omega
  go_enter Tryz.func9, Tryz.ntmps9
  rcases hbb with ⟨b1, b2⟩ | b1 | ⟨b1, b2⟩
  all_goals try (have b3 : ¬ 0 ≤ b := by omega)
  all_goals
    go_wp2_with fail
    go_ret2
    exact ⟨rfl, H0.out⟩
end Go.Proofs.YtonmppchbdffcaaGreat
