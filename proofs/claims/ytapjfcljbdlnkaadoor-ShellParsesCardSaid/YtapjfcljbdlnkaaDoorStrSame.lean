/- onionskinref29.Same at equal strings. -/
import Derived.Test.YtapjfcljbdlnkaaDoorShellL
import Derived.Test.YtapjfcljbdlnkaaDoorRefShell
import Derived.Test.YtapjfcljbdlnkaaDoorLaws
import Derived.WalkLawsBesides
import Derived.WalkKit
import Derived.WalkSpells
import Derived.OwnWalk
namespace Go.Proofs.YtapjfcljbdlnkaaDoor
open Go Go.RowKit Go.Lib
set_option maxRecDepth 100000

/-- A slice of strings that can be read: these strings. -/
def SReads (w : World) (v : Value) (l : List (List UInt8)) : Prop :=
  ∃ ad cap, v = .slice ad l.length cap ∧ ∀ j x, l[j]? = some x → ∃ b off, ad = some ⟨b, off, none⟩ ∧ w.cell? ⟨b, off + j, none⟩ = some (.string (bs x))
theorem SReads.on {w w' : World} {v : Value} {l : List (List UInt8)} (h : SReads w v l) (hb : Below w.heap.size w w') : SReads w' v l := by
  obtain ⟨ad, cap, hv, hc⟩ := h
  refine ⟨ad, cap, hv, fun j x hx => ?_⟩
  obtain ⟨b, off, e, h1⟩ := hc j x hx
  exact ⟨b, off, e, (hb.cell (World.block_lt_of_cell? _ _ h1)).trans h1⟩
theorem SReads.own {w : World} {B : Nat} {v : Value} {l : List (List UInt8)} (h : w.ownsRow B 9 1 v l.length (strs l)) : SReads w v l := by
  obtain ⟨ad, cap, rfl, hn⟩ := own_len h
  refine ⟨ad, cap, rfl, fun j x hx => ?_⟩
  obtain ⟨g, cap', hsl, _, hcell⟩ := own_cell h (by have := (List.getElem?_eq_some_iff.1 hx).1; omega)
  obtain ⟨rfl, rfl⟩ : ad = some ⟨g, 0, none⟩ ∧ cap = cap' := by simpa using hsl
  exact ⟨g, 0, rfl, by rw [Nat.zero_add]; exact hcell j (.string (bs x)) (by unfold strs; rw [List.getElem?_map, hx]; rfl)⟩

set_option maxHeartbeats 1600000 in
theorem same_strs (v u : Value) (l : List (List UInt8)) (hl : l.length < 4611686018427387904) (w : World) (hv : SReads w v l) (hu : SReads w u l) :
    Calls Tryd.prog 7 #[v, u] w fun e w' => e = .returned (.bool true) ∧ Below w.heap.size w w' := by
  obtain ⟨ad, cap, rfl, hv2⟩ := hv
  obtain ⟨ad', cap', rfl, hu2⟩ := hu
  have HV2 := Lib.hid hv2
  have HU2 := Lib.hid hu2
  clear hv2 hu2
  go_enter Tryd.func7, Tryd.ntmps7
  go_wp2_with fail
  go_loopg [5] l.length (fun k s wr => ∃ i : Nat, k + i = l.length ∧ s = .int .i64 (i : Int) ∧ Below w.heap.size w wr)
  case atStart => exact ⟨0, by simp, rfl, Below.refl _ _⟩
  case round =>
    obtain ⟨i, hk, rfl, hb⟩ := hrel
    have hk := Lib.hid hk
    have HB := Lib.hid hb
    by_cases hi : i < l.length
    · have hi0 : (0 : Int) ≤ (i : Int) := by omega
      have hi1 : (i : Int) < (l.length : Int) := by omega
      obtain ⟨x, hx⟩ : ∃ x, l[i]? = some x := ⟨l[i], List.getElem?_eq_getElem hi⟩
      obtain ⟨b, off, rfl, h1⟩ := HV2.out i x hx
      obtain ⟨b', off', rfl, h2⟩ := HU2.out i x hx
      have k1 := (hb.cell (World.block_lt_of_cell? _ _ h1)).trans h1
      have k2 := (hb.cell (World.block_lt_of_cell? _ _ h2)).trans h2
      have wr1 : IntKind.i64.wrap ((i : Int) + 1) = (i : Int) + 1 := by rw [IntKind.wrap_i64]; omega
      clear hb hx h1 h2
      go_wp2_with fail
      refine region_still_tail 8 (by kernel_rfl) (by kernel_rfl) ?_
      simp only [List.take_succ_cons, List.take_zero, List.drop_succ_cons, List.drop_zero]
      repeat still_step
      refine wpStill_nil ?_
      go_wp2_with fail
      go_roundg (gk - 1)
      case measure => have := hk.out; omega
      case rel => exact ⟨i + 1, by have := hk.out; omega, by simp, HB.out.drew⟩
    · have hi1 : ¬ (i : Int) < (l.length : Int) := by omega
      go_wp2_with fail
      go_ret
      exact ⟨rfl, HB.out⟩
end Go.Proofs.YtapjfcljbdlnkaaDoor
