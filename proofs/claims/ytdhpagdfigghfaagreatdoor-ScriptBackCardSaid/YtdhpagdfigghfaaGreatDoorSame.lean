/- SameBytes at equal bytes. -/
import Derived.Test.YtdhpagdfigghfaaGreatDoorLaws
import Derived.Test.YtdhpagdfigghfaaGreatDoorProg
import Derived.WalkKit
import Derived.WalkSpells
import Derived.WalkLawsBesides
import Derived.Deep.LoopGhost
import Derived.OwnWalk
import Derived.Below
import Derived.Lib.Hide
namespace Go.Proofs.YtdhpagdfigghfaaGreatDoor
open Go.RowKit Go.Lib
set_option maxRecDepth 100000

/-- A slice of bytes that can be read: these bytes. -/
def Reads (w : World) (v : Value) (l : List UInt8) : Prop := ∃ b off cap, l.length ≤ cap ∧ (v = .slice (some ⟨b, off, none⟩) l.length cap ∨ ((∃ ad c0, v = .slice ad 0 c0) ∧ l = [])) ∧ ∀ j x, l[j]? = some x → w.cell? ⟨b, off + j, none⟩ = some (.int .u8 x.toNat)
theorem Reads.on {w w' : World} {v : Value} {l : List UInt8} (h : Reads w v l) (hb : Below w.heap.size w w') : Reads w' v l := by
  obtain ⟨b, off, cap, hn, hv, hc⟩ := h
  exact ⟨b, off, cap, hn, hv, fun j x hx => (hb.cell (World.block_lt_of_cell? _ _ (hc j x hx))).trans (hc j x hx)⟩

set_option maxHeartbeats 1600000 in
theorem same_bytes (v u : Value) (l : List UInt8) (hl : l.length < 4611686018427387904) (w : World) (hv : Reads w v l) (hu : Reads w u l) :
    Calls Tryz.prog 10 #[v, u] w fun e w' => e = .returned (.bool true) ∧ Below w.heap.size w w' := by
  have HV := Lib.hid hv
  have HU := Lib.hid hu
  obtain ⟨b, off, cap, _, hv1, hv2⟩ := hv
  obtain ⟨b', off', cap', _, hu1, hu2⟩ := hu
  obtain ⟨ad, cp, rfl, hadv⟩ : ∃ ad cp, v = .slice ad l.length cp ∧ (l ≠ [] → ad = some ⟨b, off, none⟩) := by
    rcases hv1 with h | ⟨⟨ad0, c0, h⟩, h2⟩
    · exact ⟨_, _, h, fun _ => rfl⟩
    · subst h2; exact ⟨ad0, c0, h, fun e => absurd rfl e⟩
  obtain ⟨ad', cp', rfl, hadu⟩ : ∃ ad cp, u = .slice ad l.length cp ∧ (l ≠ [] → ad = some ⟨b', off', none⟩) := by
    rcases hu1 with h | ⟨⟨ad0, c0, h⟩, h2⟩
    · exact ⟨_, _, h, fun _ => rfl⟩
    · subst h2; exact ⟨ad0, c0, h, fun e => absurd rfl e⟩
  have HV2 := Lib.hid hv2
  have HU2 := Lib.hid hu2
  have HA := Lib.hid hadv
  have HA' := Lib.hid hadu
  clear hv1 hu1 hv2 hu2 hadv hadu
  go_enter Tryz.func10, Tryz.ntmps10
  go_wp2_with fail
  go_loopg [5] l.length (fun k s wr => ∃ i : Nat, k + i = l.length ∧ s = .int .i64 (i : Int) ∧ Below w.heap.size w wr)
  case atStart => exact ⟨0, by simp, rfl, Below.refl _ _⟩
  case round =>
    obtain ⟨i, hk, rfl, hb⟩ := hrel
    have hk := Lib.hid hk
    have HB := Lib.hid hb
    by_cases hi : i < l.length
    · have hi0 : (0 : Int) ≤ (i : Int) := by omega
      have hi1 : (i : Int) < (l.length : Int) := by omega
      have hne : l ≠ [] := by intro e; subst e; simp at hi
      obtain rfl := HA.out hne
      obtain rfl := HA'.out hne
      obtain ⟨x, hx⟩ : ∃ x, l[i]? = some x := ⟨l[i], List.getElem?_eq_getElem hi⟩
      have k1 := (hb.cell (World.block_lt_of_cell? _ _ (HV2.out i x hx))).trans (HV2.out i x hx)
      have k2 := (hb.cell (World.block_lt_of_cell? _ _ (HU2.out i x hx))).trans (HU2.out i x hx)
      have wr1 : IntKind.i64.wrap ((i : Int) + 1) = (i : Int) + 1 := by rw [IntKind.wrap_i64]; omega
      clear hb hx
      go_wp2_with fail
      refine region_still_tail 8 (by kernel_rfl) (by kernel_rfl) ?_
      simp only [List.take_succ_cons, List.take_zero, List.drop_succ_cons, List.drop_zero]
      repeat still_step
      refine wpStill_nil ?_
      go_wp2_with fail
      go_roundg (gk - 1)
      case measure => have := hk.out; omega
      case rel => exact ⟨i + 1, by have := hk.out; omega, by simp, HB.out.drew⟩
    · have hi1 : ¬ (i : Int) < (l.length : Int) := by omega
      go_wp2_with fail
      go_ret
      exact ⟨rfl, HB.out⟩

end Go.Proofs.YtdhpagdfigghfaaGreatDoor
