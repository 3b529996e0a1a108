/- Small laws that the texts on asm want. -/
import Derived.Test.YtapjfcljbdlnkaaGreatDoorOwn
import Derived.Test.YtapjfcljbdlnkaaGreatDoorSplitSeq
import Derived.Test.YtapjfcljbdlnkaaGreatDoorFields
import Derived.Test.YtapjfcljbdlnkaaGreatDoorCut
import Derived.WalkKit
import Derived.WalkSpells
import Derived.WalkLawsBesides
import Derived.OwnWalk
import Derived.Deep.LoopGhost
import Derived.Lib.Hide
import Derived.Outline
import Derived.Deep.AppendLies
import Derived.Maps.AppendAt
import Derived.RangeFuncBox
import Derived.Shelf.Strings.FieldsFuncGrows
namespace Go.Proofs.YtapjfcljbdlnkaaGreatDoor
open Go Go.RowKit Go.Lib
set_option maxRecDepth 100000

theorem bs_get (p : List UInt8) (i : Nat) (x : UInt8) (h : p[i]? = some x) : ∀ h', (bs p)[i]'h' = x := fun h' => by
  have h2 : (bs p).data.toList[i]? = some x := by rw [bs_data]; exact h
  have h3 := (Array.getElem?_toList (xs := (bs p).data) (i := i)).symm.trans h2
  exact (Array.getElem?_eq_some_iff.1 h3).2
theorem bs_list (p : List UInt8) : (bs p).toList = p := by rw [Lib.toList_data, bs_data]
theorem bs_piece (s : List UInt8) (f i : Nat) : (bs s).extract f i = bs ((s.drop f).take (i - f)) := by
  apply bs_inj
  simp [bs]
theorem cutAt_len (c : UInt8) : ∀ (s : List UInt8) (p : List UInt8), p ∈ cutAt c s → p.length ≤ s.length
  | [], p, h => by simp [cutAt] at h; subst h; simp
  | b :: l, p, h => by
    have ih := cutAt_len c l
    simp only [cutAt] at h
    split at h
    · rcases List.mem_cons.1 h with rfl | h
      · simp
      · have := ih p h; simp; omega
    · cases hc : cutAt c l with
      | nil => exact absurd hc (cutAt_ne c l)
      | cons q qs =>
        rw [hc] at h ih
        rcases List.mem_cons.1 h with rfl | h
        · have := ih q (by simp); simp; omega
        · have := ih p (by simp [h]); simp; omega
def strs (l : List (List UInt8)) : List Value := l.map fun x => Value.string (bs x)
theorem strs_len (l : List (List UInt8)) : (strs l).length = l.length := by simp [strs]
theorem strs_snoc (l : List (List UInt8)) (x : List UInt8) : strs (l ++ [x]) = strs l ++ [.string (bs x)] := by simp [strs]
theorem str_info : (Tryz.prog.info? 9).map (fun i => (i.zero, i.size, i.bytes)) = some (some (.string ⟨#[]⟩), 1, 16) := by kernel_rfl
theorem SplK.trans {B1 B2 B3 : Nat} {A B C : World} (h : SplK B1 B2 B3 A B) (k : SplK B1 B2 B3 B C) : SplK B1 B2 B3 A C :=
  ⟨k.1.trans h.1, k.2.1.trans h.2.1, k.2.2.trans h.2.2⟩
theorem SplK.putObj {B1 B2 B3 : Nat} (W : World) (l : Nat) (o : Obj) (h1 : B1 < l) (h2 : B2 < l) (h3 : B3 < l) : SplK B1 B2 B3 W (W.putObj l o) :=
  ⟨World.putObj_heap_other (by omega), World.putObj_heap_other (by omega), World.putObj_heap_other (by omega)⟩
theorem SplT.other {B : Nat} {W W' : World} (h : SplT B W W') {l : Nat} (hl : l ≠ B) : W'.heap[l]? = W.heap[l]? := by
  rcases h with rfl | ⟨v, rfl⟩
  · rfl
  · exact heap_setCell_other _ _ _ _ hl
theorem SplT.below {B n0 : Nat} {w W W' : World} (h : SplT B W W') (hb : Below n0 w W) (hB : n0 ≤ B) : Below n0 w W' := by
  rcases h with rfl | ⟨v, rfl⟩
  · exact hb
  · exact hb.setCell hB _
end Go.Proofs.YtapjfcljbdlnkaaGreatDoor
