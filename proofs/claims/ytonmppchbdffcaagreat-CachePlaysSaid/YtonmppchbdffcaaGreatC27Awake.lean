/- Dirty, where a map has no key or one; awake. -/
import Derived.Test.YtonmppchbdffcaaGreatC27Read
import Derived.Test.YtonmppchbdffcaaGreatC27Sorted
import Derived.Test.YtonmppchbdffcaaGreatC27Ints
import Derived.Shelf.AbstractIn
namespace Go.Proofs.YtonmppchbdffcaaGreat
open Go Go.RowKit Go.Lib Go.Maps Go.Sort Go.Shelf
set_option maxRecDepth 100000

set_option maxHeartbeats 3200000 in
/-- Dirty: the map's keys, sorted -/
theorem cache_dirty (C X md mc nd : Nat) (r : Int) (Dd : DataW Unit) (w : World) (hC : CaAt w C X md mc r) (hd : MapAt w md nd Dd) (hn : nd ≤ 100000) :
    Calls Tryz.prog 14 #[.pointer (some ⟨C, 0, none⟩)] w fun e w' => ∃ ad cap, ∃ ss : List Int, e = .returned (.slice ad ss.length cap) ∧ ss.Perm (intKeys Dd) ∧ IReads w' ad (ss.mergeSort (fun x y => decide (x ≤ y))) ∧ Below w.heap.size w w' := by
  have hmax : (100000 : Nat) < maxLen := by decide
  have hsz := World.ownsMap.size_le hd
  have hbl := hd.lt
  have hseq : SeqGives Fence.wide 2 Tryz.prog 42 #[.pointer (some ⟨w.heap.size, 0, none⟩)] encZ (fun ss => ss.Perm (intKeys Dd)) (Maps.size Dd) (w.alloc (.cells #[.map (some md)] 63)) :=
    AnyZI.keys_gives (ρ := Tryz.keysA_ren) { Tryz.keysA with } Fence.wide _ trivial rfl (by omega) w.heap.size md nd Dd _ (by simp) (by simp) (by
      obtain ⟨es, clock, hb, Ft, hs, hD⟩ := hd
      exact ⟨es, clock, (Below.heap_alloc _ _ md hbl).trans hb, Ft, hs, hD⟩)
  have cK : ∀ mb W, Calls Tryz.prog 31 #[.map mb] W fun e w' => e = .returned (.func (.func 42) #[] #[.pointer (some ⟨W.heap.size, 0, none⟩)]) ∧ w' = W.alloc (.cells #[.map mb] 63) := fun mb W => (callsIn_wide (n := 5)).1 (AnyZI.keys_in Tryz.keysA Fence.wide 5 trivial rfl mb W)
  have cS := AnyZI.sorted_in Tryz.sortedA Fence.wide 5 trivial trivial trivial trivial rfl (by omega) (Tryz.sortsA _) (enters_of Tryz.func41 (by kernel_rfl) rfl) 42 #[.pointer (some ⟨w.heap.size, 0, none⟩)] trivial (enters_of Tryz.func42 (by kernel_rfl) rfl) _ _ (by omega) (by omega) _ hseq
  change CallsIn _ _ Tryz.prog 30 _ _ _ at cS
  have CS := Lib.hid ((callsIn_wide (n := 5)).1 cS)
  have CK := Lib.hid cK
  obtain ⟨-, c1, -⟩ := hC.cells
  clear hd hC hseq cK cS hmax hsz hbl
  go_enter Tryz.func14, Tryz.ntmps14
  go_wp2_with fail
  refine (CK.out _ _).mono ?_
  rintro e w1 ⟨rfl, hw1⟩
  rw [hw1]
  clear hw1 w1
  go_wp2_with fail
  refine CS.out.mono ?_
  rintro e w2 ⟨v, ss, rfl, hS, hrow, hnil, hb⟩
  have HQ := Lib.hid (And.intro hS (And.intro hrow hb))
  clear hS hrow hnil hb
  go_wp2_with fail
  go_ret
  have hrow := HQ.out.2.1
  obtain ⟨ad, cap, hv, -⟩ := own_len hrow
  subst hv
  refine ⟨ad, cap, ss, rfl, HQ.out.1, fun j x hx => ?_, ((Below.refl _ w).alloc (Nat.le_refl _) _).trans (HQ.out.2.2.mono (by simp))⟩
  have hlen : (ss.mergeSort fun x y => decide (x ≤ y)).length = ss.length := List.length_mergeSort _
  obtain ⟨g, cap', hsl, -, hc⟩ := own_cell hrow (by have := (List.getElem?_eq_some_iff.1 hx).1; omega)
  obtain ⟨rfl, rfl⟩ : ad = some ⟨g, 0, none⟩ ∧ cap = cap' := by simpa using hsl
  refine ⟨g, 0, rfl, ?_⟩
  rw [Nat.zero_add]
  exact hc j _ (by rw [List.getElem?_map, hx]; rfl)
end Go.Proofs.YtonmppchbdffcaaGreat
