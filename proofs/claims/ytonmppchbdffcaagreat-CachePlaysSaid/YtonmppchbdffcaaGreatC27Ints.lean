/- The reference's SameInts. -/
import Derived.Test.YtonmppchbdffcaaGreatDisk0
namespace Go.Proofs.YtonmppchbdffcaaGreat
open Go Go.RowKit Go.Lib
set_option maxRecDepth 100000

/-- a slice of ints that can be read -/
def IReads (w : World) (ad : Option Addr) (l : List Int) : Prop := ∀ j x, l[j]? = some x → ∃ b off, ad = some ⟨b, off, none⟩ ∧ w.cell? ⟨b, off + j, none⟩ = some (.int .i64 x)
theorem IReads.below {w w' : World} {ad : Option Addr} {l : List Int} (h : IReads w ad l) (hb : Below w.heap.size w w') : IReads w' ad l := fun j x hx => by
  obtain ⟨b, off, e, hc⟩ := h j x hx
  exact ⟨b, off, e, (World.cell?_of_block (a := ⟨b, off + j, none⟩) (hb.block b (World.block_lt_of_cell? _ ⟨b, off + j, none⟩ hc))).trans hc⟩
set_option maxHeartbeats 3200000 in
theorem same_ints (ad ad' : Option Addr) (cap cap' : Nat) (l l' : List Int) (hl : l.length ≤ 100000) (w : World) (h : IReads w ad l) (h' : IReads w ad' l') :
    Calls Tryz.prog 19 #[.slice ad l.length cap, .slice ad' l'.length cap'] w fun e w' => e = .returned (.bool (decide (l = l'))) ∧ Below w.heap.size w w' := by
  have H := Lib.hid (And.intro h h')
  obtain ⟨m, hm⟩ : ∃ m, m = l.length := ⟨_, rfl⟩
  obtain ⟨n, hn⟩ : ∃ n, n = l'.length := ⟨_, rfl⟩
  have HM := Lib.hid (And.intro hm hn)
  rw [← hm] at hl
  rw [← hm, ← hn]
  clear h h' hm hn
  by_cases hmn : m = n
  · subst hmn
    go_enter Tryz.func19, Tryz.ntmps19
    go_wp2_with fail
    go_loopg [5] m (fun k s wr => ∃ i : Nat, k + i = m ∧ s = .int .i64 (i : Int) ∧ Below w.heap.size w wr ∧ ∀ j, j < i → l[j]? = l'[j]?)
    case atStart => exact ⟨0, by simp, rfl, Below.refl _ _, fun j hj => by omega⟩
    case round =>
      obtain ⟨i, hk, rfl, hb, hall⟩ := hrel
      have hk := Lib.hid hk
      have HB := Lib.hid (And.intro hb hall)
      clear hall
      by_cases hi : i < m
      · have hi0 : (0 : Int) ≤ (i : Int) := by omega
        have hi1 : (i : Int) < (m : Int) := by omega
        obtain ⟨x, hx⟩ : ∃ x, l[i]? = some x := ⟨l[i]'(by have := HM.out; omega), List.getElem?_eq_getElem _⟩
        obtain ⟨y, hy⟩ : ∃ y, l'[i]? = some y := ⟨l'[i]'(by have := HM.out; omega), List.getElem?_eq_getElem _⟩
        obtain ⟨b, o, rfl, k1⟩ := (H.out.1.below hb) i x hx
        obtain ⟨b', o', rfl, k2⟩ := (H.out.2.below hb) i y hy
        have wr1 : IntKind.i64.wrap ((i : Int) + 1) = (i : Int) + 1 := by rw [IntKind.wrap_i64] <;> omega
        have HXY := Lib.hid (And.intro hx hy)
        clear hb hx hy
        go_wp2_with fail
        refine region_still_tail 8 (by kernel_rfl) (by kernel_rfl) ?_
        simp only [List.take_succ_cons, List.take_zero, List.drop_succ_cons, List.drop_zero]
        repeat still_step
        refine wpStill_nil ?_
        by_cases hxy : x = y
        · have k3 : (x == y) = true := beq_iff_eq.2 hxy
          have k4 : (x != y) = false := by simp [hxy]
          have HE2 := Lib.hid hxy
          go_wp2_with fail
          go_roundg (gk - 1)
          case measure => have := hk.out; omega
          case rel => exact ⟨i + 1, by have := hk.out; omega, by simp, HB.out.1.drew, fun j hj => by
            by_cases h : j = i
            · rw [h, HXY.out.1, HXY.out.2, HE2.out]
            · exact HB.out.2 j (by omega)⟩
        · have k3 : (x == y) = false := beq_eq_false_iff_ne.2 hxy
          have k4 : (x != y) = true := bne_iff_ne.2 hxy
          have HE : Hid (decide (l = l') = false) := Lib.hid (decide_eq_false fun e => hxy (by
            have h1 := HXY.out.1
            rw [e, HXY.out.2] at h1
            exact (Option.some.inj h1).symm))
          go_wp2_with fail
          go_ret
          exact ⟨by rw [HE.out]; rfl, HB.out.1.drew⟩
      · have hi1 : ¬ (i : Int) < (m : Int) := by omega
        have HE : Hid (decide (l = l') = true) := Lib.hid (decide_eq_true (List.ext_getElem? fun j => by
          by_cases hj : j < i
          · exact HB.out.2 j hj
          · rw [List.getElem?_eq_none (by have := HM.out; omega), List.getElem?_eq_none (by have := HM.out; omega)]))
        go_wp2_with fail
        go_ret
        exact ⟨by rw [HE.out]; rfl, HB.out.1⟩
  · have HE : Hid (decide (l = l') = false) := Lib.hid (decide_eq_false fun e => hmn (by rw [HM.out.1, HM.out.2, e]))
    have k1 : ((m : Int) == (n : Int)) = false := beq_eq_false_iff_ne.2 (by omega)
    have k2 : ((m : Int) != (n : Int)) = true := bne_iff_ne.2 (by omega)
    have k3 : ¬ (m : Int) = (n : Int) := by omega
    go_enter Tryz.func19, Tryz.ntmps19
    go_wp2_with fail
    go_ret
    exact ⟨by rw [HE.out]; rfl, Below.refl _ _⟩
end Go.Proofs.YtonmppchbdffcaaGreat
