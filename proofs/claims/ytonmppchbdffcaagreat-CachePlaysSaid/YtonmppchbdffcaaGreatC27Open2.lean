/- The argument of CachePlays that is rows of bytes, opened to its cells. -/
import Derived.Test.YtonmppchbdffcaaGreatC27Open
import Derived.Test.YtonmppchbdffcaaGreatC27Law2
namespace Go.Proofs.YtonmppchbdffcaaGreat
open Go Go.RowKit Go.ChangeShapes Go.WideShapes Go.Deep
set_option maxRecDepth 100000

/-- the slice of rows of bytes -/
theorem open_rows {H : Type} {enc : TypeId × Value → H} {w : World} {b0 base : Nat} {r : Reach} {held : Bool} {sp : Nat → Bool} {v : Value} {d : DataW H} {ps : List MemPlace}
    (hval : Value.okWide Tryz.prog w r b0 53 v) (h : DataW.Trod enc Tryz.prog w base sp held 53 v d ps) : ∃ ad cap l, v = .slice ad l.length cap ∧ FReads w ad cap l := by
  obtain ⟨a0, len, cap, rfl⟩ := WideShapes.okWide_slice Tryz.underlying53 hval
  obtain ⟨fuel, hf⟩ := h
  rcases open_slice Tryz.underlying53 hf with ⟨hcs, _⟩ | ⟨a, len', cap', m, n, D, Pl, hcs, _, hl, hm, hmm, _, hx⟩
  · simp [Value.cells] at hcs
    obtain ⟨rfl, rfl, rfl⟩ := hcs
    exact ⟨none, 0, [], rfl, Nat.le_refl _, Nat.zero_le _, fun i x hx => by simp at hx⟩
  · simp [Value.cells] at hcs
    obtain ⟨rfl, rfl, rfl⟩ := hcs
    have hlm : len ≤ m := by rw [hmm]; split <;> omega
    have key : ∀ i, i < len → ∃ c : RowV, w.cell? (a.add i) = some (.slice c.ad c.l.length c.cap) ∧ YReads w c.ad c.cap c.l := by
      intro i hi
      obtain ⟨cs', hc, ht'⟩ := hx i (by omega)
      rw [one_bytes, Nat.mul_one] at hc
      obtain ⟨_, hcl, hat⟩ := World.cells?_some hc
      match cs', hcl with
      | [c0], _ =>
        obtain ⟨ad, cp, l, hv, hk⟩ := open_ybytes (v := c0) ht'
        have t0 := hat 0 (by omega)
        simp at t0
        subst hv
        exact ⟨⟨ad, cp, l⟩, t0, hk⟩
    by_cases hp : 0 < len
    · obtain ⟨g, hg⟩ := @choose_lt RowV ⟨⟨none, 0, []⟩⟩ _ _ key
      obtain ⟨b, off, spot⟩ := a
      have hspot : spot = none := by
        have := (hg 0 hp).1
        simpa [Addr.add] using World.cell?_spot this
      subst hspot
      refine ⟨some ⟨b, off, none⟩, cap, (List.range len).map g, by simp, by simpa using hl, hm, fun i x hx => ?_⟩
      rw [List.getElem?_map] at hx
      by_cases hi : i < len
      · rw [List.getElem?_eq_getElem (by simpa using hi)] at hx
        simp at hx
        subst hx
        obtain ⟨t0, t1⟩ := hg i hi
        rw [add_plain] at t0
        exact ⟨b, off, rfl, t0, t1⟩
      · rw [List.getElem?_eq_none (by simpa using hi)] at hx
        cases hx
    · obtain rfl : len = 0 := by omega
      exact ⟨some a, cap, [], rfl, Nat.zero_le _, hm, fun i x hx => by simp at hx⟩
end Go.Proofs.YtonmppchbdffcaaGreat
