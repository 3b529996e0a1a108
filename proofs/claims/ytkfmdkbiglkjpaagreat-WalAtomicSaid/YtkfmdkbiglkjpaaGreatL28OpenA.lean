/- A slice of Crashes that came in, opened to its cells. -/
import Derived.Test.YtkfmdkbiglkjpaaGreatL28Open
namespace Go.Proofs.YtkfmdkbiglkjpaaGreat
open Go Go.RowKit Go.ChangeShapes Go.WideShapes Go.Deep
set_option maxRecDepth 100000

structure CrV where
  n : Int
  ad : Option Addr
  cap : Nat
  ks : List Bool
structure MReads (w : World) (ad : Option Addr) (cap : Nat) (l : List CrV) : Prop where
  len : l.length ≤ cap
  max : cap ≤ maxLen
  at' : ∀ (i : Nat) (c : CrV), l[i]? = some c → ∃ g off, ad = some ⟨g, off, none⟩ ∧ w.cell? ⟨g, off + i * 2, none⟩ = some (.int .i64 c.n) ∧ w.cell? ⟨g, off + i * 2 + 1, none⟩ = some (.slice c.ad c.ks.length c.cap) ∧ BReads w (.slice c.ad c.ks.length c.cap) c.ks
theorem BReads.lt {w : World} {kad : Option Addr} {kcap : Nat} {ks : List Bool} (h : BReads w (.slice kad ks.length kcap) ks) (h0 : 0 < ks.length) : ∀ b off a, kad = some ⟨b, off, a⟩ → b < w.heap.size := fun b off a e => by
  obtain ⟨ad, cap, hv, -, hc⟩ := h
  obtain ⟨b', off', e', h1⟩ := hc 0 _ (List.getElem?_eq_getElem h0)
  obtain ⟨rfl, -⟩ : kad = ad ∧ kcap = cap := by simpa using hv
  rw [e] at e'
  obtain ⟨rfl, rfl, rfl⟩ : b = b' ∧ off = off' ∧ a = none := by simpa using e'
  exact World.block_lt_of_cell? _ ⟨b, off + 0, none⟩ h1
theorem BReads.below {w w' : World} {kad : Option Addr} {kcap : Nat} {ks : List Bool} (h : BReads w (.slice kad ks.length kcap) ks) (hb : Below w.heap.size w w') : BReads w' (.slice kad ks.length kcap) ks := by
  by_cases h0 : 0 < ks.length
  · exact h.on fun ad cap b off e => hb.block b (h.lt h0 b off ad (by simp only [Value.slice.injEq] at e; exact e.1))
  · obtain ⟨ad, cap, hv, hm, hc⟩ := h
    exact ⟨ad, cap, hv, hm, fun j x hx => by have := (List.getElem?_eq_some_iff.1 hx).1; omega⟩
theorem MReads.below {w w' : World} {ad : Option Addr} {cap : Nat} {l : List CrV} (h : MReads w ad cap l) (hb : Below w.heap.size w w') : MReads w' ad cap l :=
  ⟨h.len, h.max, fun i c hc => by
    obtain ⟨g, off, e, h1, h2, h3⟩ := h.at' i c hc
    have hg : g < w.heap.size := World.block_lt_of_cell? _ ⟨g, off + i * 2, none⟩ h1
    exact ⟨g, off, e, (World.cell?_of_block (a := ⟨g, off + i * 2, none⟩) (hb.block g hg)).trans h1, (World.cell?_of_block (a := ⟨g, off + i * 2 + 1, none⟩) (hb.block g hg)).trans h2, h3.below hb⟩⟩
theorem open_bool_cell {H : Type} {enc : TypeId × Value → H} {w : World} {base fuel : Nat} {held : Bool} {v : Value} {x : DataW H × List MemPlace}
    (h : DataW.trod enc Tryz.prog w base (fun _ => true) held fuel 23 [v] = some x) : ∃ kad kcap ks, v = .slice kad ks.length kcap ∧ BReads w (.slice kad ks.length kcap) ks := by
  rcases open_bools Tryz.underlying23 Tryz.underlying4 bool_cells h with ⟨hcs, _⟩ | ⟨a, len, cap, B, hcs, _, hl, hm, _, hc⟩
  · obtain rfl : v = .slice none 0 0 := by simpa using hcs
    exact ⟨none, 0, [], rfl, none, 0, rfl, Nat.zero_le _, fun j x hx => by simp at hx⟩
  · obtain rfl : v = .slice (some a) len cap := by simpa using hcs
    refine ⟨some a, cap, (List.range len).map B, by simp, some a, cap, by simp, by simp; omega, fun j x hx => ?_⟩
    rw [List.getElem?_map] at hx
    by_cases hj : j < len
    · rw [List.getElem?_eq_getElem (by simpa using hj)] at hx
      simp at hx
      subst hx
      have h1 := hc j (by omega)
      obtain ⟨b, off, spot⟩ := a
      obtain rfl : spot = none := by
        have h3 := hc 0 (by omega)
        have h4 := World.cell?_spot h3
        simpa [Addr.add] using h4
      rw [add_plain] at h1
      exact ⟨b, off, rfl, h1⟩
    · rw [List.getElem?_eq_none (by simpa using hj)] at hx
      cases hx
theorem open_mores {H : Type} {enc : TypeId × Value → H} {w : World} {b0 base : Nat} {r : Reach} {held : Bool} {v : Value} {d : DataW H} {ps : List MemPlace}
    (hval : Value.okWide Tryz.prog w r b0 26 v) (h : DataW.Trod enc Tryz.prog w base (fun _ => true) held 26 v d ps) : ∃ ad cap l, v = .slice ad l.length cap ∧ MReads w ad cap l := by
  obtain ⟨a0, len, cap, rfl⟩ := WideShapes.okWide_slice Tryz.underlying26 hval
  obtain ⟨fuel, hf⟩ := h
  obtain ⟨f0, f1, hu, h0, h1, o0, o1⟩ := crash_fields
  rcases open_slice Tryz.underlying26 hf with ⟨hcs, _⟩ | ⟨a, len', cap', m, n, D, Pl, hcs, _, hl, hm, hmm, _, hx⟩
  · simp [Value.cells] at hcs
    obtain ⟨rfl, rfl, rfl⟩ := hcs
    exact ⟨none, 0, [], rfl, Nat.le_refl _, Nat.zero_le _, fun i x hx => by simp at hx⟩
  · simp [Value.cells] at hcs
    obtain ⟨rfl, rfl, rfl⟩ := hcs
    have hlm : len ≤ m := by rw [hmm]; split <;> omega
    have key : ∀ i, i < len → ∃ c : CrV, w.cell? (a.add (i * 2)) = some (.int .i64 c.n) ∧ w.cell? ((a.add (i * 2)).add 1) = some (.slice c.ad c.ks.length c.cap) ∧ BReads w (.slice c.ad c.ks.length c.cap) c.ks := by
      intro i hi
      obtain ⟨cs', hc, ht'⟩ := hx i (by omega)
      rw [crash_cells] at hc
      obtain ⟨y0, y1, n', hy, hcl, g0, g1⟩ := trod_struct2 hu ht'
      obtain ⟨_, hcl, hat⟩ := World.cells?_some hc
      rw [o0, h0, int_cells] at g0
      rw [o1, h1, bools_cells] at g1
      match cs', hcl with
      | [c0, c1], _ =>
        obtain ⟨z, hz, _⟩ := DataW.trod_int Tryz.underlying3 g0
        obtain ⟨kad, kcap, ks, hv, hk⟩ := open_bool_cell (v := c1) g1
        have t0 := hat 0 (by omega)
        have t1 := hat 1 (by omega)
        simp at hz t0 t1
        subst hz hv
        exact ⟨⟨z, kad, kcap, ks⟩, t0, t1, hk⟩
    by_cases hp : 0 < len
    · obtain ⟨g, hg⟩ := @choose_lt CrV ⟨⟨0, none, 0, []⟩⟩ _ _ key
      obtain ⟨b, off, spot⟩ := a
      have hspot : spot = none := by
        have := (hg 0 hp).1
        simpa [Addr.add] using World.cell?_spot this
      subst hspot
      refine ⟨some ⟨b, off, none⟩, cap, (List.range len).map g, by simp, by simpa using hl, hm, fun i x hx => ?_⟩
      rw [List.getElem?_map] at hx
      by_cases hi : i < len
      · rw [List.getElem?_eq_getElem (by simpa using hi)] at hx
        simp at hx
        subst hx
        obtain ⟨t0, t1, t2⟩ := hg i hi
        rw [add_plain] at t0
        rw [add_plain, add_plain] at t1
        exact ⟨b, off, rfl, t0, t1, t2⟩
      · rw [List.getElem?_eq_none (by simpa using hi)] at hx
        cases hx
    · obtain rfl : len = 0 := by omega
      exact ⟨some a, cap, [], rfl, Nat.zero_le _, hm, fun i x hx => by simp at hx⟩
end Go.Proofs.YtkfmdkbiglkjpaaGreat
