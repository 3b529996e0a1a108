/- The arguments of chapter 27's laws, opened to their cells. -/
import Derived.Test.YtonmppchbdffcaaGreatC27Law
import Derived.Test.YtonmppchbdffcaaGreatRows
import Derived.WideShapes
import Derived.OpenShut
import Derived.Deep.Slices
import Derived.Deep.Fields
import Derived.Deep.Strs
import Derived.ChangeSame
namespace Go.Proofs.YtonmppchbdffcaaGreat
open Go Go.RowKit Go.ChangeShapes Go.WideShapes Go.Deep
set_option maxRecDepth 100000

theorem u8_of {n : Int} (h : (Lit.int .u8 n).wf = true) : ((UInt8.ofNat n.toNat).toNat : Int) = n := by
  have : 0 ≤ n ∧ n ≤ 255 := by
    simp [Lit.wf, IntKind.min, IntKind.max, IntKind.signed, IntKind.bits] at h; omega
  simp; omega
/-- a slice of bytes reads as bytes -/
theorem open_ybytes {H : Type} {enc : TypeId × Value → H} {w : World} {base fuel : Nat} {sp : Nat → Bool} {held : Bool} {v : Value} {x : DataW H × List MemPlace}
    (h : DataW.trod enc Tryz.prog w base sp held fuel 23 [v] = some x) : ∃ ad cap l, v = .slice ad l.length cap ∧ YReads w ad cap l := by
  rcases open_ints Tryz.underlying23 Tryz.underlying5 (by kernel_rfl) h with ⟨hcs, _⟩ | ⟨a, len, cap, zs, hcs, _, hl, hm, hz, _, hcell, hwz⟩
  · obtain rfl : v = .slice none 0 0 := by simpa using hcs
    exact ⟨none, 0, [], rfl, Nat.le_refl _, fun j x hx => by simp at hx⟩
  · obtain rfl : v = .slice (some a) len cap := by simpa using hcs
    have hzl : len ≤ zs.length := by rw [hz]; split <;> omega
    by_cases h0 : 0 < len
    · obtain ⟨b, off, rfl, hc2⟩ := Go.ints_at hcell (by omega)
      refine ⟨some ⟨b, off, none⟩, cap, (zs.take len).map fun n => UInt8.ofNat n.toNat, by simp [Nat.min_eq_left hzl], by simp; omega, fun j x hx => ?_⟩
      rw [List.getElem?_map, List.getElem?_take] at hx
      split at hx
      · rename_i hj
        have hj2 : j < zs.length := by omega
        rw [List.getElem?_eq_getElem hj2] at hx
        simp only [Option.map_some, Option.some.injEq] at hx
        subst hx
        refine ⟨b, off, rfl, ?_⟩
        rw [hc2 j hj2, u8_of (hwz _ (List.getElem_mem hj2))]
        simp [List.getD, List.getElem?_eq_getElem hj2]
      · simp at hx
    · obtain rfl : len = 0 := by omega
      exact ⟨some a, cap, [], rfl, Nat.zero_le _, fun j x hx => by simp at hx⟩
theorem open_yslice {H : Type} {enc : TypeId × Value → H} {w : World} {base : Nat} {sp : Nat → Bool} {held : Bool} {v : Value} {d : DataW H} {ps : List MemPlace} (hv : v.cells = #[v])
    (h : DataW.Trod enc Tryz.prog w base sp held 23 v d ps) : ∃ ad cap l, v = .slice ad l.length cap ∧ YReads w ad cap l := by
  obtain ⟨fuel, hf⟩ := h
  rw [hv] at hf
  exact open_ybytes hf
theorem deed_cells : Tryz.prog.cellsOf 44 = 3 := by kernel_rfl
theorem one_int : Tryz.prog.cellsOf 3 = 1 := by kernel_rfl
theorem one_bytes : Tryz.prog.cellsOf 23 = 1 := by kernel_rfl
theorem deed_fields : ∃ f0 f1 f2 : Field, Tryz.prog.underlying 44 = some (.struct #[f0, f1, f2]) ∧ f0.type = 3 ∧ f1.type = 3 ∧ f2.type = 23 ∧ f0.offset = 0 ∧ f1.offset = 1 ∧ f2.offset = 2 :=
  ⟨_, _, _, Tryz.underlying44, rfl, rfl, rfl, rfl, rfl, rfl⟩
/-- the slice of deeds -/
theorem open_deeds {H : Type} {enc : TypeId × Value → H} {w : World} {b0 base : Nat} {r : Reach} {held : Bool} {sp : Nat → Bool} {v : Value} {d : DataW H} {ps : List MemPlace}
    (hval : Value.okWide Tryz.prog w r b0 22 v) (h : DataW.Trod enc Tryz.prog w base sp held 22 v d ps) : ∃ ad cap l, v = .slice ad l.length cap ∧ EReads w ad cap l := by
  obtain ⟨a0, len, cap, rfl⟩ := WideShapes.okWide_slice Tryz.underlying22 hval
  obtain ⟨fuel, hf⟩ := h
  obtain ⟨f0, f1, f2, hu, h0, h1, h2, o0, o1, o2⟩ := deed_fields
  rcases open_slice Tryz.underlying22 hf with ⟨hcs, _⟩ | ⟨a, len', cap', m, n, D, Pl, hcs, _, hl, hm, hmm, _, hx⟩
  · simp [Value.cells] at hcs
    obtain ⟨rfl, rfl, rfl⟩ := hcs
    exact ⟨none, 0, [], rfl, Nat.le_refl _, Nat.zero_le _, fun i x hx => by simp at hx⟩
  · simp [Value.cells] at hcs
    obtain ⟨rfl, rfl, rfl⟩ := hcs
    have hlm : len ≤ m := by rw [hmm]; split <;> omega
    have key : ∀ i, i < len → ∃ c : DeedV, w.cell? (a.add (i * 3)) = some (.int .i64 c.kind) ∧ w.cell? ((a.add (i * 3)).add 1) = some (.int .i64 c.b) ∧ w.cell? ((a.add (i * 3)).add 2) = some (.slice c.ad c.l.length c.cap) ∧ YReads w c.ad c.cap c.l := by
      intro i hi
      obtain ⟨cs', hc, ht'⟩ := hx i (by omega)
      rw [deed_cells] at hc
      obtain ⟨ys, n', hn', hy, hlen, hyl, hg⟩ := DataW.trod_struct hu ht'
      obtain ⟨_, hcl, hat⟩ := World.cells?_some hc
      match cs', hcl, ys, hyl with
      | [c0, c1, c2], _, [y0, y1, y2], _ =>
        have g0 := hg 0 f0 rfl
        have g1 := hg 1 f1 rfl
        have g2 := hg 2 f2 rfl
        rw [o0, h0, one_int] at g0
        rw [o1, h1, one_int] at g1
        rw [o2, h2, one_bytes] at g2
        obtain ⟨z0, e0, _⟩ := DataW.trod_int Tryz.underlying3 g0
        obtain ⟨z1, e1, _⟩ := DataW.trod_int Tryz.underlying3 g1
        obtain ⟨ad, cp, l, hv, hk⟩ := open_ybytes (v := c2) g2
        have t0 := hat 0 (by omega)
        have t1 := hat 1 (by omega)
        have t2 := hat 2 (by omega)
        simp at e0 e1 t0 t1 t2
        subst e0 e1 hv
        exact ⟨⟨z0, z1, ad, cp, l⟩, t0, t1, t2, hk⟩
    by_cases hp : 0 < len
    · obtain ⟨g, hg⟩ := @choose_lt DeedV ⟨⟨0, 0, none, 0, []⟩⟩ _ _ key
      obtain ⟨b, off, spot⟩ := a
      have hspot : spot = none := by
        have := (hg 0 hp).1
        simpa [Addr.add] using World.cell?_spot this
      subst hspot
      refine ⟨some ⟨b, off, none⟩, cap, (List.range len).map g, by simp, by simpa using hl, hm, fun i x hx => ?_⟩
      rw [List.getElem?_map] at hx
      by_cases hi : i < len
      · rw [List.getElem?_eq_getElem (by simpa using hi)] at hx
        simp at hx
        subst hx
        obtain ⟨t0, t1, t2, t3⟩ := hg i hi
        rw [add_plain] at t0
        rw [add_plain, add_plain] at t1 t2
        exact ⟨b, off, rfl, t0, t1, t2, t3⟩
      · rw [List.getElem?_eq_none (by simpa using hi)] at hx
        cases hx
    · obtain rfl : len = 0 := by omega
      exact ⟨some a, cap, [], rfl, Nat.zero_le _, hm, fun i x hx => by simp at hx⟩
end Go.Proofs.YtonmppchbdffcaaGreat
