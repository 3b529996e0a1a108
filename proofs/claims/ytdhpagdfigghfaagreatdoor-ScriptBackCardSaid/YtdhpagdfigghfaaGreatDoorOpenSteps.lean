/- A slice of steps that came in, opened to its cells. -/
import Derived.Test.YtdhpagdfigghfaaGreatDoorRight
import Derived.Test.YtdhpagdfigghfaaGreatDoorRows
import Derived.WideShapes
import Derived.OpenShut
import Derived.Deep.Slices
import Derived.Deep.Fields
import Derived.ChangeSame
namespace Go.Proofs.YtdhpagdfigghfaaGreatDoor
open Go.ChangeShapes Go.WideShapes Go.Deep
set_option maxRecDepth 100000

theorem u8_of {n : Int} (h : (Lit.int .u8 n).wf = true) : ((UInt8.ofNat n.toNat).toNat : Int) = n := by
  have : 0 ≤ n ∧ n ≤ 255 := by
    simp [Lit.wf, IntKind.min, IntKind.max, IntKind.signed, IntKind.bits] at h; omega
  simp; omega

/-- a slice of bytes reads as bytes -/
theorem open_bytes {H : Type} {enc : TypeId × Value → H} {w : World} {base fuel : Nat} {sp : Nat → Bool} {held : Bool} {v : Value} {x : DataW H × List MemPlace}
    (h : DataW.trod enc Tryz.prog w base sp held fuel 40 [v] = some x) : ∃ l, Reads w v l := by
  rcases open_ints Tryz.underlying40 Tryz.underlying5 (by kernel_rfl) h with ⟨hcs, _⟩ | ⟨a, len, cap, zs, hcs, _, hl, hm, hz, _, hcell, hwz⟩
  · obtain rfl : v = .slice none 0 0 := by simpa using hcs
    exact ⟨[], 0, 0, 0, Nat.le_refl _, .inr ⟨⟨_, _, rfl⟩, rfl⟩, fun j x hx => by simp at hx⟩
  · obtain rfl : v = .slice (some a) len cap := by simpa using hcs
    have hzl : len ≤ zs.length := by rw [hz]; split <;> omega
    by_cases h0 : 0 < len
    · obtain ⟨b, off, rfl, hc2⟩ := Go.ints_at hcell (by omega)
      refine ⟨(zs.take len).map fun n => UInt8.ofNat n.toNat, b, off, cap, by simp; omega, .inl (by simp [Nat.min_eq_left hzl]), fun j x hx => ?_⟩
      rw [List.getElem?_map, List.getElem?_take] at hx
      split at hx
      · rename_i hj
        have hj2 : j < zs.length := by omega
        rw [List.getElem?_eq_getElem hj2] at hx
        simp only [Option.map_some, Option.some.injEq] at hx
        subst hx
        rw [hc2 j hj2, u8_of (hwz _ (List.getElem_mem hj2))]
        simp [List.getD, List.getElem?_eq_getElem hj2]
      · simp at hx
    · obtain rfl : len = 0 := by omega
      exact ⟨[], 0, 0, 0, Nat.le_refl _, .inr ⟨⟨_, _, rfl⟩, rfl⟩, fun j x hx => by simp at hx⟩

theorem step_cells : Tryz.prog.cellsOf 50 = 3 := by kernel_rfl
theorem one_int : Tryz.prog.cellsOf 3 = 1 := by kernel_rfl
theorem one_bytes : Tryz.prog.cellsOf 40 = 1 := by kernel_rfl
theorem step_fields : ∃ f0 f1 f2 : Field, Tryz.prog.underlying 50 = some (.struct #[f0, f1, f2]) ∧ f0.type = 3 ∧ f1.type = 3 ∧ f2.type = 40 ∧ oneCellFields Tryz.prog #[f0, f1, f2] = true :=
  ⟨_, _, _, Tryz.underlying50, rfl, rfl, rfl, by kernel_rfl⟩

/-- the argument, opened -/
theorem open_steps {H : Type} {enc : TypeId × Value → H} {w : World} {b0 base : Nat} {r : Reach} {held : Bool} {sp : Nat → Bool} {v : Value} {d : DataW H} {ps : List MemPlace}
    (hval : Value.okWide Tryz.prog w r b0 33 v) (h : DataW.Trod enc Tryz.prog w base sp held 33 v d ps) : ∃ xs, ArgAt w v xs := by
  obtain ⟨a0, len, cap, rfl⟩ := WideShapes.okWide_slice Tryz.underlying33 hval
  obtain ⟨fuel, hf⟩ := h
  obtain ⟨f0, f1, f2, hu, h0, h1, h2, hone⟩ := step_fields
  rcases open_slice Tryz.underlying33 hf with ⟨hcs, _⟩ | ⟨a, len', cap', m, n, D, Pl, hcs, _, hl, hm, hmm, _, hx⟩
  · simp [Value.cells] at hcs
    obtain ⟨rfl, rfl, rfl⟩ := hcs
    exact ⟨[], 0, 0, 0, Nat.le_refl _, Nat.zero_le _, .inr ⟨⟨_, _, rfl⟩, rfl⟩, fun i x hx => by simp at hx⟩
  · simp [Value.cells] at hcs
    obtain ⟨rfl, rfl, rfl⟩ := hcs
    have hlm : len ≤ m := by rw [hmm]; split <;> omega
    have key : ∀ i, i < len → ∃ x : In3, w.cell? (a.add (i * 3)) = some (.int .i64 x.k) ∧ w.cell? (a.add (i * 3 + 1)) = some (.int .i64 x.n) ∧ w.cell? (a.add (i * 3 + 2)) = some x.y ∧ Reads w x.y x.l := by
      intro i hi
      obtain ⟨cs', hc, ht'⟩ := hx i (by omega)
      rw [step_cells] at hc
      obtain ⟨ys, n', hn', hy, hlen, hyl, hg⟩ := DataW.trod_struct hu ht'
      obtain ⟨_, hcl, hat⟩ := World.cells?_some hc
      obtain ⟨o0, k0⟩ := hone_of hone 0 f0 rfl
      obtain ⟨o1, k1⟩ := hone_of hone 1 f1 rfl
      obtain ⟨o2, k2⟩ := hone_of hone 2 f2 rfl
      match cs', hcl, ys, hyl with
      | [c0, c1, c2], _, [y0, y1, y2], _ =>
        have g0 := hg 0 f0 rfl
        have g1 := hg 1 f1 rfl
        have g2 := hg 2 f2 rfl
        rw [o0, k0, h0] at g0
        rw [o1, k1, h1] at g1
        rw [o2, k2, h2] at g2
        obtain ⟨z0, e0, _⟩ := DataW.trod_int Tryz.underlying3 g0
        obtain ⟨z1, e1, _⟩ := DataW.trod_int Tryz.underlying3 g1
        obtain ⟨l, hl⟩ := open_bytes (v := c2) g2
        have t0 := hat 0 (by omega)
        have t1 := hat 1 (by omega)
        have t2 := hat 2 (by omega)
        rw [Go.Deep.add_add] at t0 t1 t2
        simp at e0 e1 t0 t1 t2
        subst e0 e1
        exact ⟨⟨z0, z1, c2, l⟩, t0, t1, t2, hl⟩
    by_cases hp : 0 < len
    · obtain ⟨g, hg⟩ := @choose_lt In3 ⟨⟨0, 0, .nilIface, []⟩⟩ _ _ key
      obtain ⟨b, off, spot⟩ := a
      have hspot : spot = none := by
        have := (hg 0 hp).1
        simpa [Addr.add] using World.cell?_spot this
      subst hspot
      refine ⟨(List.range len).map g, b, off, cap, by simpa using hl, hm, .inl (by simp), fun i x hx => ?_⟩
      rw [List.getElem?_map] at hx
      by_cases hi : i < len
      · rw [List.getElem?_eq_getElem (by simpa using hi)] at hx
        simp at hx
        subst hx
        obtain ⟨t0, t1, t2, t3⟩ := hg i hi
        rw [add_plain] at t0 t1 t2
        exact ⟨t0, by rw [Nat.add_assoc]; exact t1, by rw [Nat.add_assoc]; exact t2, t3⟩
      · rw [List.getElem?_eq_none (by simpa using hi)] at hx
        cases hx
    · obtain rfl : len = 0 := by omega
      exact ⟨[], 0, 0, 0, Nat.le_refl _, Nat.zero_le _, .inr ⟨⟨_, _, rfl⟩, rfl⟩, fun i x hx => by simp at hx⟩
end Go.Proofs.YtdhpagdfigghfaaGreatDoor
