/- A struct by value, opened: what its cells are. -/
import Derived.Test.YtdijbkfcfjhajaaDoorRows
import Derived.WideShapes
import Derived.KernelRfl
import Derived.ProofKit
import Derived.OpenShut
namespace Go.Proofs.YtdijbkfcfjhajaaDoor
open Go

theorem okWide_cells {P : Program} {w : World} {r : Reach} {base : Nat} {t : TypeId} {v : Value} {ts : List TypeId} {fs : Array Field} (hu : P.underlying t = some (.struct fs)) (hts : P.cellTypes P.depth t = some ts) (hn : P.cellsOf t = ts.length)
    (h : Value.okWide P w r base t v) : ∃ cs : Array Value, v = .agg cs ∧ cs.size = ts.length ∧ ∀ (i : Nat) (x : Value) (u : TypeId), cs[i]? = some x → ts[i]? = some u → Cell.okWide P w r base u x := by
  simp only [Value.okWide, hu] at h
  obtain ⟨cs, rfl, hs, ts', h1, _, h3⟩ := h
  obtain rfl := Option.some.inj (hts.symm.trans h1)
  refine ⟨cs, rfl, hs.trans hn, fun i x u hx htu => ?_⟩
  obtain ⟨u', hu', hc⟩ := h3 i x hx
  have hi : i < ts.length := (List.getElem?_eq_some_iff.1 htu).1
  rw [Nat.mod_eq_of_lt hi] at hu'
  obtain rfl := Option.some.inj (htu.symm.trans hu')
  exact hc

theorem cell_int {P : Program} {w : World} {r : Reach} {base : Nat} {u : TypeId} {x : Value} {k : IntKind} (hu : P.underlying u = some (.int k)) (h : Cell.okWide P w r base u x) : ∃ n, x = .int k n ∧ k.has n := by
  simp only [Cell.okWide, hu] at h
  cases x <;> simp_all [Cell.ok]
theorem cell_bool {P : Program} {w : World} {r : Reach} {base : Nat} {u : TypeId} {x : Value} (hu : P.underlying u = some .bool) (h : Cell.okWide P w r base u x) : ∃ b, x = .bool b := by
  simp only [Cell.okWide, hu] at h
  cases x <;> simp_all [Cell.ok]

/-- a slice of whole numbers, opened: nil or not -/
theorem open_row {H : Type} {enc : TypeId × Value → H} {P : Program} {w : World} {b0 base : Nat} {r : Reach} {held : Bool} {sp : Nat → Bool} {t e : TypeId} {k : IntKind} {v : Value} {d : DataW H} {ps : List MemPlace} (ht : P.underlying t = some (.slice e)) (he : P.underlying e = some (.int k)) (hc : P.cellsOf e = 1)
    (hval : Value.okWide P w r b0 t v) (h : DataW.Trod enc P w base sp held t v d ps) :
    ∃ (a : Option Addr) (b off len cap : Nat) (z : Nat → Int), v = .slice a len cap ∧ len ≤ cap ∧ cap ≤ maxLen ∧ (0 < len → a = some ⟨b, off, none⟩) ∧ ∀ j, j < len → w.cell? ⟨b, off + j, none⟩ = some (.int k (z j)) ∧ (Lit.int k (z j)).wf = true := by
  obtain ⟨a0, len, cap, rfl⟩ := WideShapes.okWide_slice ht hval
  obtain ⟨fuel, hf⟩ := h
  rcases ChangeShapes.open_ints ht he hc hf with ⟨hcs, _⟩ | ⟨a, len', cap', zs, hcs, _, hl, hm, hz, _, hcell, hwz⟩
  · simp [Value.cells] at hcs
    obtain ⟨rfl, rfl, rfl⟩ := hcs
    exact ⟨none, 0, 0, 0, 0, fun _ => 0, rfl, Nat.le_refl _, Nat.zero_le _, fun h => absurd h (Nat.lt_irrefl _), fun j hj => absurd hj (Nat.not_lt_zero _)⟩
  · simp [Value.cells] at hcs
    obtain ⟨rfl, rfl, rfl⟩ := hcs
    have hzl : len ≤ zs.length := by rw [hz]; split <;> omega
    by_cases h0 : 0 < len
    · obtain ⟨b, off, rfl, hc2⟩ := Go.ints_at hcell (by omega)
      refine ⟨_, b, off, len, cap, fun j => zs.getD j 0, rfl, hl, hm, fun _ => rfl, fun j hj => ⟨hc2 j (by omega), ?_⟩⟩
      exact hwz _ (by simp [List.getElem?_eq_getElem (show j < zs.length by omega)])
    · exact ⟨some a, 0, 0, len, cap, fun _ => 0, rfl, hl, hm, fun h => absurd h h0, fun j hj => by omega⟩

theorem ctxTypes : Tryd.prog.cellTypes Tryd.prog.depth 37 = some (List.replicate 17 22) := by kernel_rfl
theorem ctxCells : Tryd.prog.cellsOf 37 = (List.replicate 17 22).length := by kernel_rfl

theorem open_ctx {w : World} {r : Reach} {base : Nat} {v : Value} (h : Value.okWide Tryd.prog w r base 37 v) :
    ∃ f : Nat → Int, v = .agg #[.int .u32 (f 0), .int .u32 (f 1), .int .u32 (f 2), .int .u32 (f 3), .int .u32 (f 4), .int .u32 (f 5), .int .u32 (f 6), .int .u32 (f 7), .int .u32 (f 8), .int .u32 (f 9), .int .u32 (f 10), .int .u32 (f 11), .int .u32 (f 12), .int .u32 (f 13), .int .u32 (f 14), .int .u32 (f 15), .int .u32 (f 16)] ∧ ∀ i, i < 17 → 0 ≤ f i ∧ f i ≤ 4294967295 := by
  obtain ⟨cs, rfl, hs, hc⟩ := okWide_cells Tryd.underlying37 ctxTypes ctxCells h
  simp only [List.length_replicate] at hs
  have hx : ∀ i, ∃ n : Int, i < 17 → cs[i]? = some (.int .u32 n) ∧ 0 ≤ n ∧ n ≤ 4294967295 := by
    intro i
    by_cases hi : i < 17
    · have hg : cs[i]? = some cs[i] := Array.getElem?_eq_getElem (by omega)
      obtain ⟨n, hn, hr⟩ := cell_int (k := .u32) Tryd.underlying22 (hc i cs[i] 22 hg (by rw [List.getElem?_replicate, if_pos hi]))
      exact ⟨n, fun _ => ⟨by rw [hg, hn], by have := hr; simp [IntKind.has, IntKind.min, IntKind.max, IntKind.signed, IntKind.bits] at this; omega⟩⟩
    · exact ⟨0, fun h => absurd h hi⟩
  obtain ⟨f, hf⟩ := Classical.axiomOfChoice hx
  refine ⟨f, ?_, fun i hi => (hf i hi).2⟩
  have e : cs = ((List.range 17).map fun i => Value.int .u32 (f i)).toArray := by
    apply Array.ext_getElem?
    intro i
    by_cases hi : i < 17
    · rw [(hf i hi).1]
      simp [hi]
    · rw [Array.getElem?_eq_none (by omega), Array.getElem?_eq_none (by simp; omega)]
  rw [e]
  rfl

theorem trapTypes : Tryd.prog.cellTypes Tryd.prog.depth 39 = some [3, 3, 4, 3] := by kernel_rfl
theorem trapCells : Tryd.prog.cellsOf 39 = [3, 3, 4, 3].length := by kernel_rfl
theorem open_trap {w : World} {r : Reach} {base : Nat} {v : Value} (h : Value.okWide Tryd.prog w r base 39 v) :
    ∃ (a b d : Int) (c : Bool), v = .agg #[.int .i64 a, .int .i64 b, .bool c, .int .i64 d] := by
  obtain ⟨cs, rfl, hs, hc⟩ := okWide_cells Tryd.underlying39 trapTypes trapCells h
  have hg : ∀ i, (hi : i < 4) → cs[i]? = some (cs[i]'(by simp at hs; omega)) := fun i hi => Array.getElem?_eq_getElem (by simp at hs; omega)
  obtain ⟨a, ha, _⟩ := cell_int (k := .i64) Tryd.underlying3 (hc 0 _ 3 (hg 0 (by omega)) rfl)
  obtain ⟨b, hb, _⟩ := cell_int (k := .i64) Tryd.underlying3 (hc 1 _ 3 (hg 1 (by omega)) rfl)
  obtain ⟨c, hcc⟩ := cell_bool Tryd.underlying4 (hc 2 _ 4 (hg 2 (by omega)) rfl)
  obtain ⟨d, hd, _⟩ := cell_int (k := .i64) Tryd.underlying3 (hc 3 _ 3 (hg 3 (by omega)) rfl)
  refine ⟨a, b, d, c, congrArg Value.agg ?_⟩
  apply Array.ext
  · simpa using hs
  · intro i h1 h2
    have hi : i < 4 := by simpa using h2
    match i, hi with
    | 0, _ => exact ha
    | 1, _ => exact hb
    | 2, _ => exact hcc
    | 3, _ => exact hd
end Go.Proofs.YtdijbkfcfjhajaaDoor
