/- Maps from block numbers to blocks of 64 bytes. -/
import Derived.Test.YtonmppchbdffcaaGreatDisk0
import Derived.Maps.Own
import Derived.Maps.OwnSet
import Derived.Maps.Ext
import Derived.Maps.RangeWalk
import Derived.Laws.IdiomRangeMap
import Derived.Lib.SlMapMerge
namespace Go.Proofs.YtonmppchbdffcaaGreat
open Go Go.RowKit Go.Lib Go.ChangeMaps Go.MapKept
open Go.WideElems (Fit rd rg pl rd_val elemAt)
set_option maxRecDepth 100000

theorem dC_inj {d e : Dat} (h : (dC d).toArray = (dC e).toArray) : d = e := by
  have h1 : dC d = dC e := by simpa using congrArg Array.toList h
  refine List.ext_getElem? fun i => ?_
  have h2 := congrArg (·[i]?) h1
  simp only [dC, List.getElem?_map] at h2
  cases hd : d[i]? with
  | none => rw [hd] at h2; cases he : e[i]? with
    | none => rfl
    | some y => rw [he] at h2; simp at h2
  | some x => rw [hd] at h2; cases he : e[i]? with
    | none => rw [he] at h2; simp at h2
    | some y =>
      rw [he] at h2
      simp at h2
      rw [UInt8.toNat_inj.1 (by exact_mod_cast h2 : x.toNat = y.toNat)]
open Classical in
/-- how a block reads as an element of a map: as its bytes -/
noncomputable def datR (v : Value) : Option (DataW Unit × List MemPlace) :=
  if h : ∃ d : Dat, d.length = 64 ∧ v = .agg (dC d).toArray then some (.lit (.string h.choose), []) else none
theorem datR_mk {d : Dat} (h : d.length = 64) : datR (.agg (dC d).toArray) = some (.lit (.string d), []) := by
  have hx : ∃ e : Dat, e.length = 64 ∧ (Value.agg (dC d).toArray) = .agg (dC e).toArray := ⟨d, h, rfl⟩
  unfold datR
  rw [dif_pos hx]
  have := hx.choose_spec.2
  rw [dC_inj (Value.agg.inj this).symm]
theorem datR_inv {v : Value} {x : DataW Unit} {ps : List MemPlace} (h : datR v = some (x, ps)) : ∃ d : Dat, d.length = 64 ∧ v = .agg (dC d).toArray ∧ x = .lit (.string d) ∧ ps = [] := by
  unfold datR at h
  split at h
  · rename_i hx
    simp only [Option.some.injEq, Prod.mk.injEq] at h
    exact ⟨hx.choose, hx.choose_spec.1, hx.choose_spec.2, h.1.symm, h.2.symm⟩
  · cases h
/-- block b is a map of at most n entries, from ints to blocks, that reads as D -/
abbrev MapAt (w : World) (b n : Nat) (D : DataW Unit) : Prop := w.ownsMap Tryz.prog 3 datR b n D
theorem intK : Maps.Keyed Tryz.prog 3 := Maps.int_keyed Tryz.underlying3
theorem keyI (b : Int) (h0 : -9223372036854775808 ≤ b) (h1 : b ≤ 9223372036854775807) : keyOf Tryz.prog 3 (.int .i64 b) = some (.int .i64 b) :=
  Maps.keyOf_int_mk Tryz.underlying3 (by simp [Lit.wf, IntKind.min, IntKind.max, IntKind.signed, IntKind.bits]; omega)
theorem map_under : Tryz.prog.underlying 63 = some (.map 3 34) := Tryz.underlying63
theorem zero_data (w : World) : (zeroValue 34).run Tryz.prog w = .ok (.agg (dC zeroD).toArray) w := by
  have hz : z64 = (dC zeroD).toArray := by simp [z64, dC, zeroD]
  rw [← hz]
  exact data_zero w
/-- 'd, ok := m[b]' -/
theorem map_look {w : World} {b n : Nat} {D : DataW Unit} (h : MapAt w b n D) (x : Int) (h0 : -9223372036854775808 ≤ x) (h1 : x ≤ 9223372036854775807) :
    ∃ d : Dat, d.length = 64 ∧ (Instr.lookup 63 (.map (some b)) (.int .i64 x) true).run Tryz.prog w = .ok (.tuple #[.agg (dC d).toArray, .bool (Maps.has D (.int .i64 x))]) w ∧ D.atKey (.int .i64 x) (.lit (.string zeroD)) = .lit (.string d) := by
  obtain ⟨v, ps, hrun, hv⟩ := h.look_ok intK map_under (zero_data w) (datR_mk (d := zeroD) rfl) (keyI x h0 h1)
  obtain ⟨d, hd, rfl, hx, -⟩ := datR_inv hv
  exact ⟨d, hd, hrun, hx⟩
/-- 'm[b] = d' -/
theorem map_store {w : World} {b n : Nat} {D : DataW Unit} (h : MapAt w b n D) (hn : n ≤ 100000) (x : Int) (h0 : -9223372036854775808 ≤ x) (h1 : x ≤ 9223372036854775807) {d : Dat} (hd : d.length = 64) :
    ∃ w', (Instr.mapUpdate 63 (.map (some b)) (.int .i64 x) (.agg (dC d).toArray)).run Tryz.prog w = .ok () w' ∧ MapAt w' b (n + 1) (D.put (.int .i64 x) (.lit (.string d))) ∧ w.grownBy w' (some b) :=
  h.update intK map_under (by have : (100000 : Nat) < maxLen := by decide
                              omega) (keyI x h0 h1) (datR_mk hd)
/-- 'clear(m)' -/
theorem map_clear {w : World} {b n : Nat} {D : DataW Unit} (h : MapAt w b n D) :
    ∃ w', (∀ ty, (Builtin.clear_ #[63] ty #[.map (some b)]).run Tryz.prog w = .ok (.tuple #[]) w') ∧ MapAt w' b 0 (.map []) ∧ w.grownBy w' (some b) := by
  obtain ⟨es, clock, hb, F, hs, -⟩ := h
  refine ⟨setBlock w b (.map #[] clock), fun ty => ?_, ⟨#[], clock, heap_setBlock_same hb _, ⟨by simp, stamped_empty clock, by simp⟩, Nat.le_refl _, rfl⟩, ⟨rfl, rfl, rfl, by simp [setBlock], fun i _ hi => heap_setBlock_other hb _ (fun e => hi (by rw [e]))⟩⟩
  simp [Builtin.clear_, run_underlying map_under, Go.MapKept.run_getObj_map hb, Go.MapKept.run_setObj_map _ hb, Result.andThen, setBlock]
end Go.Proofs.YtonmppchbdffcaaGreat
