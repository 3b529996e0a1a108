/- Laws of memory for the walks: an array literal laid in a new block, a slice literal, a whole block read. -/
import Derived.WalkKit
import Derived.WalkSpells
import Derived.WalkLawsBesides
import Derived.Great.BuildSlice
namespace Go.Proofs.YtdijbkfcfjhajaaDoor
open Go Go.RowKit

theorem alloc_at (w : World) (o : Obj) : (w.alloc o).heap[w.heap.size]? = some o := by show (w.heap.push o)[w.heap.size]? = some o; simp

theorem alloc_setRow (w : World) (old cs : Array Value) (t : TypeId) (fr : Nat × Nat) : (w.alloc (.cells old t fr)).setRow w.heap.size cs = w.alloc (.cells cs t fr) := by
  refine congrArg (fun h => ({ w with heap := h } : World)) (?_ : (w.heap.push (.cells old t fr)).modify w.heap.size _ = w.heap.push (.cells cs t fr))
  apply Array.ext
  · simp
  · intro k h1 h2
    simp only [Array.getElem_modify]
    split
    · rename_i h; subst h; simp
    · rename_i h
      simp at h1
      rw [Array.getElem_push_lt (by omega), Array.getElem_push_lt (by omega)]

/-- a whole array goes into a block just made -/
theorem wpList_store_new {P : Program} {ops : Array Oper} {rest : List Oper} {o : Oper} {a : Act} {w : World} {Q : Exit → Act → World → Prop} (hgd : o.guard = none) (ty : TypeId) (x y : Operand) (ho : o.op = .store ty x y)
    (hd : o.dst = none) (t : TypeId) (old cells : Array Value) (hx : a.eval x = .pointer (some ⟨w.heap.size, 0, none⟩)) (hy : a.eval y = .agg cells)
    (hi : (P.info? ty).map (·.size) = some cells.size) (hold : old.size = cells.size) (h1 : cells.all (·.oneCell') = true)
    (h : wpList P ops Q rest a (w.alloc (.cells cells t))) : wpList P ops Q (o :: rest) a (w.alloc (.cells old t)) :=
  wpList_store_rowTo hgd ty x y ho hd w.heap.size cells hx hy t old (alloc_at w _) hi hold h1 (by rw [alloc_setRow]; exact h)

/-- a slice literal, its cells told by the caller -/
theorem wpList_buildSliceAs {P : Program} {ops : Array Oper} {rest : List Oper} {o : Oper} {a : Act} {w : World} {Q : Exit → Act → World → Prop} (hg : o.guard = none) (t e : TypeId) (len : Nat) (parts : Array (Nat × Operand)) (ho : o.op = .buildSlice t len parts)
    (cells : Array Value) (hu : P.underlying t = some (.slice e)) (hpos : 0 < len) (hsmall : len ≤ 2 ^ 24)
    (hf : (P.info? e).bind (fun ie => if ie.size = 1 then ie.zero.bind fun z => Instr.fill (fun i => some (i * ie.size, ie.size)) ((Array.range (len * ie.size)).map (z.cells[· % z.cells.size]!)) (parts.map fun (i, x) => (i, a.eval x)).toList else none) = some cells)
    (h : wpList P ops Q rest (a.put o.dst (.slice (some ⟨w.heap.size, 0, none⟩) len len)) (w.alloc (.cells cells e))) : wpList P ops Q (o :: rest) a w := by
  cases hie : P.info? e with
  | none => simp [hie] at hf
  | some ie =>
    simp only [hie, Option.bind_some] at hf
    split at hf
    · rename_i hs
      cases hz : ie.zero with
      | none => simp [hz] at hf
      | some z =>
        simp only [hz, Option.bind_some] at hf
        exact wpList_buildSlice hg t e len parts ho cells ie z hu hie hz (by rw [hs]; omega) (by rw [hs]; omega) hf h
    · cases hf
end Go.Proofs.YtdijbkfcfjhajaaDoor
