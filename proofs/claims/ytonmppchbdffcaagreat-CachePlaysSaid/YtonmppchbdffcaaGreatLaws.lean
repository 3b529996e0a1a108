/- Laws of memory for the walks: an array literal laid in a new block, a slice literal, a whole block read. -/
import Derived.WalkKit
import Derived.WalkSpells
import Derived.WalkLawsBesides
import Derived.Great.BuildSlice
import Derived.StillTailTactics
namespace Go.Proofs.YtonmppchbdffcaaGreat
open Go Go.RowKit

theorem alloc_at (w : World) (o : Obj) : (w.alloc o).heap[w.heap.size]? = some o := by show (w.heap.push o)[w.heap.size]? = some o; simp

theorem alloc_setRow (w : World) (old cs : Array Value) (t : TypeId) (fr : Nat × Nat) : (w.alloc (.cells old t fr)).setRow w.heap.size cs = w.alloc (.cells cs t fr) := by
  refine congrArg (fun h => ({ w with heap := h } : World)) (?_ : (w.heap.push (.cells old t fr)).modify w.heap.size _ = w.heap.push (.cells cs t fr))
  apply Array.ext
  · simp
  · intro k h1 h2
    simp only [Array.getElem_modify]
    split
    · rename_i h; subst h; simp
    · rename_i h
      simp at h1
      rw [Array.getElem_push_lt (by omega), Array.getElem_push_lt (by omega)]

/-- a whole array goes into a block just made -/
theorem wpList_store_new {P : Program} {ops : Array Oper} {rest : List Oper} {o : Oper} {a : Act} {w : World} {Q : Exit → Act → World → Prop} (hgd : o.guard = none) (ty : TypeId) (x y : Operand) (ho : o.op = .store ty x y)
    (hd : o.dst = none) (t : TypeId) (old cells : Array Value) (hx : a.eval x = .pointer (some ⟨w.heap.size, 0, none⟩)) (hy : a.eval y = .agg cells)
    (hi : (P.info? ty).map (·.size) = some cells.size) (hold : old.size = cells.size) (h1 : cells.all (·.oneCell') = true)
    (h : wpList P ops Q rest a (w.alloc (.cells cells t))) : wpList P ops Q (o :: rest) a (w.alloc (.cells old t)) :=
  wpList_store_rowTo hgd ty x y ho hd w.heap.size cells hx hy t old (alloc_at w _) hi hold h1 (by rw [alloc_setRow]; exact h)

/-- a slice literal, its cells told by the caller -/
theorem wpList_buildSliceAs {P : Program} {ops : Array Oper} {rest : List Oper} {o : Oper} {a : Act} {w : World} {Q : Exit → Act → World → Prop} (hg : o.guard = none) (t e : TypeId) (len : Nat) (parts : Array (Nat × Operand)) (ho : o.op = .buildSlice t len parts)
    (cells : Array Value) (hu : P.underlying t = some (.slice e)) (hpos : 0 < len) (hsmall : len ≤ 2 ^ 24)
    (hf : (P.info? e).bind (fun ie => if ie.size = 1 then ie.zero.bind fun z => Instr.fill (fun i => some (i * ie.size, ie.size)) ((Array.range (len * ie.size)).map (z.cells[· % z.cells.size]!)) (parts.map fun (i, x) => (i, a.eval x)).toList else none) = some cells)
    (h : wpList P ops Q rest (a.put o.dst (.slice (some ⟨w.heap.size, 0, none⟩) len len)) (w.alloc (.cells cells e))) : wpList P ops Q (o :: rest) a w := by
  cases hie : P.info? e with
  | none => simp [hie] at hf
  | some ie =>
    simp only [hie, Option.bind_some] at hf
    split at hf
    · rename_i hs
      cases hz : ie.zero with
      | none => simp [hz] at hf
      | some z =>
        simp only [hz, Option.bind_some] at hf
        exact wpList_buildSlice hg t e len parts ho cells ie z hu hie hz (by rw [hs]; omega) (by rw [hs]; omega) hf h
    · cases hf
/-- what the caller's two newest blocks hold, behind a call that leaves what was there -/
theorem cells_two {w w1 : World} {A B : Array Value} {t u : TypeId} (h : Below ((w.alloc (.cells A t)).alloc (.cells B u)).heap.size ((w.alloc (.cells A t)).alloc (.cells B u)) w1) :
    (∀ i, w1.cell? ⟨w.heap.size, i, none⟩ = A[i]?) ∧ (∀ i, w1.cell? ⟨w.heap.size + 1, i, none⟩ = B[i]?) ∧ w.heap.size + 1 < w1.heap.size ∧ Below w.heap.size w w1 := by
  have hz := h.size
  simp at hz
  refine ⟨fun i => ?_, fun i => ?_, by omega, ?_⟩
  · rw [h.cell (by simp <;> omega)]; go_simp
  · rw [h.cell (by simp)]; go_simp
  · exact ((((Below.refl _ _).alloc (Nat.le_refl _) _).alloc (by simp) _).trans (h.mono (by simp <;> omega)))

theorem cells_one {w w1 : World} {A : Array Value} {t : TypeId} (h : Below (w.alloc (.cells A t)).heap.size (w.alloc (.cells A t)) w1) :
    (∀ i, w1.cell? ⟨w.heap.size, i, none⟩ = A[i]?) ∧ w.heap.size < w1.heap.size ∧ Below w.heap.size w w1 := by
  have hz := h.size
  simp at hz
  refine ⟨fun i => ?_, by omega, ?_⟩
  · rw [h.cell (by simp)]; go_simp
  · exact (((Below.refl _ _).alloc (Nat.le_refl _) _).trans (h.mono (by simp)))
/-- a region that draws its order, reads alone up to its n-th operation, and goes on in one order -/
theorem region_still_tail {P : Program} {id : Nat} {Q : Exit → Act → World → Prop} {a : Act} {w : World} {l : List Oper} (n : Nat) (hm : P.follows .mixedOrders = true) (hB : Region.lexTailB .any l.toArray n = true)
    (h : wpStill P l.toArray w.drew (fun a' => wpList P l.toArray Q (l.drop n) a' w.drew) (l.take n) a) : (Code.region id l.toArray true).wp P Q a w := wp_region_still_tail n hm hB h
theorem wpList_store_newN {P : Program} {ops : Array Oper} {rest : List Oper} {o : Oper} {a : Act} {w : World} {Q : Exit → Act → World → Prop} (hgd : o.guard = none) (ty : TypeId) (x y : Operand) (ho : o.op = .store ty x y)
    (hd : o.dst = none) (t : TypeId) (old cells : Array Value) (N : Nat) (hN : w.heap.size = N) (hx : a.eval x = .pointer (some ⟨N, 0, none⟩)) (hy : a.eval y = .agg cells)
    (hi : (P.info? ty).map (·.size) = some cells.size) (hold : old.size = cells.size) (h1 : cells.all (·.oneCell') = true)
    (h : wpList P ops Q rest a (w.alloc (.cells cells t))) : wpList P ops Q (o :: rest) a (w.alloc (.cells old t)) := by
  subst hN
  exact wpList_store_new hgd ty x y ho hd t old cells hx hy hi hold h1 h
theorem heap_past (w : World) (A B : Obj) : ((w.alloc A).alloc B).heap[w.heap.size]? = some A := by
  rw [Go.heap_alloc_old (w.alloc A) B (r := w.heap.size) (by simp)]; exact Go.heap_alloc_new w A
end Go.Proofs.YtonmppchbdffcaaGreat
