/- A disk in memory: blocks that last, writes that wait. -/
import Derived.Test.YtonmppchbdffcaaGreatLaws
import Derived.Test.YtonmppchbdffcaaGreatOwn
import Derived.Test.YtonmppchbdffcaaGreatProg
import Derived.WalkKit
import Derived.WalkSpells
import Derived.WalkLawsBesides
import Derived.OwnWalk
import Derived.Deep.LoopGhost
import Derived.Deep.MidRow
import Derived.Deep.WholeRow
import Derived.Deep.AppendLies
import Derived.Deep.RegionLaw
import Derived.Deep.RegionHeld3
import Derived.StillTailTactics
import Derived.Laws.Pointers
import Derived.Laws.LoneSync
import Derived.Below
import Derived.OneCell
import Derived.Outline
import Derived.Lib.Hide
namespace Go.Proofs.YtonmppchbdffcaaGreat
open Go Go.RowKit Go.Lib
set_option maxRecDepth 100000

abbrev Dat := List UInt8
def dC (d : Dat) : List Value := d.map fun b => .int .u8 (b.toNat : Int)
theorem dC_len (d : Dat) : (dC d).length = d.length := by simp [dC]
theorem dC_one (d : Dat) : ∀ v ∈ dC d, v.oneCell' = true := fun v hv => by
  obtain ⟨b, _, rfl⟩ := List.mem_map.1 hv
  rfl
def zeroD : Dat := List.replicate 64 0
def wC (x : Nat × Dat) : List Value := .int .i64 (x.1 : Int) :: dC x.2
theorem wC_len (x : Nat × Dat) : (wC x).length = x.2.length + 1 := by simp [wC, dC_len]
theorem wC_one (x : Nat × Dat) : ∀ v ∈ wC x, v.oneCell' = true := fun v hv => by
  rcases List.mem_cons.1 hv with rfl | h
  · rfl
  · exact dC_one _ v h
def lasC (L : List Dat) : List Value := (L.map dC).flatten
def waiC (W : List (Nat × Dat)) : List Value := (W.map wC).flatten
/-- rows of one length, one behind the other: the cells of the i-th -/
theorem flat_at {α : Type} (f : α → List Value) (m : Nat) : ∀ (l : List α) (i : Nat) (x : α) (j : Nat) (v : Value), (∀ y ∈ l, (f y).length = m) → l[i]? = some x → (f x)[j]? = some v → ((l.map f).flatten)[i * m + j]? = some v
  | [], i, x, j, v, _, h, _ => by simp at h
  | y :: l, 0, x, j, v, hm, h, hv => by
    simp only [List.getElem?_cons_zero, Option.some.injEq] at h
    subst h
    simp only [List.map_cons, List.flatten_cons, Nat.zero_mul, Nat.zero_add]
    rw [List.getElem?_append_left (List.getElem?_eq_some_iff.1 hv).1]; exact hv
  | y :: l, i + 1, x, j, v, hm, h, hv => by
    have hy := hm y (by simp)
    have ih := flat_at f m l i x j v (fun z hz => hm z (by simp [hz])) (by simpa using h) hv
    simp only [List.map_cons, List.flatten_cons]
    rw [List.getElem?_append_right (by rw [hy, Nat.succ_mul]; omega), hy, show (i + 1) * m + j - m = i * m + j by rw [Nat.succ_mul]; omega]
    exact ih
theorem flat_len {α : Type} (f : α → List Value) (m : Nat) : ∀ (l : List α), (∀ y ∈ l, (f y).length = m) → ((l.map f).flatten).length = l.length * m
  | [], _ => by simp
  | y :: l, hm => by
    have ih := flat_len f m l fun z hz => hm z (by simp [hz])
    simp only [List.map_cons, List.flatten_cons, List.length_append, List.length_cons]
    rw [ih, hm y (by simp), Nat.succ_mul]; omega
theorem flat_set {α : Type} (f : α → List Value) (m : Nat) : ∀ (l : List α) (i : Nat) (x : α), (∀ y ∈ l, (f y).length = m) → (f x).length = m → i < l.length →
    ((l.set i x).map f).flatten = ((l.map f).flatten).take (i * m) ++ f x ++ ((l.map f).flatten).drop (i * m + m)
  | [], i, x, _, _, h => by simp at h
  | y :: l, 0, x, hm, hx, _ => by
    have hy := hm y (by simp)
    simp only [List.set_cons_zero, List.map_cons, List.flatten_cons, Nat.zero_mul, Nat.zero_add, List.take_zero, List.nil_append]
    rw [List.drop_append_of_le_length (by omega), List.drop_of_length_le (by omega)]; simp
  | y :: l, i + 1, x, hm, hx, h => by
    have hy := hm y (by simp)
    have ih := flat_set f m l i x (fun z hz => hm z (by simp [hz])) hx (by simpa using h)
    simp only [List.set_cons_succ, List.map_cons, List.flatten_cons]
    rw [ih, Nat.succ_mul, List.take_append, List.drop_append, hy]
    rw [List.take_of_length_le (l := f y) (by omega), List.drop_of_length_le (l := f y) (by omega)]
    rw [show i * m + m - m = i * m by omega, show i * m + m + m - m = i * m + m by omega]
    simp

/-- what was not of F stands -/
structure Keeps (F : Nat → Prop) (w w' : World) : Prop where
  os : w'.os = w.os
  tape : w'.tape = w.tape
  output : w'.output = w.output
  size : w.heap.size ≤ w'.heap.size
  block : ∀ k, k < w.heap.size → ¬ F k → w'.heap[k]? = w.heap[k]?
theorem Keeps.refl (F : Nat → Prop) (w : World) : Keeps F w w := ⟨rfl, rfl, rfl, Nat.le_refl _, fun _ _ _ => rfl⟩
theorem Keeps.trans {F : Nat → Prop} {w w' w'' : World} (h : Keeps F w w') (h' : Keeps F w' w'') : Keeps F w w'' :=
  ⟨h'.os.trans h.os, h'.tape.trans h.tape, h'.output.trans h.output, Nat.le_trans h.size h'.size, fun k hk hf => (h'.block k (Nat.lt_of_lt_of_le hk h.size) hf).trans (h.block k hk hf)⟩
theorem Keeps.weak {F F' : Nat → Prop} {w w' : World} (h : Keeps F w w') (hF : ∀ k, k < w.heap.size → F k → F' k) : Keeps F' w w' := ⟨h.os, h.tape, h.output, h.size, fun k hk hf => h.block k hk fun h1 => hf (hF k hk h1)⟩
theorem Keeps.of_below {F : Nat → Prop} {w w' : World} (h : Below w.heap.size w w') : Keeps F w w' := ⟨h.os, h.tape, h.output, h.size, fun k hk _ => h.block k hk⟩
theorem Keeps.below {F : Nat → Prop} {n : Nat} {w w' : World} (h : Keeps F w w') (hF : ∀ k, F k → n ≤ k) (hn : n ≤ w.heap.size) : Below n w w' :=
  ⟨h.os, h.tape, h.output, h.size, fun k hk => h.block k (by omega) fun hf => by have := hF k hf; omega⟩
/-- a row's block bears its element's type -/
theorem row_tag {w : World} {B : Nat} {e : TypeId} {size : Nat} {v : Value} {n : Nat} {xs : List Value} (h : w.ownsRow B e size v n xs) : ∀ k, v.ownBlock = some k → ∃ cur, w.heap[k]? = some (.cells cur e (0, 0)) := by
  intro k hk
  rcases h.2 with ⟨h0, _⟩ | ⟨g, cap, cur, h1, h2, h3, h4⟩
  · rw [h0] at hk; simp [Value.ownBlock] at hk
  · rw [h1] at hk
    simp only [Value.ownBlock, Option.some.injEq] at hk
    subst hk
    exact ⟨cur, h3⟩
theorem tag_ne {w : World} {k k' : Nat} {cs cs' : Array Value} {t t' : TypeId} {fr fr' : Nat × Nat} (h : w.heap[k]? = some (.cells cs t fr)) (h' : w.heap[k']? = some (.cells cs' t' fr')) (ht : t ≠ t') : k ≠ k' := fun e => by
  subst e
  rw [h] at h'
  simp at h'
  exact ht h'.2.1
end Go.Proofs.YtonmppchbdffcaaGreat
