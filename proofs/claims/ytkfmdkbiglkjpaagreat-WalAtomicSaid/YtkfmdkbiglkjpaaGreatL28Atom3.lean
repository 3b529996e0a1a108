/- The plain law of WalAtomic: what the walk asks of it. -/
import Derived.Test.YtkfmdkbiglkjpaaGreatL28Holds
namespace Go.Proofs.YtkfmdkbiglkjpaaGreat
open Go Go.RowKit Go.Lib
set_option maxRecDepth 100000

theorem QReads.take {w : World} {ad : Option Addr} {cap : Nat} {l : List PutV} (h : QReads w ad cap l) (n : Nat) : QReads w ad cap (l.take n) :=
  ⟨by have := h.len; rw [List.length_take]; omega, h.max, fun p hp => h.d64 p (List.mem_of_mem_take hp), fun i p hi => by
    rw [List.getElem?_take] at hi
    split at hi
    · exact h.at' i p hi
    · cases hi⟩
theorem QReads.nil (w : World) : QReads w none 0 [] := ⟨Nat.le_refl _, Nat.zero_le _, fun p hp => (by cases hp), fun i p hp => by simp at hp⟩
/-- the first Commit -/
theorem first_plain {l : List PutV} {s : DS} (hl : l.length ≤ 16) (hL : s.L.length = 24) (hW : s.W = []) (hz : s.L.getD 1 zeroD = zeroD) (h : 100 ≤ s.left) : (s.commit l).2.W = [] ∧ (s.commit l).2.L.getD 1 zeroD = zeroD := by
  obtain ⟨h1, h2, -⟩ := atom_commit (N := 24) hl (by decide) hL hW hz
  by_cases h0 : (s.commit l).1 = 0
  · exact ⟨(h2 h0).wt, (h2 h0).fin.hd⟩
  · rw [h1 h0 (commit_live hl h)]
    exact ⟨hW, hz⟩
theorem holds_fin {v : Nat → Dat} {L L' : List Dat} {l : List PutV} (h : Fin v L) (hv : ∀ b, v b = newB l (L'.getD b zeroD) b) : holdsB L L' l = true :=
  List.all_eq_true.2 fun b _ => by
    rw [Bool.or_eq_true, decide_eq_true_eq, decide_eq_true_eq]
    by_cases h18 : b < 18
    · exact .inl h18
    · exact .inr (by rw [h.hm b (by omega), hv b])
theorem holds_same (L : List Dat) : holdsB L L [] = true :=
  List.all_eq_true.2 fun b _ => by
    rw [Bool.or_eq_true, decide_eq_true_eq, decide_eq_true_eq]
    exact .inr rfl
/-- the Commit under the fuse, and the crash behind it -/
theorem second_plain {l : List PutV} {s : DS} (hl : l.length ≤ 16) (hL : s.L.length = 24) (hW : s.W = []) (hz : s.L.getD 1 zeroD = zeroD) (ks : List Bool) :
    ((s.commit l).1 ≠ 0 → (s.commit l).1 ≠ 20 → (s.commit l).2 = s) ∧ ((s.commit l).1 = 0 ∨ (s.commit l).1 = 20 → rightB 24 l = true ∧ Aft ((s.commit l).1 = 0) (fun b => s.L.getD b zeroD) l (crashL (s.commit l).2.L (s.commit l).2.W ks)) := by
  obtain ⟨h1, h2, h3⟩ := atom_commit (N := 24) hl (by decide) hL hW hz
  refine ⟨h1, fun h => ?_⟩
  obtain ⟨hr, hm⟩ := h3 h
  refine ⟨hr, ?_⟩
  by_cases h0 : (s.commit l).1 = 0
  · left
    rw [(h2 h0).wt, crash_nil]
    exact (h2 h0).fin
  · rcases mid_crash hr hl hm ks with h4 | ⟨-, h4⟩
    · exact .inl h4
    · exact .inr ⟨h0, h4⟩
end Go.Proofs.YtkfmdkbiglkjpaaGreat
