/- A path's names: the plain law. -/
import Derived.Test.YtapjfcljbdlnkaaDoorRefName
import Derived.Test.YtapjfcljbdlnkaaDoorOwn
import Derived.Test.YtapjfcljbdlnkaaDoorSplitSeq
namespace Go.Proofs.YtapjfcljbdlnkaaDoor
open Go Go.RowKit Go.Lib
set_option maxRecDepth 100000

/-- the names, out of the parts still to come -/
def pathGo : List (List UInt8) → List (List UInt8) → List (List UInt8) × Int
  | out, [] => (out, 0)
  | out, p :: ps =>
    if p = [] ∨ p = [46] then pathGo out ps
    else if p = [46, 46] then pathGo out.dropLast ps
    else if nameOK p = false then ([], 18)
    else if out.length = 8 then ([], 22)
    else pathGo (out ++ [p]) ps
/-- a path's names, an error -/
def pathP : List UInt8 → List (List UInt8) × Int
  | 47 :: t => pathGo [] (cutAt 47 t)
  | _ => ([], 1)

theorem pathGo_skip (out : List (List UInt8)) (p : List UInt8) (ps : List (List UInt8)) (h : p = [] ∨ p = [46]) : pathGo out (p :: ps) = pathGo out ps := by
  simp only [pathGo, if_pos h]
theorem pathGo_up (out : List (List UInt8)) (ps : List (List UInt8)) : pathGo out ([46, 46] :: ps) = pathGo out.dropLast ps := by
  simp [pathGo]
theorem pathGo_bad (out : List (List UInt8)) (p : List UInt8) (ps : List (List UInt8)) (h : ¬ (p = [] ∨ p = [46])) (h2 : p ≠ [46, 46]) (h3 : nameOK p = false) : pathGo out (p :: ps) = ([], 18) := by
  simp only [pathGo, if_neg h, if_neg h2, if_pos h3]
theorem pathGo_full (out : List (List UInt8)) (p : List UInt8) (ps : List (List UInt8)) (h : ¬ (p = [] ∨ p = [46])) (h2 : p ≠ [46, 46]) (h3 : nameOK p = true) (h4 : out.length = 8) : pathGo out (p :: ps) = ([], 22) := by
  simp only [pathGo, if_neg h, if_neg h2, if_neg (show ¬ nameOK p = false by simp [h3]), if_pos h4]
theorem pathGo_name (out : List (List UInt8)) (p : List UInt8) (ps : List (List UInt8)) (h : ¬ (p = [] ∨ p = [46])) (h2 : p ≠ [46, 46]) (h3 : nameOK p = true) (h4 : out.length ≠ 8) : pathGo out (p :: ps) = pathGo (out ++ [p]) ps := by
  simp only [pathGo, if_neg h, if_neg h2, if_neg (show ¬ nameOK p = false by simp [h3]), if_neg h4]
theorem cutAt_len (c : UInt8) : ∀ (s : List UInt8) (p : List UInt8), p ∈ cutAt c s → p.length ≤ s.length
  | [], p, h => by simp [cutAt] at h; subst h; simp
  | b :: l, p, h => by
    have ih := cutAt_len c l
    simp only [cutAt] at h
    split at h
    · rcases List.mem_cons.1 h with rfl | h
      · simp
      · have := ih p h; simp; omega
    · cases hc : cutAt c l with
      | nil => exact absurd hc (cutAt_ne c l)
      | cons q qs =>
        rw [hc] at h ih
        rcases List.mem_cons.1 h with rfl | h
        · have := ih q (by simp); simp; omega
        · have := ih p (by simp [h]); simp; omega

def strs (l : List (List UInt8)) : List Value := l.map fun x => Value.string (bs x)
theorem strs_len (l : List (List UInt8)) : (strs l).length = l.length := by simp [strs]
theorem strs_snoc (l : List (List UInt8)) (x : List UInt8) : strs (l ++ [x]) = strs l ++ [.string (bs x)] := by simp [strs]

/-- names and an error are handed back -/
def PathPost (w : World) (r : List (List UInt8) × Int) (e : Ending) (w' : World) : Prop :=
  ∃ v, e = .returned (.tuple #[v, .int .i64 r.2]) ∧ w'.ownsRow w.heap.size 9 1 v r.1.length (strs r.1) ∧ Below w.heap.size w w'

theorem str_info : (Tryd.prog.info? 9).map (fun i => (i.zero, i.size, i.bytes)) = some (some (.string ⟨#[]⟩), 1, 16) := by kernel_rfl
theorem dropLast_take {α : Type} (l : List α) : l.dropLast = l.take (l.length - 1) := List.dropLast_eq_take
end Go.Proofs.YtapjfcljbdlnkaaDoor
