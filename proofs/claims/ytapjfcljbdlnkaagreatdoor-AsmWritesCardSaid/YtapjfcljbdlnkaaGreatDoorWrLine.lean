/- The lines that Write writes. -/
import Derived.Test.YtapjfcljbdlnkaaGreatDoorWrL
namespace Go.Proofs.YtapjfcljbdlnkaaGreatDoor
open Go Go.RowKit Go.Lib
set_option maxRecDepth 100000

def lineL (x : Nat) : List UInt8 := spaced (toks x) ++ [10]
def pA (x : Nat) : List UInt8 := if hasA (opX x) then [32, 114] ++ Lib.decDigits (aX x) else []
def pB (x : Nat) : List UInt8 := if hasB (opX x) then [32, 114] ++ Lib.decDigits (bX x) else []
def pI (x : Nat) : List UInt8 := if hasI (opX x) then [32] ++ Lib.itoa (immX x) else []
theorem joined_app (c : UInt8) : ∀ a b : List (List UInt8), joined c (a ++ b) = joined c a ++ joined c b
  | [], _ => rfl
  | x :: a, b => by
    simp only [List.cons_append, joined]
    rw [joined_app c a b]; simp
theorem writeL_snoc (l : List Nat) (i x : Nat) (h : l[i]? = some x) : writeL (l.take (i + 1)) = writeL (l.take i) ++ lineL x := by
  unfold writeL
  rw [List.take_add_one, h, List.map_append, joined_app]
  simp [joined, lineL]
theorem lineL_no (x : Nat) (h : decOk x = false) : lineL x = ([119, 111, 114, 100, 32] ++ Lib.decDigits x) ++ [10] := by
  unfold lineL toks
  rw [if_neg (by rw [h]; simp)]
  rfl
theorem lineL_ok (x : Nat) (h : decOk x = true) : lineL x = (((opAt (opX x) ++ pA x) ++ pB x) ++ pI x) ++ [10] := by
  unfold lineL toks pA pB pI
  rw [if_pos h]
  cases hasA (opX x) <;> cases hasB (opX x) <;> cases hasI (opX x) <;> simp [spaced]
theorem itoa_nat (n : Nat) : Lib.itoa (n : Int) = Lib.decDigits n := by
  unfold Lib.itoa; rw [if_neg (by omega)]; simp
theorem itoa_len (n : Int) (h : -32768 ≤ n ∧ n ≤ 32767) : (Lib.itoa n).length ≤ 6 := by
  unfold Lib.itoa
  split
  · have := decD_len 4 n.natAbs (by omega)
    simp; omega
  · have := decD_len 4 n.toNat (by omega)
    omega
theorem imm_in (x : Nat) : -32768 ≤ immX x ∧ immX x ≤ 32767 := by
  unfold immX
  split <;> omega
theorem pA_len (x : Nat) : (pA x).length ≤ 4 := by
  unfold pA
  split
  · have := decD_len 1 (aX x) (by unfold aX; omega)
    simp; omega
  · simp
theorem pB_len (x : Nat) : (pB x).length ≤ 4 := by
  unfold pB
  split
  · have := decD_len 1 (bX x) (by unfold bX; omega)
    simp; omega
  · simp
theorem pI_len (x : Nat) : (pI x).length ≤ 7 := by
  unfold pI
  split
  · have := itoa_len (immX x) (imm_in x)
    simp; omega
  · simp
theorem line_len (x : Nat) (hx : x < 4294967296) : (lineL x).length ≤ 40 := by
  cases h : decOk x with
  | false =>
    rw [lineL_no x h]
    have := decD_len 9 x (by omega)
    simp; omega
  | true =>
    rw [lineL_ok x h]
    have h1 := opAt_len ⟨opX x, by have := (decOk_parts h).1; omega⟩
    have := pA_len x
    have := pB_len x
    have := pI_len x
    simp at h1 ⊢; omega
theorem writeL_len (l : List Nat) (hx : ∀ x ∈ l, x < 4294967296) : (writeL l).length ≤ 40 * l.length := by
  induction l with
  | nil => simp [writeL, joined]
  | cons x l ih =>
    have e : writeL (x :: l) = lineL x ++ writeL l := by simp [writeL, joined, lineL]
    have h1 := line_len x (hx x (by simp))
    have h2 := ih fun y hy => hx y (by simp [hy])
    rw [e]; simp; omega
end Go.Proofs.YtapjfcljbdlnkaaGreatDoor
