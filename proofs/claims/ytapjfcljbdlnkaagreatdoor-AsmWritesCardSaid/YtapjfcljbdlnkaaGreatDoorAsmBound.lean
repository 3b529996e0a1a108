/- What first hands back is bounded. -/
import Derived.Test.YtapjfcljbdlnkaaGreatDoorAsmReadL
namespace Go.Proofs.YtapjfcljbdlnkaaGreatDoor
open Go Go.RowKit Go.Lib
set_option maxRecDepth 100000

theorem look_mem {labs : List (List UInt8 × Nat)} {s : List UInt8} {v : Nat} (h : look labs s = some v) : ∃ y ∈ labs, y.2 = v := by
  unfold look at h
  cases hf : labs.find? (fun x => x.1 == s) with
  | none => rw [hf] at h; cases h
  | some y => rw [hf] at h; simp at h; exact ⟨y, List.mem_of_find?_eq_some hf, h⟩
def GoodLine (x : List (List UInt8) × Nat) : Prop := (∀ p ∈ x.1, p.length ≤ 100000) ∧ x.1.length ≤ 200000 ∧ x.1 ≠ []
def FInv (labs : List (List UInt8 × Nat)) (lines : List (List (List UInt8) × Nat)) (a : Nat) : Prop := (∀ y ∈ labs, y.2 ≤ a) ∧ lines.length ≤ a ∧ ∀ x ∈ lines, GoodLine x
theorem firstGo_inv : ∀ (P : List (List UInt8)) (labs : List (List UInt8 × Nat)) (lines : List (List (List UInt8) × Nat)) (a : Nat) (r : List (List UInt8 × Nat) × List (List (List UInt8) × Nat)),
    firstGo labs lines a P = .ok r → FInv labs lines a → (∀ l ∈ P, l.length ≤ 100000) → FInv r.1 r.2 (a + P.length)
  | [], labs, lines, a, r, h, hi, _ => by
    simp only [firstGo] at h
    cases h
    simpa using hi
  | l :: P, labs, lines, a, r, h, hi, hl => by
    have ih := firstGo_inv P
    have hP : ∀ l ∈ P, l.length ≤ 100000 := fun x hx => hl x (by simp [hx])
    have hll := hl l (by simp)
    have e : a + (l :: P).length = a + 1 + P.length := by simp; omega
    rw [e]
    have up : FInv labs lines (a + 1) := ⟨fun y hy => Nat.le_succ_of_le (hi.1 y hy), Nat.le_succ_of_le hi.2.1, hi.2.2⟩
    cases hp : lineParts l with
    | nil => rw [firstGo_none hp] at h; exact ih _ _ _ _ h up hP
    | cons p ps =>
      have tl := (List.takeWhile_prefix (p := (· != (59 : UInt8))) (l := l)).length_le
      have hm : ∀ x ∈ p :: ps, x.length ≤ 100000 := fun x hx => by
        rw [← hp] at hx
        have := (fieldsQ_mem blankA _ [] x hx).2
        simp at this; omega
      have hn : (p :: ps).length ≤ 200000 := by
        rw [← hp]
        have := fieldsQ_len blankA (l.takeWhile (· != 59)) []
        unfold lineParts fieldsB; omega
      have snoc : ∀ (labs' : List (List UInt8 × Nat)) (qs : List (List UInt8)), (∀ y ∈ labs', y.2 ≤ a + 1) → (∀ x ∈ qs, x ∈ p :: ps) → qs.length ≤ (p :: ps).length → qs ≠ [] → FInv labs' (lines ++ [(qs, a + 1)]) (a + 1) := fun labs' qs h1 h2 h3 h4 =>
        ⟨h1, by simp; exact hi.2.1, fun x hx => by
          rcases List.mem_append.1 hx with hx | hx
          · exact hi.2.2 x hx
          · simp only [List.mem_singleton] at hx
            subst hx
            exact ⟨fun y hy => hm y (h2 y hy), by simp only; omega, h4⟩⟩
      cases hs : Lib.hasSuffix p [58] with
      | false =>
        rw [firstGo_word hp hs] at h
        exact ih _ _ _ _ h (snoc _ _ up.1 (fun _ hx => hx) (Nat.le_refl _) (by simp)) hP
      | true =>
        by_cases hb : (look labs p.dropLast).isSome = true ∨ p.dropLast = []
        · rw [firstGo_bad hp hs labs hb] at h; cases h
        · rw [firstGo_lab hp hs labs hb] at h
          have hlab : ∀ y ∈ (p.dropLast, lines.length) :: labs, y.2 ≤ a + 1 := fun y hy => by
            rcases List.mem_cons.1 hy with rfl | hy
            · exact Nat.le_succ_of_le hi.2.1
            · exact up.1 y hy
          by_cases hps : ps = []
          · rw [if_pos hps] at h
            exact ih _ _ _ _ h ⟨hlab, up.2.1, up.2.2⟩ hP
          · rw [if_neg hps] at h
            exact ih _ _ _ _ h (snoc _ _ hlab (fun x hx => by simp [hx]) (by simp) hps) hP
theorem first_bounds {s : List UInt8} (hs : s.length ≤ 100000) {x : List (List UInt8 × Nat) × List (List (List UInt8) × Nat)} (h : firstP s = .ok x) :
    (∀ s v, look x.1 s = some v → v ≤ 200000) ∧ x.2.length ≤ 200000 ∧ ∀ y ∈ x.2, GoodLine y := by
  have htl : (Lib.trimSuffix s [10]).length ≤ 100000 := by unfold Lib.trimSuffix; split <;> (try rw [List.length_take]) <;> omega
  have hPl : (textLines s).length ≤ 100001 := by
    unfold textLines
    rw [cutAt_count]
    have : (Lib.trimSuffix s [10]).count 10 ≤ (Lib.trimSuffix s [10]).length := List.count_le_length
    omega
  have h1 := firstGo_inv (textLines s) [] [] 0 x h ⟨by simp, Nat.le_refl _, by simp⟩ (fun l hl => by have := cutAt_len 10 _ l hl; omega)
  refine ⟨fun q v hv => ?_, by have := h1.2.1; omega, h1.2.2⟩
  obtain ⟨y, hy, rfl⟩ := look_mem hv
  have := h1.1 y hy
  omega
end Go.Proofs.YtapjfcljbdlnkaaGreatDoor
