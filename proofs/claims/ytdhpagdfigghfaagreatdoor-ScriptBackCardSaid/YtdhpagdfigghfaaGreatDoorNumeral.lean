/- The numeral of a number is read as that number. The table of powers of ten. -/
import Derived.Test.YtdhpagdfigghfaaGreatDoorSteps
import Derived.Lib.LaidTab
namespace Go.Proofs.YtdhpagdfigghfaaGreatDoor
open Go.RowKit Go.Lib
set_option maxRecDepth 100000

theorem dec_mem (u : Nat) : ∀ b ∈ Lib.decDigits u, 48 ≤ b.toNat ∧ b.toNat ≤ 57 := by
  induction u using Nat.strongRecOn with
  | _ u ih =>
    intro b hb
    rw [Lib.decDigits] at hb
    split at hb
    · rename_i h
      simp only [List.mem_cons, List.not_mem_nil, or_false] at hb
      subst hb
      simp; omega
    · rename_i h
      rcases List.mem_append.1 hb with h1 | h1
      · exact ih (u / 10) (by omega) b h1
      · simp only [List.mem_cons, List.not_mem_nil, or_false] at h1
        subst h1
        simp; omega
theorem decFrom_app : ∀ (l : List UInt8) (acc : Nat) (r : List UInt8), Lib.decFrom acc (l ++ r) = (Lib.decFrom acc l).bind fun n => Lib.decFrom n r
  | [], _, _ => rfl
  | b :: l, acc, r => by
    simp only [List.cons_append, Lib.decFrom]
    split
    · exact decFrom_app l _ r
    · rfl
theorem digit_of (d : Nat) (h : d < 10) : Lib.digitVal (UInt8.ofNat (48 + d)) = some d := by
  have : ∀ d, d < 10 → Lib.digitVal (UInt8.ofNat (48 + d)) = some d := by decide
  exact this d h
theorem decFrom_digits (u : Nat) : Lib.decFrom 0 (Lib.decDigits u) = some u := by
  induction u using Nat.strongRecOn with
  | _ u ih =>
    rw [Lib.decDigits]
    split
    · rename_i h
      simp only [Lib.decFrom, digit_of u h]; simp
    · rename_i h
      rw [decFrom_app, ih (u / 10) (by omega)]
      simp only [Option.bind_some, Lib.decFrom, digit_of (u % 10) (by omega)]
      exact congrArg some (by omega)
theorem decDigits_ne (u : Nat) : Lib.decDigits u ≠ [] := by
  rw [Lib.decDigits]; split <;> simp
theorem atoi_digits (u : Nat) : Lib.atoi (Lib.decDigits u) = some (u : Int) := by
  have h0 := decDigits_ne u
  have h1 := decFrom_digits u
  have h2 := dec_mem u
  cases h : Lib.decDigits u with
  | nil => exact absurd h h0
  | cons b r =>
    rw [h] at h1 h2
    have hb := h2 b (by simp)
    have n1 : (b == 45) = false := by simp only [beq_eq_false_iff_ne]; intro e; subst e; simp at hb
    have n2 : (b == 43) = false := by simp only [beq_eq_false_iff_ne]; intro e; subst e; simp at hb
    simp only [Lib.atoi, n1, n2, Bool.false_eq_true, if_false, Lib.decNat, List.isEmpty_cons, h1, Option.map_some]
theorem dec_clean (u : Nat) : 32 ∉ Lib.decDigits u ∧ 10 ∉ Lib.decDigits u :=
  ⟨fun h => by have := dec_mem u _ h; simp at this, fun h => by have := dec_mem u _ h; simp at this⟩

/-- the library's table of powers of ten is in w -/
def Tab (w : World) : Prop := Lib.TabIs Tryz.prog w "internal/strconv.uint64pow10" .u64 Lib.pow10Tab
theorem Tab.on {w w' : World} (h : Tab w) (hb : Below w.heap.size w w') : Tab w' := Lib.tabBelow_of_tabIs h w' hb
theorem itoa_at (n : Nat) (hn : n ≤ 4096) (w : World) (ht : Tab w) : ItoaAt w n (Lib.itoa (n : Int)) := fun w1 hb => by
  refine (Tryz.strconv_Itoa (n : Int) (by omega) (by omega) w1 (ht.on hb)).mono ?_
  rintro e w' ⟨he, k, os, hw⟩
  exact ⟨he, by rw [hw]; exact Lib.below_grow _ _ (Nat.le_refl _) _ _⟩

theorem dec_short (u : Nat) (h : u < 10000) : (Lib.decDigits u).length ≤ 18 := by
  rw [Lib.decDigits]; split
  · simp
  · rw [Lib.decDigits]; split
    · simp
    · rw [Lib.decDigits]; split
      · simp
      · rw [Lib.decDigits]; split
        · simp
        · exfalso; omega

/-- what 'right' makes may be -/
theorem ln_ok (x : In3) (w : World) (ht : Tab w) : x.ln.Num ∧ x.ln.Ok w ∧ x.ln.Clean := by
  unfold In3.ln
  split
  · obtain ⟨r, hr, hr2⟩ := and_many x.n
    rw [hr]
    have e1 : (1 + (r : Int)) = ((1 + r : Nat) : Int) := by omega
    rw [e1, Int.toNat_natCast]
    refine ⟨⟨rfl, by omega⟩, ⟨by omega, by omega, ?_, ?_, itoa_at _ (by omega) w ht⟩, ?_⟩
    · rw [Lib.itoa_nonneg]
      have : (Lib.decDigits (1 + r)).length ≤ 18 := dec_short (1 + r) (by omega)
      exact this
    · rw [Lib.itoa_nonneg]; exact atoi_digits _
    · rw [Lib.itoa_nonneg]; exact dec_clean _
  · split
    · exact ⟨by show (x.l.take 64).length ≤ 64; simp; omega, by show (x.l.take 64).length ≤ 64; simp; omega, trivial⟩
    · exact ⟨trivial, trivial, trivial⟩

end Go.Proofs.YtdhpagdfigghfaaGreatDoor
