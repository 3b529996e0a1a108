/- strings.Split at a separator of one byte, in plain lists. No program. -/
import Derived.Lib.SplitLaws
namespace Go.Proofs.YtapjfcljbdlnkaaGreatDoor
open Go.Lib
set_option maxRecDepth 100000

/-- A list of bytes as a string. -/
def bs (l : List UInt8) : ByteArray := ⟨l.toArray⟩
theorem bs_inj {a b : ByteArray} (h : a.data.toList = b.data.toList) : a = b := by
  cases a; cases b; simp at h; simp [h]
theorem bs_data (l : List UInt8) : (bs l).data.toList = l := by simp [bs]
theorem bs_size (l : List UInt8) : (bs l).size = l.length := by simp [bs, ByteArray.size]
theorem bs_of (s : ByteArray) : bs s.data.toList = s := by cases s; simp [bs]

/-- The pieces between the c's. -/
def cutAt (c : UInt8) : List UInt8 → List (List UInt8)
  | [] => [[]]
  | b :: t => if b = c then [] :: cutAt c t else match cutAt c t with
    | [] => [[b]]
    | p :: ps => (b :: p) :: ps

theorem cutAt_ne (c : UInt8) (s : List UInt8) : cutAt c s ≠ [] := by
  cases s with
  | nil => simp [cutAt]
  | cons b t => simp only [cutAt]; split; simp; split <;> simp

theorem index_eq (c : UInt8) (l : List UInt8) : index (c :: l) [c] = 0 := by rw [index]; simp [List.isPrefixOf]
theorem index_ne (b c : UInt8) (l : List UInt8) (h : b ≠ c) : index (b :: l) [c] = if index l [c] == -1 then -1 else index l [c] + 1 := by
  rw [index]; simp [List.isPrefixOf, Ne.symm h]

theorem splitK_cut (c : UInt8) : ∀ s : List UInt8, splitK [c] 0 (count s [c]) s = cutAt c s
  | [] => by rw [count_miss (by simp [index])]; rfl
  | b :: l => by
    have ih := splitK_cut c l
    by_cases h : b = c
    · subst h
      rw [count_cons_eq, Nat.add_comm, splitK, index_eq]
      simp only [cutAt, if_true]
      simp [ih]
    · rw [count_cons_ne b c l h]
      simp only [cutAt, if_neg h]
      by_cases hm : index l [c] = -1
      · rw [count_miss hm] at ih ⊢
        rw [← ih]; rfl
      · have hge := index_ge l [c]
        obtain ⟨j, hj⟩ : ∃ j : Nat, index l [c] = j := ⟨(index l [c]).toNat, by omega⟩
        rw [count_hit (by simp) hj, Nat.add_comm] at ih ⊢
        rw [splitK, if_neg (by simpa using hm), hj] at ih
        rw [splitK, index_ne b c l h, hj]
        rw [← ih]
        have e1 : ((j : Int) == -1) = false := by simp
        have e2 : ((j : Int) + 1 == -1) = false := by simp; omega
        simp only [e1, e2, Bool.false_eq_true, if_false]
        have e3 : ((j : Int) + 1).toNat = j + 1 := by omega
        rw [e3]
        simp

theorem splitB_cut (c : UInt8) (s : List UInt8) : splitB ⟨#[c]⟩ 0 (countB (bs s) ⟨#[c]⟩) (bs s) = (cutAt c s).map bs := by
  have h := splitB_data ⟨#[c]⟩ 0 (countB (bs s) ⟨#[c]⟩) (bs s)
  have hc : countB (bs s) ⟨#[c]⟩ = count s [c] := by unfold countB; rw [bs_data]
  have e : splitK (⟨#[c]⟩ : ByteArray).data.toList 0 (countB (bs s) ⟨#[c]⟩) (bs s).data.toList = cutAt c s := by
    rw [hc, bs_data]; exact splitK_cut c s
  rw [e] at h
  rw [← h, List.map_map]
  have : (bs ∘ fun x : ByteArray => x.data.toList) = id := by funext x; exact bs_of x
  rw [this, List.map_id]

theorem cutAt_count (c : UInt8) : ∀ s : List UInt8, (cutAt c s).length = s.count c + 1
  | [] => rfl
  | b :: l => by
    have ih := cutAt_count c l
    simp only [cutAt]
    by_cases h : b = c
    · subst h; simp [ih]
    · rw [if_neg h, List.count_cons_of_ne (by simpa using h)]
      have := cutAt_ne c l
      split
      · contradiction
      · rename_i p ps hp; rw [hp] at ih; simpa using ih

theorem countB_cut (c : UInt8) (s : List UInt8) : countB (bs s) ⟨#[c]⟩ + 1 = (cutAt c s).length := by
  rw [cutAt_count, ← count_one]
  unfold countB; rw [bs_data]

/-- No c: one piece. -/
theorem cutAt_none (c : UInt8) : ∀ s : List UInt8, c ∉ s → cutAt c s = [s]
  | [], _ => rfl
  | b :: l, h => by
    have h1 : b ≠ c := fun e => h (by simp [e])
    have h2 : c ∉ l := fun e => h (by simp [e])
    simp only [cutAt, if_neg h1, cutAt_none c l h2]
theorem cutAt_app (c : UInt8) (t : List UInt8) : ∀ s : List UInt8, c ∉ s → cutAt c (s ++ c :: t) = s :: cutAt c t
  | [], _ => by simp [cutAt]
  | b :: l, h => by
    have h1 : b ≠ c := fun e => h (by simp [e])
    have h2 : c ∉ l := fun e => h (by simp [e])
    simp only [List.cons_append, cutAt, if_neg h1, cutAt_app c t l h2]

/-- Lines, each ended by c, without the last c: the lines again. -/
def joined (c : UInt8) : List (List UInt8) → List UInt8
  | [] => []
  | l :: ls => l ++ c :: joined c ls
theorem cutAt_joined (c : UInt8) : ∀ (ls : List (List UInt8)), (∀ l ∈ ls, c ∉ l) → cutAt c (joined c ls) = ls ++ [[]]
  | [], _ => rfl
  | l :: ls, h => by
    simp only [joined]
    rw [cutAt_app c _ l (h l (by simp)), cutAt_joined c ls (fun x hx => h x (by simp [hx]))]
    simp
theorem joined_drop (c : UInt8) : ∀ (ls : List (List UInt8)), ls ≠ [] → joined c ls = (joined c ls).dropLast ++ [c]
  | [], h => absurd rfl h
  | [l], _ => by simp only [joined]; rw [List.dropLast_concat]
  | l :: m :: ls, _ => by
    have ih := joined_drop c (m :: ls) (by simp)
    rw [joined]
    have e : l ++ c :: joined c (m :: ls) = (l ++ c :: (joined c (m :: ls)).dropLast) ++ [c] := by
      conv => lhs; rw [ih]
      simp
    conv => rhs; rw [e, List.dropLast_concat]
    exact e
theorem cutAt_last (c : UInt8) : ∀ (s : List UInt8), cutAt c (s ++ [c]) = cutAt c s ++ [[]]
  | [] => by simp [cutAt]
  | b :: l => by
    have ih := cutAt_last c l
    simp only [List.cons_append, cutAt]
    split
    · simp [ih]
    · rw [ih]
      have := cutAt_ne c l
      cases h : cutAt c l with
      | nil => contradiction
      | cons p ps => simp
theorem cutAt_trim (c : UInt8) (ls : List (List UInt8)) (h0 : ls ≠ []) (h : ∀ l ∈ ls, c ∉ l) : cutAt c (joined c ls).dropLast = ls := by
  have h1 := cutAt_joined c ls h
  rw [joined_drop c ls h0, cutAt_last] at h1
  have := List.append_inj_left' h1 rfl
  exact this

end Go.Proofs.YtapjfcljbdlnkaaGreatDoor
