/- A line of commands: its rows, or an error: the plain law. -/
import Derived.Test.YtapjfcljbdlnkaaDoorRefPath2
import Derived.Test.YtapjfcljbdlnkaaDoorFields
namespace Go.Proofs.YtapjfcljbdlnkaaDoor
open Go Go.RowKit Go.Lib
set_option maxRecDepth 100000

def blankB (b : UInt8) : Bool := b == 32 || b == 9
def trimR (l : List UInt8) : List UInt8 := (l.reverse.dropWhile blankB).reverse
def trimL (l : List UInt8) : List UInt8 := trimR (l.dropWhile blankB)
/-- the one word of a piece -/
def wordOf (l : List UInt8) : Option (List UInt8) := if trimL l = [] ∨ (trimL l).any blankB = true then none else some (trimL l)

theorem trimR_blank (l : List UInt8) (b : UInt8) (h : blankB b = true) : trimR (l ++ [b]) = trimR l := by
  unfold trimR; simp [h]
theorem trimR_word (l : List UInt8) (b : UInt8) (h : blankB b = false) : trimR (l ++ [b]) = l ++ [b] := by
  unfold trimR; simp [h]
theorem trimR_split : ∀ (l : List UInt8), ∃ post, l = trimR l ++ post ∧ post.all blankB = true := by
  intro l
  refine ⟨(l.reverse.takeWhile blankB).reverse, ?_, ?_⟩
  · unfold trimR
    rw [← List.reverse_append, List.takeWhile_append_dropWhile, List.reverse_reverse]
  · rw [List.all_reverse]; exact List.all_takeWhile
theorem drop_split (l : List UInt8) : ∃ pre, l = pre ++ l.dropWhile blankB ∧ pre.all blankB = true :=
  ⟨l.takeWhile blankB, List.takeWhile_append_dropWhile.symm, List.all_takeWhile⟩
theorem drop_head : ∀ (l : List UInt8) (b : UInt8) (c : List UInt8), l.dropWhile blankB = b :: c → blankB b = false
  | [], _, _, h => by simp at h
  | x :: l, b, c, h => by
    by_cases hx : blankB x = true
    · rw [List.dropWhile_cons_of_pos hx] at h
      exact drop_head l b c h
    · rw [List.dropWhile_cons_of_neg hx] at h
      cases h
      simpa using hx
theorem drop_all : ∀ (l : List UInt8), l.all blankB = true → l.dropWhile blankB = []
  | [], _ => rfl
  | x :: l, h => by
    simp only [List.all_cons, Bool.and_eq_true] at h
    rw [List.dropWhile_cons_of_pos h.1]
    exact drop_all l h.2
theorem trimL_last (l : List UInt8) (h : trimL l ≠ []) : ∃ a b, trimL l = a ++ [b] ∧ blankB b = false := by
  unfold trimL trimR at h ⊢
  generalize (l.dropWhile blankB).reverse = r at h ⊢
  cases hd : r.dropWhile blankB with
  | nil => rw [hd] at h; exact absurd rfl h
  | cons x xs =>
    refine ⟨xs.reverse, x, by simp, ?_⟩
    exact drop_head r x xs hd

theorem fields_pre : ∀ (pre l : List UInt8), pre.all blankB = true → fieldsQ blankB [] (pre ++ l) = fieldsQ blankB [] l
  | [], _, _ => rfl
  | b :: pre, l, h => by
    simp only [List.all_cons, Bool.and_eq_true] at h
    simp only [List.cons_append, fieldsQ, h.1, if_true]
    exact fields_pre pre l h.2
theorem fields_post : ∀ (cur post : List UInt8), cur ≠ [] → post.all blankB = true → fieldsQ blankB cur post = [cur]
  | cur, [], h, _ => by simp [fieldsQ, h]
  | cur, b :: post, h, hp => by
    simp only [List.all_cons, Bool.and_eq_true] at hp
    simp only [fieldsQ, hp.1, if_true, if_neg h]
    have := fields_pre post [] hp.2
    rw [List.append_nil] at this
    rw [this]; rfl
theorem fields_some : ∀ (l cur : List UInt8), (cur ≠ [] ∨ ∃ x ∈ l, blankB x = false) → 1 ≤ (fieldsQ blankB cur l).length
  | [], cur, h => by
    rcases h with h | ⟨x, hx, _⟩
    · simp [fieldsQ, h]
    · simp at hx
  | b :: l, cur, h => by
    simp only [fieldsQ]
    by_cases hb : blankB b = true
    · rw [if_pos hb]
      by_cases hc : cur = []
      · rw [if_pos hc]
        refine fields_some l [] (.inr ?_)
        rcases h with h | ⟨x, hx, hx2⟩
        · exact absurd hc h
        · rcases List.mem_cons.1 hx with rfl | hx
          · rw [hb] at hx2; cases hx2
          · exact ⟨x, hx, hx2⟩
      · rw [if_neg hc]; simp
    · rw [if_neg hb]
      exact fields_some l (cur ++ [b]) (.inl (by simp))
theorem first_blank : ∀ (l : List UInt8), l.any blankB = true → ∃ a b c, l = a ++ b :: c ∧ blankB b = true ∧ ∀ x ∈ a, blankB x = false
  | [], h => by simp at h
  | x :: l, h => by
    by_cases hx : blankB x = true
    · exact ⟨[], x, l, rfl, hx, by simp⟩
    · obtain ⟨a, b, c, e, hb, ha⟩ := first_blank l (by simpa [hx] using h)
      exact ⟨x :: a, b, c, by rw [e]; rfl, hb, fun y hy => by
        rcases List.mem_cons.1 hy with rfl | hy
        · simpa using hx
        · exact ha y hy⟩
theorem trimL_first (l : List UInt8) (b : UInt8) (c : List UInt8) (h : trimL l = b :: c) : blankB b = false := by
  obtain ⟨post, hp, _⟩ := trimR_split (l.dropWhile blankB)
  have h1 : l.dropWhile blankB = b :: (c ++ post) := by
    have : trimR (l.dropWhile blankB) = b :: c := h
    rw [this] at hp; simpa using hp
  exact drop_head l b _ h1

theorem fields_of (l : List UInt8) : ∃ post, post.all blankB = true ∧ fieldsB blankB l = fieldsQ blankB [] (trimL l ++ post) := by
  obtain ⟨pre, h1, h2⟩ := drop_split l
  obtain ⟨post, h3, h4⟩ := trimR_split (l.dropWhile blankB)
  refine ⟨post, h4, ?_⟩
  unfold fieldsB
  conv => lhs; rw [h1]
  rw [fields_pre pre _ h2]
  conv => lhs; rw [h3]
  rfl
theorem fields_word (l x : List UInt8) (h : wordOf l = some x) : fieldsB blankB l = [x] := by
  unfold wordOf at h
  split at h
  · cases h
  · rename_i hc
    cases h
    have h1 : trimL l ≠ [] := fun e => hc (.inl e)
    have h2 : ∀ b ∈ trimL l, blankB b = false := fun b hb => by
      by_cases e : blankB b = true
      · exact absurd (.inr (List.any_eq_true.2 ⟨b, hb, e⟩)) hc
      · simpa using e
    obtain ⟨post, hp, e⟩ := fields_of l
    rw [e, fieldsQ_app blankB _ [] post h2, List.nil_append]
    exact fields_post _ _ h1 hp
theorem fields_none (l : List UInt8) (h : wordOf l = none) : (fieldsB blankB l).length ≠ 1 := by
  unfold wordOf at h
  split at h
  · rename_i hc
    obtain ⟨post, hp, e⟩ := fields_of l
    rw [e]
    by_cases h0 : trimL l = []
    · rw [h0]
      have := fields_pre post [] hp
      rw [List.append_nil] at this
      rw [List.nil_append, this]; simp [fieldsQ]
    · have hany : (trimL l).any blankB = true := by
        rcases hc with h | h
        · exact absurd h h0
        · exact h
      obtain ⟨a, b, c, e1, hb, ha⟩ := first_blank _ hany
      obtain ⟨a', y, e2, hy⟩ := trimL_last l h0
      have ha0 : a ≠ [] := by
        intro e0
        subst e0
        have := trimL_first l b c e1
        rw [hb] at this; cases this
      have hc0 : ∃ x ∈ c, blankB x = false := by
        have e3 : a ++ b :: c = a' ++ [y] := by rw [← e1, e2]
        have hl : (a ++ b :: c).getLast? = some y := by rw [e3]; simp
        cases c with
        | nil =>
          have : (a ++ [b]).getLast? = some b := by simp
          rw [this] at hl
          cases hl
          rw [hb] at hy; cases hy
        | cons z zs =>
          refine ⟨y, ?_, hy⟩
          have h5 : (a ++ b :: z :: zs).getLast? = (z :: zs).getLast? := by
            rw [show a ++ b :: z :: zs = (a ++ [b]) ++ (z :: zs) by simp, List.getLast?_append]
            rw [List.getLast?_cons]; rfl
          rw [h5] at hl
          exact List.mem_of_getLast? hl
      rw [e1, List.append_assoc, fieldsQ_app blankB a [] _ ha, List.nil_append, List.cons_append]
      simp only [fieldsQ, hb, if_true, if_neg ha0, List.length_cons]
      have := fields_some (c ++ post) [] (.inr (by obtain ⟨x, hx, hx2⟩ := hc0; exact ⟨x, List.mem_append_left _ hx, hx2⟩))
      omega
  · cases h
theorem trimL_nil (l : List UInt8) : trimL l = [] ↔ l.all blankB = true := by
  constructor
  · intro h
    obtain ⟨pre, h1, h2⟩ := drop_split l
    obtain ⟨post, h3, h4⟩ := trimR_split (l.dropWhile blankB)
    have h5 : trimR (l.dropWhile blankB) = [] := h
    rw [h5, List.nil_append] at h3
    rw [h1, List.all_append, h2, h3, h4]; rfl
  · intro h
    have h1 : l.dropWhile blankB = [] := drop_all l h
    unfold trimL
    rw [h1]; rfl

/-- a row, out of the words still to come; or an error -/
def rowGo : List (List UInt8) → List (List UInt8) → Except Int (List (List UInt8))
  | row, [] => .ok row
  | row, w :: ws => match wordOf w with
    | none => .error 19
    | some x => if (pathP x).2 ≠ 0 ∨ 60 < x.length then .error 18 else rowGo (row ++ [x]) ws
/-- rows, out of the parts still to come; an error -/
def shellGo : List (List (List UInt8)) → List (List UInt8) → List (List (List UInt8)) × Int
  | out, [] => (out, 0)
  | out, p :: ps => if p.all blankB = true then shellGo out ps else match rowGo [] (cutAt 124 p) with
    | .error e => ([], e)
    | .ok row => if 3 < row.length ∨ out.length = 4 then ([], 22) else shellGo (out ++ [row]) ps
def shellP (s : List UInt8) : List (List (List UInt8)) × Int := shellGo [] (cutAt 59 s)
end Go.Proofs.YtapjfcljbdlnkaaDoor
