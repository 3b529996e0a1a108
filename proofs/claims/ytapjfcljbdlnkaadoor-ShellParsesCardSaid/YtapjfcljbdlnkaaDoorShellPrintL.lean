/- What rows are printed as, and that it has these rows again: the plain law. -/
import Derived.Test.YtapjfcljbdlnkaaDoorRefShell
import Derived.Lib.Join
namespace Go.Proofs.YtapjfcljbdlnkaaDoor
open Go Go.RowKit Go.Lib
set_option maxRecDepth 100000

def rowText (row : List (List UInt8)) : List UInt8 := Lib.join row [32, 124, 32]
def printL (rows : List (List (List UInt8))) : List UInt8 := Lib.join (rows.map rowText) [59, 32]

structure WordOK (x : List UInt8) : Prop where
  ne : x ≠ []
  word : ∀ b ∈ x, blankB b = false
  semi : (59 : UInt8) ∉ x
  bar : (124 : UInt8) ∉ x
  path : (pathP x).2 = 0
  short : x.length ≤ 60
structure RowOK (r : List (List UInt8)) : Prop where
  ne : r ≠ []
  len : r.length ≤ 3
  words : ∀ x ∈ r, WordOK x
structure RowsOK (l : List (List (List UInt8))) : Prop where
  len : l.length ≤ 4
  rows : ∀ r ∈ l, RowOK r

theorem cut_no (c : UInt8) : ∀ (s p : List UInt8), p ∈ cutAt c s → c ∉ p
  | [], p, h => by simp [cutAt] at h; subst h; simp
  | b :: t, p, h => by
    have ih := cut_no c t
    simp only [cutAt] at h
    split at h
    · rcases List.mem_cons.1 h with rfl | h
      · simp
      · exact ih p h
    · rename_i hb
      cases hc : cutAt c t with
      | nil => exact absurd hc (cutAt_ne c t)
      | cons q qs =>
        rw [hc] at h ih
        rcases List.mem_cons.1 h with rfl | h
        · simp only [List.mem_cons, not_or]
          exact ⟨fun e => hb e.symm, ih q (by simp)⟩
        · exact ih p (by simp [h])
theorem cut_in (c : UInt8) : ∀ (s p : List UInt8), p ∈ cutAt c s → ∀ b ∈ p, b ∈ s
  | [], p, h => by simp [cutAt] at h; subst h; simp
  | x :: t, p, h => by
    have ih := cut_in c t
    simp only [cutAt] at h
    split at h
    · rcases List.mem_cons.1 h with rfl | h
      · simp
      · exact fun b hb => List.mem_cons_of_mem _ (ih p h b hb)
    · cases hc : cutAt c t with
      | nil => exact absurd hc (cutAt_ne c t)
      | cons q qs =>
        rw [hc] at h ih
        rcases List.mem_cons.1 h with rfl | h
        · intro b hb
          rcases List.mem_cons.1 hb with rfl | hb
          · simp
          · exact List.mem_cons_of_mem _ (ih q (by simp) b hb)
        · exact fun b hb => List.mem_cons_of_mem _ (ih p (by simp [h]) b hb)
theorem trimL_in (l : List UInt8) : ∀ b ∈ trimL l, b ∈ l := by
  intro b hb
  obtain ⟨pre, h1, _⟩ := drop_split l
  obtain ⟨post, h3, _⟩ := trimR_split (l.dropWhile blankB)
  have h5 : b ∈ trimR (l.dropWhile blankB) := hb
  rw [h1, h3]
  simp [h5]

theorem rowGo_ok : ∀ (ws row r : List (List UInt8)), rowGo row ws = .ok r → (∀ w ∈ ws, (59 : UInt8) ∉ w ∧ (124 : UInt8) ∉ w) → (∀ x ∈ row, WordOK x) → (∀ x ∈ r, WordOK x) ∧ r.length = row.length + ws.length
  | [], row, r, h, _, hr => by
    simp only [rowGo] at h
    cases h
    exact ⟨hr, by simp⟩
  | w :: ws, row, r, h, hw, hr => by
    simp only [rowGo] at h
    cases hx : wordOf w with
    | none => rw [hx] at h; cases h
    | some x =>
      rw [hx] at h
      simp only at h
      split at h
      · cases h
      · rename_i hb
        have hw0 := hw w (by simp)
        have hx2 : trimL w = x ∧ x ≠ [] ∧ x.any blankB = false := by
          unfold wordOf at hx
          split at hx
          · cases hx
          · rename_i hc
            cases hx
            exact ⟨rfl, fun e => hc (.inl e), by
              by_cases e : (trimL w).any blankB = true
              · exact absurd (.inr e) hc
              · simpa using e⟩
        obtain ⟨e1, e2, e3⟩ := hx2
        have hin := trimL_in w
        rw [e1] at hin
        have hok : WordOK x := ⟨e2, fun b hb => by simpa using (List.any_eq_false.1 e3) b hb, fun e => hw0.1 (hin _ e), fun e => hw0.2 (hin _ e),
          by
            by_cases h : (pathP x).2 = 0
            · exact h
            · exact absurd (.inl h) hb,
          Nat.not_lt.1 fun h => hb (.inr h)⟩
        obtain ⟨a1, a2⟩ := rowGo_ok ws (row ++ [x]) r h (fun y hy => hw y (by simp [hy])) (fun y hy => by
          rcases List.mem_append.1 hy with h | h
          · exact hr y h
          · simp at h; subst h; exact hok)
        exact ⟨a1, by simp at a2 ⊢; omega⟩

theorem shellGo_ok : ∀ (ps : List (List UInt8)) (out : List (List (List UInt8))), (∀ p ∈ ps, (59 : UInt8) ∉ p) → RowsOK out → RowsOK (shellGo out ps).1
  | [], out, _, h => h
  | p :: ps, out, hp, h => by
    have hp' : ∀ q ∈ ps, (59 : UInt8) ∉ q := fun q hq => hp q (by simp [hq])
    by_cases hb : p.all blankB = true
    · rw [shellGo_skip _ _ _ hb]; exact shellGo_ok ps out hp' h
    · cases hr : rowGo [] (cutAt 124 p) with
      | error e => rw [shellGo_bad _ _ _ e hb hr]; exact ⟨by simp, by simp⟩
      | ok row =>
        by_cases hbig : 3 < row.length ∨ out.length = 4
        · rw [shellGo_big _ _ _ row hb hr hbig]; exact ⟨by simp, by simp⟩
        · rw [shellGo_row _ _ _ row hb hr hbig]
          obtain ⟨a1, a2⟩ := rowGo_ok _ _ _ hr (fun w hw => ⟨fun e => hp p (by simp) (cut_in 124 p w hw _ e), cut_no 124 p w hw⟩) (by simp)
          have hc := cutAt_ne 124 p
          have hrn : row ≠ [] := by
            intro e; subst e
            have : 0 < (cutAt 124 p).length := List.length_pos_iff.2 hc
            simp at a2; omega
          have h4 := h.len
          refine shellGo_ok ps _ hp' ⟨by simp; omega, fun r hr => ?_⟩
          rcases List.mem_append.1 hr with h1 | h1
          · exact h.rows r h1
          · simp at h1; subst h1; exact ⟨hrn, by omega, a1⟩
theorem shellP_ok (s : List UInt8) : RowsOK (shellP s).1 := shellGo_ok _ _ (fun p hp => cut_no 59 s p hp) ⟨by simp, by simp⟩

theorem word_head {x : List UInt8} (h : WordOK x) : ∃ b c, x = b :: c ∧ blankB b = false := by
  cases hx : x with
  | nil => exact absurd hx h.ne
  | cons b c => exact ⟨b, c, rfl, h.word b (by rw [hx]; simp)⟩
theorem word_trim {x : List UInt8} (h : WordOK x) : trimR x = x := by
  have hx := (List.dropLast_concat_getLast h.ne).symm
  have := trimR_word x.dropLast (x.getLast h.ne) (h.word _ (List.getLast_mem h.ne))
  rw [← hx] at this
  exact this
theorem drop_pre : ∀ (pre l : List UInt8), pre.all blankB = true → (pre ++ l).dropWhile blankB = l.dropWhile blankB
  | [], _, _ => rfl
  | b :: pre, l, h => by
    simp only [List.all_cons, Bool.and_eq_true] at h
    rw [List.cons_append, List.dropWhile_cons_of_pos h.1]
    exact drop_pre pre l h.2
theorem word_any {x : List UInt8} (h : WordOK x) : x.any blankB = false := by
  rw [List.any_eq_false]
  intro b hb
  rw [h.word b hb]; simp
theorem wordOf_pre (pre x : List UInt8) (hp : pre.all blankB = true) (h : WordOK x) : wordOf (pre ++ x) = some x := by
  obtain ⟨b, c, e, hb⟩ := word_head h
  have e1 : trimL (pre ++ x) = x := by
    unfold trimL
    rw [drop_pre pre x hp]
    rw [e, List.dropWhile_cons_of_neg (by simp [hb]), ← e, word_trim h]
  unfold wordOf
  rw [e1, if_neg]
  rintro (h1 | h1)
  · exact h.ne h1
  · rw [word_any h] at h1; cases h1
theorem wordOf_mid (pre x : List UInt8) (hp : pre.all blankB = true) (h : WordOK x) : wordOf (pre ++ x ++ [32]) = some x := by
  obtain ⟨b, c, e, hb⟩ := word_head h
  have e1 : trimL (pre ++ x ++ [32]) = x := by
    unfold trimL
    rw [List.append_assoc, drop_pre pre _ hp]
    rw [e, List.cons_append, List.dropWhile_cons_of_neg (by simp [hb]), ← List.cons_append, ← e, trimR_blank _ _ rfl, word_trim h]
  unfold wordOf
  rw [e1, if_neg]
  rintro (h1 | h1)
  · exact h.ne h1
  · rw [word_any h] at h1; cases h1
theorem rowGo_text : ∀ (xs row : List (List UInt8)) (pre x : List UInt8), pre.all blankB = true → (124 : UInt8) ∉ pre → WordOK x → (∀ y ∈ xs, WordOK y) →
    rowGo row (cutAt 124 (pre ++ x ++ joinTail [32, 124, 32] xs)) = .ok (row ++ x :: xs)
  | [], row, pre, x, hp, hn, hx, _ => by
    have : joinTail [32, 124, 32] [] = [] := rfl
    rw [this, List.append_nil, cutAt_none 124 _ (by simp [hn, hx.bar])]
    rw [rowGo_word row _ x [] (wordOf_pre pre x hp hx) (by rw [hx.path]; have := hx.short; simp; omega)]
    rfl
  | y :: ys, row, pre, x, hp, hn, hx, hy => by
    have : pre ++ x ++ joinTail [32, 124, 32] (y :: ys) = (pre ++ x ++ [32]) ++ 124 :: ([32] ++ y ++ joinTail [32, 124, 32] ys) := by simp [joinTail]
    rw [this, cutAt_app 124 _ _ (by simp [hn, hx.bar])]
    rw [rowGo_word row _ x _ (wordOf_mid pre x hp hx) (by rw [hx.path]; have := hx.short; simp; omega)]
    rw [rowGo_text ys (row ++ [x]) [32] y rfl (by decide) (hy y (by simp)) (fun z hz => hy z (by simp [hz]))]
    simp
theorem rowGo_row (pre : List UInt8) (r : List (List UInt8)) (hp : pre.all blankB = true) (hn : (124 : UInt8) ∉ pre) (h : RowOK r) : rowGo [] (cutAt 124 (pre ++ rowText r)) = .ok r := by
  cases r with
  | nil => exact absurd rfl h.ne
  | cons x xs =>
    unfold rowText
    rw [join_cons, ← List.append_assoc]
    have := rowGo_text xs [] pre x hp hn (h.words x (by simp)) (fun y hy => h.words y (by simp [hy]))
    simpa using this
theorem rowText_all (pre : List UInt8) (r : List (List UInt8)) (h : RowOK r) : ¬ (pre ++ rowText r).all blankB = true := by
  cases r with
  | nil => exact absurd rfl h.ne
  | cons x xs =>
    obtain ⟨b, c, e, hb⟩ := word_head (h.words x (by simp))
    unfold rowText
    rw [join_cons, e]
    simp [hb]
theorem tail_no (c : UInt8) (sep : List UInt8) (hs : c ∉ sep) : ∀ (xs : List (List UInt8)), (∀ x ∈ xs, c ∉ x) → c ∉ joinTail sep xs
  | [], _ => by simp [joinTail]
  | x :: xs, h => by
    have : joinTail sep (x :: xs) = sep ++ x ++ joinTail sep xs := by simp [joinTail]
    rw [this]
    have := tail_no c sep hs xs fun y hy => h y (by simp [hy])
    simp [hs, h x (by simp), this]
theorem rowText_no (r : List (List UInt8)) (h : RowOK r) : (59 : UInt8) ∉ rowText r := by
  cases r with
  | nil => exact absurd rfl h.ne
  | cons x xs =>
    unfold rowText
    rw [join_cons]
    have := tail_no 59 [32, 124, 32] (by decide) xs fun y hy => (h.words y (by simp [hy])).semi
    simp [(h.words x (by simp)).semi, this]
theorem cut_tail (c : UInt8) (l : List UInt8) : ∀ (xs : List (List UInt8)) (a : List UInt8), c ∉ a → (c ∉ l) → (∀ x ∈ xs, c ∉ x) → cutAt c (a ++ joinTail (c :: l) xs) = a :: xs.map (l ++ ·)
  | [], a, ha, _, _ => by
    have : joinTail (c :: l) [] = [] := rfl
    rw [this, List.append_nil, cutAt_none c a ha]; rfl
  | x :: xs, a, ha, hl, hx => by
    have : a ++ joinTail (c :: l) (x :: xs) = a ++ c :: ((l ++ x) ++ joinTail (c :: l) xs) := by simp [joinTail]
    rw [this, cutAt_app c _ a ha, cut_tail c l xs (l ++ x) (by simp [hl, hx x (by simp)]) hl fun y hy => hx y (by simp [hy])]
    rfl
theorem shellGo_text : ∀ (rs out : List (List (List UInt8))), (∀ r ∈ rs, RowOK r) → out.length + rs.length ≤ 4 → shellGo out (rs.map fun r => [32] ++ rowText r) = (out ++ rs, 0)
  | [], out, _, _ => by simp [shellGo]
  | r :: rs, out, h, hl => by
    have hr := h r (by simp)
    rw [List.map_cons, shellGo_row _ _ _ r (rowText_all [32] r hr) (rowGo_row [32] r rfl (by decide) hr) (by have := hr.len; simp at hl; omega)]
    rw [shellGo_text rs (out ++ [r]) (fun q hq => h q (by simp [hq])) (by simp at hl ⊢; omega)]
    simp
theorem shellP_print (l : List (List (List UInt8))) (h : RowsOK l) : shellP (printL l) = (l, 0) := by
  cases l with
  | nil => rfl
  | cons r rs =>
    have hr := h.rows r (by simp)
    unfold shellP printL
    rw [List.map_cons, join_cons, cut_tail 59 [32] _ _ (rowText_no r hr) (by decide) (fun x hx => by
      obtain ⟨q, hq, rfl⟩ := List.mem_map.1 hx
      exact rowText_no q (h.rows q (by simp [hq])))]
    have e0 := rowGo_row [] r rfl (by simp) hr
    rw [List.nil_append] at e0
    have e1 := rowText_all [] r hr
    rw [List.nil_append] at e1
    rw [shellGo_row _ _ _ r e1 e0 (by have := hr.len; simp; omega)]
    have := shellGo_text rs [r] (fun q hq => h.rows q (by simp [hq])) (by have := h.len; simp at this ⊢; omega)
    rw [List.map_map]
    exact this
theorem lens_le (M : Nat) : ∀ (xs : List (List UInt8)), (∀ x ∈ xs, x.length ≤ M) → lens xs ≤ M * xs.length
  | [], _ => by simp [lens]
  | x :: xs, h => by
    have ih := lens_le M xs fun y hy => h y (by simp [hy])
    have := h x (by simp)
    simp only [lens, List.map_cons, List.sum_cons, List.length_cons, Nat.mul_succ] at ih ⊢
    omega
theorem join_le (M : Nat) (sep : List UInt8) (xs : List (List UInt8)) (h : ∀ x ∈ xs, x.length ≤ M) : (Lib.join xs sep).length ≤ (M + sep.length) * xs.length := by
  cases xs with
  | nil => simp [join_nil]
  | cons x r =>
    rw [join_length]
    have := lens_le M (x :: r) h
    simp only [List.length_cons, Nat.add_mul, Nat.mul_succ] at this ⊢
    omega
theorem rowText_len (r : List (List UInt8)) (h : RowOK r) : (rowText r).length ≤ 189 := by
  have := join_le 60 [32, 124, 32] r fun x hx => (h.words x hx).short
  have h3 := h.len
  unfold rowText
  simp at this; omega
theorem printL_len (l : List (List (List UInt8))) (h : RowsOK l) : (printL l).length ≤ 764 := by
  have := join_le 189 [59, 32] (l.map rowText) fun x hx => by
    obtain ⟨q, hq, rfl⟩ := List.mem_map.1 hx
    exact rowText_len q (h.rows q hq)
  have h3 := h.len
  unfold printL
  simp at this; omega
end Go.Proofs.YtapjfcljbdlnkaaDoor
