/- asm's answer and the reference's are the same. -/
import Derived.Test.YtapjfcljbdlnkaaGreatDoorRef03i
namespace Go.Proofs.YtapjfcljbdlnkaaGreatDoor
open Go Go.RowKit Go.Lib
set_option maxRecDepth 100000

theorem shape_facts : ∀ op : Fin 25, 1 ≤ op.val → (regsP op.val = (if hasA op.val then 1 else 0) + (if hasB op.val then 1 else 0) ∧ (hasB op.val = true → hasA op.val = true) ∧ ∀ (r : Fin 3) (n : Fin 2), shapeP op.val r.val n.val = (r.val == regsP op.val && n.val == if hasI op.val then 1 else 0)) := by decide +kernel
theorem look_goal {A B : List (List UInt8 × Nat)} (hl : ∀ s, look A s = look B s) (here op : Nat) (a b : Int) (x : List UInt8) (n g : Int × Bool) (hn : n = if 18 ≤ op ∧ op ≤ 22 then goalP A x here else numP x) (hg : g = goalR B here op x) :
    (if n.2 && validP op a b n.1 then some (encV op a b n.1) else none) = if g.2 then (if validP op a b g.1 then some (encV op a b g.1) else none) else none := by
  have hv : ∀ n, validP op a b n = true → -1000000000000 < n ∧ n < 1000000000000 := fun n h => by
    have := (valid_parts h).2.2.2
    omega
  have hnum : (if (numP x).2 && validP op a b (numP x).1 then some (encV op a b (numP x).1) else none) = if (numR x).2 then (if validP op a b (numR x).1 then some (encV op a b (numR x).1) else none) else none := by
    have h := num_same (s := x) (P := fun n => validP op a b n = true) hv
    by_cases hr : (numR x).2 = true ∧ validP op a b (numR x).1 = true
    · have hp := h.1.2 hr
      rw [if_pos hr.1, if_pos hr.2, if_pos (by rw [hp.1, hp.2]; rfl), h.2 hr.1]
    · rw [if_neg (fun q => hr (h.1.1 (by simpa using q)))]
      cases h2 : (numR x).2 with
      | false => rfl
      | true => rw [if_pos rfl, if_neg (fun q => hr ⟨h2, q⟩)]
  have hgr : goalR B here op x = if !(numR x).2 && (decide (18 ≤ op) && (decide (op ≤ 22) && !plainR x)) then ((((look B x).getD 0 : Nat) : Int) - (here : Int), (look B x).isSome) else numR x := rfl
  by_cases hj : 18 ≤ op ∧ op ≤ 22
  · rw [if_pos hj] at hn
    rw [hgr, decide_eq_true hj.1, decide_eq_true hj.2] at hg
    rcases num_law x with ⟨h1, _, h2, h3⟩ | ⟨h1, h2, h3⟩ | ⟨h1, h2, h3, h4⟩
    · have e : n = g := by rw [hn, hg, h2, h3]; simp [goalP, h1, hl x]
      rw [e]
      cases g.2 <;> simp
    · have e1 : n = numP x := by rw [hn]; simp [goalP, h1]
      have e2 : g = numR x := by rw [hg, h2]; rfl
      rw [e1, e2]; exact hnum
    · have e1 : n = numP x := by rw [hn]; simp [goalP, h1]
      have e2 : g = numR x := by rw [hg, h3]; simp
      rw [e1, e2]; exact hnum
  · rw [if_neg hj] at hn
    have e2 : g = numR x := by
      rw [hg, hgr, if_neg]
      intro q
      simp only [Bool.and_eq_true, decide_eq_true_eq] at q
      exact hj ⟨q.2.1, q.2.2.1⟩
    rw [hn, e2]; exact hnum
theorem wordEnd_same {A B : List (List UInt8 × Nat)} (hl : ∀ s, look A s = look B s) (here op : Nat) (h1 : 1 ≤ op) (h2 : op ≤ 24) (regs : List Int) (rest : List (List UInt8)) (hr : regs.length = regsP op) :
    wordEnd A here op regs rest = wR3 B here op (hasI op) (regs.getD 0 0) (regs.getD 1 0) rest := by
  obtain ⟨_, _, hs⟩ := shape_facts ⟨op, by omega⟩ h1
  have hle := regsP_le op
  have hs0 : shapeP op regs.length 0 = !hasI op := by
    have := hs ⟨regs.length, by omega⟩ 0
    simp only at this
    rw [show ((0 : Fin 2) : Nat) = 0 from rfl] at this
    rw [this, hr]
    cases hasI op <;> simp
  have hs1 : shapeP op regs.length 1 = hasI op := by
    have := hs ⟨regs.length, by omega⟩ 1
    simp only at this
    rw [show ((1 : Fin 2) : Nat) = 1 from rfl] at this
    rw [this, hr]
    cases hasI op <;> simp
  match rest with
  | [] =>
    show (if shapeP op regs.length 0 && validP op (regs.getD 0 0) (regs.getD 1 0) 0 then some (encV op (regs.getD 0 0) (regs.getD 1 0) 0) else none) = _
    rw [hs0]
    unfold wR3 immTake
    cases hasI op <;> simp [wordEndR]
  | [x] =>
    rw [wordEnd_one A here op regs x _ rfl, hs1]
    unfold wR3 immTake
    cases hasI op with
    | false => simp [wordEndR]
    | true =>
      have h := look_goal hl here op (regs.getD 0 0) (regs.getD 1 0) x _ _ rfl rfl
      rw [if_pos rfl, Bool.true_and, h]
      cases hg : (goalR B here op x).2 with
      | false => simp [hg]
      | true => simp [hg, wordEndR]
  | x :: y :: r =>
    show none = _
    unfold wR3 immTake
    cases hasI op with
    | false => simp [wordEndR]
    | true =>
      cases hg : (goalR B here op x).2 with
      | false => simp [hg]
      | true => simp [hg, wordEndR]
theorem wordEnd_few (A : List (List UInt8 × Nat)) (here op : Nat) (h1 : 1 ≤ op) (h2 : op ≤ 24) (regs : List Int) (rest : List (List UInt8)) (hr : regs.length < regsP op) :
    wordEnd A here op regs rest = none := by
  obtain ⟨_, _, hs⟩ := shape_facts ⟨op, by omega⟩ h1
  have hle := regsP_le op
  have hb : (regs.length == regsP op) = false := beq_eq_false_iff_ne.2 (by omega)
  have hs0 : shapeP op regs.length 0 = false := by
    have := hs ⟨regs.length, by omega⟩ 0
    simp only at this
    rw [show ((0 : Fin 2) : Nat) = 0 from rfl] at this
    rw [this, hb]; rfl
  have hs1 : shapeP op regs.length 1 = false := by
    have := hs ⟨regs.length, by omega⟩ 1
    simp only at this
    rw [show ((1 : Fin 2) : Nat) = 1 from rfl] at this
    rw [this, hb]; rfl
  match rest with
  | [] =>
    show (if shapeP op regs.length 0 && validP op (regs.getD 0 0) (regs.getD 1 0) 0 then some (encV op (regs.getD 0 0) (regs.getD 1 0) 0) else none) = _
    rw [hs0]; rfl
  | [x] =>
    rw [wordEnd_one A here op regs x _ rfl, hs1]
    simp
  | x :: y :: r => rfl
theorem wordEnd_zero (A : List (List UInt8 × Nat)) (here : Nat) (regs : List Int) (rest : List (List UInt8)) : wordEnd A here 0 regs rest = none := by
  have hv : ∀ a b n, validP 0 a b n = false := fun a b n => by simp [validP]
  match rest with
  | [] =>
    show (if shapeP 0 regs.length 0 && validP 0 (regs.getD 0 0) (regs.getD 1 0) 0 then some (encV 0 (regs.getD 0 0) (regs.getD 1 0) 0) else none) = _
    rw [hv]; simp
  | [x] =>
    rw [wordEnd_one A here 0 regs x _ rfl, hv]
    simp
  | x :: y :: r => rfl
theorem opOf_word : opOf wordName = 0 := by decide +kernel
theorem word_same {A B : List (List UInt8 × Nat)} (hl : ∀ s, look A s = look B s) (here : Nat) (ps : List (List UInt8)) : wordP A here ps = wordR B here ps := by
  match ps with
  | [] => rfl
  | p :: rest =>
    by_cases hp : p = wordName
    · by_cases hr : rest.length = 1
      · simp only [wordP, wordR, if_pos (And.intro hp hr), if_pos hp, if_pos hr]
        exact wordNum_same _
      · rw [wordP_else A here (fun h => hr h.2), hp, opOf_word, wordEnd_zero]
        simp only [wordR, if_true, if_neg hr]
    · rw [wordP_else A here (fun h => hp h.1)]
      simp only [wordR, if_neg hp]
      have h24 := opGo_le p 24
      change opOf p ≤ 24 at h24
      generalize opOf p = op at h24
      by_cases h0 : op = 0
      · rw [if_pos h0, h0, wordEnd_zero]
      · rw [if_neg h0]
        have h1 : 1 ≤ op := by omega
        obtain ⟨hrp, hba, _⟩ := shape_facts ⟨op, by omega⟩ h1
        simp only at hrp hba
        unfold wR1
        cases hA : hasA op with
        | false =>
          have hB : hasB op = false := by
            cases hB : hasB op with
            | false => rfl
            | true => rw [hA] at hba; exact absurd (hba hB) (by simp)
          have hr0 : regsP op = 0 := by rw [hrp, hA, hB]; rfl
          rw [hr0, regTake_false, hB]
          simp only [regsGo, wR2, regTake_false]
          exact wordEnd_same hl here op h1 h24 [] rest (by rw [hr0]; rfl)
        | true =>
          match rest with
          | [] =>
            have hr0 : 0 < regsP op := by rw [hrp, hA]; simp; omega
            obtain ⟨m, hm⟩ : ∃ m, regsP op = m + 1 := ⟨regsP op - 1, by omega⟩
            rw [hm, regTake_nil]
            exact wordEnd_few A here op h1 h24 [] [] hr0
          | x :: r =>
            have hr0 : 0 < regsP op := by rw [hrp, hA]; simp; omega
            obtain ⟨m, hm⟩ : ∃ m, regsP op = m + 1 := ⟨regsP op - 1, by omega⟩
            obtain ⟨hx1, hx2⟩ := reg_same x
            rw [hm, regsGo_cons]
            cases hx : (regP x).2 with
            | false =>
              have hx' : regR x < 0 := Decidable.byContradiction fun q => by
                have := hx1.2 q
                rw [hx] at this; cases this
              rw [regTake_neg hx', if_neg (by simp)]
              exact wordEnd_few A here op h1 h24 [] _ hr0
            | true =>
              rw [regTake_pos (hx1.1 hx), if_pos rfl, hx2 hx]
              simp only
              unfold wR2
              cases hB : hasB op with
              | false =>
                have hr1 : regsP op = 1 := by rw [hrp, hA, hB]; rfl
                have hm0 : m = 0 := by omega
                subst hm0
                rw [regTake_false]
                simp only [regsGo]
                exact wordEnd_same hl here op h1 h24 [regR x] r (by rw [hr1]; rfl)
              | true =>
                have hr2 : regsP op = 2 := by rw [hrp, hA, hB]; rfl
                have hm1 : m = 1 := by omega
                subst hm1
                match r with
                | [] =>
                  rw [regTake_nil]
                  exact wordEnd_few A here op h1 h24 [regR x] [] (by rw [hr2]; show 1 < 2; omega)
                | y :: r =>
                  obtain ⟨hy1, hy2⟩ := reg_same y
                  rw [regsGo_cons]
                  cases hy : (regP y).2 with
                  | false =>
                    have hy' : regR y < 0 := Decidable.byContradiction fun q => by
                      have := hy1.2 q
                      rw [hy] at this; cases this
                    rw [regTake_neg hy', if_neg (by simp)]
                    exact wordEnd_few A here op h1 h24 [regR x] _ (by rw [hr2]; show 1 < 2; omega)
                  | true =>
                    rw [regTake_pos (hy1.1 hy), if_pos rfl, hy2 hy]
                    simp only [regsGo]
                    exact wordEnd_same hl here op h1 h24 [regR x, regR y] r (by rw [hr2]; rfl)
theorem readGo_same {A B : List (List UInt8 × Nat)} (hl : ∀ s, look A s = look B s) : ∀ (lines : List (List (List UInt8) × Nat)) (i : Nat) (out : List Int), out.length ≤ 512 → readGo A i out lines = readRGo B i out lines
  | [], _, _, _ => rfl
  | (ps, a) :: r, i, out, ho => by
    have hw := word_same hl i ps
    cases hx : wordP A i ps with
    | none => rw [readGo_none hx, readRGo_none (hw ▸ hx)]
    | some v =>
      by_cases hb : out.length = 512
      · rw [readGo_big hx hb, readRGo_big (hw ▸ hx) (by omega)]
      · rw [readGo_some hx hb, readRGo_some (hw ▸ hx) (by omega)]
        exact readGo_same hl r (i + 1) (out ++ [v]) (by simp; omega)
theorem suffix_last (p : List UInt8) : Lib.hasSuffix p [58] = true ↔ p.getLast? = some 58 := by
  rcases List.eq_nil_or_concat p with rfl | ⟨q, x, rfl⟩
  · simp [Lib.hasSuffix, List.isSuffixOf, List.isPrefixOf]
  · by_cases e : x = 58
    · subst e
      simp [Lib.hasSuffix, List.isSuffixOf, List.isPrefixOf]
    · simp [Lib.hasSuffix, List.isSuffixOf, List.isPrefixOf, e, Ne.symm e]
theorem fieldsQ_congr {f g : UInt8 → Bool} : ∀ (l cur : List UInt8), (∀ b ∈ l, f b = g b) → fieldsQ f cur l = fieldsQ g cur l
  | [], cur, _ => rfl
  | b :: l, cur, h => by
    have hb := h b (by simp)
    have ih := fun cur => fieldsQ_congr l cur (fun x hx => h x (by simp [hx]))
    simp only [fieldsQ, hb, ih]
theorem parts_same {l : List UInt8} (h : (10 : UInt8) ∉ l) : lineParts l = partsR l := by
  unfold lineParts partsR fieldsB
  refine fieldsQ_congr _ _ fun b hb => ?_
  have hbl : b ∈ l := (List.takeWhile_sublist _).subset hb
  have hne : (b != 10) = true := by
    rw [bne_iff_ne]; rintro rfl; exact h hbl
  unfold blankA blankR
  rw [hne, Bool.and_true]
theorem look_snoc (B : List (List UInt8 × Nat)) (k : List UInt8) (v : Nat) (s : List UInt8) : look (B ++ [(k, v)]) s = match look B s with
    | some x => some x
    | none => if k = s then some v else none := by
  unfold look
  rw [List.find?_append]
  cases h : B.find? (fun x => x.1 == s) with
  | some y => rfl
  | none =>
    simp only [Option.none_or, List.find?_singleton, Option.map_none]
    by_cases e : k = s
    · simp [e]
    · simp [e]
def SameEnd (x y : Except Nat (List (List UInt8 × Nat) × List (List (List UInt8) × Nat))) : Prop :=
  (∃ k, x = .error k ∧ y = .error k) ∨ ∃ A B L, x = .ok (A, L) ∧ y = .ok (B, L) ∧ ∀ s, look A s = look B s
theorem first_same : ∀ (P : List (List UInt8)) (A B : List (List UInt8 × Nat)) (L : List (List (List UInt8) × Nat)) (a : Nat), (∀ s, look A s = look B s) → (∀ l ∈ P, (10 : UInt8) ∉ l) → SameEnd (firstGo A L a P) (refGo B L a P)
  | [], A, B, L, a, h, _ => .inr ⟨A, B, L, rfl, rfl, h⟩
  | l :: P, A, B, L, a, h, hP => by
    have ih := fun A B L h => first_same P A B L (a + 1) h (fun x hx => hP x (by simp [hx]))
    have hps := parts_same (hP l (by simp))
    cases hx : lineParts l with
    | nil => rw [firstGo_none hx, refGo_none (hps ▸ hx)]; exact ih A B L h
    | cons p ps =>
      have hx' : partsR l = p :: ps := hps ▸ hx
      cases hs : Lib.hasSuffix p [58] with
      | false =>
        have hs' : ¬ p.getLast? = some 58 := fun q => by
          have := (suffix_last p).2 q
          rw [hs] at this; cases this
        rw [firstGo_word hx hs, refGo_word hx' hs']
        exact ih A B _ h
      | true =>
        have hs' := (suffix_last p).1 hs
        by_cases hb : (look A p.dropLast).isSome = true ∨ p.dropLast = []
        · rw [firstGo_bad hx hs A hb, refGo_bad hx' hs' B (by rw [← h]; exact hb)]
          exact .inl ⟨_, rfl, rfl⟩
        · rw [firstGo_lab hx hs A hb, refGo_lab hx' hs' B (by rw [← h]; exact hb)]
          refine ih _ _ _ fun s => ?_
          have hn : look A p.dropLast = none := by
            cases hq : look A p.dropLast with
            | none => rfl
            | some v => exact absurd (.inl (by rw [hq]; rfl)) hb
          rw [look_snoc]
          by_cases e : s = p.dropLast
          · subst e
            rw [look_cons_same, ← h, hn]
            simp
          · rw [look_cons_ne _ _ _ _ e, h]
            cases look B s with
            | some v => rfl
            | none => simp [Ne.symm e]
theorem cutAt_no (c : UInt8) : ∀ (s : List UInt8), ∀ l ∈ cutAt c s, c ∉ l
  | [], l, h => by
    simp only [cutAt, List.mem_singleton] at h
    subst h; simp
  | b :: t, l, h => by
    have ih := cutAt_no c t
    unfold cutAt at h
    by_cases e : b = c
    · rw [if_pos e] at h
      rcases List.mem_cons.1 h with rfl | h
      · simp
      · exact ih l h
    · rw [if_neg e] at h
      cases hc : cutAt c t with
      | nil => exact absurd hc (cutAt_ne c t)
      | cons p ps =>
        rw [hc] at h ih
        simp only at h
        rcases List.mem_cons.1 h with rfl | h
        · intro q
          rcases List.mem_cons.1 q with q | q
          · exact e q.symm
          · exact ih p (by simp) q
        · exact ih l (by simp [h])
theorem cutAt_end (c x : UInt8) (hx : x ≠ c) : ∀ (t : List UInt8), (cutAt c (t ++ [x])).getLast? ≠ some []
  | [] => by simp [cutAt, hx]
  | b :: t => by
    have ih := cutAt_end c x hx t
    rw [List.cons_append]
    unfold cutAt
    by_cases e : b = c
    · rw [if_pos e]
      cases hc : cutAt c (t ++ [x]) with
      | nil => exact absurd hc (cutAt_ne c _)
      | cons p ps => rw [hc] at ih; simpa [List.getLast?_cons_cons] using ih
    · rw [if_neg e]
      cases hc : cutAt c (t ++ [x]) with
      | nil => exact absurd hc (cutAt_ne c _)
      | cons p ps =>
        rw [hc] at ih
        cases ps with
        | nil => simp
        | cons q qs => simpa [List.getLast?_cons_cons] using ih
theorem lines_same {s : List UInt8} (h : s ≠ []) : textLines s = linesR s := by
  rcases List.eq_nil_or_concat s with rfl | ⟨t, x, hs⟩
  · exact absurd rfl h
  · rw [List.concat_eq_append] at hs
    subst hs
    by_cases hx : x = 10
    · subst hx
      have e : Lib.trimSuffix (t ++ [10]) [10] = t := by
        simp [Lib.trimSuffix, Lib.hasSuffix, List.isSuffixOf, List.isPrefixOf]
      unfold textLines linesR
      rw [e, cutAt_last, if_pos (by simp)]
      simp
    · have e : Lib.trimSuffix (t ++ [x]) [10] = t ++ [x] := by
        simp [Lib.trimSuffix, Lib.hasSuffix, List.isSuffixOf, List.isPrefixOf, Ne.symm hx]
      unfold textLines linesR
      rw [e, if_neg (cutAt_end 10 x hx t)]
theorem read_same (s : List UInt8) : readP s = readR s := by
  by_cases h0 : s = []
  · subst h0; rfl
  · have hno : ∀ l ∈ linesR s, (10 : UInt8) ∉ l := fun l hl => by
      refine cutAt_no 10 s l ?_
      unfold linesR at hl
      split at hl
      · exact List.dropLast_subset _ hl
      · exact hl
    unfold readP readR firstP
    rw [lines_same h0]
    rcases first_same (linesR s) [] [] [] 0 (fun _ => rfl) hno with ⟨k, h1, h2⟩ | ⟨A, B, L, h1, h2, h3⟩
    · rw [h1, h2]
    · rw [h1, h2]
      exact readGo_same h3 L 0 [] (by simp)
end Go.Proofs.YtapjfcljbdlnkaaGreatDoor
