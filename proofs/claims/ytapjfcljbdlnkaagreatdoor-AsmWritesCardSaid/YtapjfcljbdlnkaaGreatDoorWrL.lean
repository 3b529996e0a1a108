/- What Write writes is read as what it was. -/
import Derived.Test.YtapjfcljbdlnkaaGreatDoorLawAsmReads
namespace Go.Proofs.YtapjfcljbdlnkaaGreatDoor
open Go Go.RowKit Go.Lib
set_option maxRecDepth 100000

theorem decD_ne (u : Nat) : Lib.decDigits u ≠ [] := by
  rw [Lib.decDigits]; split <;> simp
theorem decD_snoc (u : Nat) (h : ¬ u < 10) : Lib.decDigits u = Lib.decDigits (u / 10) ++ [UInt8.ofNat (48 + u % 10)] := by
  rw [Lib.decDigits.eq_def u, dif_neg h]
theorem dig_nat (d : Nat) (h : d < 10) : (UInt8.ofNat (48 + d)).toNat = 48 + d := by
  have : ∀ d, d < 10 → (UInt8.ofNat (48 + d)).toNat = 48 + d := by decide
  exact this d h
theorem decD_all (u : Nat) : (Lib.decDigits u).all digitB = true := by
  induction u using Nat.strongRecOn with
  | _ u ih =>
    by_cases h : u < 10
    · rw [Lib.decDigits_one h]
      have := dig_nat u h
      simp only [List.all_cons, List.all_nil, Bool.and_true, digitB, this, decide_eq_true_eq]
      omega
    · rw [decD_snoc u h, List.all_append, ih (u / 10) (by omega)]
      have := dig_nat (u % 10) (by omega)
      simp only [List.all_cons, List.all_nil, Bool.and_true, Bool.true_and, digitB, this, decide_eq_true_eq]
      omega
theorem decD_val (u : Nat) : valR (Lib.decDigits u) = u := by
  induction u using Nat.strongRecOn with
  | _ u ih =>
    by_cases h : u < 10
    · rw [Lib.decDigits_one h]
      show 10 * 0 + ((UInt8.ofNat (48 + u)).toNat - 48) = u
      rw [dig_nat u h]; omega
    · rw [decD_snoc u h, valR_snoc, ih (u / 10) (by omega), dig_nat (u % 10) (by omega)]
      omega
theorem decD_len : ∀ (k u : Nat), u < 10 ^ (k + 1) → (Lib.decDigits u).length ≤ k + 1
  | 0, u, h => by rw [Lib.decDigits_one (by simpa using h)]; simp
  | k + 1, u, h => by
    by_cases h10 : u < 10
    · rw [Lib.decDigits_one h10]; simp
    · have ih := decD_len k (u / 10) (by rw [Nat.pow_succ] at h; omega)
      rw [decD_snoc u h10, List.length_append, List.length_singleton]
      omega
theorem decD_head (u : Nat) (h0 : 0 < u) : (Lib.decDigits u).head? ≠ some 48 := by
  induction u using Nat.strongRecOn with
  | _ u ih =>
    by_cases h : u < 10
    · rw [Lib.decDigits_one h]
      intro e
      simp only [List.head?_cons, Option.some.injEq] at e
      have h1 := dig_nat u h
      rw [e] at h1
      simp at h1
      omega
    · rw [decD_snoc u h, List.head?_append]
      have := ih (u / 10) (by omega) (by omega)
      cases hc : Lib.decDigits (u / 10) with
      | nil => exact absurd hc (decD_ne _)
      | cons c r => rw [hc] at this; simpa using this
theorem num_dig (u : Nat) (h : u < 1000000000000) : numR (Lib.decDigits u) = ((u : Int), true) := by
  have hall := decD_all u
  have hlen := decD_len 11 u (by omega)
  have ht : Lib.trimPrefix (Lib.decDigits u) [45] = Lib.decDigits u := by
    cases hc : Lib.decDigits u with
    | nil => exact absurd hc (decD_ne _)
    | cons c r =>
      rw [hc] at hall
      have hd : 48 ≤ c.toNat ∧ c.toNat ≤ 57 := by
        rw [List.all_cons, Bool.and_eq_true] at hall
        simpa [digitB] using hall.1
      have hne : ((45 : UInt8) == c) = false := by
        rw [beq_eq_false_iff_ne]; rintro rfl; simp at hd
      simp [Lib.trimPrefix, Lib.hasPrefix, List.isPrefixOf, hne]
  unfold numR
  simp only [ht]
  rw [if_neg, if_pos hall, if_neg (by omega), decD_val]
  rintro (h1 | h1 | ⟨h1, h2⟩)
  · exact decD_ne u h1
  · omega
  · by_cases h0 : 0 < u
    · exact decD_head u h0 h1
    · obtain rfl : u = 0 := by omega
      rw [Lib.decDigits_one (by omega)] at h2
      simp at h2
theorem num_neg (u : Nat) (h0 : 0 < u) (h : u < 1000000000000) : numR (45 :: Lib.decDigits u) = (-(u : Int), true) := by
  have hall := decD_all u
  have hlen := decD_len 11 u (by omega)
  have ht : Lib.trimPrefix (45 :: Lib.decDigits u) [45] = Lib.decDigits u := by simp [Lib.trimPrefix, Lib.hasPrefix]
  unfold numR
  simp only [ht]
  rw [if_neg, if_pos hall, if_pos (by simp), decD_val]
  rintro (h1 | h1 | ⟨h1, h2⟩)
  · exact decD_ne u h1
  · omega
  · exact decD_head u h0 h1
theorem num_itoa (n : Int) (h : -32768 ≤ n ∧ n ≤ 32767) : numR (Lib.itoa n) = (n, true) := by
  unfold Lib.itoa
  by_cases h0 : n < 0
  · rw [if_pos h0, num_neg _ (by omega) (by omega)]
    congr 1; omega
  · rw [if_neg h0, num_dig _ (by omega)]
    congr 1; omega
theorem reg_dig (a : Nat) (h : a ≤ 15) : regR (114 :: Lib.decDigits a) = (a : Int) := by
  have hn := num_dig a (by omega)
  show (if (numR (Lib.decDigits a)).2 && (decide (0 ≤ (numR (Lib.decDigits a)).1) && decide ((numR (Lib.decDigits a)).1 ≤ 15)) then (numR (Lib.decDigits a)).1 else -1) = _
  rw [hn]
  simp only
  rw [decide_eq_true (by omega : (0 : Int) ≤ (a : Int)), decide_eq_true (by omega : (a : Int) ≤ 15)]; rfl

def opX (x : Nat) : Nat := x / 16777216
def aX (x : Nat) : Nat := x / 1048576 % 16
def bX (x : Nat) : Nat := x / 65536 % 16
def immX (x : Nat) : Int := if 32768 ≤ x % 65536 then ((x % 65536 : Nat) : Int) - 65536 else ((x % 65536 : Nat) : Int)
/-- is a word an instruction's? -/
def decOk (x : Nat) : Bool := decide (opX x ≤ 24) && validP (opX x) (aX x) (bX x) (immX x)
/-- a word's line, in parts -/
def toks (x : Nat) : List (List UInt8) :=
  if decOk x then opAt (opX x) :: ((if hasA (opX x) then [114 :: Lib.decDigits (aX x)] else []) ++ ((if hasB (opX x) then [114 :: Lib.decDigits (bX x)] else []) ++ (if hasI (opX x) then [Lib.itoa (immX x)] else [])))
  else [wordName, Lib.decDigits x]
def spaced : List (List UInt8) → List UInt8
  | [] => []
  | [t] => t
  | t :: u :: r => t ++ 32 :: spaced (u :: r)
/-- what Write writes -/
def writeL (l : List Nat) : List UInt8 := joined 10 (l.map fun x => spaced (toks x))

/-- bytes of a part -/
def goodB (b : UInt8) : Bool := decide (b.toNat = 45) || (decide (48 ≤ b.toNat) && decide (b.toNat ≤ 57)) || (decide (97 ≤ b.toNat) && decide (b.toNat ≤ 122))
theorem good_of {b : UInt8} (h : goodB b = true) : blankA b = false ∧ b ≠ 59 ∧ b ≠ 10 ∧ b ≠ 58 ∧ b ≠ 32 := by
  have h' : b.toNat = 45 ∨ (48 ≤ b.toNat ∧ b.toNat ≤ 57) ∨ (97 ≤ b.toNat ∧ b.toNat ≤ 122) := by simpa [goodB, or_assoc] using h
  have n59 : b ≠ 59 := by rintro rfl; simp at h'
  have n10 : b ≠ 10 := by rintro rfl; simp at h'
  have n58 : b ≠ 58 := by rintro rfl; simp at h'
  have n32 : b ≠ 32 := by rintro rfl; simp at h'
  refine ⟨?_, n59, n10, n58, n32⟩
  unfold blankA
  have e1 : (b == 32) = false := beq_eq_false_iff_ne.2 n32
  by_cases h13 : b.toNat ≤ 13
  · omega
  · rw [e1, decide_eq_false h13]; simp
theorem good_dig (u : Nat) : (Lib.decDigits u).all goodB = true := by
  rw [List.all_eq_true]
  intro b hb
  have := List.all_eq_true.1 (decD_all u) b hb
  have hd : 48 ≤ b.toNat ∧ b.toNat ≤ 57 := by simpa [digitB] using this
  unfold goodB
  rw [decide_eq_true hd.1, decide_eq_true hd.2]; simp
theorem good_itoa (n : Int) : (Lib.itoa n).all goodB = true := by
  unfold Lib.itoa
  split
  · rw [List.all_cons, good_dig]; decide
  · exact good_dig _
theorem itoa_ne (n : Int) : Lib.itoa n ≠ [] := by
  unfold Lib.itoa
  split
  · simp
  · exact decD_ne _
theorem good_op : ∀ op : Fin 25, 1 ≤ op.val → (opAt op.val).all goodB = true ∧ opAt op.val ≠ [] ∧ opAt op.val ≠ wordName ∧ opOf (opAt op.val) = op.val := by decide +kernel
theorem decOk_parts {x : Nat} (h : decOk x = true) : opX x ≤ 24 ∧ 1 ≤ opX x ∧ validP (opX x) (aX x) (bX x) (immX x) = true := by
  simp only [decOk, Bool.and_eq_true, decide_eq_true_eq] at h
  exact ⟨h.1, (valid_parts h.2).1, h.2⟩
theorem toks_good (x : Nat) : toks x ≠ [] ∧ ∀ t ∈ toks x, t ≠ [] ∧ t.all goodB = true := by
  unfold toks
  cases hd : decOk x with
  | true =>
    obtain ⟨h1, h2, _⟩ := decOk_parts hd
    obtain ⟨g1, g2, _, _⟩ := good_op ⟨opX x, by omega⟩ h2
    refine ⟨by simp, fun t ht => ?_⟩
    rw [if_pos rfl] at ht
    rcases List.mem_cons.1 ht with rfl | ht
    · exact ⟨g2, g1⟩
    · rcases List.mem_append.1 ht with ht | ht
      · split at ht
        · simp only [List.mem_singleton] at ht
          subst ht
          exact ⟨by simp, by rw [List.all_cons, good_dig]; decide⟩
        · cases ht
      · rcases List.mem_append.1 ht with ht | ht
        · split at ht
          · simp only [List.mem_singleton] at ht
            subst ht
            exact ⟨by simp, by rw [List.all_cons, good_dig]; decide⟩
          · cases ht
        · split at ht
          · simp only [List.mem_singleton] at ht
            subst ht
            exact ⟨itoa_ne _, good_itoa _⟩
          · cases ht
  | false =>
    refine ⟨by simp, fun t ht => ?_⟩
    rw [if_neg (by simp)] at ht
    simp only [List.mem_cons, List.not_mem_nil, or_false] at ht
    rcases ht with rfl | rfl
    · exact ⟨by decide, by decide⟩
    · exact ⟨decD_ne _, good_dig _⟩
theorem spaced_mem : ∀ (ts : List (List UInt8)), (∀ t ∈ ts, t.all goodB = true) → ∀ b ∈ spaced ts, goodB b = true ∨ b = 32
  | [], _, b, hb => by cases hb
  | [t], h, b, hb => .inl (List.all_eq_true.1 (h t (by simp)) b hb)
  | t :: u :: r, h, b, hb => by
    simp only [spaced] at hb
    rcases List.mem_append.1 hb with hb | hb
    · exact .inl (List.all_eq_true.1 (h t (by simp)) b hb)
    · rcases List.mem_cons.1 hb with rfl | hb
      · exact .inr rfl
      · exact spaced_mem (u :: r) (fun t ht => h t (by simp [ht])) b hb
theorem fields_spaced : ∀ (ts : List (List UInt8)), (∀ t ∈ ts, t ≠ [] ∧ t.all goodB = true) → fieldsQ blankA [] (spaced ts) = ts
  | [], _ => rfl
  | [t], h => by
    have hb : ∀ b ∈ t, blankA b = false := fun b hb => (good_of (List.all_eq_true.1 (h t (by simp)).2 b hb)).1
    have := fieldsQ_app blankA t [] [] hb
    rw [List.append_nil, List.nil_append] at this
    show fieldsQ blankA [] t = [t]
    rw [this]
    simp [fieldsQ, (h t (by simp)).1]
  | t :: u :: r, h => by
    have hb : ∀ b ∈ t, blankA b = false := fun b hb => (good_of (List.all_eq_true.1 (h t (by simp)).2 b hb)).1
    have ih := fields_spaced (u :: r) (fun t ht => h t (by simp [ht]))
    simp only [spaced]
    rw [fieldsQ_app blankA t [] _ hb, List.nil_append]
    have h32 : blankA 32 = true := by decide
    simp only [fieldsQ, h32, if_true, if_neg (h t (by simp)).1, ih]
theorem takeWhile_all (p : UInt8 → Bool) : ∀ l : List UInt8, (∀ b ∈ l, p b = true) → l.takeWhile p = l
  | [], _ => rfl
  | b :: l, h => by rw [List.takeWhile_cons, if_pos (h b (by simp)), takeWhile_all p l fun x hx => h x (by simp [hx])]
theorem parts_toks (x : Nat) : lineParts (spaced (toks x)) = toks x := by
  have hg := toks_good x
  unfold lineParts fieldsB
  have e : (spaced (toks x)).takeWhile (· != 59) = spaced (toks x) := by
    refine takeWhile_all _ _ ?_
    intro b hb
    rw [bne_iff_ne]
    rcases spaced_mem (toks x) (fun t ht => (hg.2 t ht).2) b hb with h | h
    · exact (good_of h).2.1
    · subst h; decide
  rw [e, fields_spaced _ hg.2]
theorem line_no (x : Nat) : (10 : UInt8) ∉ spaced (toks x) := fun hb => by
  rcases spaced_mem (toks x) (fun t ht => ((toks_good x).2 t ht).2) 10 hb with h | h
  · exact (good_of h).2.2.1 rfl
  · cases h
theorem enc_dec (x : Nat) (h : x < 4294967296) : encV (opX x) (aX x) (bX x) (immX x) = (x : Int) := by
  unfold encV opX aX bX immX
  split <;> omega
theorem word_toks (x i : Nat) (hx : x < 4294967296) : wordP [] i (toks x) = some (x : Int) := by
  rw [word_same (A := []) (B := []) (fun _ => rfl)]
  unfold toks
  cases hd : decOk x with
  | false =>
    rw [if_neg (by simp)]
    have hn := num_dig x (by omega)
    have : wordNumR (Lib.decDigits x) = some (x : Int) := by
      unfold wordNumR
      rw [hn]
      simp only
      rw [decide_eq_true (by omega : (0 : Int) ≤ (x : Int)), decide_eq_true (by omega : (x : Int) < 4294967296)]; rfl
    simp only [wordR, if_true, List.length_cons, List.length_nil, Nat.zero_add, List.getD_cons_zero, this]
  | true =>
    rw [if_pos rfl]
    obtain ⟨h1, h2, h3⟩ := decOk_parts hd
    obtain ⟨_, _, g3, g4⟩ := good_op ⟨opX x, by omega⟩ h2
    simp only at g3 g4
    obtain ⟨v1, v2, v3, v4⟩ := valid_parts h3
    have he := enc_dec x hx
    have ha15 : aX x ≤ 15 := by unfold aX; omega
    have hb15 : bX x ≤ 15 := by unfold bX; omega
    have hra := reg_dig _ ha15
    have hrb := reg_dig _ hb15
    have hni := num_itoa _ v4
    have hA0 : hasA (opX x) = false → (aX x : Int) = 0 := fun h => by
      simp only [validP, Bool.and_eq_true] at h3
      have := h3.1.1.2
      rw [h] at this
      simpa [fitsP] using this
    have hB0 : hasB (opX x) = false → (bX x : Int) = 0 := fun h => by
      simp only [validP, Bool.and_eq_true] at h3
      have := h3.1.2
      rw [h] at this
      simpa [fitsP] using this
    have hI0 : hasI (opX x) = false → immX x = 0 := fun h => by
      simp only [validP, Bool.and_eq_true] at h3
      have := h3.2
      rw [h] at this
      simpa [fitsP] using this
    simp only [wordR, if_neg g3, g4, if_neg (by omega : ¬ opX x = 0)]
    generalize 114 :: Lib.decDigits (aX x) = ta at hra
    generalize 114 :: Lib.decDigits (bX x) = tb at hrb
    generalize Lib.itoa (immX x) = ti at hni
    have hend : wordEndR (opX x) (aX x) (bX x) (immX x) [] = some (x : Int) := by
      unfold wordEndR
      rw [if_pos rfl, if_pos h3, he]
    have hg : goalR [] i (opX x) ti = (immX x, true) := by
      unfold goalR
      rw [hni]; rfl
    have h3' : ∀ a b : Int, a = aX x → b = bX x → wR3 [] i (opX x) (hasI (opX x)) a b (if hasI (opX x) then [ti] else []) = some (x : Int) := by
      rintro a b rfl rfl
      unfold wR3 immTake
      cases hI : hasI (opX x) with
      | false =>
        simp only [Bool.false_eq_true, if_false]
        rw [← hI0 hI]; exact hend
      | true =>
        simp only [if_true, hg]
        exact hend
    have h2' : ∀ a : Int, a = aX x → wR2 [] i (opX x) (hasB (opX x)) (hasI (opX x)) a ((if hasB (opX x) then [tb] else []) ++ (if hasI (opX x) then [ti] else [])) = some (x : Int) := by
      rintro a rfl
      unfold wR2
      cases hB : hasB (opX x) with
      | false =>
        simp only [Bool.false_eq_true, if_false, List.nil_append, regTake_false]
        exact h3' _ _ rfl (hB0 hB).symm
      | true =>
        simp only [if_true, List.cons_append, List.nil_append]
        rw [regTake_pos (by omega), hrb]
        exact h3' _ _ rfl rfl
    unfold wR1
    cases hA : hasA (opX x) with
    | false =>
      simp only [Bool.false_eq_true, if_false, List.nil_append, regTake_false]
      exact h2' _ (hA0 hA).symm
    | true =>
      simp only [if_true, List.cons_append, List.nil_append]
      rw [regTake_pos (by omega), hra]
      exact h2' _ rfl
def tokL : Nat → List Nat → List (List (List UInt8) × Nat)
  | _, [] => []
  | a, x :: l => (toks x, a + 1) :: tokL (a + 1) l
theorem first_toks : ∀ (l : List Nat) (lines : List (List (List UInt8) × Nat)) (a : Nat), firstGo [] lines a (l.map fun x => spaced (toks x)) = .ok ([], lines ++ tokL a l)
  | [], lines, a => by simp [firstGo, tokL]
  | x :: l, lines, a => by
    obtain ⟨h1, h2⟩ := toks_good x
    cases ht : toks x with
    | nil => exact absurd ht h1
    | cons p ps =>
      have hp := parts_toks x
      rw [ht] at hp
      have hs : Lib.hasSuffix p [58] = false := by
        cases hs : Lib.hasSuffix p [58] with
        | false => rfl
        | true =>
          have hl := (suffix_last p).1 hs
          have hm := List.mem_of_getLast? hl
          exact absurd rfl (good_of (List.all_eq_true.1 (h2 p (by rw [ht]; simp)).2 58 hm)).2.2.2.1
      rw [List.map_cons, ht, firstGo_word hp hs, first_toks l]
      simp [tokL, ht]
theorem read_toks : ∀ (l : List Nat) (i a : Nat) (out : List Int), (∀ x ∈ l, x < 4294967296) → out.length + l.length ≤ 512 → readGo [] i out (tokL a l) = (out ++ l.map fun (x : Nat) => (x : Int), 0, 0)
  | [], i, a, out, _, _ => by simp [tokL, readGo]
  | x :: l, i, a, out, hx, hl => by
    rw [List.length_cons] at hl
    rw [tokL, readGo_some (word_toks x i (hx x (by simp))) (by omega), read_toks l _ _ _ (fun y hy => hx y (by simp [hy])) (by simp; omega)]
    simp
theorem trim_joined (ls : List (List UInt8)) (h0 : ls ≠ []) : Lib.trimSuffix (joined 10 ls) [10] = (joined 10 ls).dropLast := by
  have h := joined_drop 10 ls h0
  unfold Lib.trimSuffix
  rw [if_pos]
  · rw [List.dropLast_eq_take]; rfl
  · rw [h]; simp [Lib.hasSuffix]
/-- what Write writes is read as what it was -/
theorem read_write (l : List Nat) (hx : ∀ x ∈ l, x < 4294967296) (hl : l.length ≤ 512) : readP (writeL l) = (l.map fun (x : Nat) => (x : Int), 0, 0) := by
  by_cases h0 : l = []
  · subst h0; rfl
  · have hne : (l.map fun x => spaced (toks x)) ≠ [] := by simpa using h0
    have hlines : textLines (writeL l) = l.map fun x => spaced (toks x) := by
      unfold textLines writeL
      rw [trim_joined _ hne, cutAt_trim _ _ hne]
      intro y hy
      obtain ⟨x, _, rfl⟩ := List.mem_map.1 hy
      exact line_no x
    have hf : firstP (writeL l) = .ok ([], tokL 0 l) := by
      unfold firstP
      rw [hlines, first_toks]; simp
    unfold readP
    rw [hf]
    exact (read_toks l 0 0 [] hx (by simpa using hl)).trans (by simp)
end Go.Proofs.YtapjfcljbdlnkaaGreatDoor
