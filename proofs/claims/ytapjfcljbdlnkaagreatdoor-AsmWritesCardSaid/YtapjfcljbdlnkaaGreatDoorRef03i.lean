/- What asm's numbers and words are against the reference's. -/
import Derived.Test.YtapjfcljbdlnkaaGreatDoorRef03h
namespace Go.Proofs.YtapjfcljbdlnkaaGreatDoor
open Go Go.RowKit Go.Lib
set_option maxRecDepth 100000

theorem pm_ok : ∀ (t : List UInt8) (acc : Nat), t.all digitB = true → (acc + 1) * 10 ^ t.length ≤ 1000000000000000000 → Lib.parseUintM (2 ^ 64 - 1) acc t = .ok (t.foldl (fun n b => 10 * n + (b.toNat - 48)) acc)
  | [], acc, _, _ => rfl
  | c :: r, acc, h, hb => by
    rw [List.all_cons, Bool.and_eq_true] at h
    have hd : 48 ≤ c.toNat ∧ c.toNat ≤ 57 := by simpa [digitB] using h.1
    have hpos : 0 < 10 ^ r.length := Nat.pow_pos (by omega)
    have e : (acc + 1) * 10 ^ (c :: r).length = (acc + 1) * 10 * 10 ^ r.length := by rw [List.length_cons, Nat.pow_succ, Nat.mul_assoc, Nat.mul_comm 10]
    rw [e] at hb
    have h1 : (acc + 1) * 10 ≤ (acc + 1) * 10 * 10 ^ r.length := Nat.le_mul_of_pos_right _ hpos
    have h2 : (acc * 10 + (c.toNat - 48) + 1) * 10 ^ r.length ≤ (acc + 1) * 10 * 10 ^ r.length := Nat.mul_le_mul_right _ (by omega)
    have ih := pm_ok r (acc * 10 + (c.toNat - 48)) h.2 (by omega)
    rw [Lib.parseUintM, if_pos hd, if_neg (by omega), if_neg (by omega), ih, List.foldl_cons, Nat.mul_comm 10 acc]
theorem pm_low : ∀ (t : List UInt8) (acc u : Nat), Lib.parseUintM (2 ^ 64 - 1) acc t = .ok u → acc * 10 ^ t.length ≤ u
  | [], acc, u, h => by
    simp only [Lib.parseUintM] at h
    cases h
    simp
  | c :: r, acc, u, h => by
    rw [Lib.parseUintM] at h
    split at h
    · split at h
      · cases h
      · split at h
        · cases h
        · have ih := pm_low r _ u h
          have e : acc * 10 ^ (c :: r).length = acc * 10 * 10 ^ r.length := by rw [List.length_cons, Nat.pow_succ, Nat.mul_assoc, Nat.mul_comm 10]
          have h2 : acc * 10 * 10 ^ r.length ≤ (acc * 10 + (c.toNat - 48)) * 10 ^ r.length := Nat.mul_le_mul_right _ (by omega)
          omega
    · cases h
theorem pu_ok {t : List UInt8} (h0 : t ≠ []) (h : t.all digitB = true) (hl : t.length ≤ 12) : Lib.parseUintB 64 t = .ok (valR t) := by
  unfold Lib.parseUintB
  rw [if_neg h0]
  have h1 : 10 ^ t.length ≤ 10 ^ 12 := Nat.pow_le_pow_right (by omega) hl
  exact pm_ok t 0 h (by omega)
theorem pu_big {t : List UInt8} {u : Nat} (h : t.all digitB = true) (h48 : t.head? ≠ some 48) (hl : 12 < t.length) (hu : Lib.parseUintB 64 t = .ok u) : 1000000000000 ≤ u := by
  cases t with
  | nil => simp at hl
  | cons c r =>
    unfold Lib.parseUintB at hu
    rw [if_neg (by simp)] at hu
    rw [List.all_cons, Bool.and_eq_true] at h
    have hd : 48 ≤ c.toNat ∧ c.toNat ≤ 57 := by simpa [digitB] using h.1
    have hne : c.toNat ≠ 48 := fun e => h48 (by simp [UInt8.toNat_inj.1 (show c.toNat = (48 : UInt8).toNat from e)])
    rw [Lib.parseUintM, if_pos hd, if_neg (by omega), if_neg (by omega)] at hu
    have := pm_low r _ u hu
    have hl2 : 12 ≤ r.length := by simp at hl; omega
    have h1 : 10 ^ 12 ≤ 10 ^ r.length := Nat.pow_le_pow_right (by omega) hl2
    have h2 : 1 * 10 ^ r.length ≤ (0 * 10 + (c.toNat - 48)) * 10 ^ r.length := Nat.mul_le_mul_right _ (by omega)
    omega
/-- asm's number against the reference's -/
def NumLaw (s : List UInt8) : Prop :=
  (decimalP s = false ∧ (numP s).2 = false ∧ (numR s).2 = false ∧ plainR s = false) ∨
  (decimalP s = true ∧ (numR s).2 = true ∧ numP s = numR s) ∨
  (decimalP s = true ∧ (numR s).2 = false ∧ plainR s = true ∧ ((numP s).2 = true → 1000000000000 ≤ (numP s).1 ∨ (numP s).1 ≤ -1000000000000))
theorem numP_false {s : List UInt8} (h : decimalP s = false) : (numP s).2 = false := by
  unfold numP
  split
  · exact h
  · rfl
  · rfl
theorem num_law (s : List UInt8) : NumLaw s := by
  obtain ⟨t, ht⟩ : ∃ t, t = Lib.trimPrefix s [45] := ⟨_, rfl⟩
  have hs : s = 45 :: t ∨ (s = t ∧ t.head? ≠ some 45) := by
    cases s with
    | nil => right; rw [ht]; exact ⟨rfl, by simp [Lib.trimPrefix]⟩
    | cons c r =>
      by_cases hc : c = 45
      · left; subst hc; rw [ht]; simp [Lib.trimPrefix, Lib.hasPrefix]
      · right; rw [ht]; simp [Lib.trimPrefix, Lib.hasPrefix, Ne.symm hc, hc]
  have hD : decimalP s = (t.all digitB && (s == [48] || (t != [] && t.head? != some 48))) := by rw [ht]; rfl
  have hR : numR s = if t = [] ∨ 12 < t.length ∨ (t.head? = some 48 ∧ 1 < s.length) then (0, false) else if t.all digitB then (if t.length < s.length then -(valR t : Int) else (valR t : Int), true) else (0, false) := by rw [ht]; rfl
  have hP : plainR s = if t = [] ∨ t.head? = some 48 then false else t.all digitB := by rw [ht]; rfl
  clear ht
  by_cases h0 : t = []
  · have hd : decimalP s = false := by
      rw [hD, h0]
      rcases hs with rfl | ⟨rfl, _⟩
      · simp [h0]
      · simp [h0]
    exact .inl ⟨hd, numP_false hd, by rw [hR, if_pos (.inl h0)], by rw [hP, if_pos (.inl h0)]⟩
  cases ha : t.all digitB with
  | false =>
    have hd : decimalP s = false := by rw [hD, ha]; rfl
    refine .inl ⟨hd, numP_false hd, ?_, ?_⟩
    · rw [hR, ha]; split <;> rfl
    · rw [hP, ha]; split <;> rfl
  | true =>
    by_cases h48 : t.head? = some 48
    · by_cases hl : 1 < s.length
      · have hd : decimalP s = false := by
          rw [hD]
          have : (s == [48]) = false := by
            rw [beq_eq_false_iff_ne]; intro e; rw [e] at hl; simp at hl
          rw [this, h48]; simp
        exact .inl ⟨hd, numP_false hd, by rw [hR, if_pos (.inr (.inr ⟨h48, hl⟩))], by rw [hP, if_pos (.inr h48)]⟩
      · have hs48 : s = [48] := by
          rcases hs with rfl | ⟨rfl, _⟩
          · exfalso
            have := List.length_pos_iff.2 h0
            simp at hl; exact h0 hl
          · cases s with
            | nil => exact absurd rfl h0
            | cons c r =>
              simp at hl h48
              rw [h48, hl]
        subst hs48
        exact .inr (.inl ⟨by decide, by decide, by decide⟩)
    · have hd : decimalP s = true := by
        rw [hD, ha]
        have : (t != []) = true := by simpa using h0
        have h2 : (t.head? != some 48) = true := by simpa using h48
        rw [this, h2]; simp
      have hpi : Lib.parseIntB 64 s = match Lib.parseUintB 64 t with
        | .ok u => if ¬ (s = 45 :: t) ∧ 2 ^ 63 ≤ u then .range else if s = 45 :: t ∧ 2 ^ 63 < u then .range else .ok (if s = 45 :: t then -(u : Int) else u)
        | .range => .range
        | x => (match x with | .ok _ => .range | .range => .range | _ => Lib.parseIntB 64 s) := by
        rcases hs with rfl | ⟨rfl, h45⟩
        · simp only [Lib.parseIntB]
          have : (45 : UInt8).toNat = 45 := rfl
          simp only [this, or_true, if_true]
          cases Lib.parseUintB 64 t <;> simp
        · cases s with
          | nil => exact absurd rfl h0
          | cons c r =>
            have hdc : 48 ≤ c.toNat ∧ c.toNat ≤ 57 := by
              rw [List.all_cons, Bool.and_eq_true] at ha
              simpa [digitB] using ha.1
            have e1 : ¬ (c.toNat = 43 ∨ c.toNat = 45) := by omega
            have e2 : ¬ (c.toNat = 45) := by omega
            have e3 : ¬ (c :: r = 45 :: c :: r) := by
              intro e
              have := congrArg List.length e
              simp at this
            simp only [Lib.parseIntB, if_neg e1]
            cases Lib.parseUintB 64 (c :: r) <;> simp [e2, e3]
      have hlen : s = 45 :: t ↔ t.length < s.length := by
        rcases hs with rfl | ⟨rfl, _⟩
        · simp
        · simp only [Nat.lt_irrefl, iff_false]
          intro e
          have := congrArg List.length e
          simp at this
      by_cases hl : t.length ≤ 12
      · have hu := pu_ok h0 ha hl
        have hv := valR_lt t ha
        have h1 : 10 ^ t.length ≤ 10 ^ 12 := Nat.pow_le_pow_right (by omega) hl
        rw [hu] at hpi
        simp only at hpi
        rw [if_neg (by omega), if_neg (by omega)] at hpi
        have hnP : numP s = (if s = 45 :: t then -(valR t : Int) else valR t, true) := by
          unfold numP
          rw [hpi]
          simp only [hd]
        have hnR : numR s = (if t.length < s.length then -(valR t : Int) else (valR t : Int), true) := by
          rw [hR, if_neg, if_pos ha]
          rintro (h | h | ⟨h, _⟩)
          · exact h0 h
          · omega
          · exact h48 h
        refine .inr (.inl ⟨hd, by rw [hnR], ?_⟩)
        rw [hnP, hnR]
        by_cases hc : s = 45 :: t
        · rw [if_pos hc, if_pos (hlen.1 hc)]
        · rw [if_neg hc, if_neg (fun h => hc (hlen.2 h))]
      · refine .inr (.inr ⟨hd, by rw [hR, if_pos (.inr (.inl (by omega)))], ?_, fun h2 => ?_⟩)
        · rw [hP, if_neg, ha]
          rintro (h | h)
          · exact h0 h
          · exact h48 h
        · cases hu : Lib.parseUintB 64 t with
          | ok u =>
            have hb := pu_big ha h48 (by omega) hu
            rw [hu] at hpi
            simp only at hpi
            by_cases hc : s = 45 :: t
            · by_cases hr : 2 ^ 63 < u
              · rw [if_neg (fun h => h.1 hc), if_pos ⟨hc, hr⟩] at hpi
                unfold numP at h2
                rw [hpi] at h2
                cases h2
              · rw [if_neg (fun h => h.1 hc), if_neg (fun h => hr h.2), if_pos hc] at hpi
                right
                unfold numP
                rw [hpi]
                simp only
                omega
            · by_cases hr : 2 ^ 63 ≤ u
              · rw [if_pos ⟨hc, hr⟩] at hpi
                unfold numP at h2
                rw [hpi] at h2
                cases h2
              · rw [if_neg (fun h => hr h.2), if_neg (fun h => hc h.1), if_neg hc] at hpi
                left
                unfold numP
                rw [hpi]
                simp only
                omega
          | range =>
            rw [hu] at hpi
            simp only at hpi
            unfold numP at h2
            rw [hpi] at h2
            cases h2
          | _ =>
            exfalso
            have h3 : ∀ (t : List UInt8) (acc : Nat), t.all digitB = true → (∃ u, Lib.parseUintM (2 ^ 64 - 1) acc t = .ok u) ∨ Lib.parseUintM (2 ^ 64 - 1) acc t = .range := by
              intro t
              induction t with
              | nil => intro acc _; exact .inl ⟨acc, rfl⟩
              | cons c r ih =>
                intro acc h
                rw [List.all_cons, Bool.and_eq_true] at h
                have hd : 48 ≤ c.toNat ∧ c.toNat ≤ 57 := by simpa [digitB] using h.1
                rw [Lib.parseUintM, if_pos hd]
                split
                · exact .inr rfl
                · split
                  · exact .inr rfl
                  · exact ih _ h.2
            unfold Lib.parseUintB at hu
            rw [if_neg h0] at hu
            rcases h3 t 0 ha with ⟨u, h⟩ | h <;> (rw [h] at hu; cases hu)
/-- numbers that are not too great are the same -/
theorem num_same {s : List UInt8} {P : Int → Prop} (hP : ∀ n, P n → -1000000000000 < n ∧ n < 1000000000000) :
    ((numP s).2 = true ∧ P (numP s).1 ↔ (numR s).2 = true ∧ P (numR s).1) ∧ ((numR s).2 = true → numP s = numR s) := by
  rcases num_law s with ⟨_, h1, h2, _⟩ | ⟨_, h1, h2⟩ | ⟨_, h1, _, h2⟩
  · rw [h1, h2]; simp
  · rw [h2]; simp
  · rw [h1]
    refine ⟨⟨fun h => ?_, fun h => by simp at h⟩, fun h => by cases h⟩
    have h3 := hP _ h.2
    rcases h2 h.1 with h4 | h4 <;> omega
theorem reg_same (x : List UInt8) : ((regP x).2 = true ↔ ¬ regR x < 0) ∧ ((regP x).2 = true → (regP x).1 = regR x) := by
  cases x with
  | nil => exact ⟨by decide, by decide⟩
  | cons c t =>
    by_cases hc : c = 114
    · subst hc
      have e1 : Lib.trimPrefix (114 :: t) [114] = t := by simp [Lib.trimPrefix, Lib.hasPrefix]
      have e2 : Lib.hasPrefix (114 :: t) [114] = true := by simp [Lib.hasPrefix]
      have hp : regP (114 :: t) = ((numP t).1, (numP t).2 && decide (0 ≤ (numP t).1) && decide ((numP t).1 < 16)) := by
        unfold regP; rw [e1, e2]; simp
      have hr : regR (114 :: t) = if (numR t).2 && (decide (0 ≤ (numR t).1) && decide ((numR t).1 ≤ 15)) then (numR t).1 else -1 := rfl
      have hn := num_same (s := t) (P := fun n => 0 ≤ n ∧ n < 16) (fun n h => by omega)
      rw [hp, hr]
      simp only [Bool.and_eq_true, decide_eq_true_eq]
      by_cases h : (numR t).2 = true ∧ 0 ≤ (numR t).1 ∧ (numR t).1 < 16
      · have h' := hn.1.2 h
        have he := hn.2 h.1
        rw [if_pos ⟨h.1, h.2.1, by omega⟩]
        exact ⟨⟨fun _ => by omega, fun _ => ⟨⟨h'.1, h'.2.1⟩, h'.2.2⟩⟩, fun _ => by rw [he]⟩
      · have h' : ¬ ((numP t).2 = true ∧ 0 ≤ (numP t).1 ∧ (numP t).1 < 16) := fun q => h (hn.1.1 q)
        rw [if_neg (fun q => h ⟨q.1, q.2.1, by omega⟩)]
        exact ⟨⟨fun q => absurd ⟨q.1.1, q.1.2, q.2⟩ h', fun q => by omega⟩, fun q => absurd ⟨q.1.1, q.1.2, q.2⟩ h'⟩
    · have hp : (regP (c :: t)).2 = false := by
        have : Lib.hasPrefix (c :: t) [114] = false := by
          have e : ((114 : UInt8) == c) = false := by simpa using Ne.symm hc
          simp [Lib.hasPrefix, List.isPrefixOf, e]
        unfold regP; rw [this]; simp
      have hr : regR (c :: t) = -1 := by
        unfold regR
        split
        · rename_i q h
          exact absurd (List.cons.inj h).1 hc
        · rfl
      rw [hp, hr]
      exact ⟨⟨fun h => (by cases h), fun h => (by omega)⟩, fun h => (by cases h)⟩
theorem wordNum_same (x : List UInt8) : wordNum x = wordNumR x := by
  have hn := num_same (s := x) (P := fun n => 0 ≤ n ∧ n < 4294967296) (fun n h => by omega)
  unfold wordNum wordNumR
  simp only [Bool.and_eq_true, decide_eq_true_eq]
  by_cases h : (numR x).2 = true ∧ 0 ≤ (numR x).1 ∧ (numR x).1 < 4294967296
  · rw [if_pos h, if_pos (hn.1.2 h), hn.2 h.1]
  · rw [if_neg h, if_neg (fun q => h (hn.1.1 q))]
end Go.Proofs.YtapjfcljbdlnkaaGreatDoor
