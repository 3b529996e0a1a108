/- strings.FieldsFunc at a predicate that is true of ASCII scalars alone: it goes by bytes. Plain lists; no program. -/
import Derived.Test.YtapjfcljbdlnkaaGreatDoorCut
import Derived.Lib.FieldsP
namespace Go.Proofs.YtapjfcljbdlnkaaGreatDoor
open Go Go.Lib
set_option maxRecDepth 100000

/-- the non-empty pieces between the bytes that q is true of -/
def fieldsQ (q : UInt8 → Bool) : List UInt8 → List UInt8 → List (List UInt8)
  | cur, [] => if cur = [] then [] else [cur]
  | cur, b :: l => if q b then (if cur = [] then fieldsQ q [] l else cur :: fieldsQ q [] l) else fieldsQ q (cur ++ [b]) l
def fieldsB (q : UInt8 → Bool) (l : List UInt8) : List (List UInt8) := fieldsQ q [] l

theorem fieldsQ_app (q : UInt8 → Bool) : ∀ (seg cur l : List UInt8), (∀ b ∈ seg, q b = false) → fieldsQ q cur (seg ++ l) = fieldsQ q (cur ++ seg) l
  | [], cur, l, _ => by simp
  | b :: seg, cur, l, h => by
    have hb : q b = false := h b (by simp)
    simp only [List.cons_append, fieldsQ, hb, Bool.false_eq_true, if_false]
    rw [fieldsQ_app q seg (cur ++ [b]) l (fun x hx => h x (by simp [hx]))]
    simp

theorem decode_bytes (s : ByteArray) (i : Nat) (hi : i < s.size) : 1 ≤ (Utf8.decode s i).2 ∧ i + (Utf8.decode s i).2 ≤ s.size ∧
    ((s.get! i).toNat < 128 → Utf8.decode s i = ((s.get! i).toNat, 1)) ∧
    (128 ≤ (s.get! i).toNat → 128 ≤ (Utf8.decode s i).1 ∧ ∀ j, i ≤ j → j < i + (Utf8.decode s i).2 → 128 ≤ (s.get! j).toNat) := by
  rw [decode_at]
  generalize hb0 : (s.get! i).toNat = b0
  generalize hb1 : (s.get! (i + 1)).toNat = b1
  generalize hb2 : (s.get! (i + 2)).toNat = b2
  generalize hb3 : (s.get! (i + 3)).toNat = b3
  have key : ∀ w, (w = 1 ∨ (w = 2 ∧ 128 ≤ b1) ∨ (w = 3 ∧ 128 ≤ b1 ∧ 128 ≤ b2) ∨ (w = 4 ∧ 128 ≤ b1 ∧ 128 ≤ b2 ∧ 128 ≤ b3)) → 128 ≤ b0 → ∀ j, i ≤ j → j < i + w → 128 ≤ (s.get! j).toNat := by
    intro w hw h0 j h1 h2
    have hj : j = i ∨ j = i + 1 ∨ j = i + 2 ∨ j = i + 3 := by omega
    rcases hj with rfl | rfl | rfl | rfl
    · omega
    · omega
    · omega
    · omega
  unfold decodeN
  split
  · exact ⟨by simp, by simp; omega, fun _ => rfl, fun h => by omega⟩
  · split
    · rename_i h0 h1
      split
      · refine ⟨by simp, by simp; omega, fun h => by omega, fun _ => ⟨by simp; omega, key 2 (by omega) (by omega)⟩⟩
      · refine ⟨by simp, by simp; omega, fun h => by omega, fun _ => ⟨by simp, key 1 (by omega) (by omega)⟩⟩
    · split
      · rename_i h0 _ h1
        split
        · refine ⟨by simp, by simp; omega, fun h => by omega, fun _ => ⟨by simp; omega, key 3 (by omega) (by omega)⟩⟩
        · refine ⟨by simp, by simp; omega, fun h => by omega, fun _ => ⟨by simp, key 1 (by omega) (by omega)⟩⟩
      · split
        · rename_i h0 _ _ h1
          split
          · refine ⟨by simp, by simp; omega, fun h => by omega, fun _ => ⟨by simp; omega, key 4 (by omega) (by omega)⟩⟩
          · refine ⟨by simp, by simp; omega, fun h => by omega, fun _ => ⟨by simp, key 1 (by omega) (by omega)⟩⟩
        · refine ⟨by simp, by simp; omega, fun h => by omega, fun _ => ⟨by simp, key 1 (by omega) (by omega)⟩⟩

theorem get_at (s : ByteArray) (i : Nat) (hi : i < s.size) : s.data.toList[i]? = some (s.get! i) := by
  have h : i < s.data.size := hi
  simp only [ByteArray.get!, Array.getElem?_toList]
  rw [Array.getElem?_eq_getElem h, getElem!_pos s.data i h]

theorem extract_piece (s : ByteArray) (a b : Nat) : s.extract a b = bs ((s.data.toList.drop a).take (b - a)) := by
  apply bs_inj
  rw [bs_data]
  simp

theorem fields_eq (p : Nat → Bool) (hp : ∀ r, 128 ≤ r → p r = false) (s : ByteArray) : goFieldsP p s = (fieldsB (fun b => p b.toNat) s.data.toList).map bs := by
  let q : UInt8 → Bool := fun b => p b.toNat
  have hlen : s.data.toList.length = s.size := by rw [Array.length_toList]; rfl
  have drop_at : ∀ i, i < s.size → s.data.toList.drop i = s.get! i :: s.data.toList.drop (i + 1) := fun i hi => by
    have := get_at s i hi
    rw [List.drop_eq_getElem_cons (by omega)]
    rw [List.getElem?_eq_getElem (by omega)] at this
    rw [Option.some.inj this]
  have seg : ∀ a b, a < b → b ≤ s.size → (∀ j, a ≤ j → j < b → q (s.get! j) = false) →
      s.data.toList.drop a = (s.data.toList.drop a).take (b - a) ++ s.data.toList.drop b ∧ (s.data.toList.drop a).take (b - a) ≠ [] ∧ ∀ x ∈ (s.data.toList.drop a).take (b - a), q x = false := fun a b hab hb hs => by
    refine ⟨?_, ?_, ?_⟩
    · have h := (List.take_append_drop (b - a) (s.data.toList.drop a)).symm
      rw [List.drop_drop, show a + (b - a) = b by omega] at h
      exact h
    · intro e
      have := congrArg List.length e
      simp at this; omega
    · intro x hx
      obtain ⟨k, hk, rfl⟩ := List.mem_iff_getElem.1 hx
      simp at hk
      have := get_at s (a + k) (by omega)
      rw [List.getElem?_eq_getElem (by omega)] at this
      simp only [List.getElem_take, List.getElem_drop]
      rw [Option.some.inj this]
      exact hs _ (by omega) (by omega)
  have fin : ∀ (f pos : Nat) (st : Option Nat) (acc : List (Nat × Nat)), ¬ pos < s.size → pos ≤ s.size →
      (∀ a, st = some a → a < pos ∧ ∀ j, a ≤ j → j < pos → q (s.get! j) = false) →
      (closeSpans s (spansFromP p s f pos st acc)).map (fun x => s.extract x.1 x.2) = acc.map (fun x => s.extract x.1 x.2) ++ (fieldsB q (s.data.toList.drop (st.getD pos))).map bs := fun f pos st acc hlt hpos hst => by
    rw [spansFromP_end p s f pos st acc hlt]
    obtain rfl : pos = s.size := by omega
    cases st with
    | none =>
      have h0 : s.data.toList.drop s.size = [] := List.drop_eq_nil_of_le (by omega)
      simp only [closeSpans, Option.getD_none, h0, fieldsB, fieldsQ, if_true, List.map_nil, List.append_nil]
    | some a =>
      obtain ⟨ha, hs⟩ := hst a rfl
      obtain ⟨hseg, hne, hall⟩ := seg a s.size ha (by omega) hs
      simp only [closeSpans, Option.getD_some, List.map_append, List.map_cons, List.map_nil]
      rw [extract_piece]
      have h0 : s.data.toList.drop s.size = [] := List.drop_eq_nil_of_le (by omega)
      rw [h0, List.append_nil] at hseg
      have hall' : ∀ x ∈ s.data.toList.drop a, q x = false := by rw [hseg]; exact hall
      have hne' : s.data.toList.drop a ≠ [] := by rw [hseg]; exact hne
      have h1 := fieldsQ_app q (s.data.toList.drop a) [] [] hall'
      rw [List.append_nil, List.nil_append] at h1
      unfold fieldsB
      rw [h1]
      simp only [fieldsQ, if_neg hne', List.map_cons, List.map_nil]
      rw [← hseg]
  have main : ∀ (f pos : Nat) (st : Option Nat) (acc : List (Nat × Nat)), s.size ≤ pos + f → pos ≤ s.size →
      (∀ a, st = some a → a < pos ∧ ∀ j, a ≤ j → j < pos → q (s.get! j) = false) →
      (closeSpans s (spansFromP p s f pos st acc)).map (fun x => s.extract x.1 x.2) = acc.map (fun x => s.extract x.1 x.2) ++ (fieldsB q (s.data.toList.drop (st.getD pos))).map bs := by
    intro f
    induction f with
    | zero =>
      intro pos st acc hf hpos hst
      exact fin 0 pos st acc (by omega) hpos hst
    | succ f ih =>
      intro pos st acc hf hpos hst
      by_cases hlt : pos < s.size
      · obtain ⟨w1, w2, hlo, hhi⟩ := decode_bytes s pos hlt
        simp only [spansFromP, if_pos hlt]
        by_cases hb : (s.get! pos).toNat < 128
        · have hd := hlo hb
          simp only [hd]
          by_cases hq : p (s.get! pos).toNat = true
          · have hq' : q (s.get! pos) = true := hq
            simp only [hq, if_true]
            cases st with
            | none =>
              rw [ih (pos + 1) none acc (by omega) (by omega) (fun a h => by cases h)]
              simp only [Option.getD_none]
              rw [drop_at pos hlt]
              simp only [fieldsB, fieldsQ, hq', if_true]
            | some a =>
              obtain ⟨ha, hs⟩ := hst a rfl
              rw [ih (pos + 1) none (acc ++ [(a, pos)]) (by omega) (by omega) (fun a h => by cases h)]
              simp only [Option.getD_none, Option.getD_some]
              obtain ⟨hseg, hne, hall⟩ := seg a pos ha (by omega) hs
              rw [hseg, drop_at pos hlt]
              unfold fieldsB
              rw [fieldsQ_app q _ _ _ hall]
              simp only [List.nil_append, fieldsQ, hq', if_true, if_neg hne, List.map_append, List.map_cons, List.map_nil, List.append_assoc, List.singleton_append]
              rw [extract_piece]
          · have hq' : q (s.get! pos) = false := by simpa using hq
            simp only [hq, Bool.false_eq_true, if_false]
            have ext : ∀ a, a ≤ pos → (∀ j, a ≤ j → j < pos → q (s.get! j) = false) → ∀ j, a ≤ j → j < pos + 1 → q (s.get! j) = false := fun a ha hs j h1 h2 => by
              rcases Nat.lt_or_ge j pos with h3 | h3
              · exact hs j h1 h3
              · obtain rfl : j = pos := by omega
                exact hq'
            cases st with
            | none =>
              rw [ih (pos + 1) (some pos) acc (by omega) (by omega) (fun a h => by cases h; exact ⟨by omega, ext pos (Nat.le_refl _) (fun j h1 h2 => by omega)⟩)]
              rfl
            | some a =>
              obtain ⟨ha, hs⟩ := hst a rfl
              rw [ih (pos + 1) (some a) acc (by omega) (by omega) (fun a' h => by cases h; exact ⟨by omega, ext a (by omega) hs⟩)]
              rfl
        · obtain ⟨hr, hall⟩ := hhi (by omega)
          simp only [hp _ hr, Bool.false_eq_true, if_false]
          have ext : ∀ a, (∀ j, a ≤ j → j < pos → q (s.get! j) = false) → ∀ j, a ≤ j → j < pos + (Utf8.decode s pos).2 → q (s.get! j) = false := fun a hs j h1 h2 => by
            rcases Nat.lt_or_ge j pos with h3 | h3
            · exact hs j h1 h3
            · exact hp _ (hall j h3 h2)
          cases st with
          | none =>
            rw [ih (pos + (Utf8.decode s pos).2) (some pos) acc (by omega) (by omega) (fun a h => by cases h; exact ⟨by omega, ext pos (fun j h1 h2 => by omega)⟩)]
            rfl
          | some a =>
            obtain ⟨ha, hs⟩ := hst a rfl
            rw [ih (pos + (Utf8.decode s pos).2) (some a) acc (by omega) (by omega) (fun a' h => by cases h; exact ⟨by omega, ext a hs⟩)]
            rfl
      · exact fin (f + 1) pos st acc hlt hpos hst
  have h := main s.size 0 none [] (by omega) (by omega) (fun a h => by cases h)
  simpa [goFieldsP, spansOfP] using h
end Go.Proofs.YtapjfcljbdlnkaaGreatDoor
