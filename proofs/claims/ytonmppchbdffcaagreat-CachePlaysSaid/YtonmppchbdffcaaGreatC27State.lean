/- The law's own state: three rows of six blocks, and which of them are set. -/
import Derived.Test.YtonmppchbdffcaaGreatDiskPut
namespace Go.Proofs.YtonmppchbdffcaaGreat
open Go Go.RowKit Go.Lib
set_option maxRecDepth 100000

/-- block S is a state: 18 blocks, 18 flags (row by row) -/
structure StAt (w : World) (S : Nat) (ds : List Dat) (bs : List Bool) : Prop where
  mem : ∃ cs, w.heap[S]? = some (.cells cs 40 (0, 0)) ∧ cs.size = 1170 ∧ (∀ (i : Nat) (d : Dat), ds[i]? = some d → ∀ (j : Nat) (v : Value), (dC d)[j]? = some v → cs[64 * i + j]? = some v) ∧ ∀ (i : Nat) (b : Bool), bs[i]? = some b → cs[1152 + i]? = some (.bool b)
  dl : ds.length = 18
  bl : bs.length = 18
  dz : ∀ d ∈ ds, d.length = 64
theorem StAt.lt {w : World} {S : Nat} {ds : List Dat} {bs : List Bool} (h : StAt w S ds bs) : S < w.heap.size := by
  obtain ⟨cs, h1, -⟩ := h.mem
  exact (Array.getElem?_eq_some_iff.1 h1).1
theorem StAt.on {w w' : World} {S : Nat} {ds : List Dat} {bs : List Bool} (h : StAt w S ds bs) (hk : w'.heap[S]? = w.heap[S]?) : StAt w' S ds bs := by
  obtain ⟨cs, h1, h2⟩ := h.mem
  exact ⟨⟨cs, hk.trans h1, h2⟩, h.dl, h.bl, h.dz⟩
theorem StAt.data {w : World} {S : Nat} {ds : List Dat} {bs : List Bool} (h : StAt w S ds bs) {i : Nat} {d : Dat} (hi : ds[i]? = some d) : w.rangeAt S (64 * i) (dC d) := fun j v hv => by
  obtain ⟨cs, h1, h2, h3, h4⟩ := h.mem
  rw [cell_of_row w S _ _ _ _ h1]
  exact h3 i d hi j v hv
theorem StAt.flag {w : World} {S : Nat} {ds : List Dat} {bs : List Bool} (h : StAt w S ds bs) {i : Nat} {b : Bool} (hi : bs[i]? = some b) : w.cell? ⟨S, 1152 + i, none⟩ = some (.bool b) ∧ w.frozen? ⟨S, 1152 + i, none⟩ = false := by
  obtain ⟨cs, h1, h2, h3, h4⟩ := h.mem
  exact ⟨by rw [cell_of_row w S _ _ _ _ h1]; exact h4 i b hi, frozen_of_row w S _ _ _ h1⟩
theorem StAt.there {w : World} {S : Nat} {ds : List Dat} {bs : List Bool} (h : StAt w S ds bs) {i : Nat} (hi : i < 18) : thereOk 64 w (.pointer (some ⟨S, 64 * i, none⟩)) = true := by
  obtain ⟨cs, h1, h2, h3, h4⟩ := h.mem
  refine ok_there fun j hj => ⟨?_, frozen_of_row w S _ _ _ h1⟩
  rw [cell_of_row w S _ _ _ _ h1, Array.getElem?_eq_getElem (by omega)]; rfl
theorem StAt.put {w : World} {S : Nat} {ds : List Dat} {bs : List Bool} (h : StAt w S ds bs) {i : Nat} (hi : i < 18) {x : Dat} (hx : x.length = 64) :
    StAt (putAt w (.pointer (some ⟨S, 64 * i, none⟩)) (dC x).toArray) S (ds.set i x) bs ∧ Keeps (· = S) w (putAt w (.pointer (some ⟨S, 64 * i, none⟩)) (dC x).toArray) := by
  obtain ⟨cs, h1, h2, h3, h4⟩ := h.mem
  have e : putAt w (.pointer (some ⟨S, 64 * i, none⟩)) (dC x).toArray = w.setCells S (64 * i) (dC x) := by simp [putAt]
  have hl : (dC x).length = 64 := by rw [dC_len, hx]
  rw [e]
  refine ⟨⟨⟨_, heap_setCells_same _ _ _ _ _ _ h1, by rw [setMany_size]; exact h2, fun k d hk j v hv => ?_, fun k b hk => ?_⟩, by rw [List.length_set]; exact h.dl, h.bl, fun d hd => ?_⟩, setCells_keeps rfl⟩
  · have hj : j < 64 := by
      have h5 := (List.getElem?_eq_some_iff.1 hv).1
      have h6 : d.length = 64 := by
        rcases List.mem_or_eq_of_mem_set (List.mem_of_getElem? hk) with h7 | h'
        · exact h.dz d h7
        · rw [h']; exact hx
      rw [dC_len, h6] at h5; exact h5
    rw [setMany_at _ _ _ _ (by rw [hl]; omega), hl]
    rw [List.getElem?_set] at hk
    by_cases hki : i = k
    · subst hki
      rw [if_pos rfl] at hk
      split at hk
      · obtain rfl : x = d := Option.some.inj hk
        rw [if_pos (by omega), show 64 * i + j - 64 * i = j by omega]
        exact hv
      · cases hk
    · rw [if_neg hki] at hk
      rw [if_neg (by omega)]
      exact h3 k d hk j v hv
  · rw [setMany_at _ _ _ _ (by rw [hl]; omega), hl, if_neg (by omega)]
    exact h4 k b hk
  · rcases List.mem_or_eq_of_mem_set hd with h' | h'
    · exact h.dz d h'
    · rw [h']; exact hx
theorem StAt.mark {w : World} {S : Nat} {ds : List Dat} {bs : List Bool} (h : StAt w S ds bs) {i : Nat} (hi : i < 18) (b : Bool) :
    StAt (w.setCell ⟨S, 1152 + i, none⟩ (.bool b)) S ds (bs.set i b) ∧ Keeps (· = S) w (w.setCell ⟨S, 1152 + i, none⟩ (.bool b)) := by
  obtain ⟨cs, h1, h2, h3, h4⟩ := h.mem
  refine ⟨⟨⟨_, heap_setCell_same w S (1152 + i) _ _ (.bool b) h1, by simpa using h2, fun k d hk j v hv => ?_, fun k c hk => ?_⟩, h.dl, by rw [List.length_set]; exact h.bl, h.dz⟩, setCells_keeps (vs := [.bool b]) (o := 1152 + i) rfl⟩
  · have hj : j < 64 := by
      have h5 := (List.getElem?_eq_some_iff.1 hv).1
      rw [dC_len, h.dz d (List.mem_of_getElem? hk)] at h5; exact h5
    have hk18 : k < 18 := by have := (List.getElem?_eq_some_iff.1 hk).1; rw [h.dl] at this; exact this
    rw [Array.getElem?_setIfInBounds_ne (by omega)]
    exact h3 k d hk j v hv
  · rw [List.getElem?_set] at hk
    by_cases hki : i = k
    · subst hki
      rw [if_pos rfl] at hk
      split at hk
      · obtain rfl : b = c := Option.some.inj hk
        rw [Array.getElem?_setIfInBounds]
        simp [h2]; omega
      · cases hk
    · rw [if_neg hki] at hk
      rw [Array.getElem?_setIfInBounds_ne (by omega)]
      exact h4 k c hk
end Go.Proofs.YtonmppchbdffcaaGreat
