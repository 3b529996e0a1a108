/- Many cells stored into the midst of a block; a row of blocks behind that. -/
import Derived.Test.YtonmppchbdffcaaGreatDiskRd
namespace Go.Proofs.YtonmppchbdffcaaGreat
open Go Go.RowKit Go.Lib
set_option maxRecDepth 100000

def setMany : List Value → Array Value → Nat → Array Value
  | [], cur, _ => cur
  | v :: r, cur, o => setMany r (cur.setIfInBounds o v) (o + 1)
theorem setMany_size : ∀ (vs : List Value) (cur : Array Value) (o : Nat), (setMany vs cur o).size = cur.size
  | [], _, _ => rfl
  | v :: r, cur, o => by rw [setMany, setMany_size r]; simp
theorem setMany_at : ∀ (vs : List Value) (cur : Array Value) (o k : Nat), o + vs.length ≤ cur.size → (setMany vs cur o)[k]? = if o ≤ k ∧ k < o + vs.length then vs[k - o]? else cur[k]?
  | [], cur, o, k, _ => by simp [setMany]; omega
  | v :: r, cur, o, k, h => by
    simp only [List.length_cons] at h
    rw [setMany, setMany_at r _ (o + 1) k (by simp; omega), List.length_cons]
    by_cases h1 : o ≤ k ∧ k < o + (r.length + 1)
    · rw [if_pos h1]
      by_cases h2 : k = o
      · subst h2
        rw [if_neg (by omega), Nat.sub_self]
        have : k < cur.size := by omega
        simp [this]
      · rw [if_pos (by omega), show k - o = (k - (o + 1)) + 1 by omega]
        simp
    · rw [if_neg h1, if_neg (by omega), Array.getElem?_setIfInBounds_ne (by omega)]
theorem heap_setCells_same : ∀ (vs : List Value) (w : World) (b o : Nat) (cur : Array Value) (t : TypeId), w.heap[b]? = some (.cells cur t (0, 0)) → (w.setCells b o vs).heap[b]? = some (.cells (setMany vs cur o) t (0, 0))
  | [], _, _, _, _, _, h => h
  | v :: r, w, b, o, cur, t, h => by
    rw [World.setCells, setMany]
    exact heap_setCells_same r _ b (o + 1) _ t (heap_setCell_same w b o _ _ v h)
theorem heap_setCells_other : ∀ (vs : List Value) (w : World) (b o k : Nat), k ≠ b → (w.setCells b o vs).heap[k]? = w.heap[k]?
  | [], _, _, _, _, _ => rfl
  | v :: r, w, b, o, k, h => by
    rw [World.setCells, heap_setCells_other r _ b (o + 1) k h, heap_setCell_other _ _ _ _ (by simpa using h)]
theorem setCells_rest : ∀ (vs : List Value) (w : World) (b o : Nat), (w.setCells b o vs).os = w.os ∧ (w.setCells b o vs).tape = w.tape ∧ (w.setCells b o vs).output = w.output ∧ (w.setCells b o vs).heap.size = w.heap.size
  | [], _, _, _ => ⟨rfl, rfl, rfl, rfl⟩
  | v :: r, w, b, o => by
    rw [World.setCells]
    obtain ⟨h1, h2, h3, h4⟩ := setCells_rest r (w.setCell ⟨b, o, none⟩ v) b (o + 1)
    exact ⟨h1, h2, h3, by rw [h4]; simp⟩
theorem setCells_keeps {F : Nat → Prop} {w : World} {b o : Nat} {vs : List Value} (hb : F b) : Keeps F w (w.setCells b o vs) := by
  obtain ⟨h1, h2, h3, h4⟩ := setCells_rest vs w b o
  exact ⟨h1, h2, h3, Nat.le_of_eq h4.symm, fun k _ hf => heap_setCells_other vs w b o k fun e => hf (e ▸ hb)⟩
/-- one block of a disk's row written anew -/
theorem las_put {w : World} {B g cap : Nat} {L : List Dat} {i : Nat} {x : Dat} (h : w.ownsRow B 34 64 (.slice (some ⟨g, 0, none⟩) L.length cap) L.length (lasC L)) (hz : ∀ y ∈ L, y.length = 64) (hi : i < L.length) (hx : x.length = 64) :
    (w.setCells g (i * 64) (dC x)).ownsRow B 34 64 (.slice (some ⟨g, 0, none⟩) L.length cap) L.length (lasC (L.set i x)) := by
  have hz2 : ∀ y ∈ L.set i x, y.length = 64 := fun y hy => by
    rcases List.mem_or_eq_of_mem_set hy with h | h
    · exact hz y h
    · rw [h]; exact hx
  have hl1 := lasC_len hz
  have hl2 := lasC_len hz2
  rw [List.length_set] at hl2
  refine ⟨hl2, ?_⟩
  rcases h.2 with ⟨h1, _⟩ | ⟨g', cap', cur, h1, h2, h3, h4, h5, h6, h7⟩
  · cases h1
  · cases h1
    have hdl : (dC x).length = 64 := by rw [dC_len, hx]
    have hle : i * 64 + 64 ≤ L.length * 64 := by omega
    have hle2 : L.length * 64 ≤ cap * 64 := Nat.mul_le_mul_right _ h4
    refine .inr ⟨g, cap, _, rfl, h2, heap_setCells_same _ _ _ _ _ _ h3, h4, h5, by rw [setMany_size]; exact h6, ?_⟩
    refine List.ext_getElem? fun k => ?_
    have hf := flat_set dC 64 L i x (fun y hy => by rw [dC_len]; exact hz y hy) hdl hi
    unfold lasC
    rw [hf]
    change _ = ((lasC L).take (i * 64) ++ dC x ++ (lasC L).drop (i * 64 + 64))[k]?
    rw [List.getElem?_take]
    by_cases hk : k < L.length * 64
    · rw [if_pos hk, Array.getElem?_toList, setMany_at _ _ _ _ (by rw [hdl, h6]; omega), hdl]
      have hcur : cur[k]? = (lasC L)[k]? := by rw [← h7, List.getElem?_take, if_pos hk, Array.getElem?_toList]
      by_cases h1 : i * 64 ≤ k ∧ k < i * 64 + 64
      · rw [if_pos h1, List.getElem?_append_left (by simp [hdl, hl1]; omega), List.getElem?_append_right (by simp [hl1]; omega)]
        congr 1
        simp [hl1]; omega
      · rw [if_neg h1, hcur]
        by_cases h2 : k < i * 64
        · rw [List.getElem?_append_left (by simp [hdl, hl1]; omega), List.getElem?_append_left (by simp [hl1]; omega), List.getElem?_take, if_pos h2]
        · rw [List.getElem?_append_right (by simp [hdl, hl1]; omega), List.getElem?_drop]
          congr 1
          simp [hdl, hl1]; omega
    · rw [if_neg hk, List.getElem?_eq_none (by simp [hdl, hl1]; omega)]
end Go.Proofs.YtonmppchbdffcaaGreat
