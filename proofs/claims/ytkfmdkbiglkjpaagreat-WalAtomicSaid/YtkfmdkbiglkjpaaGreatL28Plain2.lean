/- The plain law of WalTwice. -/
import Derived.Test.YtkfmdkbiglkjpaaGreatL28Plain
namespace Go.Proofs.YtkfmdkbiglkjpaaGreat
open Go Go.RowKit Go.Lib
set_option maxRecDepth 100000

theorem gset (d : Dat) (i b : Nat) (x : UInt8) : (d.set b x).getD i 0 = if b = i ∧ i < d.length then x else d.getD i 0 := by
  rw [List.getD_eq_getElem?_getD, List.getElem?_set, List.getD_eq_getElem?_getD]
  by_cases h : b = i
  · subst h
    by_cases h2 : b < d.length
    · simp [h2]
    · simp [h2]
  · simp [h]
theorem headI_at (l : List PutV) (hl : l.length ≤ 16) : ∀ k, k ≤ l.length → (∀ i, i < k → (headI l k).getD (6 + 2 * i) 0 = UInt8.ofNat (l.getD i (0, [])).1.toNat ∧ (headI l k).getD (7 + 2 * i) 0 = UInt8.ofNat ((l.getD i (0, [])).1.toNat / 256)) ∧ (headI l k).getD 4 0 = UInt8.ofNat l.length ∧ (headI l k).take 4 = magL
  | 0, _ => ⟨fun i h => by omega, rfl, rfl⟩
  | k + 1, hk => by
    obtain ⟨ih, ih4, ihm⟩ := headI_at l hl k (by omega)
    have hlen := headI_len l k
    rw [headI]
    refine ⟨fun i hi => ?_, ?_, ?_⟩
    · by_cases h : i = k
      · subst h
        exact ⟨by rw [gset, if_neg (by omega), gset, if_pos ⟨rfl, by rw [hlen]; omega⟩], by rw [gset, if_pos ⟨rfl, by rw [List.length_set, hlen]; omega⟩]⟩
      · obtain ⟨a, b⟩ := ih i (by omega)
        rw [gset, gset, gset, gset]
        simp only [List.length_set, hlen]
        rw [if_neg (by omega), if_neg (by omega), if_neg (by omega), if_neg (by omega)]
        exact ⟨a, b⟩
    · rw [gset, gset, if_neg (by omega), if_neg (by omega)]; exact ih4
    · rw [List.take_set_of_le (by omega), List.take_set_of_le (by omega)]; exact ihm
theorem right_congr {N : Nat} {l l' : List PutV} (h : l.map (·.1) = l'.map (·.1)) : rightB N l = rightB N l' := by
  have hlen : l.length = l'.length := by simpa using congrArg List.length h
  have hat : ∀ i : Nat, (l[i]?).map (fun (p : PutV) => p.1) = (l'[i]?).map (fun (p : PutV) => p.1) := fun i => by
    have := congrArg (·[i]?) h
    simpa only [List.getElem?_map] using this
  unfold rightB
  rw [hlen]
  have key : ∀ i ∈ List.range l'.length, okAt N l i (l.getD i (0, [])) = okAt N l' i (l'.getD i (0, [])) := by
   intro i hi
   have hi : i < l'.length := List.mem_range.1 hi
   have h1 := hat i
   rw [List.getElem?_eq_getElem (by omega), List.getElem?_eq_getElem hi] at h1
   have h1 : l[i].1 = l'[i].1 := by simpa using h1
   have hall : ((l.take i).all fun q => decide ((l[i]'(by omega)).1 ≠ q.1)) = ((l'.take i).all fun q => decide (l'[i].1 ≠ q.1)) := by
     have e1 : ∀ (m : List PutV) (z : Int), (m.all fun q => decide (z ≠ q.1)) = ((m.map (·.1)).all fun y => decide (z ≠ y)) := fun m z => by rw [List.all_map]; rfl
     rw [e1, e1, List.map_take, List.map_take, h, h1]
   rw [List.getD_eq_getElem?_getD, List.getD_eq_getElem?_getD, List.getElem?_eq_getElem (by omega), List.getElem?_eq_getElem hi]
   simp only [Option.getD_some, okAt, h1]
   rw [h1] at hall
   rw [hall]
  rw [Bool.eq_iff_iff, List.all_eq_true, List.all_eq_true]
  exact ⟨fun h i hi => (key i hi) ▸ h i hi, fun h i hi => (key i hi).symm ▸ h i hi⟩
theorem read_nil (L : List Dat) (b : Nat) : readD L [] b = L.getD b zeroD := rfl
theorem fit_of {l : List PutV} {s : DS} {N : Nat} (hl : l.length ≤ 16) (hN : N ≤ 1000) (hr : rightB N l = true) (h : readD s.L s.W 1 = zeroD ∨ readD s.L s.W 1 = headN l) : s.fit N := by
  intro hm h16
  rcases h with h | h
  · rw [h] at hm; exact absurd hm (by decide)
  · by_cases h0 : l.length = 0
    · have : headN l = zeroD := by unfold headN; rw [if_pos h0]
      rw [h, this] at hm; exact absurd hm (by decide)
    · have he : headN l = headI l l.length := by unfold headN; rw [if_neg h0]
      obtain ⟨h1, h2, -⟩ := headI_at l hl l.length (Nat.le_refl _)
      rw [h, he]
      have hlo : lo (headI l l.length) 4 = l.length := by
        unfold lo; rw [h2]; simp; omega
      rw [hlo, ← hr]
      refine right_congr ?_
      refine List.ext_getElem? fun i => ?_
      unfold rdL
      rw [List.map_map, List.getElem?_map, List.getElem?_map]
      by_cases hi : i < l.length
      · rw [List.getElem?_range hi, List.getElem?_eq_getElem hi]
        obtain ⟨a, b⟩ := h1 i hi
        obtain ⟨bb, hb1, hb2, hb3⟩ := right_nat hr _ (List.getElem_mem hi)
        have hg : l.getD i (0, []) = l[i] := by rw [List.getD_eq_getElem?_getD, List.getElem?_eq_getElem hi]; rfl
        rw [hg, hb1] at a b
        simp only [Option.map_some, Function.comp, rdP, Option.some.injEq]
        unfold lo
        rw [a, b, hb1]
        simp
        omega
      · rw [List.getElem?_eq_none (by simp; omega), List.getElem?_eq_none (by omega)]; rfl
theorem write_yes {s : DS} (b : Nat) (x : Dat) (h : 0 < s.left) : (s.write b x).1 = true ∧ (s.write b x).2.left = s.left - 1 := by
  unfold DS.write; rw [if_neg (by omega)]; exact ⟨rfl, rfl⟩
theorem flush_yes : ∀ (bs : List Nat) {s : DS}, bs.length ≤ s.left → (s.flush bs).1 = true ∧ (s.flush bs).2.left = s.left - bs.length
  | [], _, _ => ⟨rfl, rfl⟩
  | b :: bs, s, h => by
    simp only [List.length_cons] at h ⊢
    have h1 : (s.flush1 b).1 = true ∧ (s.flush1 b).2.left = s.left - 1 := by unfold DS.flush1; rw [if_neg (by omega)]; exact ⟨rfl, rfl⟩
    rw [DS.flush, if_pos h1.1]
    have ih := flush_yes bs (s := (s.flush1 b).2) (by omega)
    exact ⟨ih.1, by rw [ih.2]; omega⟩
theorem writes_yes : ∀ (l : List PutV) {s : DS}, l.length ≤ s.left → (s.writes l).1 = true ∧ (s.writes l).2.left = s.left - l.length
  | [], _, _ => ⟨rfl, rfl⟩
  | p :: l, s, h => by
    simp only [List.length_cons] at h ⊢
    have h1 := write_yes p.1.toNat p.2 (s := s) (by omega)
    rw [DS.writes, bind_yes h1.1]
    have ih := writes_yes l (s := (s.write p.1.toNat p.2).2) (by omega)
    exact ⟨ih.1, by rw [ih.2]; omega⟩
theorem home_yes {l : List PutV} {s : DS} (h : 2 * l.length + 2 ≤ s.left) : (s.home l).1 = true := by
  obtain ⟨a1, a2⟩ := writes_yes l (s := s) (by omega)
  unfold DS.home
  rw [bind_yes a1]
  obtain ⟨b1, b2⟩ := flush_yes (l.map (·.1.toNat)) (s := (s.writes l).2) (by rw [List.length_map]; omega)
  rw [List.length_map] at b2
  rw [bind_yes b1]
  obtain ⟨c1, c2⟩ := write_yes 1 zeroD (s := ((s.writes l).2.flush (l.map (·.1.toNat))).2) (by omega)
  rw [bind_yes c1]
  exact (flush_yes [1] (by simp; omega)).1
theorem hz_doit {N c : Nat} {l : List PutV} {s : DS} (hs : s.sm N c) (hN : 2 ≤ N) (h : (s.doit l).1 = true) : HdZ (s.doit l).2 := by
  have hb : ∀ {r : Bool × DS} {f : DS → Bool × DS}, (DS.bind r f).1 = true → r.1 = true ∧ DS.bind r f = f r.2 := fun {r f} h => by
    cases hr : r.1 with
    | false => rw [bind_no hr] at h; cases h
    | true => exact ⟨rfl, bind_yes hr⟩
  unfold DS.doit at h ⊢
  obtain ⟨h1, e1⟩ := hb h
  rw [e1] at h ⊢
  obtain ⟨h2, e2⟩ := hb h
  rw [e2] at h ⊢
  obtain ⟨h3, e3⟩ := hb h
  rw [e3] at h ⊢
  obtain ⟨h4, e4⟩ := hb h
  rw [e4] at h ⊢
  exact hz_home (sm_flush [1] (sm_write 1 (headN l) (sm_flush (logN l.length) (sm_logs l (i := 0) hs)))) hN h
theorem sm_home {N c : Nat} {l : List PutV} {s : DS} (hs : s.sm N c) : (s.home l).2.sm N (c + (2 * l.length + 2)) := by
  have hbm : ∀ {r : Bool × DS} {f : DS → Bool × DS} {a b : Nat}, a ≤ b → r.2.sm N a → (∀ t, t.sm N a → (f t).2.sm N b) → (DS.bind r f).2.sm N b := fun {r f a b} hab hr hf => by
    unfold DS.bind
    split
    · exact hf _ hr
    · exact hr.mono hab
  refine hbm (by omega) (sm_writes l hs) fun t ht => hbm (a := c + l.length + l.length) (by omega) (by have := sm_flush (l.map (·.1.toNat)) ht; rwa [List.length_map] at this) fun t ht => hbm (a := c + l.length + l.length + 1) (by omega) (sm_write 1 zeroD ht) fun t ht => ?_
  exact (sm_flush [1] ht).mono (by simp; omega)
end Go.Proofs.YtkfmdkbiglkjpaaGreat
