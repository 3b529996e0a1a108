/- The plain law of the log: what a crash leaves of a Commit, and what Recover makes of it. -/
import Derived.Test.YtkfmdkbiglkjpaaGreatTwin
namespace Go.Proofs.YtkfmdkbiglkjpaaGreat
open Go Go.RowKit Go.Lib
set_option maxRecDepth 100000

/-- each word for the header's block is one of these -/
def HdOK (h : Dat) (s : DS) : Prop := (s.L.getD 1 zeroD = zeroD ∨ s.L.getD 1 zeroD = h) ∧ ∀ x ∈ s.W, x.1 = 1 → x.2 = zeroD ∨ x.2 = h
theorem hd_write {h : Dat} {s : DS} {b : Nat} {x : Dat} (hs : HdOK h s) (hx : b = 1 → x = zeroD ∨ x = h) : HdOK h (s.write b x).2 := by
  unfold DS.write
  split
  · exact hs
  · refine ⟨hs.1, fun y hy e => ?_⟩
    rcases List.mem_append.1 hy with h1 | h1
    · exact hs.2 y h1 e
    · obtain rfl := List.mem_singleton.1 h1
      exact hx e
theorem getD_set (L : List Dat) (i b : Nat) (x : Dat) : (L.set b x).getD i zeroD = if b = i ∧ i < L.length then x else L.getD i zeroD := by
  rw [List.getD_eq_getElem?_getD, List.getElem?_set, List.getD_eq_getElem?_getD]
  by_cases h : b = i
  · subst h
    by_cases h2 : b < L.length
    · simp [h2]
    · simp [h2]
  · simp [h]
theorem settle_hd (h : Dat) (b : Nat) : ∀ (W : List (Nat × Dat)) (L : List Dat), (L.getD 1 zeroD = zeroD ∨ L.getD 1 zeroD = h) → (∀ x ∈ W, x.1 = 1 → x.2 = zeroD ∨ x.2 = h) → (settleL L W b).getD 1 zeroD = zeroD ∨ (settleL L W b).getD 1 zeroD = h
  | [], L, hL, _ => hL
  | x :: W, L, hL, hW => by
    show (settleL (if x.1 = b then L.set b x.2 else L) W b).getD 1 zeroD = zeroD ∨ _
    refine settle_hd h b W _ ?_ fun y hy => hW y (by simp [hy])
    split
    · rename_i hb
      rw [getD_set]
      split
      · rename_i h1
        exact hW x (by simp) (by omega)
      · exact hL
    · exact hL
theorem hd_flush1 {h : Dat} {s : DS} {b : Nat} (hs : HdOK h s) : HdOK h (s.flush1 b).2 := by
  unfold DS.flush1
  split
  · exact hs
  · exact ⟨settle_hd h b s.W s.L hs.1 hs.2, fun y hy => hs.2 y (List.mem_filter.1 hy).1⟩
theorem hd_flush {h : Dat} : ∀ (bs : List Nat) {s : DS}, HdOK h s → HdOK h (s.flush bs).2
  | [], _, hs => hs
  | b :: bs, s, hs => by
    rw [DS.flush]
    split
    · exact hd_flush bs (hd_flush1 hs)
    · exact hs
theorem hd_bind {h : Dat} {r : Bool × DS} {f : DS → Bool × DS} (hr : HdOK h r.2) (hf : ∀ t, HdOK h t → HdOK h (f t).2) : HdOK h (DS.bind r f).2 := by
  unfold DS.bind
  split
  · exact hf _ hr
  · exact hr
theorem hd_logs {h : Dat} : ∀ (l : List PutV) (i : Nat) {s : DS}, HdOK h s → HdOK h (s.logs i l).2
  | [], _, _, hs => hs
  | p :: l, i, s, hs => hd_bind (hd_write hs (by omega)) fun t ht => hd_logs l (i + 1) ht
theorem hd_writes {h : Dat} : ∀ (l : List PutV) {s : DS}, (∀ p ∈ l, 18 ≤ p.1) → HdOK h s → HdOK h (s.writes l).2
  | [], _, _, hs => hs
  | p :: l, s, hp, hs => hd_bind (hd_write hs (fun e => by have := hp p (by simp); omega)) fun t ht => hd_writes l (fun q hq => hp q (by simp [hq])) ht
theorem hd_home {h : Dat} {l : List PutV} {s : DS} (hp : ∀ p ∈ l, 18 ≤ p.1) (hs : HdOK h s) : HdOK h (s.home l).2 :=
  hd_bind (hd_writes l hp hs) fun _ h1 => hd_bind (hd_flush _ h1) fun _ h2 => hd_bind (hd_write h2 fun _ => .inl rfl) fun _ h3 => hd_flush _ h3
theorem hd_doit {l : List PutV} {s : DS} (hp : ∀ p ∈ l, 18 ≤ p.1) (hs : HdOK (headN l) s) : HdOK (headN l) (s.doit l).2 :=
  hd_bind (hd_logs l 0 hs) fun _ h1 => hd_bind (hd_flush _ h1) fun _ h2 => hd_bind (hd_write h2 fun _ => .inr rfl) fun _ h3 => hd_bind (hd_flush _ h3) fun _ h4 => hd_home hp h4
theorem hd_commit {l : List PutV} {s : DS} (hs : HdOK (headN l) s) : HdOK (headN l) (s.commit l).2 := by
  unfold DS.commit
  split
  · exact hs
  · split
    · exact hs
    · rename_i hr
      split
      · exact hs
      · refine hd_doit (fun p hp => ?_) hs
        obtain ⟨b, e, h1, -⟩ := right_nat (by simpa using hr) p hp
        omega
theorem hd_crash {h : Dat} {L : List Dat} {W : List (Nat × Dat)} (ks : List Bool) (hL : L.getD 1 zeroD = zeroD ∨ L.getD 1 zeroD = h) (hW : ∀ x ∈ W, x.1 = 1 → x.2 = zeroD ∨ x.2 = h) : ∀ i, (crashN L W ks i).getD 1 zeroD = zeroD ∨ (crashN L W ks i).getD 1 zeroD = h
  | 0 => hL
  | i + 1 => by
    have ih := hd_crash ks hL hW i
    rw [crashN]
    split
    · rw [getD_set]
      split
      · rename_i h1
        cases hx : W[i]? with
        | none =>
          have : wAt W i = (0, zeroD) := by unfold wAt; rw [List.getD_eq_getElem?_getD, hx]; rfl
          exact .inl (by rw [this])
        | some x =>
          have : wAt W i = x := by unfold wAt; rw [List.getD_eq_getElem?_getD, hx]; rfl
          rw [this] at h1 ⊢
          exact hW x (List.mem_of_getElem? hx) h1.1
      · exact ih
    · exact ih
/-- nothing waits for the header's block, and it is nought -/
def HdZ (s : DS) : Prop := s.L.getD 1 zeroD = zeroD ∧ ∀ x ∈ s.W, x.1 ≠ 1
theorem hz_read {s : DS} (h : HdZ s) : readD s.L s.W 1 = zeroD := by
  unfold readD
  rw [last_none (fun j hj => ?_)]
  · exact h.1
  · have hj : j < s.W.length := by simpa using hj
    have : wAt s.W j = s.W[j] := by unfold wAt; rw [List.getD_eq_getElem?_getD, List.getElem?_eq_getElem hj]; rfl
    rw [this]
    exact h.2 _ (List.getElem_mem hj)
theorem hz_noread {s : DS} (h : readD s.L s.W 1 = zeroD) : s.read = [] := by
  unfold DS.read
  rw [h]
  simp only
  rw [if_neg (by rintro ⟨h1, -⟩; revert h1; decide)]
/-- written, flushed: it stands -/
theorem settle_last (b : Nat) (x : Dat) (W : List (Nat × Dat)) (L : List Dat) (hb : b < L.length) : (settleL L (W ++ [(b, x)]) b).getD b zeroD = x := by
  rw [settleL_snoc, if_pos rfl, getD_set, if_pos ⟨rfl, by rw [settleL_len]; exact hb⟩]
theorem hz_end {s : DS} (h1 : 1 < s.L.length) (hw : (s.write 1 zeroD).1 = true) (hf : ((s.write 1 zeroD).2.flush [1]).1 = true) : HdZ ((s.write 1 zeroD).2.flush [1]).2 := by
  unfold DS.write at hw hf ⊢
  split at hw
  · cases hw
  · rename_i hl
    rw [if_neg hl] at hf ⊢
    simp only [DS.flush] at hf ⊢
    split at hf
    · rename_i hf1
      rw [if_pos hf1]
      unfold DS.flush1 at hf1 ⊢
      split at hf1
      · cases hf1
      · rename_i hl2
        rw [if_neg hl2]
        refine ⟨settle_last 1 zeroD s.W s.L h1, fun y hy => ?_⟩
        have := (List.mem_filter.1 hy).2
        simpa using this
    · cases hf
theorem hz_home {N c : Nat} {l : List PutV} {s : DS} (hs : s.sm N c) (hN : 2 ≤ N) (h : (s.home l).1 = true) : HdZ (s.home l).2 := by
  unfold DS.home at h ⊢
  have hb : ∀ {r : Bool × DS} {f : DS → Bool × DS}, (DS.bind r f).1 = true → r.1 = true ∧ DS.bind r f = f r.2 := fun {r f} h => by
    cases hr : r.1 with
    | false => rw [bind_no hr] at h; cases h
    | true => exact ⟨rfl, bind_yes hr⟩
  obtain ⟨h1, e1⟩ := hb h
  rw [e1] at h ⊢
  obtain ⟨h2, e2⟩ := hb h
  rw [e2] at h ⊢
  obtain ⟨h3, e3⟩ := hb h
  rw [e3] at h ⊢
  have hs2 := sm_flush (l.map (·.1.toNat)) (sm_writes l hs)
  exact hz_end (by rw [hs2.len]; omega) h3 h
end Go.Proofs.YtkfmdkbiglkjpaaGreat
