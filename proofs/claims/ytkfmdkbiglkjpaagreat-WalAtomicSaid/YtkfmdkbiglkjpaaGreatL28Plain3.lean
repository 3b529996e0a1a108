/- The plain law of WalTwice, whole. -/
import Derived.Test.YtkfmdkbiglkjpaaGreatL28Plain2
namespace Go.Proofs.YtkfmdkbiglkjpaaGreat
open Go Go.RowKit Go.Lib
set_option maxRecDepth 100000

/-- a disk behind a new dev -/
def DS.anew (s : DS) : DS := ⟨s.L, s.W, 1099511627776, 0⟩
def DS.crash (s : DS) (ks : List Bool) : DS := ⟨crashL s.L s.W ks, [], 1099511627776, 0⟩
theorem sm_commit {N c : Nat} {l : List PutV} {s : DS} (hs : s.sm N c) : (s.commit l).2.sm N (c + 100) := by
  unfold DS.commit
  split
  · exact hs.mono (by omega)
  · rename_i h16
    split
    · exact hs.mono (by omega)
    · split
      · exact hs.mono (by omega)
      · have hbm : ∀ {r : Bool × DS} {f : DS → Bool × DS} {a b : Nat}, a ≤ b → r.2.sm N a → (∀ t, t.sm N a → (f t).2.sm N b) → (DS.bind r f).2.sm N b := fun {r f a b} hab hr hf => by
          unfold DS.bind
          split
          · exact hf _ hr
          · exact hr.mono hab
        unfold DS.doit
        refine hbm (a := c + 16) (by omega) ((sm_logs l (i := 0) hs).mono (by omega)) fun t ht => hbm (a := c + 32) (by omega) ((sm_flush (logN l.length) ht).mono (by rw [logN_len]; omega)) fun t ht => hbm (a := c + 33) (by omega) (sm_write 1 (headN l) ht) fun t ht => hbm (a := c + 34) (by omega) (sm_flush [1] ht) fun t ht => (sm_home (l := l) ht).mono (by omega)
/-- WHAT A CRASHED COMMIT LEAVES, A RECOVER MENDS, AND A SECOND FINDS NOTHING -/
theorem twice_plain {N c : Nat} {l : List PutV} {s0 : DS} (hs : s0.sm N c) (hN : 18 ≤ N) (hN2 : N ≤ 1000) (hl : l.length ≤ 16) (h0 : HdZ s0) (ks : List Bool) :
    ((s0.commit l).2.crash ks).fit N ∧ ((s0.commit l).2.crash ks).recover.1.2 = 0 ∧ ((s0.commit l).2.crash ks).recover.2.anew.fit N ∧
    ((s0.commit l).2.crash ks).recover.2.anew.recover = ((0, 0), ((s0.commit l).2.crash ks).recover.2.anew) ∧ ((s0.commit l).1 = 0 → ((s0.commit l).2.crash ks).recover.1.1 = 0) := by
  have hcm := sm_commit (l := l) hs
  have hL1 : (crashL (s0.commit l).2.L (s0.commit l).2.W ks).length = N := by unfold crashL; rw [crashN_len, hcm.len]
  -- what stands in the header's block
  have hhd : rightB N l = true ∧ (readD (crashL (s0.commit l).2.L (s0.commit l).2.W ks) [] 1 = zeroD ∨ readD (crashL (s0.commit l).2.L (s0.commit l).2.W ks) [] 1 = headN l) ∨ readD (crashL (s0.commit l).2.L (s0.commit l).2.W ks) [] 1 = zeroD := by
    cases hr : rightB N l with
    | true =>
      left
      refine ⟨rfl, ?_⟩
      have h1 : HdOK (headN l) s0 := ⟨.inl h0.1, fun x hx e => absurd e (h0.2 x hx)⟩
      have h2 := hd_commit h1
      rw [read_nil]
      exact hd_crash ks h2.1 h2.2 _
    | false =>
      right
      have hc : (s0.commit l).2 = s0 := by
        unfold DS.commit
        rw [hs.len]
        split
        · rfl
        · rfl
      rw [hc, read_nil]
      rcases hd_crash (h := zeroD) ks (.inl h0.1) (fun x hx e => absurd e (h0.2 x hx)) s0.W.length with h | h <;> exact h
  have hz : ∀ s : DS, readD s.L s.W 1 = zeroD → s.fit N ∧ s.read = [] := fun s h => ⟨fun hm => by rw [h] at hm; exact absurd hm (by decide), hz_noread h⟩
  have hrec0 : ∀ s : DS, s.read = [] → s.recover = ((0, 0), s) := fun s h => by unfold DS.recover; rw [h]; rfl
  obtain ⟨s2, hs2⟩ : ∃ s2, s2 = (s0.commit l).2.crash ks := ⟨_, rfl⟩
  have hL2 : s2.L = crashL (s0.commit l).2.L (s0.commit l).2.W ks := by rw [hs2]; rfl
  have hW2 : s2.W = [] := by rw [hs2]; rfl
  have hl2 : s2.left = 1099511627776 := by rw [hs2]; rfl
  have hm2 : s2.sm N 0 := ⟨by rw [hL2]; exact hL1, by rw [hW2]; exact Nat.le_refl _, by rw [hl2]; exact Nat.le_refl _, by rw [hs2]; exact Nat.le_refl _⟩
  rw [← hL2, ← hW2] at hhd
  rw [← hs2]
  have hfit : s2.fit N := by
    rcases hhd with ⟨hr, h⟩ | h
    · exact fit_of hl hN2 hr h
    · exact (hz s2 h).1
  by_cases he : s2.read.length = 0
  · have hnil : s2.read = [] := List.eq_nil_of_length_eq_zero he
    have hr := hrec0 s2 hnil
    rw [hr]
    have ha : s2.anew.read = [] := hnil
    exact ⟨hfit, rfl, hfit, hrec0 _ ha, fun _ => rfl⟩
  · have hrl := read_ok s2
    have hy : (s2.home s2.read).1 = true := home_yes (by rw [hl2]; have := hrl.1; omega)
    have hzh := hz_home hm2 (by omega) hy
    have hr : s2.recover = (((s2.read.length : Int), 0), (s2.home s2.read).2) := by unfold DS.recover; rw [if_neg he, if_pos hy]
    have ha : readD (s2.home s2.read).2.anew.L (s2.home s2.read).2.anew.W 1 = zeroD := hz_read (s := (s2.home s2.read).2.anew) hzh
    obtain ⟨hf, hn⟩ := hz _ ha
    rw [hr]
    refine ⟨hfit, rfl, hf, hrec0 _ hn, fun hc0 => ?_⟩
    -- a Commit that is OK leaves no header
    exfalso
    have hzz : HdZ (s0.commit l).2 := by
      unfold DS.commit at hc0 ⊢
      rw [hs.len] at hc0 ⊢
      split at hc0
      · cases hc0
      · rename_i h16
        rw [if_neg h16]
        split at hc0
        · cases hc0
        · rename_i hr1
          rw [if_neg hr1]
          split at hc0
          · rename_i hl0
            rw [if_pos hl0]; exact h0
          · rename_i hl0
            rw [if_neg hl0]
            simp only at hc0
            split at hc0
            · rename_i hd
              exact hz_doit hs (by omega) hd
            · cases hc0
    have h1 : readD s2.L s2.W 1 = zeroD := by
      rw [hW2, hL2, read_nil]
      rcases hd_crash (h := zeroD) ks (.inl hzz.1) (fun x hx e => absurd e (hzz.2 x hx)) (s0.commit l).2.W.length with h | h <;> exact h
    exact he (by rw [(hz s2 h1).2]; rfl)
end Go.Proofs.YtkfmdkbiglkjpaaGreat
