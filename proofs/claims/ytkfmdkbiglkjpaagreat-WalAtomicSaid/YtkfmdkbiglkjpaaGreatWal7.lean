/- wal.Recover. -/
import Derived.Test.YtkfmdkbiglkjpaaGreatWal6
namespace Go.Proofs.YtkfmdkbiglkjpaaGreat
open Go Go.RowKit Go.Lib
set_option maxRecDepth 100000

/-- what stands in the header's block is no header, or a right one's -/
def DS.fit (s : DS) (N : Nat) : Prop := (readD s.L s.W 1).take 4 = magL → lo (readD s.L s.W 1) 4 ≤ 16 → rightB N (rdL s.L s.W (readD s.L s.W 1) (lo (readD s.L s.W 1) 4)) = true
def DS.recover (s : DS) : (Int × Int) × DS :=
  if s.read.length = 0 then ((0, 0), s) else (if (s.home s.read).1 = true then ((s.read.length : Int), 0) else (0, 20), (s.home s.read).2)
theorem read_ok (s : DS) : s.read.length ≤ 16 ∧ (s.read.length = 0 ∨ rightB s.L.length s.read = true) := by
  unfold DS.read
  simp only
  split
  · rename_i h
    split
    · rename_i h2
      exact ⟨by simp [rdL]; exact h.2, .inr h2.1⟩
    · simp
  · simp
set_option maxHeartbeats 3200000 in
theorem wal_recover (F : Nat → Prop) (X D N c : Nat) (s : DS) (w : World) (hs : s.sm N c) (hN : 18 ≤ N) (hN2 : N ≤ 1000) (hc : c ≤ 5000) (hlf : 0 < s.left) (hpre : s.fit N) (h : Dv w F X D s) :
    Calls Tryz.prog 15 #[.pointer (some ⟨X, 0, none⟩)] w fun e w' => e = .returned (.tuple #[.int .i64 s.recover.1.1, .int .i64 s.recover.1.2]) ∧ Dvs w F X D s.recover.2 w' := by
  have HR := Lib.hid (wal_read F X D N c s w hs hN hN2 hc hlf hpre h)
  have HS := Lib.hid hs
  have HH := Lib.hid h
  have hro := read_ok s
  obtain ⟨l, hl⟩ : ∃ l, l = s.read := ⟨_, rfl⟩
  rw [← hl] at HR hro
  have HL := Lib.hid hl
  have HRO := Lib.hid hro
  clear hs hpre h hro hl
  go_enter Tryz.func15, Tryz.ntmps15
  go_wp2_with fail
  refine HR.out.mono ?_
  rintro e w1 ⟨ad, cap, rfl, hp, hb, hfr⟩
  have HP := Lib.hid (And.intro hp (And.intro hb hfr))
  clear hp hb hfr
  obtain ⟨n, hn⟩ : ∃ n, n = l.length := ⟨_, rfl⟩
  rw [← hn]
  have HN := Lib.hid hn
  clear hn
  by_cases h0 : n = 0
  · subst h0
    have HE : Hid (s.recover = ((0, 0), s)) := Lib.hid (by unfold DS.recover; rw [← HL.out, if_pos HN.out.symm])
    go_wp2_with fail
    go_ret2
    rw [HE.out]
    exact ⟨rfl, HH.out.same HP.out.2.1⟩
  · have k2 : ((n : Int) == 0) = false := beq_eq_false_iff_ne.2 (by omega)
    have HE : Hid (s.recover = (if (s.home l).1 = true then ((l.length : Int), 0) else (0, 20), (s.home l).2)) := Lib.hid (by unfold DS.recover; rw [← HL.out, if_neg (by rw [← HN.out]; exact h0)])
    have hri : rightB s.L.length l = true := by
      rcases HRO.out.2 with h | h
      · exact absurd (HN.out.trans h) h0
      · exact h
    have hho := wal_home F X D N c ad cap l s w1 HS.out (by omega) hN2 (by omega) HRO.out.1 (fun p hp => by
      obtain ⟨b, e, h1, h2⟩ := right_nat hri p hp
      exact ⟨b, e, by rw [HS.out.len] at h2; exact h2⟩) (HH.out.below HP.out.2.1) HP.out.1 (fun g e => by
      obtain ⟨q1, q2⟩ := HP.out.2.2 g e
      exact ⟨q2, fun hf => by have := HH.out.bd g hf; omega, by have := HH.out.dev.lt; omega⟩)
    rw [← HN.out] at hho
    have V : Hid (∀ s2 w2, Dvs w1 F X D s2 w2 → Dvs w F X D s2 w2) := Lib.hid fun s2 w2 h2 => Dvs.comp (F1 := F) (fun k h => .inl h) (Keeps.of_below HP.out.2.1) h2
    obtain ⟨r, hr⟩ : ∃ r, r = s.home l := ⟨_, rfl⟩
    rw [← hr] at hho HE
    obtain ⟨r1, t⟩ := r
    simp only at hho
    have HHO := Lib.hid hho
    clear hri hho hr
    cases r1 with
    | false =>
      go_wp2_with fail
      refine HHO.out.mono ?_
      rintro e w2 ⟨rfl, hv⟩
      have HV := Lib.hid (V.out _ _ hv)
      clear hv
      go_wp2_with fail
      go_ret2
      rw [HE.out]
      exact ⟨rfl, HV.out⟩
    | true =>
      go_wp2_with fail
      refine HHO.out.mono ?_
      rintro e w2 ⟨rfl, hv⟩
      have HV := Lib.hid (V.out _ _ hv)
      clear hv
      go_wp2_with fail
      go_ret2
      rw [HE.out]
      simp only [if_true]
      rw [← HN.out]
      exact ⟨rfl, HV.out⟩
end Go.Proofs.YtkfmdkbiglkjpaaGreat
