/- The plain law of WalAtomic: a Commit under a fuse, and a Recover under a fuse, by their stages. -/
import Derived.Test.YtkfmdkbiglkjpaaGreatL28Atom
namespace Go.Proofs.YtkfmdkbiglkjpaaGreat
open Go Go.RowKit Go.Lib
set_option maxRecDepth 100000

/-- writes into the log: each is at its place -/
theorem logs_w {l : List PutV} : ∀ (m : List PutV) (i : Nat) {s : DS}, (∀ (j : Nat) (p : PutV), m[j]? = some p → l[i + j]? = some p) → (∀ x ∈ s.W, ∃ (j : Nat) (p : PutV), l[j]? = some p ∧ x = (2 + j, p.2)) →
    (s.logs i m).2.L = s.L ∧ (∀ x ∈ (s.logs i m).2.W, ∃ (j : Nat) (p : PutV), l[j]? = some p ∧ x = (2 + j, p.2)) ∧ (∀ x ∈ s.W, x ∈ (s.logs i m).2.W) ∧ ((s.logs i m).1 = true → ∀ (j : Nat) (p : PutV), m[j]? = some p → (2 + (i + j), p.2) ∈ (s.logs i m).2.W)
  | [], i, s, _, hw => ⟨rfl, hw, fun x h => h, fun _ j p hp => by simp at hp⟩
  | p :: m, i, s, hm, hw => by
    have h1 := write_w (s := s) (b := 2 + i) (d := p.2)
    have h2 : ∀ x ∈ (s.write (2 + i) p.2).2.W, ∃ (j : Nat) (p : PutV), l[j]? = some p ∧ x = (2 + j, p.2) := by
      unfold DS.write
      split
      · exact hw
      · exact fun x hx => (List.mem_append.1 hx).elim (hw x) fun h3 => ⟨i, p, by simpa using hm 0 p rfl, List.mem_singleton.1 h3⟩
    have h3 : (s.write (2 + i) p.2).2.L = s.L := by unfold DS.write; split <;> rfl
    rw [DS.logs]
    cases hwr : (s.write (2 + i) p.2).1 with
    | false => rw [bind_no hwr]; exact ⟨h3, h2, h1.1, fun h => (by cases h)⟩
    | true =>
      rw [bind_yes hwr]
      obtain ⟨a, b, c, d⟩ := logs_w (l := l) m (i + 1) (s := (s.write (2 + i) p.2).2) (fun j q hq => by rw [show i + 1 + j = i + (j + 1) by omega]; exact hm (j + 1) q (by simpa using hq)) h2
      refine ⟨a.trans h3, b, fun x hx => c x (h1.1 x hx), fun ht j q hq => ?_⟩
      rcases j with _ | j
      · simp at hq; subst hq
        exact c _ (h1.2 hwr)
      · have := d ht j q (by simpa using hq)
        rwa [show i + 1 + j = i + (j + 1) by omega] at this
theorem mid_doit {N : Nat} {l : List PutV} {s : DS} (hr : rightB N l = true) (hl : l.length ≤ 16) (hN : 18 ≤ N) (hL : s.L.length = N) (hW : s.W = []) (hz : s.L.getD 1 zeroD = zeroD) :
    Mid (fun b => s.L.getD b zeroD) l (s.doit l).2 ∧ ((s.doit l).1 = true → Don (fun b => newB l (s.L.getD b zeroD) b) (s.doit l).2) := by
  obtain ⟨was, hwas⟩ : ∃ was : Nat → Dat, was = fun b => s.L.getD b zeroD := ⟨_, rfl⟩
  have hw' : (fun b => newB l (s.L.getD b zeroD) b) = fun b => newB l (was b) b := by rw [hwas]
  rw [hw', ← hwas]
  have hw0 : ∀ b, s.L.getD b zeroD = was b := fun b => by rw [hwas]
  obtain ⟨h1, h2, -, h3⟩ := logs_w (l := l) l 0 (s := s) (fun j p hp => by simpa using hp) (fun x hx => by rw [hW] at hx; cases hx)
  have hlog : ∀ x : Nat × Dat, (∃ (j : Nat) (p : PutV), l[j]? = some p ∧ x = (2 + j, p.2)) → 2 ≤ x.1 ∧ x.1 < 18 := by
    rintro x ⟨j, p, hj, rfl⟩
    have := (List.getElem?_eq_some_iff.1 hj).1
    exact ⟨by simp, by simp only; omega⟩
  unfold DS.doit
  have hA1 : StA was (s.logs 0 l).2.L (s.logs 0 l).2.W := ⟨by rw [h1]; exact hz, fun x hx => hlog x (h2 x hx), fun b _ => by rw [h1]; exact hw0 b⟩
  cases hlg : (s.logs 0 l).1 with
  | false => rw [bind_no hlg]; exact ⟨.inl hA1, fun h => (by cases h)⟩
  | true =>
    rw [bind_yes hlg]
    have h3' := h3 hlg
    rw [← hL, ← h1] at hN
    have hL1 : (s.logs 0 l).2.L.length = N := by rw [h1]; exact hL
    generalize (s.logs 0 l).2 = s1 at *
    have hfa := flush_all (fun c => (l.getD (c - 2) (0, [])).2) (logN l.length) (s := s1) (fun x hx _ => by
      obtain ⟨j, p, hj, rfl⟩ := h2 x hx
      simp only [show 2 + j - 2 = j by omega]
      rw [List.getD_eq_getElem?_getD, hj]; rfl) (fun b hb => by
      obtain ⟨j, hj, rfl⟩ := List.mem_map.1 hb
      have := List.mem_range.1 hj
      omega) (fun b hb => by
      obtain ⟨j, hj, rfl⟩ := List.mem_map.1 hb
      have hj := List.mem_range.1 hj
      exact .inr ⟨(2 + j, l[j].2), by have := h3' j l[j] (List.getElem?_eq_getElem hj); rwa [Nat.zero_add] at this, rfl⟩)
    have hA2 : StA was (s1.flush (logN l.length)).2.L (s1.flush (logN l.length)).2.W := ⟨flush_p (P := (· = zeroD)) _ hA1.hd fun x hx e => by have := hA1.wt x hx; omega, fun x hx => hA1.wt x (flush_w _ x hx),
      fun b hb => flush_p (P := (· = was b)) _ (hA1.hm b hb) fun x hx e => by have := hA1.wt x hx; omega⟩
    have hlf := flush_len (logN l.length) (s := s1)
    have hfw := flush_w (logN l.length) (s := s1)
    cases hf : (s1.flush (logN l.length)).1 with
    | false => rw [bind_no hf]; exact ⟨.inl hA2, fun h => (by cases h)⟩
    | true =>
      rw [bind_yes hf]
      obtain ⟨ha, hb⟩ := hfa hf
      generalize (s1.flush (logN l.length)).2 = s2 at *
      have hW2 : s2.W = [] := by
        cases hc : s2.W with
        | nil => rfl
        | cons x W =>
          have hx : x ∈ s2.W := by rw [hc]; simp
          obtain ⟨j, p, hj, e⟩ := h2 x (hfw x hx)
          exact absurd (List.mem_map.2 ⟨j, List.mem_range.2 (List.getElem?_eq_some_iff.1 hj).1, by rw [e]⟩) (hb x hx).2
      have hLog : LogOK s2.L l := fun i p hp => by
        rw [ha (2 + i) (List.mem_map.2 ⟨i, List.mem_range.2 (List.getElem?_eq_some_iff.1 hp).1, rfl⟩)]
        simp only [show 2 + i - 2 = i by omega]
        rw [List.getD_eq_getElem?_getD, hp]; rfl
      have hB : ∀ W, (∀ x ∈ W, x = (1, headN l)) → StB was l s2.L W := fun W h => ⟨hA2.hd, hLog, h, hA2.hm⟩
      unfold DS.write
      by_cases hl0 : s2.left = 0
      · rw [if_pos hl0]
        exact ⟨.inl hA2, fun h => (by cases h)⟩
      · rw [if_neg hl0]
        show Mid was l (DS.bind (DS.flush ⟨s2.L, s2.W ++ [(1, headN l)], s2.left - 1, s2.dn + 1⟩ [1]) fun s4 => s4.home l).2 ∧ ((DS.bind (DS.flush ⟨s2.L, s2.W ++ [(1, headN l)], s2.left - 1, s2.dn + 1⟩ [1]) fun s4 => s4.home l).1 = true → _)
        have hB1 := hB (s2.W ++ [(1, headN l)]) fun x hx => by rw [hW2] at hx; simpa using hx
        obtain ⟨s3, hs3⟩ : ∃ s3 : DS, s3 = ⟨s2.L, s2.W ++ [(1, headN l)], s2.left - 1, s2.dn + 1⟩ := ⟨_, rfl⟩
        rw [← hs3]
        have e1 : s3.L = s2.L := by rw [hs3]
        have e2 : s3.W = s2.W ++ [(1, headN l)] := by rw [hs3]
        rw [← e1, ← e2] at hB1
        have hL3 : s3.L.length = N := by rw [e1, hlf, hL1]
        have hfl := flush_all (fun _ => headN l) [1] (s := s3) (fun x hx _ => by rw [hB1.wt x hx]) (fun b hb => by have := List.mem_singleton.1 hb; subst this; omega) (fun b hb => by have := List.mem_singleton.1 hb; subst this; exact .inr ⟨(1, headN l), by rw [e2]; simp, rfl⟩)
        have hBl : LogOK (s3.flush [1]).2.L l := fun i p hp => flush_p (P := (· = p.2)) [1] (hB1.lg i p hp) fun x hx e => by rw [hB1.wt x hx] at e; simp at e; omega
        have hBh : ∀ b, 18 ≤ b → (s3.flush [1]).2.L.getD b zeroD = was b := fun b hb => flush_p (P := (· = was b)) [1] (hB1.hm b hb) fun x hx e => by rw [hB1.wt x hx] at e; simp at e; omega
        have hBw : ∀ x ∈ (s3.flush [1]).2.W, x = (1, headN l) := fun x hx => hB1.wt x (flush_w [1] x hx)
        have hL4 : (s3.flush [1]).2.L.length = N := by rw [flush_len, hL3]
        cases hf1 : (s3.flush [1]).1 with
        | false =>
          rw [bind_no hf1]
          refine ⟨?_, fun h => (by cases h)⟩
          -- the one step was not done: nothing has turned
          have he : (s3.flush [1]).2 = s3 := by
            rw [DS.flush] at hf1 ⊢
            split at hf1
            · cases hf1
            · rename_i h; rw [if_neg h]
          simp only [he]
          exact .inr (.inl hB1)
        | true =>
          rw [bind_yes hf1]
          obtain ⟨h5, h6⟩ := hfl hf1
          have hC : StC was l (s3.flush [1]).2.L (s3.flush [1]).2.W := ⟨h5 1 (by simp), hBl, fun x hx => absurd (by rw [hBw x hx]; simp) (h6 x hx).2, fun b hb => .inl (hBh b hb)⟩
          have hmh := mid_home hr hl (by omega) hL4 hC
          refine ⟨hmh.1, fun ht => ?_⟩
          show Don _ (DS.bind (s3.flush [1]) fun s4 => s4.home l).2
          rw [bind_yes hf1]
          exact hmh.2 ht
/-- a Commit under a fuse -/
theorem atom_commit {N : Nat} {l : List PutV} {s : DS} (hl : l.length ≤ 16) (hN : 18 ≤ N) (hL : s.L.length = N) (hW : s.W = []) (hz : s.L.getD 1 zeroD = zeroD) :
    ((s.commit l).1 ≠ 0 → (s.commit l).1 ≠ 20 → (s.commit l).2 = s) ∧ ((s.commit l).1 = 0 → Don (fun b => newB l (s.L.getD b zeroD) b) (s.commit l).2) ∧
    ((s.commit l).1 = 0 ∨ (s.commit l).1 = 20 → rightB N l = true ∧ Mid (fun b => s.L.getD b zeroD) l (s.commit l).2) := by
  unfold DS.commit
  rw [if_neg (by omega), hL]
  split
  · exact ⟨fun _ _ => rfl, fun h => by simp at h, fun h => by simp at h⟩
  · rename_i hr
    have hr : rightB N l = true := by simpa using hr
    split
    · rename_i h0
      obtain rfl := List.eq_nil_of_length_eq_zero h0
      exact ⟨fun _ _ => rfl, fun _ => ⟨⟨hz, fun b _ => rfl⟩, hW⟩, fun _ => ⟨hr, .inl ⟨hz, fun x hx => (by rw [hW] at hx; cases hx), fun b _ => rfl⟩⟩⟩
    · obtain ⟨h1, h2⟩ := mid_doit hr hl hN hL hW hz
      refine ⟨fun ha hb => ?_, fun ha => ?_, fun _ => ⟨hr, h1⟩⟩
      · split at ha <;> split at hb <;> simp_all
      · split at ha
        · rename_i hd; exact h2 hd
        · cases ha
/-- .. without one it ends -/
theorem logs_yes : ∀ (l : List PutV) (i : Nat) {s : DS}, l.length ≤ s.left → (s.logs i l).1 = true ∧ (s.logs i l).2.left = s.left - l.length
  | [], _, _, _ => ⟨rfl, rfl⟩
  | p :: l, i, s, h => by
    simp only [List.length_cons] at h ⊢
    have h1 := write_yes (2 + i) p.2 (s := s) (by omega)
    rw [DS.logs, bind_yes h1.1]
    have ih := logs_yes l (i + 1) (s := (s.write (2 + i) p.2).2) (by omega)
    exact ⟨ih.1, by rw [ih.2]; omega⟩
theorem commit_live {l : List PutV} {s : DS} (hl : l.length ≤ 16) (h : 100 ≤ s.left) : (s.commit l).1 ≠ 20 := by
  have hd : (s.doit l).1 = true := by
    obtain ⟨a1, a2⟩ := logs_yes l 0 (s := s) (by omega)
    unfold DS.doit
    rw [bind_yes a1]
    obtain ⟨b1, b2⟩ := flush_yes (logN l.length) (s := (s.logs 0 l).2) (by rw [logN_len]; omega)
    rw [logN_len] at b2
    rw [bind_yes b1]
    obtain ⟨c1, c2⟩ := write_yes 1 (headN l) (s := ((s.logs 0 l).2.flush (logN l.length)).2) (by omega)
    rw [bind_yes c1]
    obtain ⟨d1, d2⟩ := flush_yes [1] (s := (((s.logs 0 l).2.flush (logN l.length)).2.write 1 (headN l)).2) (by simp; omega)
    rw [bind_yes d1]
    exact home_yes (by rw [d2]; simp; omega)
  unfold DS.commit
  rw [if_neg (by omega)]
  split
  · simp
  · split
    · simp
    · simp [hd]
/-- what the log says is what was committed -/
theorem read_log {N : Nat} {l : List PutV} {s : DS} (hr : rightB N l = true) (hl : l.length ≤ 16) (h0 : l.length ≠ 0) (hN : N ≤ 1000) (hL : s.L.length = N) (hW : s.W = []) (hd : s.L.getD 1 zeroD = headN l) (hlog : LogOK s.L l) : s.read = l := by
  have hh : readD s.L s.W 1 = headN l := by rw [hW, read_nil]; exact hd
  have he : headN l = headI l l.length := by unfold headN; rw [if_neg h0]
  obtain ⟨h1, h2, h3⟩ := headI_at l hl l.length (Nat.le_refl _)
  have hlo : lo (headN l) 4 = l.length := by
    unfold lo; rw [he, h2]; simp; omega
  have hrd : rdL s.L s.W (headN l) l.length = l := by
    refine List.ext_getElem? fun i => ?_
    unfold rdL
    rw [List.getElem?_map]
    by_cases hi : i < l.length
    · rw [List.getElem?_range hi, List.getElem?_eq_getElem hi]
      obtain ⟨a, b⟩ := h1 i hi
      obtain ⟨bb, hb1, hb2, hb3⟩ := right_nat hr _ (List.getElem_mem hi)
      have hg : l.getD i (0, []) = l[i] := by rw [List.getD_eq_getElem?_getD, List.getElem?_eq_getElem hi]; rfl
      rw [hg, hb1] at a b
      simp only [Option.map_some, rdP, Option.some.injEq]
      have e2 : readD s.L s.W (2 + i) = l[i].2 := by rw [hW, read_nil]; exact hlog i _ (List.getElem?_eq_getElem hi)
      rw [e2, he]
      unfold lo
      rw [a, b]
      refine Prod.ext ?_ rfl
      simp only [hb1]
      simp
      omega
    · rw [List.getElem?_eq_none (by simp; omega), List.getElem?_eq_none (by omega)]; rfl
  unfold DS.read
  rw [hh]
  simp only
  rw [hlo, hrd, if_pos ⟨by rw [he]; exact h3, hl⟩, hL, if_pos ⟨hr, rfl⟩]
/-- ONE TURN: a Recover under a fuse, and a crash -/
theorem aft_step {N : Nat} {c : Prop} {was : Nat → Dat} {l : List PutV} {s : DS} (hr : rightB N l = true) (hl : l.length ≤ 16) (hN : 18 ≤ N) (hN2 : N ≤ 1000) (hL : s.L.length = N) (hW : s.W = []) (hA : Aft c was l s.L) (ks : List Bool) :
    s.fit N ∧ Aft c was l (crashL s.L s.W ks) ∧ Aft c was l (crashL s.recover.2.L s.recover.2.W ks) ∧
    (64 ≤ s.left → s.recover.1.2 = 0 ∧ s.recover.2.W = [] ∧ (Fin (fun b => newB l (was b) b) s.recover.2.L ∨ (¬ c ∧ Fin was s.recover.2.L))) := by
  have hz : s.L.getD 1 zeroD = zeroD → s.fit N ∧ s.recover = ((0, 0), s) := fun h => by
    have h1 : readD s.L s.W 1 = zeroD := by rw [hW]; exact h
    exact ⟨fun hm => by rw [h1] at hm; exact absurd hm (by decide), by unfold DS.recover; rw [hz_noread h1]; rfl⟩
  have hcr : crashL s.L s.W ks = s.L := by rw [hW, crash_nil]
  have hend : (s.L.getD 1 zeroD = zeroD) → (Fin (fun b => newB l (was b) b) s.L ∨ (¬ c ∧ Fin was s.L)) → s.fit N ∧ Aft c was l (crashL s.L s.W ks) ∧ Aft c was l (crashL s.recover.2.L s.recover.2.W ks) ∧
    (64 ≤ s.left → s.recover.1.2 = 0 ∧ s.recover.2.W = [] ∧ (Fin (fun b => newB l (was b) b) s.recover.2.L ∨ (¬ c ∧ Fin was s.recover.2.L))) := fun h0 h1 => by
    obtain ⟨a, b⟩ := hz h0
    rw [b, hcr]
    exact ⟨a, hA, hA, fun _ => ⟨rfl, hW, h1⟩⟩
  rcases hA with h | ⟨hc, h | h⟩
  · exact hend h.hd (.inl h)
  · exact hend h.hd (.inr ⟨hc, h⟩)
  · by_cases h0 : l.length = 0
    · obtain rfl := List.eq_nil_of_length_eq_zero h0
      have e0 : headN [] = zeroD := rfl
      exact hend (by rw [h.hd, e0]) (.inl ⟨by rw [h.hd, e0], fun b hb => (h.hm b hb).elim (fun h => h) fun h => h⟩)
    · have hrd := read_log hr hl h0 hN2 hL hW h.hd h.lg
      have hfit : s.fit N := fit_of hl hN2 hr (.inr (by rw [hW]; exact h.hd))
      obtain ⟨h1, h2⟩ := mid_home (s := s) hr hl (by omega) hL (by rw [hW]; exact h)
      have hrec : s.recover.2 = (s.home l).2 := by unfold DS.recover; rw [hrd, if_neg h0]
      have haft : Aft c was l (crashL (s.home l).2.L (s.home l).2.W ks) := by
        rcases mid_crash hr hl h1 ks with h3 | ⟨-, h3⟩
        · exact .inl h3
        · exact .inr ⟨hc, h3⟩
      refine ⟨hfit, by rw [hcr]; exact .inr ⟨hc, .inr h⟩, by rw [hrec]; exact haft, fun h64 => ?_⟩
      have hy : (s.home l).1 = true := home_yes (by omega)
      obtain ⟨h3, h4⟩ := h2 hy
      rw [hrec]
      refine ⟨?_, h4, .inl h3⟩
      unfold DS.recover
      rw [hrd, if_neg h0, if_pos hy]
end Go.Proofs.YtkfmdkbiglkjpaaGreat
