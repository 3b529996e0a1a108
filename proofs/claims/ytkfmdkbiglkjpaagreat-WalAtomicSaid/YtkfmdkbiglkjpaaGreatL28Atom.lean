/- The plain law of WalAtomic: what a Commit, a crash and a Recover leave of home and log. -/
import Derived.Test.YtkfmdkbiglkjpaaGreatL28Plain3
namespace Go.Proofs.YtkfmdkbiglkjpaaGreat
open Go Go.RowKit Go.Lib
set_option maxRecDepth 100000

/-- what a block holds behind these writes -/
def newB (l : List PutV) (z : Dat) (b : Nat) : Dat := l.foldl (fun z p => if p.1 = (b : Int) then p.2 else z) z
theorem newB_nil (z : Dat) (b : Nat) : newB [] z b = z := rfl
theorem newB_cons (p : PutV) (l : List PutV) (z : Dat) (b : Nat) : newB (p :: l) z b = newB l (if p.1 = (b : Int) then p.2 else z) b := rfl
theorem newB_none (b : Nat) : ∀ (l : List PutV) (z : Dat), (∀ p ∈ l, p.1 ≠ (b : Int)) → newB l z b = z
  | [], _, _ => rfl
  | p :: l, z, h => by
    rw [newB_cons, if_neg (h p (by simp))]
    exact newB_none b l z fun q hq => h q (by simp [hq])
theorem newB_mem (b : Nat) : ∀ (l : List PutV) (z : Dat), l.Pairwise (fun p q => q.1 ≠ p.1) → ∀ p ∈ l, p.1 = (b : Int) → newB l z b = p.2
  | [], _, _, p, hp, _ => by cases hp
  | q :: l, z, h, p, hp, e => by
    rw [newB_cons]
    rw [List.pairwise_cons] at h
    rcases List.mem_cons.1 hp with h1 | h1
    · subst h1
      rw [if_pos e]
      exact newB_none b l _ fun r hr h2 => h.1 r hr (by rw [h2, e])
    · exact newB_mem b l _ h.2 p h1 e
theorem right_pair {N : Nat} {l : List PutV} (h : rightB N l = true) : l.Pairwise (fun p q => q.1 ≠ p.1) := by
  rw [List.pairwise_iff_getElem]
  intro i j hi hj hij
  have h1 := List.all_eq_true.1 h j (List.mem_range.2 hj)
  rw [List.getD_eq_getElem?_getD, List.getElem?_eq_getElem hj, Option.getD_some, okAt] at h1
  simp only [Bool.and_eq_true, List.all_eq_true, decide_eq_true_eq] at h1
  exact h1.2 _ (List.mem_take_iff_getElem.2 ⟨i, by omega, rfl⟩)

/-! ### What is kept of a block -/
theorem set_p {P : Dat → Prop} {L : List Dat} {b c : Nat} {x : Dat} (hL : P (L.getD c zeroD)) (hx : b = c → P x) : P ((L.set b x).getD c zeroD) := by
  rw [getD_set]
  split
  · rename_i h; exact hx h.1
  · exact hL
theorem settle_p {P : Dat → Prop} (b c : Nat) : ∀ (W : List (Nat × Dat)) (L : List Dat), P (L.getD c zeroD) → (∀ x ∈ W, x.1 = c → P x.2) → P ((settleL L W b).getD c zeroD)
  | [], L, hL, _ => hL
  | x :: W, L, hL, hW => by
    show P ((settleL (if x.1 = b then L.set b x.2 else L) W b).getD c zeroD)
    refine settle_p b c W _ ?_ fun y hy => hW y (by simp [hy])
    split
    · rename_i h
      exact set_p hL fun e => hW x (by simp) (by omega)
    · exact hL
theorem settle_at {v : Dat} (b : Nat) : ∀ (W : List (Nat × Dat)) (L : List Dat), b < L.length → (∃ x ∈ W, x.1 = b) → (∀ x ∈ W, x.1 = b → x.2 = v) → (settleL L W b).getD b zeroD = v
  | [], _, _, h, _ => by obtain ⟨x, hx, _⟩ := h; cases hx
  | x :: W, L, hb, h, hv => by
    show (settleL (if x.1 = b then L.set b x.2 else L) W b).getD b zeroD = v
    by_cases hxb : x.1 = b
    · rw [if_pos hxb]
      refine settle_p (P := (· = v)) b b W _ ?_ fun y hy e => hv y (by simp [hy]) e
      rw [getD_set, if_pos ⟨rfl, hb⟩]
      exact hv x (by simp) hxb
    · rw [if_neg hxb]
      obtain ⟨y, hy, hyb⟩ := h
      rcases List.mem_cons.1 hy with h1 | h1
      · exact absurd (h1 ▸ hyb) hxb
      · exact settle_at b W L hb ⟨y, h1, hyb⟩ fun z hz => hv z (by simp [hz])
theorem flush1_p {P : Dat → Prop} {s : DS} {c : Nat} (b : Nat) (hL : P (s.L.getD c zeroD)) (hW : ∀ x ∈ s.W, x.1 = c → P x.2) : P ((s.flush1 b).2.L.getD c zeroD) := by
  unfold DS.flush1
  split
  · exact hL
  · exact settle_p b c _ _ hL hW
theorem flush1_w {s : DS} {b : Nat} : ∀ x ∈ (s.flush1 b).2.W, x ∈ s.W := by
  unfold DS.flush1
  split
  · exact fun x h => h
  · exact fun x h => (List.mem_filter.1 h).1
theorem flush_w : ∀ (bs : List Nat) {s : DS}, ∀ x ∈ (s.flush bs).2.W, x ∈ s.W
  | [], _, x, h => h
  | b :: bs, s, x, h => by
    rw [DS.flush] at h
    split at h
    · exact flush1_w x (flush_w bs x h)
    · exact h
theorem flush_p {P : Dat → Prop} {c : Nat} : ∀ (bs : List Nat) {s : DS}, P (s.L.getD c zeroD) → (∀ x ∈ s.W, x.1 = c → P x.2) → P ((s.flush bs).2.L.getD c zeroD)
  | [], _, hL, _ => hL
  | b :: bs, s, hL, hW => by
    rw [DS.flush]
    split
    · exact flush_p bs (flush1_p b hL hW) fun x hx => hW x (flush1_w x hx)
    · exact hL
theorem flush_len : ∀ (bs : List Nat) {s : DS}, (s.flush bs).2.L.length = s.L.length
  | [], _ => rfl
  | b :: bs, s => by
    rw [DS.flush]
    split
    · rw [flush_len bs]
      unfold DS.flush1
      split
      · rfl
      · exact settleL_len _ _ _
    · rfl
theorem crash_p {P : Dat → Prop} {L : List Dat} {W : List (Nat × Dat)} {c : Nat} (ks : List Bool) (hL : P (L.getD c zeroD)) (hW : ∀ x ∈ W, x.1 = c → P x.2) : P ((crashL L W ks).getD c zeroD) := by
  have key : ∀ i, i ≤ W.length → P ((crashN L W ks i).getD c zeroD) := by
    intro i
    induction i with
    | zero => exact fun _ => hL
    | succ i ih =>
      intro hi
      rw [crashN]
      split
      · refine set_p (ih (by omega)) fun e => ?_
        have e2 : wAt W i = W[i] := by unfold wAt; rw [List.getD_eq_getElem?_getD, List.getElem?_eq_getElem (by omega)]; rfl
        rw [e2] at e ⊢
        exact hW _ (List.getElem_mem _) e
      · exact ih (by omega)
  exact key _ (Nat.le_refl _)
theorem crash_nil (L : List Dat) (ks : List Bool) : crashL L [] ks = L := rfl
/-- all is flushed: what waited stands, and waits no more -/
theorem flush_all (v : Nat → Dat) : ∀ (bs : List Nat) {s : DS}, (∀ x ∈ s.W, x.1 ∈ bs → x.2 = v x.1) → (∀ b ∈ bs, b < s.L.length) → (∀ b ∈ bs, s.L.getD b zeroD = v b ∨ ∃ x ∈ s.W, x.1 = b) → (s.flush bs).1 = true →
    (∀ b ∈ bs, (s.flush bs).2.L.getD b zeroD = v b) ∧ ∀ x ∈ (s.flush bs).2.W, x ∈ s.W ∧ x.1 ∉ bs
  | [], _, _, _, _, _ => ⟨fun b hb => (by cases hb), fun x hx => ⟨hx, by simp⟩⟩
  | b :: bs, s, hv, hb, hg, ht => by
    rw [DS.flush] at ht ⊢
    split at ht
    case isFalse => cases ht
    rename_i h1
    rw [if_pos h1]
    have hW1 : (s.flush1 b).2.W = settleW s.W b := by
      unfold DS.flush1 at h1 ⊢
      split at h1
      · cases h1
      · rename_i hl; rw [if_neg hl]
    have hL1 : (s.flush1 b).2.L = settleL s.L s.W b := by
      unfold DS.flush1 at h1 ⊢
      split at h1
      · cases h1
      · rename_i hl; rw [if_neg hl]
    have hno : ∀ x ∈ (s.flush1 b).2.W, x ∈ s.W ∧ x.1 ≠ b := fun x hx => by
      rw [hW1] at hx
      have := List.mem_filter.1 hx
      exact ⟨this.1, by simpa using this.2⟩
    have hbv : (s.flush1 b).2.L.getD b zeroD = v b := by
      rw [hL1]
      by_cases h2 : ∃ x ∈ s.W, x.1 = b
      · exact settle_at b s.W s.L (hb b (by simp)) h2 fun x hx e => by rw [hv x hx (by rw [e]; simp), e]
      · refine settle_p (P := (· = v b)) b b s.W s.L ?_ fun x hx e => absurd ⟨x, hx, e⟩ h2
        rcases hg b (by simp) with h3 | h3
        · exact h3
        · exact absurd h3 h2
    have ih := flush_all v bs (s := (s.flush1 b).2) (fun x hx hm => hv x (hno x hx).1 (by simp [hm])) (fun c hc => by rw [hL1, settleL_len]; exact hb c (by simp [hc])) (fun c hc => by
      by_cases hcb : c = b
      · left; rw [hcb]; exact hbv
      · rcases hg c (by simp [hc]) with h3 | ⟨x, hx, hxc⟩
        · by_cases h4 : ∃ x ∈ s.W, x.1 = c
          · obtain ⟨x, hx, hxc⟩ := h4
            right
            exact ⟨x, by rw [hW1]; exact List.mem_filter.2 ⟨hx, by simp; omega⟩, hxc⟩
          · left
            exact flush1_p (P := (· = v c)) b h3 fun x hx e => absurd ⟨x, hx, e⟩ h4
        · right
          exact ⟨x, by rw [hW1]; exact List.mem_filter.2 ⟨hx, by simp; omega⟩, hxc⟩) ht
    refine ⟨fun c hc => ?_, fun x hx => ?_⟩
    · rcases List.mem_cons.1 hc with h2 | h2
      · rw [h2]
        exact flush_p (P := (· = v b)) bs hbv fun x hx e => absurd e (hno x hx).2
      · exact ih.1 c h2
    · have := ih.2 x hx
      refine ⟨(hno x this.1).1, fun hm => ?_⟩
      rcases List.mem_cons.1 hm with h2 | h2
      · exact (hno x this.1).2 h2
      · exact this.2 h2

/-! ### The stages of a Commit -/
def LogOK (L : List Dat) (l : List PutV) : Prop := ∀ (i : Nat) (p : PutV), l[i]? = some p → L.getD (2 + i) zeroD = p.2
/-- nothing is said of the Commit -/
structure StA (was : Nat → Dat) (L : List Dat) (W : List (Nat × Dat)) : Prop where
  hd : L.getD 1 zeroD = zeroD
  wt : ∀ x ∈ W, 2 ≤ x.1 ∧ x.1 < 18
  hm : ∀ b, 18 ≤ b → L.getD b zeroD = was b
structure StB (was : Nat → Dat) (l : List PutV) (L : List Dat) (W : List (Nat × Dat)) : Prop where
  hd : L.getD 1 zeroD = zeroD
  lg : LogOK L l
  wt : ∀ x ∈ W, x = (1, headN l)
  hm : ∀ b, 18 ≤ b → L.getD b zeroD = was b
structure StC (was : Nat → Dat) (l : List PutV) (L : List Dat) (W : List (Nat × Dat)) : Prop where
  hd : L.getD 1 zeroD = headN l
  lg : LogOK L l
  wt : ∀ x ∈ W, ∃ p ∈ l, x = (p.1.toNat, p.2)
  hm : ∀ b, 18 ≤ b → L.getD b zeroD = was b ∨ L.getD b zeroD = newB l (was b) b
structure StD (was : Nat → Dat) (l : List PutV) (L : List Dat) (W : List (Nat × Dat)) : Prop where
  hd : L.getD 1 zeroD = headN l ∨ L.getD 1 zeroD = zeroD
  lg : LogOK L l
  wt : ∀ x ∈ W, x = (1, zeroD)
  hm : ∀ b, 18 ≤ b → L.getD b zeroD = newB l (was b) b
/-- nothing of it is left but what was written -/
structure Fin (v : Nat → Dat) (L : List Dat) : Prop where
  hd : L.getD 1 zeroD = zeroD
  hm : ∀ b, 18 ≤ b → L.getD b zeroD = v b
def Mid (was : Nat → Dat) (l : List PutV) (s : DS) : Prop := StA was s.L s.W ∨ StB was l s.L s.W ∨ StC was l s.L s.W ∨ StD was l s.L s.W
/-- behind a crash; 'c': the Commit was OK -/
def Aft (c : Prop) (was : Nat → Dat) (l : List PutV) (L : List Dat) : Prop := Fin (fun b => newB l (was b) b) L ∨ (¬ c ∧ (Fin was L ∨ StC was l L []))

theorem mid_crash {was : Nat → Dat} {l : List PutV} {s : DS} {N : Nat} (hr : rightB N l = true) (hl : l.length ≤ 16) (h : Mid was l s) (ks : List Bool) : Aft False was l (crashL s.L s.W ks) := by
  rcases h with h | h | h | h
  · refine .inr ⟨fun h => h, .inl ⟨crash_p (P := (· = zeroD)) ks h.hd fun x hx e => ?_, fun b hb => crash_p (P := (· = was b)) ks (h.hm b hb) fun x hx e => ?_⟩⟩
    · have := h.wt x hx; omega
    · have := h.wt x hx; omega
  · have h1 := crash_p (P := fun d => d = zeroD ∨ d = headN l) ks (.inl h.hd) fun x hx _ => by rw [h.wt x hx]; exact .inr rfl
    have hlog : LogOK (crashL s.L s.W ks) l := fun i p hp => crash_p (P := (· = p.2)) ks (h.lg i p hp) fun x hx e => by rw [h.wt x hx] at e; simp at e; omega
    have hhm : ∀ b, 18 ≤ b → (crashL s.L s.W ks).getD b zeroD = was b := fun b hb => crash_p (P := (· = was b)) ks (h.hm b hb) fun x hx e => by rw [h.wt x hx] at e; simp at e; omega
    refine .inr ⟨fun h => h, ?_⟩
    rcases h1 with h1 | h1
    · exact .inl ⟨h1, hhm⟩
    · exact .inr ⟨h1, hlog, fun x hx => (by cases hx), fun b hb => .inl (hhm b hb)⟩
  · have h18 : ∀ x ∈ s.W, 18 ≤ x.1 := fun x hx => by
      obtain ⟨p, hp, rfl⟩ := h.wt x hx
      obtain ⟨b, e, h1, -⟩ := right_nat hr p hp
      simp only [e]; omega
    refine .inr ⟨fun h => h, .inr ⟨crash_p (P := (· = headN l)) ks h.hd fun x hx e => ?_, fun i p hp => crash_p (P := (· = p.2)) ks (h.lg i p hp) fun x hx e => ?_, fun x hx => (by cases hx),
      fun b hb => crash_p (P := fun d => d = was b ∨ d = newB l (was b) b) ks (h.hm b hb) fun x hx e => ?_⟩⟩
    · have := h18 x hx; omega
    · have := h18 x hx
      have := (List.getElem?_eq_some_iff.1 hp).1
      omega
    · obtain ⟨p, hp, rfl⟩ := h.wt x hx
      right
      obtain ⟨b', e', h1, -⟩ := right_nat hr p hp
      exact (newB_mem b l _ (right_pair hr) p hp (by simp only at e; omega)).symm
  · have h1 := crash_p (P := fun d => d = headN l ∨ d = zeroD) ks h.hd fun x hx _ => by rw [h.wt x hx]; exact .inr rfl
    have hlog : LogOK (crashL s.L s.W ks) l := fun i p hp => crash_p (P := (· = p.2)) ks (h.lg i p hp) fun x hx e => by rw [h.wt x hx] at e; simp at e; omega
    have hhm : ∀ b, 18 ≤ b → (crashL s.L s.W ks).getD b zeroD = newB l (was b) b := fun b hb => crash_p (P := (· = newB l (was b) b)) ks (h.hm b hb) fun x hx e => by rw [h.wt x hx] at e; simp at e; omega
    rcases h1 with h1 | h1
    · exact .inr ⟨fun h => h, .inr ⟨h1, hlog, fun x hx => (by cases hx), fun b hb => .inr (hhm b hb)⟩⟩
    · exact .inl ⟨h1, hhm⟩

/-! ### Home -/
theorem stc_write {was : Nat → Dat} {l : List PutV} {s : DS} {p : PutV} (hp : p ∈ l) (h : StC was l s.L s.W) : StC was l (s.write p.1.toNat p.2).2.L (s.write p.1.toNat p.2).2.W := by
  unfold DS.write
  split
  · exact h
  · exact ⟨h.hd, h.lg, fun x hx => (List.mem_append.1 hx).elim (h.wt x) fun h1 => ⟨p, hp, List.mem_singleton.1 h1⟩, h.hm⟩
theorem write_w {s : DS} {b : Nat} {d : Dat} : (∀ x ∈ s.W, x ∈ (s.write b d).2.W) ∧ ((s.write b d).1 = true → (b, d) ∈ (s.write b d).2.W) := by
  unfold DS.write
  split
  · exact ⟨fun x h => h, fun h => (by cases h)⟩
  · exact ⟨fun x h => List.mem_append_left _ h, fun _ => List.mem_append_right _ (by simp)⟩
theorem stc_writes {was : Nat → Dat} {l : List PutV} : ∀ (m : List PutV) {s : DS}, (∀ p ∈ m, p ∈ l) → StC was l s.L s.W → StC was l (s.writes m).2.L (s.writes m).2.W ∧ (∀ x ∈ s.W, x ∈ (s.writes m).2.W) ∧ ((s.writes m).1 = true → ∀ p ∈ m, (p.1.toNat, p.2) ∈ (s.writes m).2.W)
  | [], s, _, h => ⟨h, fun x hx => hx, fun _ p hp => (by cases hp)⟩
  | p :: m, s, hm, h => by
    have h1 := stc_write (p := p) (hm p (by simp)) h
    have h2 := write_w (s := s) (b := p.1.toNat) (d := p.2)
    rw [DS.writes]
    cases hw : (s.write p.1.toNat p.2).1 with
    | false =>
      rw [bind_no hw]
      exact ⟨h1, h2.1, fun h => (by cases h)⟩
    | true =>
      rw [bind_yes hw]
      have ih := stc_writes m (s := (s.write p.1.toNat p.2).2) (fun q hq => hm q (by simp [hq])) h1
      refine ⟨ih.1, fun x hx => ih.2.1 x (h2.1 x hx), fun ht q hq => ?_⟩
      rcases List.mem_cons.1 hq with h3 | h3
      · rw [h3]; exact ih.2.1 _ (h2.2 hw)
      · exact ih.2.2 ht q h3
theorem stc_flush {N : Nat} {was : Nat → Dat} {l : List PutV} {s : DS} (bs : List Nat) (hr : rightB N l = true) (hl : l.length ≤ 16) (h : StC was l s.L s.W) : StC was l (s.flush bs).2.L (s.flush bs).2.W := by
  have h18 : ∀ x ∈ s.W, 18 ≤ x.1 := fun x hx => by
    obtain ⟨p, hp, rfl⟩ := h.wt x hx
    obtain ⟨b, e, h1, -⟩ := right_nat hr p hp
    simp only [e]; omega
  refine ⟨flush_p (P := (· = headN l)) bs h.hd fun x hx e => ?_, fun i p hp => flush_p (P := (· = p.2)) bs (h.lg i p hp) fun x hx e => ?_, fun x hx => h.wt x (flush_w bs x hx),
      fun b hb => flush_p (P := fun d => d = was b ∨ d = newB l (was b) b) bs (h.hm b hb) fun x hx e => ?_⟩
  · have := h18 x hx; omega
  · have := h18 x hx
    have := (List.getElem?_eq_some_iff.1 hp).1
    omega
  · obtain ⟨p, hp, rfl⟩ := h.wt x hx
    right
    obtain ⟨b', e', h1, -⟩ := right_nat hr p hp
    exact (newB_mem b l _ (right_pair hr) p hp (by simp only at e; omega)).symm
/-- home and header, and nothing waits -/
structure Don (v : Nat → Dat) (s : DS) : Prop where
  fin : Fin v s.L
  wt : s.W = []
theorem mid_home {N : Nat} {was : Nat → Dat} {l : List PutV} {s : DS} (hr : rightB N l = true) (hl : l.length ≤ 16) (hN : 2 ≤ N) (hL : s.L.length = N) (h : StC was l s.L s.W) :
    Mid was l (s.home l).2 ∧ ((s.home l).1 = true → Don (fun b => newB l (was b) b) (s.home l).2) := by
  have h1 := stc_writes l (s := s) (fun p hp => hp) h
  have hlw : (s.writes l).2.L.length = N := by
    have : ∀ (m : List PutV) (t : DS), (t.writes m).2.L = t.L := by
      intro m
      induction m with
      | nil => exact fun t => rfl
      | cons p m ih =>
        intro t
        have e1 : (t.write p.1.toNat p.2).2.L = t.L := by unfold DS.write; split <;> rfl
        rw [DS.writes]
        cases hw : (t.write p.1.toNat p.2).1 with
        | false => rw [bind_no hw]; exact e1
        | true => rw [bind_yes hw, ih]; exact e1
    rw [this, hL]
  unfold DS.home
  cases hw : (s.writes l).1 with
  | false => rw [bind_no hw]; exact ⟨.inr (.inr (.inl h1.1)), fun h => (by cases h)⟩
  | true =>
    rw [bind_yes hw]
    generalize (s.writes l).2 = s1 at h1 hlw
    have h2 := stc_flush (l.map (·.1.toNat)) hr hl h1.1
    have hv : ∀ x ∈ s1.W, x.2 = newB l (was x.1) x.1 := fun x hx => by
      obtain ⟨p, hp, rfl⟩ := h1.1.wt x hx
      obtain ⟨b', e', h3, -⟩ := right_nat hr p hp
      exact (newB_mem _ l _ (right_pair hr) p hp (by simp only [e']; omega)).symm
    have hfa := flush_all (fun b => newB l (was b) b) (l.map (·.1.toNat)) (s := s1) (fun x hx _ => hv x hx) (fun b hb => by
      obtain ⟨p, hp, rfl⟩ := List.mem_map.1 hb
      obtain ⟨b', e', -, h3⟩ := right_nat hr p hp
      rw [hlw, e']; omega) (fun b hb => by
      obtain ⟨p, hp, rfl⟩ := List.mem_map.1 hb
      exact .inr ⟨_, h1.2.2 hw p hp, rfl⟩)
    have hlf := flush_len (l.map (·.1.toNat)) (s := s1)
    cases hf : (s1.flush (l.map (·.1.toNat))).1 with
    | false => rw [bind_no hf]; exact ⟨.inr (.inr (.inl h2)), fun h => (by cases h)⟩
    | true =>
      rw [bind_yes hf]
      obtain ⟨ha, hb⟩ := hfa hf
      have hkeep : ∀ b, 18 ≤ b → b ∉ l.map (·.1.toNat) → (s1.flush (l.map (·.1.toNat))).2.L.getD b zeroD = newB l (was b) b := fun b hb18 hnb => by
        have e1 : newB l (was b) b = was b := newB_none b l _ fun p hp e => hnb (List.mem_map.2 ⟨p, hp, by rw [e]; rfl⟩)
        rcases h2.hm b hb18 with h3 | h3
        · rw [h3, e1]
        · exact h3
      generalize (s1.flush (l.map (·.1.toNat))).2 = s2 at h2 ha hb hlf hkeep
      have hW : s2.W = [] := by
        cases hc : s2.W with
        | nil => rfl
        | cons x W =>
          have hx : x ∈ s2.W := by rw [hc]; simp
          obtain ⟨p, hp, e⟩ := h2.wt x hx
          exact absurd (List.mem_map.2 ⟨p, hp, by rw [e]⟩) (hb x hx).2
      have hhm : ∀ b, 18 ≤ b → s2.L.getD b zeroD = newB l (was b) b := fun b hb18 => by
        by_cases hm : b ∈ l.map (·.1.toNat)
        · exact ha b hm
        · exact hkeep b hb18 hm
      unfold DS.write
      by_cases hl0 : s2.left = 0
      · rw [if_pos hl0]
        exact ⟨.inr (.inr (.inl h2)), fun h => (by cases h)⟩
      · rw [if_neg hl0]
        have hD : StD was l s2.L (s2.W ++ [(1, zeroD)]) := ⟨.inl h2.hd, h2.lg, fun x hx => by rw [hW] at hx; simpa using hx, hhm⟩
        show Mid was l (DS.flush ⟨s2.L, s2.W ++ [(1, zeroD)], s2.left - 1, s2.dn + 1⟩ [1]).2 ∧ ((DS.flush ⟨s2.L, s2.W ++ [(1, zeroD)], s2.left - 1, s2.dn + 1⟩ [1]).1 = true → _)
        have hfl := flush_all (fun _ => zeroD) [1] (s := ⟨s2.L, s2.W ++ [(1, zeroD)], s2.left - 1, s2.dn + 1⟩) (fun x hx _ => by
          have := hD.wt x hx; rw [this]) (fun b hb => by have := List.mem_singleton.1 hb; subst this; simp only; omega) (fun b hb => by have := List.mem_singleton.1 hb; subst this; exact .inr ⟨(1, zeroD), List.mem_append_right _ (by simp), rfl⟩)
        have hDf : StD was l (DS.flush ⟨s2.L, s2.W ++ [(1, zeroD)], s2.left - 1, s2.dn + 1⟩ [1]).2.L (DS.flush ⟨s2.L, s2.W ++ [(1, zeroD)], s2.left - 1, s2.dn + 1⟩ [1]).2.W :=
          ⟨flush_p (P := fun d => d = headN l ∨ d = zeroD) [1] hD.hd fun x hx _ => by rw [hD.wt x hx]; exact .inr rfl, fun i p hp => flush_p (P := (· = p.2)) [1] (hD.lg i p hp) fun x hx e => by rw [hD.wt x hx] at e; simp at e; omega,
            fun x hx => hD.wt x (flush_w [1] x hx), fun b hb => flush_p (P := (· = newB l (was b) b)) [1] (hD.hm b hb) fun x hx e => by rw [hD.wt x hx] at e; simp at e; omega⟩
        refine ⟨.inr (.inr (.inr hDf)), fun ht => ?_⟩
        obtain ⟨h3, h4⟩ := hfl ht
        show Don _ (DS.flush ⟨s2.L, s2.W ++ [(1, zeroD)], s2.left - 1, s2.dn + 1⟩ [1]).2
        refine ⟨⟨h3 1 (by simp), hDf.hm⟩, ?_⟩
        cases hc : (DS.flush ⟨s2.L, s2.W ++ [(1, zeroD)], s2.left - 1, s2.dn + 1⟩ [1]).2.W with
        | nil => rfl
        | cons x W =>
          have hx : x ∈ (DS.flush ⟨s2.L, s2.W ++ [(1, zeroD)], s2.left - 1, s2.dn + 1⟩ [1]).2.W := by rw [hc]; simp
          exact absurd (by rw [hDf.wt x hx]; simp) (h4 x hx).2
end Go.Proofs.YtkfmdkbiglkjpaaGreat
