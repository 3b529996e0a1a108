/- What script.Parse's reader holds, and what a step does to it. -/
import Derived.Test.YtdhpagdfigghfaaGreatDoorLine
namespace Go.Proofs.YtdhpagdfigghfaaGreatDoor
open Go.RowKit Go.Lib
set_option maxRecDepth 100000

theorem own_move {w w' : World} {B B' : Nat} {e : TypeId} {size : Nat} {v : Value} {n : Nat} {xs : List Value} (h : w.ownsRow B e size v n xs) (hB : B' ≤ B) (hk : ∀ k, v.ownBlock = some k → w'.heap[k]? = w.heap[k]?) : w'.ownsRow B' e size v n xs := by
  refine ⟨h.1, ?_⟩
  rcases h.2 with h0 | ⟨g, cap, cur, h1, h2, h3, h4⟩
  · exact .inl h0
  · exact .inr ⟨g, cap, cur, h1, Nat.le_trans hB h2, (hk g (by rw [h1]; rfl)).trans h3, h4⟩
theorem own_lt {w : World} {B : Nat} {e : TypeId} {size : Nat} {v : Value} {n : Nat} {xs : List Value} (h : w.ownsRow B e size v n xs) : ∀ k, v.ownBlock = some k → B ≤ k ∧ k < w.heap.size := by
  intro k hk
  rcases h.2 with ⟨h0, _⟩ | ⟨g, cap, cur, h1, h2, h3, h4⟩
  · rw [h0] at hk; simp [Value.ownBlock] at hk
  · rw [h1] at hk
    simp only [Value.ownBlock, Option.some.injEq] at hk
    subst hk
    exact ⟨h2, (Array.getElem?_eq_some_iff.1 h3).1⟩

/-- the steps' cells -/
def StepsAt (w : World) (B : Nat) (row : Option Nat) (xs : List Value) (done : List Ln) : Prop :=
  ∀ i x, done[i]? = some x → ∃ y, xs[3 * i]? = some (.int .i64 x.kind) ∧ xs[3 * i + 1]? = some (.int .i64 x.num) ∧ xs[3 * i + 2]? = some y ∧ BytesAt w B y x.bytes ∧ (∀ k, y.ownBlock = some k → some k ≠ row)

/-- what the reader holds when 'done' has been read -/
structure PS (w : World) (ls : List (List UInt8)) (done : List Ln) (a : Int) (wr : World) : Prop where
  below : Below w.heap.size w wr
  size : w.heap.size + 4 ≤ wr.heap.size
  res : wr.heap[w.heap.size]? = some (.cells #[.int .i64 0, .int .i64 0, .slice none 0 0, .slice none 0 0, .int .i64 0, .slice none 0 0] 28 (0, 0))
  lines : wr.heap[w.heap.size + 1]? = some (.cells (ls.map fun l => Value.string (bs l)).toArray 9 (0, 0))
  steps : ∃ stp xs, RdAt wr (w.heap.size + 2) (.int .i64 0) (.int .i64 16) (.slice (some ⟨w.heap.size + 3, 0, none⟩) 1 1) (.slice none 0 0) (.int .i64 80) stp (.slice (some ⟨w.heap.size + 1, 0, none⟩) ls.length ls.length) (.int .i64 a) ∧
    wr.ownsRow (w.heap.size + 4) 51 3 stp done.length xs ∧ StepsAt wr (w.heap.size + 4) stp.ownBlock xs done

theorem StepsAt.move {w w' : World} {B : Nat} {row : Option Nat} {xs : List Value} {done : List Ln} (h : StepsAt w B row xs done) (hk : ∀ k, B ≤ k → k < w.heap.size → some k ≠ row → w'.heap[k]? = w.heap[k]?) : StepsAt w' B row xs done := by
  intro i x hx
  obtain ⟨y, h1, h2, h3, h4, h5⟩ := h i x hx
  exact ⟨y, h1, h2, h3, own_move h4 (Nat.le_refl _) (fun k e => hk k (own_lt h4 k e).1 (own_lt h4 k e).2 (h5 k e)), h5⟩

theorem PS.on {w wr w' : World} {ls : List (List UInt8)} {done : List Ln} {a : Int} (h : PS w ls done a wr) (hb : Below wr.heap.size wr w') : PS w ls done a w' := by
  obtain ⟨h1, h2, h3, h4, stp, xs, h5, h6, h7⟩ := h
  refine ⟨h1.trans (hb.mono (by omega)), Nat.le_trans h2 hb.size, (hb.block _ (by omega)).trans h3, (hb.block _ (by omega)).trans h4, stp, xs, h5.below hb, ?_, ?_⟩
  · exact own_move h6 (Nat.le_refl _) fun k e => hb.block k (own_lt h6 k e).2
  · exact h7.move fun k _ hk _ => hb.block k hk

theorem step_ps (x : Ln) {w wl w1 : World} {ls : List (List UInt8)} {done : List Ln} {a : Int} (h : PS w ls done a wl) (hb : Below wl.heap.size wl w1) (hn : done.length < 1000) (y : Value) (hy : BytesAt w1 wl.heap.size y x.bytes) :
    Calls Tryz.prog 31 #[.pointer (some ⟨w.heap.size + 2, 0, none⟩), .agg #[.int .i64 x.kind, .int .i64 x.num, y]] w1 fun e w' => ∃ c, e = .returned (.int .i64 c) ∧ (c = 0 ∧ PS w ls (done ++ [x]) a w') := by
  have h1 := h.on hb
  obtain ⟨hB, hz, hR, hL, stp, xs, hrd, hown, hst⟩ := h
  have hz1 := h1.size
  have hown1 : w1.ownsRow (w.heap.size + 4) 51 3 stp done.length xs := own_move hown (Nat.le_refl _) fun k e => hb.block k (own_lt hown k e).2
  have hrow : ∀ k, stp.ownBlock = some k → w.heap.size + 4 ≤ k := fun k e => (own_lt hown k e).1
  have hy1 : y.oneCell' = true := by obtain ⟨_, _, rfl, _⟩ := own_len hy; rfl
  refine (step_ok (w.heap.size + 2) done.length (w.heap.size + 4) _ _ _ _ _ stp _ _ x.kind x.num y xs w1 (hrd.below hb) hown1 hn hz1 (fun e => by have := hrow _ e; omega) hy1).mono ?_
  rintro e w2 ⟨rfl, g, cap, hrd2, hown2, hgb, hg, hk⟩
  have hold : ∀ k, k < w1.heap.size → k ≠ w.heap.size + 2 → k < w.heap.size + 4 → w2.heap[k]? = w1.heap[k]? := fun k h1 h2 h3 => hk.block k h1 h2 (fun e => by have := hrow k e.symm; omega)
  refine ⟨0, rfl, rfl, ?_, ?_, ?_, ?_, .slice (some ⟨g, 0, none⟩) (done.length + 1) cap, xs ++ [.int .i64 x.kind, .int .i64 x.num, y], hrd2, by simpa using hown2, ?_⟩
  · exact h1.below.trans ⟨hk.os, hk.tape, hk.output, hk.size, fun k hlt => hold k (by omega) (by omega) (by omega)⟩
  · have := hk.size; omega
  · rw [hold _ (by omega) (by omega) (by omega)]; exact h1.res
  · rw [hold _ (by omega) (by omega) (by omega)]; exact h1.lines
  · have hst1 : StepsAt w1 (w.heap.size + 4) stp.ownBlock xs done := hst.move fun k _ hlt _ => hb.block k hlt
    have hxl : xs.length = 3 * done.length := by rw [hown1.1]; omega
    intro i z hz
    rcases Nat.lt_or_ge i done.length with hlt | hge
    · rw [List.getElem?_append_left hlt] at hz
      obtain ⟨v, e1, e2, e3, e4, e5⟩ := hst1 i z hz
      refine ⟨v, by rw [List.getElem?_append_left (by omega)]; exact e1, by rw [List.getElem?_append_left (by omega)]; exact e2, by rw [List.getElem?_append_left (by omega)]; exact e3, ?_, ?_⟩
      · exact own_move e4 (Nat.le_refl _) fun k ek => hk.block k (own_lt e4 k ek).2 (by have := (own_lt e4 k ek).1; omega) (e5 k ek)
      · intro k ek
        have hk1 := (own_lt e4 k ek).2
        have hk2 := e5 k ek
        simp only [Value.ownBlock]
        intro e
        have e : k = g := by simpa using e
        rcases hg with hg | hg
        · exact hk2 (by rw [hg, e])
        · omega
    · have hi : i = done.length := by
        have := (List.getElem?_eq_some_iff.1 hz).1
        simp at this; omega
      subst hi
      rw [List.getElem?_append_right (by omega)] at hz
      simp at hz
      subst hz
      refine ⟨y, ?_, ?_, ?_, ?_, ?_⟩
      · rw [List.getElem?_append_right (by omega), hxl, Nat.sub_self]; rfl
      · rw [List.getElem?_append_right (by omega), hxl, show 3 * done.length + 1 - 3 * done.length = 1 by omega]; rfl
      · rw [List.getElem?_append_right (by omega), hxl, show 3 * done.length + 2 - 3 * done.length = 2 by omega]; rfl
      · refine own_move hy (by omega) fun k ek => hk.block k (own_lt hy k ek).2 (by have := (own_lt hy k ek).1; omega) ?_
        intro e
        have := (own_lt hown k e.symm).2
        have := (own_lt hy k ek).1
        omega
      · intro k ek
        have h3 := (own_lt hy k ek)
        simp only [Value.ownBlock]
        intro e
        have e : k = g := by simpa using e
        rcases hg with hg | hg
        · have := (own_lt hown g hg).2; omega
        · omega

theorem step_ps_full (x : Ln) {w wl w1 : World} {ls : List (List UInt8)} {done : List Ln} {a : Int} (h : PS w ls done a wl) (hb : Below wl.heap.size wl w1) (hn : done.length = 1000) (y : Value) :
    Calls Tryz.prog 31 #[.pointer (some ⟨w.heap.size + 2, 0, none⟩), .agg #[.int .i64 x.kind, .int .i64 x.num, y]] w1 fun e w' => ∃ c, e = .returned (.int .i64 c) ∧ (c = 22 ∧ PS w ls done a w') := by
  have h1 := h.on hb
  obtain ⟨hB, hz, hR, hL, stp, xs, hrd, hown, hst⟩ := h1
  rw [hn] at hown
  refine (step_full (w.heap.size + 2) (w.heap.size + 4) _ _ _ _ _ stp _ _ _ xs w1 hrd hown x.kind x.num y rfl).mono ?_
  rintro e w2 ⟨rfl, hb2⟩
  exact ⟨22, rfl, rfl, (h.on hb).on hb2⟩

theorem ItoaAt.on {w w1 : World} {n : Nat} {l : List UInt8} (h : ItoaAt w n l) (hb : Below w.heap.size w w1) : ItoaAt w1 n l := fun w2 h2 => h w2 (hb.trans (h2.mono hb.size))
theorem Ln.Ok.on {w w1 : World} {x : Ln} (h : x.Ok w) (hb : Below w.heap.size w w1) : x.Ok w1 := by
  cases x with
  | shw => trivial
  | trn n l => exact ⟨h.1, h.2.1, h.2.2.1, h.2.2.2.1, h.2.2.2.2.on hb⟩
  | typ l => exact h

/-- what a line does -/
theorem line_ps (x : Ln) {w wl : World} {ls : List (List UInt8)} {done : List Ln} {a : Int} (h : PS w ls done a wl) (hx : x.Ok w) (c : Int) (done' : List Ln) (hc : (c = 0 ∧ done.length < 1000 ∧ done' = done ++ [x]) ∨ (c = 22 ∧ done.length = 1000 ∧ done' = done)) (g cap : Nat)
    (hp : ∀ j p, x.parts[j]? = some p → wl.cell? ⟨g, j, none⟩ = some (.string (bs p))) :
    Calls Tryz.prog 17 #[.pointer (some ⟨w.heap.size + 2, 0, none⟩), .slice (some ⟨g, 0, none⟩) x.parts.length cap] wl fun e w' => ∃ d, e = .returned (.int .i64 d) ∧ (d = c ∧ PS w ls done' a w') := by
  have hs : ∀ w1 y, Below wl.heap.size wl w1 → BytesAt w1 wl.heap.size y x.bytes → Calls Tryz.prog 31 #[.pointer (some ⟨w.heap.size + 2, 0, none⟩), .agg #[.int .i64 x.kind, .int .i64 x.num, y]] w1 fun e w' => ∃ d, e = .returned (.int .i64 d) ∧ (d = c ∧ PS w ls done' a w') := by
    intro w1 y hb hy
    rcases hc with ⟨rfl, h1, rfl⟩ | ⟨rfl, h1, rfl⟩
    · exact step_ps x h hb h1 y hy
    · exact step_ps_full x h hb h1 y
  have hx := hx.on h.below
  cases x with
  | shw => exact line_show g cap _ wl (fun d w' => d = c ∧ PS w ls done' a w') (hp 0 _ rfl) (hs wl _ (Below.refl _ _) (World.ownsRow_nil _ _ _ _))
  | trn n l => exact line_turn g cap _ n l wl (fun d w' => d = c ∧ PS w ls done' a w') hx (hp 0 _ rfl) (hp 1 _ rfl) (fun w1 hb => hs w1 _ hb (World.ownsRow_nil _ _ _ _))
  | typ l => exact line_type g cap _ l wl (fun d w' => d = c ∧ PS w ls done' a w') hx (hp 0 _ rfl) (hp 1 _ rfl) (fun w1 y hb hy => hs w1 y hb hy)

end Go.Proofs.YtdhpagdfigghfaaGreatDoor
