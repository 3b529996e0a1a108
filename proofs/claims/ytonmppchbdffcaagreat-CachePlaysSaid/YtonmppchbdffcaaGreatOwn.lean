/- Rows of one's own, boxes: small laws. No program. -/
import Derived.RangeFuncNested
import Derived.RangeFuncBox
import Derived.OneCell
import Derived.OwnWalk
namespace Go.Proofs.YtonmppchbdffcaaGreat
open Go Go.RowKit

theorem own_len {w : World} {base : Nat} {e : TypeId} {size : Nat} {v : Value} {n : Nat} {xs : List Value} (h : w.ownsRow base e size v n xs) : ∃ ad cap, v = .slice ad n cap ∧ n ≤ maxLen := by
  rcases h.2 with ⟨h1, h2⟩ | ⟨g, cap, cur, h1, _, _, h3, h4, _⟩
  · exact ⟨none, 0, by rw [h1, h2], by omega⟩
  · exact ⟨_, cap, h1, by omega⟩
theorem own_move {w w' : World} {B B' : Nat} {e : TypeId} {size : Nat} {v : Value} {n : Nat} {xs : List Value} (h : w.ownsRow B e size v n xs) (hB : B' ≤ B) (hk : ∀ k, v.ownBlock = some k → w'.heap[k]? = w.heap[k]?) : w'.ownsRow B' e size v n xs := by
  refine ⟨h.1, ?_⟩
  rcases h.2 with h0 | ⟨g, cap, cur, h1, h2, h3, h4⟩
  · exact .inl h0
  · exact .inr ⟨g, cap, cur, h1, Nat.le_trans hB h2, (hk g (by rw [h1]; rfl)).trans h3, h4⟩
theorem own_lt {w : World} {B : Nat} {e : TypeId} {size : Nat} {v : Value} {n : Nat} {xs : List Value} (h : w.ownsRow B e size v n xs) : ∀ k, v.ownBlock = some k → B ≤ k ∧ k < w.heap.size := by
  intro k hk
  rcases h.2 with ⟨h0, _⟩ | ⟨g, cap, cur, h1, h2, h3, h4⟩
  · rw [h0] at hk; simp [Value.ownBlock] at hk
  · rw [h1] at hk
    simp only [Value.ownBlock, Option.some.injEq] at hk
    subst hk
    exact ⟨h2, (Array.getElem?_eq_some_iff.1 h3).1⟩
theorem own_weak {w : World} {B B' : Nat} {e : TypeId} {size : Nat} {v : Value} {n : Nat} {xs : List Value} (h : w.ownsRow B e size v n xs) (hB : B' ≤ B) : w.ownsRow B' e size v n xs := own_move h hB fun _ _ => rfl
theorem own_on {w w' : World} {B : Nat} {e : TypeId} {size : Nat} {v : Value} {n : Nat} {xs : List Value} (h : w.ownsRow B e size v n xs) (hb : Below w.heap.size w w') : w'.ownsRow B e size v n xs := own_move h (Nat.le_refl _) fun k hk => hb.block k (own_lt h k hk).2
theorem own_shrink {w : World} {B : Nat} {e : TypeId} {ad : Option Addr} {n cap : Nat} {xs : List Value} (h : w.ownsRow B e 1 (.slice ad n cap) n xs) (k : Nat) (hk : k ≤ n) : w.ownsRow B e 1 (.slice ad k cap) k (xs.take k) := by
  refine ⟨by simp [h.1]; omega, ?_⟩
  rcases h.2 with ⟨h1, h2⟩ | ⟨g, cap', cur, h1, h2, h3, h4, h5, h6, h7⟩
  · left
    cases h1
    obtain rfl : k = 0 := by omega
    exact ⟨rfl, rfl⟩
  · right
    cases h1
    refine ⟨g, cap, cur, rfl, h2, h3, by omega, h5, h6, ?_⟩
    rw [← h7, List.take_take, Nat.mul_one, Nat.mul_one, Nat.min_eq_left hk]
theorem own_cell {w : World} {B : Nat} {e : TypeId} {size : Nat} {v : Value} {n : Nat} {xs : List Value} (h : w.ownsRow B e size v n xs) (h0 : 0 < n) :
    ∃ g cap, v = .slice (some ⟨g, 0, none⟩) n cap ∧ n ≤ cap ∧ ∀ j u, xs[j]? = some u → w.cell? ⟨g, j, none⟩ = some u := by
  rcases h.2 with ⟨_, h1⟩ | ⟨g, cap, cur, h1, h2, h3, h4, h5, h6, h7⟩
  · omega
  · refine ⟨g, cap, h1, h4, fun j u hu => ?_⟩
    rw [cell_of_row w g j _ _ _ h3]
    rw [← h7, List.getElem?_take] at hu
    split at hu
    · simpa using hu
    · cases hu

theorem ownFrom_ex {β γ : Type} {B : Nat} {I : γ → β → World → Prop} (h : ∀ y, OwnFrom B (I y)) : OwnFrom B (fun s W => ∃ y, I y s W) :=
  fun s W W' row ⟨y, hy⟩ hg hr => ⟨y, h y s W W' row hy hg hr⟩
theorem ownFrom_row {β : Type} {B : Nat} (n₀ b : Nat) (t e : TypeId) (size : Nat) (k : β → Nat) (f : β → List Value) : OwnFrom B (fun s W => ∃ v, Boxed W b t v ∧ W.ownsRow n₀ e size v (k s) (f s)) := fun s X Y row ⟨v, hv, hr⟩ hg hrow => by
  obtain ⟨v', h1, h2, _⟩ := holdsRow_own n₀ b t e size k f (fun _ _ => True) s X Y row ⟨v, hv, hr, trivial⟩ hg (fun r e => (hrow r e).2)
  exact ⟨v', h1, h2⟩
theorem ownFrom_box {β : Type} {B : Nat} (b : Nat) (t : TypeId) (f : β → Value) : OwnFrom B (fun s W => Boxed W b t (f s)) := (boxed_own b t f).from B

/-- a box whose row has grown -/
theorem boxed_append {W w1 : World} {n₀ base B : Nat} {t e : TypeId} {size : Nat} {v v' : Value} {k m : Nat} {xs ys : List Value} {tmp : Obj}
    (hv : Boxed W B t v) (hte : t ≠ e) (hrow : W.ownsRow base e size v k xs) (hn₀ : n₀ ≤ W.heap.size) (hB : n₀ ≤ B) (hbn : n₀ ≤ base) (hbs : base ≤ W.heap.size)
    (hown' : w1.ownsRow base e size v' m ys) (hgrow : (W.alloc tmp).grownBy w1 v.ownBlock) :
    Boxed w1 B t v ∧ Boxed (w1.setCell ⟨B, 0, none⟩ v') B t v' ∧ (w1.setCell ⟨B, 0, none⟩ v').ownsRow base e size v' m ys ∧ KeepsOthers W (w1.setCell ⟨B, 0, none⟩ v') ∧ Below n₀ W (w1.setCell ⟨B, 0, none⟩ v') ∧
      ∀ k, k < base → k ≠ B → (w1.setCell ⟨B, 0, none⟩ v').heap[k]? = W.heap[k]? := by
  obtain ⟨h1, h2, _, h4, h5⟩ := hv.appended hte (own_weak hrow hbn) hn₀ hB (own_weak hown' hbn) hgrow
  refine ⟨h1, h2, ownsRow_setCell_other hown' (fun e' => h1.not_row hte hown' e'.symm) _, h4, h5, fun k hk hkB => ?_⟩
  rw [heap_setCell_other _ _ _ _ hkB, hgrow.block k (by simp; omega) (fun e' => by have := (own_lt hrow k e'.symm).1; omega), Below.heap_alloc W tmp k (by omega)]
theorem own_form {w : World} {B : Nat} {e : TypeId} {size : Nat} {ad : Option Addr} {cap n : Nat} {xs : List Value} (h : w.ownsRow B e size (.slice ad n cap) n xs) :
    (ad = none ∧ cap = 0) ∨ (∃ g, ad = some ⟨g, 0, none⟩ ∧ n ≤ cap) := by
  rcases h.2 with ⟨h1, h2⟩ | ⟨g, cap', cur, h1, h2, h3, h4, h5, h6, h7⟩
  · cases h1; exact .inl ⟨rfl, rfl⟩
  · cases h1; exact .inr ⟨g, rfl, h4⟩
end Go.Proofs.YtonmppchbdffcaaGreat
