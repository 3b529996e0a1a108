/- A range over a function whose iterator may write a cell of its own between two rounds: what comes is a list that is known ahead. No program. -/
import Derived.RangeFuncNested
import Derived.RangeFuncBound
import Derived.RangeFuncCalls
import Derived.RangeFuncLeaves
import Derived.OwnWalkIn
import Derived.RegionIn
namespace Go.Proofs.YtonmppchbdffcaaGreat
open Go Go.RowKit
variable {F : Fence} {n : Nat} {P : Program}

/-- An iterator's contract: xs come, one by one; T: what it does to the world between two rounds; Kp: what a round that goes on must keep; G: its own cells ahead. -/
def IterOK {α : Type} (F : Fence) (n : Nat) (P : Program) (g : Nat) (lb : Array Value) (encs : α → Array Value) (T Kp : World → World → Prop) (G : World → Prop) (xs : List α) : Prop :=
  ∀ (l : Nat) (J Jx : List α → World → Prop) (W : World), G W → (∀ s W W', J s W → T W W' → J s W') →
    (∀ pre x W1, pre ++ [x] <+: xs → J pre W1 → YieldAt F (n - 1) P l (encs x) W1 fun e W' =>
      (e = .returned (.bool true) ∧ J (pre ++ [x]) W' ∧ Kp W1 W') ∨ (e = .returned (.bool false) ∧ Jx (pre ++ [x]) W')) →
    J [] W →
    CallsIn F n P g (#[.func (.yield l) #[] #[]] ++ lb) W fun e W' => (∃ v, e = .returned v) ∧ (J xs W' ∨ ∃ pre, pre <+: xs ∧ Jx pre W')

theorem IterOK.inRound {α : Type} {g : Nat} {lb : Array Value} {encs : α → Array Value} {T Kp : World → World → Prop} {G : World → Prop} {xs : List α} (l : Nat) (h : IterOK F n P g lb encs T Kp G xs) : IterOK (F.inRound l) n P g lb encs T Kp G xs := h

/-- The loop's record. -/
def recd (fn : FuncId) (tmps : Array Value) (ps : Array Tmp) (assign body : Code) (d : Nat) (st : LoopState) (pe : Option Code) : Loop := { state := st, pending := pe, fn, tmps, params := ps, assign, body, defers := d }

/-- How a round's body may be left. -/
def bodyEnd {α : Type} (l : Nat) (Kp : World → World → Prop) (I : List α → World → Prop) (Ix : Code → List α → World → Prop) (xs : List α) (W : World) : Exit → Act → World → Prop
  | .normal, _, W' => W'.heap[l]? = W.heap[l]? ∧ Kp W W' ∧ I xs W'
  | .ret, _, W' => W'.heap[l]? = W.heap[l]? ∧ Ix .ret xs W'
  | .exit id, _, W' => W'.heap[l]? = W.heap[l]? ∧ Ix (.exit id) xs W'
  | .goto t, _, W' => W'.heap[l]? = W.heap[l]? ∧ Ix (.goto t) xs W'
  | .panic _, _, _ => False
  | .outgrown, _, _ => False

/-- The iterator's call, seen from the loop. -/
theorem range_core {α : Type} {Q : Exit → Act → World → Prop} {a' : Act} {l : Nat} {fn : FuncId} {tmps : Array Value} {ps : Array Tmp} {assign body : Code} {d : Nat} (hfn : F.fn fn)
    {gf : Nat} {lb : Array Value} {encs : α → Array Value} {T Kp : World → World → Prop} {G : World → Prop} {xs : List α} (hseq : IterOK F (n - 1) P gf lb encs T Kp G xs) (hps : ∀ x, (encs x).size = ps.size)
    (hKt : ∀ {A B C : World}, Kp A B → Kp B C → Kp A C) (hKl : ∀ W r r', W.heap[l]? = some (.loop r) → Kp W (W.putObj l (.loop r')))
    (hTl : ∀ W W', T W W' → l < W.heap.size → W'.heap[l]? = W.heap[l]?)
    (I : List α → World → Prop) (Ix : Code → List α → World → Prop) (hIT : ∀ s W W', I s W → T W W' → I s W')
    (hIl : ∀ s W r r', I s W → W.heap[l]? = some (.loop r) → I s (W.putObj l (.loop r')))
    (hIxl : ∀ c s W r r', Ix c s W → W.heap[l]? = some (.loop r) → Ix c s (W.putObj l (.loop r')))
    (Ax : α → Act → World → Prop) (hAx : ∀ x a W r r', Ax x a W → W.heap[l]? = some (.loop r) → Ax x a (W.putObj l (.loop r')))
    {W1 : World} (hG : G W1) (hL1 : W1.heap[l]? = some (.loop (recd fn tmps ps assign body d .ready none))) (h0 : I [] W1)
    (hassign : ∀ (pre : List α) (x : α) (W : World) (K : Act → World → Prop), I pre W → (∃ r, W.heap[l]? = some (.loop r)) → (∀ a₁ W', W'.heap[l]? = W.heap[l]? → Kp W W' → I pre W' → Ax x a₁ W' → K a₁ W') →
      assign.wpIn (F.inRound l) (n - 1 - 1) P (Exit.then K (fun _ _ _ => False)) { tmps := (ps.zip (encs x)).foldl (fun t (p, v) => t.setIfInBounds p v) tmps, defers := [] } W)
    (hbody : ∀ (pre : List α) (x : α) (a₁ : Act) (W : World), pre ++ [x] <+: xs → (∃ r, W.heap[l]? = some (.loop r)) → I pre W → Ax x a₁ W → body.wpIn (F.inRound l) (n - 1 - 1) P (bodyEnd l Kp I Ix (pre ++ [x]) W) a₁ W)
    (hdone : ∀ (W : World), I xs W → Q .normal a' W)
    (hstop : ∀ (c : Code) (pre : List α) (W : World), Ix c pre W → c.wpIn F n P Q a' W) :
    CallsIn F (n - 1) P gf (#[.func (.yield l) #[] #[]] ++ lb) W1 (rangePost F n P l Q a') := by
  have put : ∀ {W : World} {o o' : Obj}, W.heap[l]? = some o → (W.putObj l o').heap[l]? = some o' := fun h => World.putObj_heap_same (Array.getElem?_eq_some_iff.1 h).1
  refine (hseq l (fun pre W => I pre W ∧ W.heap[l]? = some (.loop (recd fn tmps ps assign body d .ready none)))
    (fun pre W => ∃ c, Ix c pre W ∧ W.heap[l]? = some (.loop (recd fn tmps ps assign body d .done (some c)))) W1 hG
    (fun s W W' hs ht => ⟨hIT s W W' hs.1 ht, (hTl W W' ht (Array.getElem?_eq_some_iff.1 hs.2).1).trans hs.2⟩) ?_ ⟨h0, hL1⟩).mono ?_
  · rintro pre x W hx ⟨hi, hl⟩
    refine ⟨fn, _, assign, body, run_yield (P := P) (args := encs x) hl (hps x), roundIn_of_wpIn hfn (hassign pre x W _ hi ⟨_, hl⟩ ?_)⟩
    intro a₁ Wa hla hka hia hax
    rw [hl] at hla
    refine ⟨_, run_beginRound hla rfl, ?_⟩
    have hl2 := put (o' := .loop { recd fn tmps ps assign body d .ready none with state := .busy }) hla
    refine wpIn_mono (hbody pre x a₁ _ hx ⟨_, hl2⟩ (hIl _ _ _ _ hia hla) (hAx _ _ _ _ _ hax hla)) ?_
    have k2 := hKl Wa _ { recd fn tmps ps assign body d .ready none with state := .busy } hla
    rintro e a3 W3 hp
    cases e with
    | normal =>
      obtain ⟨hl3, hk3, hi3⟩ := hp
      rw [hl2] at hl3
      exact ⟨_, _, run_endRound none hl3, .inl ⟨rfl, ⟨hIl _ _ _ _ hi3 hl3, put hl3⟩, hKt hka (hKt (hKt k2 hk3) (hKl _ _ _ hl3))⟩⟩
    | ret =>
      obtain ⟨hl3, hi3⟩ := hp
      rw [hl2] at hl3
      exact ⟨_, _, run_endRound (some .ret) hl3, .inr ⟨rfl, .ret, hIxl _ _ _ _ _ hi3 hl3, put hl3⟩⟩
    | exit id =>
      obtain ⟨hl3, hi3⟩ := hp
      rw [hl2] at hl3
      exact ⟨_, _, run_endRound (some (.exit id)) hl3, .inr ⟨rfl, .exit id, hIxl _ _ _ _ _ hi3 hl3, put hl3⟩⟩
    | goto t =>
      obtain ⟨hl3, hi3⟩ := hp
      rw [hl2] at hl3
      exact ⟨_, _, run_endRound (some (.goto t)) hl3, .inr ⟨rfl, .goto t, hIxl _ _ _ _ _ hi3 hl3, put hl3⟩⟩
    | panic ch => exact hp.elim
    | outgrown => exact hp.elim
  · rintro e W2 ⟨⟨v, rfl⟩, (⟨hi, hl⟩ | ⟨pre, hp, c, hi, hl⟩)⟩
    · exact ⟨none, _, run_endLoop hl (by simp [recd]), hdone _ (hIl _ _ _ _ hi hl)⟩
    · exact ⟨some c, _, run_endLoop hl (by simp [recd]), hstop c pre _ (hIxl _ _ _ _ _ hi hl)⟩

/-- THE LAW, outside of any round: the record lies at w's heap's end and one, the block for deferred calls at its end. -/
theorem range_outer {α : Type} {g : Operand} {ps : Array Tmp} {assign body : Code} {Q : Exit → Act → World → Prop} {a : Act} {w : World}
    (hro : F.round = none) (h1 : 1 ≤ n) {gf : Nat} {lb : Array Value} (hg : a.eval g = .func (.func gf) #[] lb) (hFg : F.fn gf) (eg : ∀ args w, (callFunc gf args).run P w = .ok (.enter gf args) w)
    {encs : α → Array Value} {T Kp : World → World → Prop} {G : World → Prop} {xs : List α} (hseq : IterOK F (n - 1) P gf lb encs T Kp G xs) (hps : ∀ x, (encs x).size = ps.size)
    (hKt : ∀ {A B C : World}, Kp A B → Kp B C → Kp A C) (hKl : ∀ W l r r', w.heap.size ≤ l → W.heap[l]? = some (.loop r) → Kp W (W.putObj l (.loop r')))
    (hTl : ∀ W W' l, T W W' → w.heap.size ≤ l → l < W.heap.size → W'.heap[l]? = W.heap[l]?)
    (I : List α → World → Prop) (Ix : Code → List α → World → Prop) (hIT : ∀ s W W', I s W → T W W' → I s W') (hI : OwnFrom w.heap.size I) (hIx : ∀ c, OwnFrom w.heap.size (Ix c))
    (Ax : α → Act → World → Prop) (hAx : ∀ x a', OwnFrom w.heap.size (fun (_ : Unit) W => Ax x a' W))
    (hG : ∀ W, Below w.heap.size w W → G W) (h0 : I [] w)
    (hassign : ∀ (l : Nat) (pre : List α) (x : α) (W : World) (K : Act → World → Prop), I pre W → w.heap.size ≤ l → l < W.heap.size → (∀ a₁ W', KeepsFrom w.heap.size W W' → Kp W W' → I pre W' → Ax x a₁ W' → K a₁ W') →
      assign.wpIn (F.inRound l) (n - 1 - 1) P (Exit.then K (fun _ _ _ => False)) { tmps := (ps.zip (encs x)).foldl (fun t (p, v) => t.setIfInBounds p v) a.tmps, defers := [] } W)
    (hbody : ∀ (l : Nat) (pre : List α) (x : α) (a₁ : Act) (W : World), pre ++ [x] <+: xs → w.heap.size ≤ l → (∃ r, W.heap[l]? = some (.loop r)) → I pre W → Ax x a₁ W → body.wpIn (F.inRound l) (n - 1 - 1) P (ownPostG w.heap.size Kp I Ix (pre ++ [x]) W) a₁ W)
    (hdone : ∀ (D : Nat) (W : World), w.heap.size ≤ D → I xs W → W.heap[D]? = some (.deferred (some [])) → Q .normal { a with defers := { target := .collected D, args := #[] } :: a.defers } W)
    (hstop : ∀ (D : Nat) (c : Code) (pre : List α) (W : World), w.heap.size ≤ D → Ix c pre W → W.heap[D]? = some (.deferred (some [])) → c.wpIn F n P Q { a with defers := { target := .collected D, args := #[] } :: a.defers } W) :
    (Code.rangeFunc g ps assign body).wpIn F n P Q a w := by
  refine wpIn_rangeFunc ?_
  intro fn hfn
  rw [hro]
  obtain ⟨W1, hW1⟩ : ∃ W1, (w.alloc (.deferred (some []))).alloc (.loop (recd fn a.tmps ps assign body w.heap.size .ready none)) = W1 := ⟨_, rfl⟩
  have hL1 : W1.heap[w.heap.size + 1]? = some (.loop (recd fn a.tmps ps assign body w.heap.size .ready none)) := by
    rw [← hW1]; have := World.alloc_heap_new (w.alloc (.deferred (some []))) (.loop (recd fn a.tmps ps assign body w.heap.size .ready none)); rwa [World.size_alloc] at this
  have hK1 : W1.heap[w.heap.size]? = some (.deferred (some [])) := by
    rw [← hW1]; exact (Below.heap_alloc _ _ _ (by simp)).trans (World.alloc_heap_new w _)
  have hI1 : I [] W1 := by rw [← hW1]; exact hI.alloc _ (hI.alloc _ h0)
  have hb1 : Below w.heap.size w W1 := by
    rw [← hW1]; exact ((Below.refl _ w).alloc (Nat.le_refl _) _).alloc (by simp) _
  refine ⟨w.heap.size + 1, [{ target := .collected w.heap.size, args := #[] }], W1, { target := .fn (.func gf) lb, args := #[.func (.yield (w.heap.size + 1)) #[] #[]] }, W1, gf,
    #[.func (.yield (w.heap.size + 1)) #[] #[]] ++ lb, W1, ?_, ?_, ?_, ?_, fun _ => h1, ?_⟩
  · rw [← hW1]; exact run_enterLoop_outer _ _ _ _ _
  · simp only [resolve, hg]
    simp [go_sem]
  · intro f' hf'; simp [Target.leads] at hf'; subst hf'; exact hFg
  · simp [invoke, go_sem, eg]
  · have other : ∀ {W : World} {o : Obj}, (W.putObj (w.heap.size + 1) o).heap[w.heap.size]? = W.heap[w.heap.size]? := World.putObj_heap_other (by omega)
    refine range_core (l := w.heap.size + 1) hfn hseq hps hKt (fun W r r' h => hKl W _ r r' (by omega) h) (fun W W' h hlt => hTl W W' _ h (by omega) hlt)
      (fun s W => I s W ∧ W.heap[w.heap.size]? = some (.deferred (some []))) (fun c s W => Ix c s W ∧ W.heap[w.heap.size]? = some (.deferred (some [])))
      (fun s W W' hs ht => ⟨hIT s W W' hs.1 ht, (hTl W W' _ ht (Nat.le_refl _) (Array.getElem?_eq_some_iff.1 hs.2).1).trans hs.2⟩)
      (fun s W r r' hs hl => ⟨hI.putObj _ hs.1 (by omega) hl rfl, other.trans hs.2⟩)
      (fun c s W r r' hs hl => ⟨(hIx c).putObj _ hs.1 (by omega) hl rfl, other.trans hs.2⟩)
      Ax (fun x a' W r r' h hl => (hAx x a').putObj (s := ()) _ h (by omega) hl rfl)
      (hG W1 hb1) hL1 ⟨hI1, hK1⟩ ?_ ?_ ?_ ?_
    · rintro pre x W K ⟨hi, hk⟩ ⟨r, hl⟩ hK
      exact hassign _ pre x W K hi (by omega) (Array.getElem?_eq_some_iff.1 hl).1 fun a₁ W' hkf hkp hi' hax =>
        hK a₁ W' ((hkf.same _ _ (by omega) hl rfl).trans hl.symm) hkp ⟨hi', hkf.same _ _ (Nat.le_refl _) hk rfl⟩ hax
    · rintro pre x a₁ W hx ⟨r, hl⟩ ⟨hi, hk⟩ hax
      refine wpIn_mono (hbody _ pre x a₁ W hx (by omega) ⟨r, hl⟩ hi hax) ?_
      rintro e a3 W3 hp
      cases e with
      | normal => exact ⟨(hp.1.same _ _ (by omega) hl rfl).trans hl.symm, hp.2.1, hp.2.2, hp.1.same _ _ (Nat.le_refl _) hk rfl⟩
      | ret => exact ⟨(hp.1.same _ _ (by omega) hl rfl).trans hl.symm, hp.2, hp.1.same _ _ (Nat.le_refl _) hk rfl⟩
      | exit id => exact ⟨(hp.1.same _ _ (by omega) hl rfl).trans hl.symm, hp.2, hp.1.same _ _ (Nat.le_refl _) hk rfl⟩
      | goto t => exact ⟨(hp.1.same _ _ (by omega) hl rfl).trans hl.symm, hp.2, hp.1.same _ _ (Nat.le_refl _) hk rfl⟩
      | panic ch => exact hp.elim
      | outgrown => exact hp.elim
    · exact fun W hs => hdone _ W (Nat.le_refl _) hs.1 hs.2
    · exact fun c pre W hs => hstop _ c pre W (Nat.le_refl _) hs.1 hs.2

/-- THE LAW, in a round of loop l₀: the record lies at w's heap's end. -/
theorem range_inner {α : Type} {g : Operand} {ps : Array Tmp} {assign body : Code} {Q : Exit → Act → World → Prop} {a : Act} {w : World}
    {l₀ : Nat} {r₀ : Loop} (hro : F.round = some l₀) (hl₀ : w.heap[l₀]? = some (.loop r₀)) (h1 : 1 ≤ n) {gf : Nat} {lb : Array Value} (hg : a.eval g = .func (.func gf) #[] lb) (hFg : F.fn gf) (eg : ∀ args w, (callFunc gf args).run P w = .ok (.enter gf args) w)
    {encs : α → Array Value} {T Kp : World → World → Prop} {G : World → Prop} {xs : List α} (hseq : IterOK F (n - 1) P gf lb encs T Kp G xs) (hps : ∀ x, (encs x).size = ps.size)
    (hKt : ∀ {A B C : World}, Kp A B → Kp B C → Kp A C) (hKl : ∀ W l r r', w.heap.size ≤ l → W.heap[l]? = some (.loop r) → Kp W (W.putObj l (.loop r')))
    (hTl : ∀ W W' l, T W W' → w.heap.size ≤ l → l < W.heap.size → W'.heap[l]? = W.heap[l]?)
    (I : List α → World → Prop) (Ix : Code → List α → World → Prop) (hIT : ∀ s W W', I s W → T W W' → I s W') (hI : OwnFrom w.heap.size I) (hIx : ∀ c, OwnFrom w.heap.size (Ix c))
    (Ax : α → Act → World → Prop) (hAx : ∀ x a', OwnFrom w.heap.size (fun (_ : Unit) W => Ax x a' W))
    (hG : ∀ W, Below w.heap.size w W → G W) (h0 : I [] w)
    (hassign : ∀ (l : Nat) (pre : List α) (x : α) (W : World) (K : Act → World → Prop), I pre W → w.heap.size ≤ l → l < W.heap.size → (∀ a₁ W', KeepsFrom w.heap.size W W' → Kp W W' → I pre W' → Ax x a₁ W' → K a₁ W') →
      assign.wpIn (F.inRound l) (n - 1 - 1) P (Exit.then K (fun _ _ _ => False)) { tmps := (ps.zip (encs x)).foldl (fun t (p, v) => t.setIfInBounds p v) a.tmps, defers := [] } W)
    (hbody : ∀ (l : Nat) (pre : List α) (x : α) (a₁ : Act) (W : World), pre ++ [x] <+: xs → w.heap.size ≤ l → (∃ r, W.heap[l]? = some (.loop r)) → I pre W → Ax x a₁ W → body.wpIn (F.inRound l) (n - 1 - 1) P (ownPostG w.heap.size Kp I Ix (pre ++ [x]) W) a₁ W)
    (hdone : ∀ (W : World), I xs W → Q .normal a W)
    (hstop : ∀ (c : Code) (pre : List α) (W : World), Ix c pre W → c.wpIn F n P Q a W) :
    (Code.rangeFunc g ps assign body).wpIn F n P Q a w := by
  refine wpIn_rangeFunc ?_
  intro fn hfn
  rw [hro]
  obtain ⟨W1, hW1⟩ : ∃ W1, w.alloc (.loop (recd fn a.tmps ps assign body r₀.defers .ready none)) = W1 := ⟨_, rfl⟩
  refine ⟨w.heap.size, [], W1, { target := .fn (.func gf) lb, args := #[.func (.yield w.heap.size) #[] #[]] }, W1, gf,
    #[.func (.yield w.heap.size) #[] #[]] ++ lb, W1, ?_, ?_, ?_, ?_, fun _ => h1, ?_⟩
  · rw [← hW1]; exact run_enterLoop_inner hl₀ _ _ _ _ _
  · simp only [resolve, hg]
    simp [go_sem]
  · intro f' hf'; simp [Target.leads] at hf'; subst hf'; exact hFg
  · simp [invoke, go_sem, eg]
  · refine range_core (l := w.heap.size) hfn hseq hps hKt (fun W r r' h => hKl W _ r r' (Nat.le_refl _) h) (fun W W' h hlt => hTl W W' _ h (Nat.le_refl _) hlt) I Ix hIT
      (fun s W r r' hs hl => hI.putObj _ hs (Nat.le_refl _) hl rfl) (fun c s W r r' hs hl => (hIx c).putObj _ hs (Nat.le_refl _) hl rfl)
      Ax (fun x a' W r r' h hl => (hAx x a').putObj (s := ()) _ h (Nat.le_refl _) hl rfl)
      (by rw [← hW1]; exact hG _ ((Below.refl _ w).alloc (Nat.le_refl _) _)) (by rw [← hW1]; exact World.alloc_heap_new w _) (by rw [← hW1]; exact hI.alloc _ h0) ?_ ?_ hdone hstop
    · rintro pre x W K hi ⟨r, hl⟩ hK
      exact hassign _ pre x W K hi (Nat.le_refl _) (Array.getElem?_eq_some_iff.1 hl).1 fun a₁ W' hkf hkp hi' hax =>
        hK a₁ W' ((hkf.same _ _ (Nat.le_refl _) hl rfl).trans hl.symm) hkp hi' hax
    · rintro pre x a₁ W hx ⟨r, hl⟩ hi hax
      refine wpIn_mono (hbody _ pre x a₁ W hx (Nat.le_refl _) ⟨r, hl⟩ hi hax) ?_
      rintro e a3 W3 hp
      cases e with
      | normal => exact ⟨(hp.1.same _ _ (Nat.le_refl _) hl rfl).trans hl.symm, hp.2.1, hp.2.2⟩
      | ret => exact ⟨(hp.1.same _ _ (Nat.le_refl _) hl rfl).trans hl.symm, hp.2⟩
      | exit id => exact ⟨(hp.1.same _ _ (Nat.le_refl _) hl rfl).trans hl.symm, hp.2⟩
      | goto t => exact ⟨(hp.1.same _ _ (Nat.le_refl _) hl rfl).trans hl.symm, hp.2⟩
      | panic ch => exact hp.elim
      | outgrown => exact hp.elim
/-- a call of a function whose contract is plain, at the wide fence -/
theorem wide_call {f : FuncId} {args : Array Value} {w : World} {R R' : Ending → World → Prop} (h : Calls P f args w R) (hq : ∀ e w', R e w' → R' e w') : Fence.wide.fn f ∧ CallsIn Fence.wide n P f args w R' :=
  ⟨trivial, (callsIn_wide.2 h).mono hq⟩
/-- .. in a round -/
theorem round_call {l : Nat} {f : FuncId} {args : Array Value} {w : World} {R R' : Ending → World → Prop} (h : Calls P f args w R) (hq : ∀ e w', R e w' → R' e w') : (Fence.wide.inRound l).fn f ∧ CallsIn (Fence.wide.inRound l) n P f args w R' :=
  ⟨trivial, CallsIn.inRound l ((callsIn_wide.2 h).mono hq)⟩
/-- at a step of a region that draws its order, in whatever fence: append to a row of one's own -/
theorem stepIn_append_own {F : Fence} {n : Nat} {P : Program} (w : World) {ops : Array Oper} {o : Oper} {a : Act} {K : Act → World → Prop} {Q : Exit → Act → World → Prop}
    (hg : o.guard = none) (s x : Operand) (t : TypeId) (hop : o.op = Op.call { callee := Callee.builtin Builtin.append, args := #[s, x], argTypes := #[t, t] })
    (base : Nat) (e : TypeId) (i : TypeInfo) (z : Value) (size bytes : Nat) (h1 : P.underlying t = some (.slice e)) (h2 : P.info? e = some i) (h3 : i.zero = some z) (h4 : i.size = size) (h5 : i.bytes = bytes) (h6 : z.cells.size = size) (h7 : 0 < size)
    (v : Value) (k : Nat) (xs : List Value) (hs : a.eval s = v) (hown : w.ownsRow base e size v k xs) (ad : Addr) (m c : Nat) (news : List Value) (hx : a.eval x = .slice (some ad) m c) (hn : news.length = m * size)
    (hc : ∀ j u, news[j]? = some u → w.cell? (ad.add j) = some u) (h1c : ∀ u ∈ news, u.oneCell' = true) (b1 : k + m ≤ maxLen) (b2 : (k + m) * bytes ≤ 140737488355328) (b3 : base ≤ w.heap.size)
    (hK : ∀ v' w', w'.ownsRow base e size v' (k + m) (xs ++ news) → w.grownBy w' v.ownBlock → K (a.put o.dst v') w') :
    if Region.wanted o (yielded ops a.tmps) = true then Oper.wpIn F n P o a w K Q else (∀ f, o.about P w a.eval = some f → F.fn f) ∧ K (a.put o.dst undef) w := by
  have hwant : Region.wanted o (yielded ops a.tmps) = true := by simp [Region.wanted, hg]
  rw [if_pos hwant]
  obtain ⟨v', w', hrun, r1, r2, _⟩ := run_append_own (P := P) w base t o.type e i z size bytes h1 h2 h3 h4 h5 h6 h7 v k xs hown ad m c news hn hc h1c b1 b2 b3
  unfold Oper.wpIn
  refine ⟨?_, ?_⟩
  · simp [Oper.about, hop, resolve, Target.leads, Sem.run_pure]
  · rw [Oper.semAt_plain F _ _ (by rw [hop]; intro c hc'; cases hc')]
    simp [execOp, hop, resolve, invoke, builtin, hs, hx, hrun, Result.andThen]
    exact hK v' w' r1 r2
end Go.Proofs.YtonmppchbdffcaaGreat
