/- asm.reader: what it holds: labels in a map, lines in a row; the plain law of first. -/
import Derived.Test.YtapjfcljbdlnkaaGreatDoorAsmNum
import Derived.Test.YtapjfcljbdlnkaaGreatDoorAsmName
import Derived.Test.YtapjfcljbdlnkaaGreatDoorAsmBase
import Derived.Maps.OwnIn
namespace Go.Proofs.YtapjfcljbdlnkaaGreatDoor
open Go Go.RowKit Go.Lib
set_option maxRecDepth 100000

/-- a label's place, among those that are known -/
def look (labs : List (List UInt8 × Nat)) (s : List UInt8) : Option Nat := (labs.find? (fun x => x.1 == s)).map (·.2)
theorem look_cons_same (labs : List (List UInt8 × Nat)) (k : List UInt8) (v : Nat) : look ((k, v) :: labs) k = some v := by simp [look]
theorem look_cons_ne (labs : List (List UInt8 × Nat)) (k s : List UInt8) (v : Nat) (h : s ≠ k) : look ((k, v) :: labs) s = look labs s := by
  have : (k == s) = false := by simpa using Ne.symm h
  simp [look, List.find?, this]
/-- the datum is the labels' -/
def LabD (D : DataW Unit) (labs : List (List UInt8 × Nat)) : Prop :=
  Maps.IsMap D ∧ ∀ s, Maps.has D (.string s) = (look labs s).isSome ∧ D.atKey (.string s) (.lit (.int .i64 0)) = .lit (.int .i64 (((look labs s).getD 0 : Nat) : Int))
theorem labD_nil : LabD (.map []) [] := ⟨Maps.isMap_empty, fun _ => ⟨rfl, rfl⟩⟩
theorem LabD.put {D : DataW Unit} {labs : List (List UInt8 × Nat)} (h : LabD D labs) (k : List UInt8) (v : Nat) : LabD (D.put (.string k) (.lit (.int .i64 (v : Int)))) ((k, v) :: labs) := by
  refine ⟨h.1.put _ _, fun s => ?_⟩
  by_cases e : s = k
  · subst e
    rw [look_cons_same]
    exact ⟨Maps.has_put_same h.1 (by trivial) _, Maps.atKey_put_same h.1 (by trivial) _ _⟩
  · have hne : Lit.string s ≠ Lit.string k := fun e' => e (by injection e')
    rw [look_cons_ne _ _ _ _ e]
    exact ⟨(Maps.has_put_other hne _).trans (h.2 s).1, (Maps.atKey_put_other hne _ _).trans (h.2 s).2⟩

/-- a slice that reads as parts (one at least) -/
def PartsIn (W : World) (lo : Nat) (v : Value) (ps : List (List UInt8)) : Prop :=
  ∃ g off cap, v = .slice (some ⟨g, off, none⟩) ps.length cap ∧ ps.length ≤ cap ∧ cap ≤ maxLen ∧ ps ≠ [] ∧ lo ≤ g ∧ (∃ cs, W.heap[g]? = some (.cells cs 9 (0, 0))) ∧ ∀ (j : Nat) (x : List UInt8), ps[j]? = some x → W.cell? ⟨g, off + j, none⟩ = some (.string (bs x))
theorem PartsIn.kept {W W' : World} {lo : Nat} {v : Value} {ps : List (List UInt8)} (h : PartsIn W lo v ps) (hk : ∀ (k : Nat) (cs : Array Value), lo ≤ k → W.heap[k]? = some (.cells cs 9 (0, 0)) → W'.heap[k]? = W.heap[k]?) : PartsIn W' lo v ps := by
  obtain ⟨g, off, cap, h1, h2, h3, h4, h4', ⟨cs, h5⟩, h6⟩ := h
  have e := hk g cs h4' h5
  exact ⟨g, off, cap, h1, h2, h3, h4, h4', ⟨cs, e.trans h5⟩, fun j x hx => (World.cell?_of_block (a := ⟨g, off + j, none⟩) e).trans (h6 j x hx)⟩
/-- the reader in block b, its map in block m -/
structure RdAt (W : World) (lo b m : Nat) (labs : List (List UInt8 × Nat)) (lines : List (List (List UInt8) × Nat)) : Prop where
  blk : ∃ cs, W.heap[b]? = some (.cells cs 53 (0, 0))
  c28 : W.cell? ⟨b, 28, none⟩ = some (.map (some m))
  f29 : W.frozen? ⟨b, 29, none⟩ = false
  mp : ∃ D, W.ownsMap Tryz.prog 9 (plainElem Tryz.prog 3) m labs.length D ∧ LabD D labs
  ln : ∃ (v : Value) (L : List (Value × List (List UInt8) × Nat)), W.cell? ⟨b, 29, none⟩ = some v ∧ L.map (·.2) = lines ∧ W.ownsRow lo 58 2 v lines.length (L.flatMap fun x => [x.1, .int .i64 (x.2.2 : Int)]) ∧ ∀ x ∈ L, PartsIn W lo x.1 x.2.1
theorem RdAt.lt {W : World} {lo b m : Nat} {labs : List (List UInt8 × Nat)} {lines : List (List (List UInt8) × Nat)} (h : RdAt W lo b m labs lines) : b < W.heap.size ∧ m < W.heap.size ∧ b ≠ m := by
  obtain ⟨cs, hb⟩ := h.blk
  obtain ⟨D, ⟨es, clock, hm, _⟩, _⟩ := h.mp
  refine ⟨(Array.getElem?_eq_some_iff.1 hb).1, (Array.getElem?_eq_some_iff.1 hm).1, fun e => ?_⟩
  subst e
  rw [hb] at hm; cases hm
/-- where the blocks of cells and the map stand, the reader stands -/
theorem RdAt.kept {W W' : World} {lo b m : Nat} {labs : List (List UInt8 × Nat)} {lines : List (List (List UInt8) × Nat)} (h : RdAt W lo b m labs lines)
    (hk : ∀ k : Nat, k < W.heap.size → (k = m ∨ k = b ∨ (lo ≤ k ∧ ∃ (cs : Array Value) (t : TypeId), (t = 9 ∨ t = 58) ∧ W.heap[k]? = some (.cells cs t (0, 0)))) → W'.heap[k]? = W.heap[k]?) : RdAt W' lo b m labs lines := by
  obtain ⟨hbl, hml, _⟩ := h.lt
  obtain ⟨cs, hb⟩ := h.blk
  have eb := hk b hbl (.inr (.inl rfl))
  refine ⟨⟨cs, eb.trans hb⟩, (World.cell?_of_block (a := ⟨b, 28, none⟩) eb).trans h.c28, (World.frozen?_of_block (a := ⟨b, 29, none⟩) eb).trans h.f29, ?_, ?_⟩
  · obtain ⟨D, ⟨es, clock, hm, h2⟩, hD⟩ := h.mp
    exact ⟨D, ⟨es, clock, (hk m hml (.inl rfl)).trans hm, h2⟩, hD⟩
  · obtain ⟨v, L, h1, h2, h3, h4⟩ := h.ln
    refine ⟨v, L, (World.cell?_of_block (a := ⟨b, 29, none⟩) eb).trans h1, h2, own_move h3 (Nat.le_refl _) fun k e => ?_, fun x hx => (h4 x hx).kept fun k cs hlo hc => hk k (Array.getElem?_eq_some_iff.1 hc).1 (.inr (.inr ⟨hlo, cs, _, .inl rfl, hc⟩))⟩
    rcases h3.2 with ⟨h0, _⟩ | ⟨g, cap, cur, h5, hlo, h6, _⟩
    · rw [h0] at e; simp [Value.ownBlock] at e
    · rw [h5] at e
      simp only [Value.ownBlock, Option.some.injEq] at e
      subst e
      exact hk g (Array.getElem?_eq_some_iff.1 h6).1 (.inr (.inr ⟨hlo, cur, _, .inr rfl, h6⟩))
theorem RdAt.on {W W' : World} {lo b m : Nat} {labs : List (List UInt8 × Nat)} {lines : List (List (List UInt8) × Nat)} (h : RdAt W lo b m labs lines) (hb : Below W.heap.size W W') : RdAt W' lo b m labs lines :=
  h.kept fun k hk _ => hb.block k hk
/-- a store into a block ahead of the lines' -/
theorem RdAt.setCell {W : World} {lo b m B i : Nat} {labs : List (List UInt8 × Nat)} {lines : List (List (List UInt8) × Nat)} (h : RdAt W lo b m labs lines) (h1 : B < lo) (h2 : B ≠ b) (h3 : B ≠ m) (v : Value) :
    RdAt (W.setCell ⟨B, i, none⟩ v) lo b m labs lines :=
  h.kept fun k _ hk => heap_setCell_other _ _ _ _ (by
    rintro rfl
    rcases hk with rfl | rfl | ⟨hlo, _⟩
    · exact h3 rfl
    · exact h2 rfl
    · exact absurd hlo (by simpa using h1))

/-- blanks between parts -/
def blankA (b : UInt8) : Bool := b == 32 || (decide (9 ≤ b.toNat) && decide (b.toNat ≤ 13))
/-- a line's parts -/
def lineParts (l : List UInt8) : List (List UInt8) := fieldsB blankA (l.takeWhile (· != 59))
/-- what stands in the lines: labels and words, or the number of the line that is none -/
def firstGo (labs : List (List UInt8 × Nat)) (lines : List (List (List UInt8) × Nat)) (at' : Nat) : List (List UInt8) → Except Nat (List (List UInt8 × Nat) × List (List (List UInt8) × Nat))
  | [] => .ok (labs, lines)
  | l :: r =>
    match lineParts l with
    | [] => firstGo labs lines (at' + 1) r
    | p :: ps =>
      if Lib.hasSuffix p [58] = true then
        if (look labs p.dropLast).isSome = true ∨ p.dropLast = [] then .error (at' + 1)
        else firstGo ((p.dropLast, lines.length) :: labs) (if ps = [] then lines else lines ++ [(ps, at' + 1)]) (at' + 1) r
      else firstGo labs (lines ++ [(p :: ps, at' + 1)]) (at' + 1) r
theorem firstGo_none {l : List UInt8} (h : lineParts l = []) (labs : List (List UInt8 × Nat)) (lines : List (List (List UInt8) × Nat)) (a : Nat) (r : List (List UInt8)) : firstGo labs lines a (l :: r) = firstGo labs lines (a + 1) r := by
  simp only [firstGo, h]
theorem firstGo_word {l p : List UInt8} {ps : List (List UInt8)} (h : lineParts l = p :: ps) (hs : Lib.hasSuffix p [58] = false) (labs : List (List UInt8 × Nat)) (lines : List (List (List UInt8) × Nat)) (a : Nat) (r : List (List UInt8)) : firstGo labs lines a (l :: r) = firstGo labs (lines ++ [(p :: ps, a + 1)]) (a + 1) r := by
  simp only [firstGo, h, hs, Bool.false_eq_true, if_false]
theorem firstGo_bad {l p : List UInt8} {ps : List (List UInt8)} (h : lineParts l = p :: ps) (hs : Lib.hasSuffix p [58] = true) (labs : List (List UInt8 × Nat)) (hb : (look labs p.dropLast).isSome = true ∨ p.dropLast = []) (lines : List (List (List UInt8) × Nat)) (a : Nat) (r : List (List UInt8)) : firstGo labs lines a (l :: r) = .error (a + 1) := by
  simp only [firstGo, h, hs, if_true, if_pos hb]
theorem firstGo_lab {l p : List UInt8} {ps : List (List UInt8)} (h : lineParts l = p :: ps) (hs : Lib.hasSuffix p [58] = true) (labs : List (List UInt8 × Nat)) (hb : ¬ ((look labs p.dropLast).isSome = true ∨ p.dropLast = [])) (lines : List (List (List UInt8) × Nat)) (a : Nat) (r : List (List UInt8)) :
    firstGo labs lines a (l :: r) = firstGo ((p.dropLast, lines.length) :: labs) (if ps = [] then lines else lines ++ [(ps, a + 1)]) (a + 1) r := by
  simp only [firstGo, h, hs, if_true, if_neg hb]
/-- the lines of a text -/
def textLines (s : List UInt8) : List (List UInt8) := cutAt 10 (Lib.trimSuffix s [10])
/-- first -/
def firstP (s : List UInt8) : Except Nat (List (List UInt8 × Nat) × List (List (List UInt8) × Nat)) := firstGo [] [] 0 (textLines s)
end Go.Proofs.YtapjfcljbdlnkaaGreatDoor
