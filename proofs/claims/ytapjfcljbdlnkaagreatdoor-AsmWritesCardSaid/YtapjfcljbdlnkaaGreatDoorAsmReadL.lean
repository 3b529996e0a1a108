/- asm.Read: the plain law; what stands in its loop. -/
import Derived.Test.YtapjfcljbdlnkaaGreatDoorAsmFirst
import Derived.Test.YtapjfcljbdlnkaaGreatDoorAsmWord
namespace Go.Proofs.YtapjfcljbdlnkaaGreatDoor
open Go Go.RowKit Go.Lib
set_option maxRecDepth 100000

/-- the words out of the lines still to come: words, a line, an error -/
def readGo (labs : List (List UInt8 × Nat)) : Nat → List Int → List (List (List UInt8) × Nat) → List Int × Int × Int
  | _, out, [] => (out, 0, 0)
  | i, out, (ps, a) :: r =>
    match wordP labs i ps with
    | none => ([], (a : Int), 19)
    | some v => if out.length = 512 then ([], (a : Int), 22) else readGo labs (i + 1) (out ++ [v]) r
theorem readGo_none {labs : List (List UInt8 × Nat)} {i : Nat} {out : List Int} {ps : List (List UInt8)} {a : Nat} {r : List (List (List UInt8) × Nat)} (h : wordP labs i ps = none) : readGo labs i out ((ps, a) :: r) = ([], (a : Int), 19) := by
  simp only [readGo, h]
theorem readGo_big {labs : List (List UInt8 × Nat)} {i : Nat} {out : List Int} {ps : List (List UInt8)} {a : Nat} {v : Int} {r : List (List (List UInt8) × Nat)} (h : wordP labs i ps = some v) (hl : out.length = 512) : readGo labs i out ((ps, a) :: r) = ([], (a : Int), 22) := by
  simp only [readGo, h, if_pos hl]
theorem readGo_some {labs : List (List UInt8 × Nat)} {i : Nat} {out : List Int} {ps : List (List UInt8)} {a : Nat} {v : Int} {r : List (List (List UInt8) × Nat)} (h : wordP labs i ps = some v) (hl : ¬ out.length = 512) : readGo labs i out ((ps, a) :: r) = readGo labs (i + 1) (out ++ [v]) r := by
  simp only [readGo, h, if_neg hl]
/-- Read -/
def readP (s : List UInt8) : List Int × Int × Int :=
  match firstP s with
  | .error k => ([], (k : Int), 19)
  | .ok x => readGo x.1 0 [] x.2
def u32s (l : List Int) : List Value := l.map fun x => Value.int .u32 x
theorem u32s_snoc (l : List Int) (x : Int) : u32s (l ++ [x]) = u32s l ++ [.int .u32 x] := by simp [u32s]
/-- what Read hands back -/
def ReadPost (w : World) (r : List Int × Int × Int) (e : Ending) (w' : World) : Prop :=
  ∃ v, e = .returned (.tuple #[v, .int .i64 r.2.1, .int .i64 r.2.2]) ∧ w'.ownsRow w.heap.size 39 1 v r.1.length (u32s r.1) ∧ Below w.heap.size w w'
theorem u32_info : (Tryz.prog.info? 39).map (fun i => (i.zero, i.size, i.bytes)) = some (some (.int .u32 0), 1, 4) := by kernel_rfl

def flatL (L : List (Value × List (List UInt8) × Nat)) : List Value := L.flatMap fun x => [x.1, .int .i64 (x.2.2 : Int)]
/-- what stands in Read's loop -/
structure RdS (W : World) (lo b m n cap : Nat) (ad : Option Addr) (labs : List (List UInt8 × Nat)) (lines : List (List (List UInt8) × Nat)) (L : List (Value × List (List UInt8) × Nat)) : Prop where
  rd : RdAt W lo b m labs lines
  row : W.ownsRow lo 58 2 (.slice ad n cap) n (flatL L)
  pl : ∀ x ∈ L, PartsIn W lo x.1 x.2.1
  tb : TabS W b
theorem row_block {W : World} {lo n cap : Nat} {ad : Option Addr} {t : TypeId} {sz : Nat} {xs : List Value} (h : W.ownsRow lo t sz (.slice ad n cap) n xs) : ∀ k, (Value.slice ad n cap).ownBlock = some k → lo ≤ k ∧ ∃ cs, W.heap[k]? = some (.cells cs t (0, 0)) := fun k e => by
  rcases h.2 with ⟨h0, _⟩ | ⟨g, cap', cur, h5, hb, h6, _⟩
  · rw [h0] at e; simp [Value.ownBlock] at e
  · rw [h5] at e
    simp only [Value.ownBlock, Option.some.injEq] at e
    subst e
    exact ⟨hb, cur, h6⟩
/-- all but blocks of uint32 stand -/
theorem RdS.same {W W' : World} {lo b m n cap : Nat} {ad : Option Addr} {labs : List (List UInt8 × Nat)} {lines : List (List (List UInt8) × Nat)} {L : List (Value × List (List UInt8) × Nat)} (h : RdS W lo b m n cap ad labs lines L)
    (hk : ∀ k, k < W.heap.size → (∀ cs, W.heap[k]? ≠ some (.cells cs 39 (0, 0))) → W'.heap[k]? = W.heap[k]?) : RdS W' lo b m n cap ad labs lines L := by
  obtain ⟨hbl, hml, hbm⟩ := h.rd.lt
  have hc : ∀ (k : Nat) (cs : Array Value) (t : TypeId), t ≠ 39 → W.heap[k]? = some (.cells cs t (0, 0)) → W'.heap[k]? = W.heap[k]? := fun k cs t ht e => hk k (Array.getElem?_eq_some_iff.1 e).1 (fun cs' e' => by rw [e] at e'; cases e'; exact ht rfl)
  obtain ⟨csb, hb⟩ := h.rd.blk
  have hbb := hc b csb 53 (by decide) hb
  refine ⟨h.rd.kept fun k hkl hq => ?_, own_move h.row (Nat.le_refl _) fun k e => ?_, fun x hx => (h.pl x hx).kept fun k cs _ e => hc k cs 9 (by decide) e, h.tb.on hbb⟩
  · rcases hq with rfl | rfl | ⟨_, cs, t, ht, e⟩
    · obtain ⟨D, ⟨es, clock, hm, _⟩, _⟩ := h.rd.mp
      exact hk _ hml (fun cs e => by rw [hm] at e; cases e)
    · exact hbb
    · exact hc k cs t (by rcases ht with rfl | rfl <;> decide) e
  · obtain ⟨_, cs, e⟩ := row_block h.row k e
    exact hc k cs 58 (by decide) e
theorem RdS.below {W W' : World} {lo b m n cap : Nat} {ad : Option Addr} {labs : List (List UInt8 × Nat)} {lines : List (List (List UInt8) × Nat)} {L : List (Value × List (List UInt8) × Nat)} (h : RdS W lo b m n cap ad labs lines L) (hb : Below W.heap.size W W') : RdS W' lo b m n cap ad labs lines L :=
  h.same fun k hk _ => hb.block k hk
/-- behind word -/
theorem RdS.step {W W' : World} {lo b m n cap : Nat} {ad : Option Addr} {labs : List (List UInt8 × Nat)} {lines : List (List (List UInt8) × Nat)} {L : List (Value × List (List UInt8) × Nat)} (h : RdS W lo b m n cap ad labs lines L) (hs : Step28 b W W') (ht : TabS W' b) : RdS W' lo b m n cap ad labs lines L := by
  obtain ⟨hbl, hml, hbm⟩ := h.rd.lt
  obtain ⟨csb, hb⟩ := h.rd.blk
  have hc : ∀ (k : Nat) (cs : Array Value) (t : TypeId), t ≠ 53 → W.heap[k]? = some (.cells cs t (0, 0)) → W'.heap[k]? = W.heap[k]? := fun k cs t ht e => hs.but.block k (Array.getElem?_eq_some_iff.1 e).1 (fun e' => by subst e'; rw [hb] at e; cases e; exact ht rfl)
  obtain ⟨D, ⟨es, clock, hm, h2⟩, hD⟩ := h.rd.mp
  obtain ⟨v, L', l1, l2, l3, l4⟩ := h.rd.ln
  obtain ⟨ad', cap', rfl, _⟩ := own_len l3
  have hrow : ∀ {ad : Option Addr} {n cap : Nat} {xs : List Value}, W.ownsRow lo 58 2 (.slice ad n cap) n xs → W'.ownsRow lo 58 2 (.slice ad n cap) n xs := fun hr => own_move hr (Nat.le_refl _) fun k e => by
    obtain ⟨_, cs, e⟩ := row_block hr k e
    exact hc k cs 58 (by decide) e
  have hpk : ∀ {u : Value} {ps : List (List UInt8)}, PartsIn W lo u ps → PartsIn W' lo u ps := fun hp => hp.kept fun k cs _ e => hc k cs 9 (by decide) e
  exact ⟨⟨hs.but.typ csb _ hb, (hs.out 28 (by omega)).1.trans h.rd.c28, (hs.out 29 (by omega)).2.trans h.rd.f29, ⟨D, ⟨es, clock, (hs.but.block m hml (Ne.symm hbm)).trans hm, h2⟩, hD⟩, ⟨_, L', (hs.out 29 (by omega)).1.trans l1, l2, hrow l3, fun x hx => hpk (l4 x hx)⟩⟩, hrow h.row, fun x hx => hpk (h.pl x hx), ht⟩
/-- a line of the row -/
theorem RdS.at_ {W : World} {lo b m n cap : Nat} {ad : Option Addr} {labs : List (List UInt8 × Nat)} {lines : List (List (List UInt8) × Nat)} {L : List (Value × List (List UInt8) × Nat)} (h : RdS W lo b m n cap ad labs lines L) {i : Nat} {x : Value × List (List UInt8) × Nat} (hx : L[i]? = some x) :
    ∃ g, ad = some ⟨g, 0, none⟩ ∧ W.cell? ⟨g, 2 * i, none⟩ = some x.1 ∧ W.cell? ⟨g, 2 * i + 1, none⟩ = some (.int .i64 (x.2.2 : Int)) := by
  have fl : ∀ (L : List (Value × List (List UInt8) × Nat)) (i : Nat), L[i]? = some x → (flatL L)[2 * i]? = some x.1 ∧ (flatL L)[2 * i + 1]? = some (.int .i64 (x.2.2 : Int)) := by
    intro L
    induction L with
    | nil => intro i h; simp at h
    | cons y L ih =>
      intro i h
      cases i with
      | zero =>
        simp only [List.getElem?_cons_zero, Option.some.injEq] at h
        subst h
        exact ⟨rfl, rfl⟩
      | succ i =>
        obtain ⟨h1, h2⟩ := ih i (by simpa using h)
        have e : 2 * (i + 1) = 2 * i + 1 + 1 := by omega
        rw [e]
        exact ⟨by simpa [flatL] using h1, by simpa [flatL] using h2⟩
  obtain ⟨f1, f2⟩ := fl L i hx
  have hn0 : 0 < n := by
    have := h.row.1
    have hl := (List.getElem?_eq_some_iff.1 f1).1
    omega
  obtain ⟨g, cap', e1, _, hc⟩ := own_cell h.row hn0
  cases e1
  exact ⟨g, rfl, hc _ _ f1, hc _ _ f2⟩
end Go.Proofs.YtapjfcljbdlnkaaGreatDoor
