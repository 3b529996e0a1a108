/- The disk of chapter 28's law and its twin, side by side. -/
import Derived.Test.YtkfmdkbiglkjpaaGreatL28Twice
import Derived.Test.YtkfmdkbiglkjpaaGreatL28Burn
namespace Go.Proofs.YtkfmdkbiglkjpaaGreat
open Go Go.RowKit Go.Lib
set_option maxRecDepth 100000

/-- a disk at D (its blocks F), its twin at D' (its blocks F'), all from B on -/
structure AtS (B : Nat) (w : World) (F F' : Nat → Prop) (D D' : Nat) (L : List Dat) (W : List (Nat × Dat)) (L' : List Dat) : Prop where
  d : DiskAt w F D L W
  t : DiskAt w F' D' L' []
  fb : ∀ k, F k → B ≤ k ∧ k < w.heap.size
  tb : ∀ k, F' k → B ≤ k ∧ k < w.heap.size ∧ ¬ F k
theorem AtS.bs {B : Nat} {w : World} {F F' : Nat → Prop} {D D' : Nat} {L L' : List Dat} {W : List (Nat × Dat)} (h : AtS B w F F' D D' L W L') : B ≤ w.heap.size := by
  have := h.fb D h.d.own; omega
theorem AtS.below {B : Nat} {w w1 : World} {F F' : Nat → Prop} {D D' : Nat} {L L' : List Dat} {W : List (Nat × Dat)} (h : AtS B w F F' D D' L W L') (hb : Below w.heap.size w w1) : AtS B w1 F F' D D' L W L' :=
  ⟨h.d.below hb, h.t.below hb, fun k hk => ⟨(h.fb k hk).1, Nat.lt_of_lt_of_le (h.fb k hk).2 hb.size⟩, fun k hk => ⟨(h.tb k hk).1, Nat.lt_of_lt_of_le (h.tb k hk).2.1 hb.size, (h.tb k hk).2.2⟩⟩
theorem AtS.dv {B : Nat} {w w1 : World} {F F' : Nat → Prop} {D D' left dn : Nat} {L L' : List Dat} {W : List (Nat × Dat)} (h : AtS B w F F' D D' L W L') (hx : DevAt w1 w.heap.size D L.length left dn) (hb : Below w.heap.size w w1) : Dv w1 F w.heap.size D ⟨L, W, left, dn⟩ :=
  ⟨hx, h.d.below hb, fun hf => by have := (h.fb _ hf).2; omega, fun k hf => Nat.lt_of_lt_of_le (h.fb k hf).2 hb.size⟩
theorem AtS.dvs {B X : Nat} {w w1 : World} {F F' : Nat → Prop} {D D' : Nat} {L L' : List Dat} {W : List (Nat × Dat)} {s : DS} (h : AtS B w F F' D D' L W L') (hX : B ≤ X ∧ ¬ F' X) (hv : Dvs w F X D s w1) :
    Below B w w1 ∧ ∃ F1, AtS B w1 F1 F' D D' s.L s.W L' := by
  have hB := h.bs
  obtain ⟨F1, hF1, hd, hk⟩ := hv
  refine ⟨hk.below (fun k e => e.elim (fun e => (h.fb k e).1) fun e => e ▸ hX.1) hB, F1, hd.dsk, h.t.on fun k hl hf => hk.block k hl fun e => e.elim (h.tb k hf).2.2 fun e => hX.2 (e ▸ hf), fun k hf => ⟨?_, hd.bd k hf⟩, fun k hf => ⟨(h.tb k hf).1, Nat.lt_of_lt_of_le (h.tb k hf).2.1 hk.size, fun e => ?_⟩⟩
  · rcases hF1 k hf with e | e
    · exact (h.fb k e).1
    · have := e.1; omega
  · rcases hF1 k e with e | e
    · exact (h.tb k hf).2.2 e
    · have := e.1; have := (h.tb k hf).2.1; omega
theorem AtS.crash {B : Nat} {w w1 : World} {F F' : Nat → Prop} {D D' : Nat} {L L1 L' : List Dat} {W W1 : List (Nat × Dat)} (h : AtS B w F F' D D' L W L') (hd : DiskAt w1 (orNew F w w1) D L1 W1) (hk : Keeps F w w1) :
    Below B w w1 ∧ ∃ F1, AtS B w1 F1 F' D D' L1 W1 L' := by
  have hB := h.bs
  refine ⟨hk.below (fun k e => (h.fb k e).1) hB, _, hd, h.t.on fun k hl hf => hk.block k hl (h.tb k hf).2.2, fun k hf => ?_, fun k hf => ⟨(h.tb k hf).1, Nat.lt_of_lt_of_le (h.tb k hf).2.1 hk.size, fun e => ?_⟩⟩
  · rcases hf with e | e
    · exact ⟨(h.fb k e).1, Nat.lt_of_lt_of_le (h.fb k e).2 hk.size⟩
    · exact ⟨Nat.le_trans hB e.1, e.2⟩
  · rcases e with e | e
    · exact (h.tb k hf).2.2 e
    · have := e.1; have := (h.tb k hf).2.1; omega
theorem AtS.fuse {B X : Nat} {w w1 : World} {F F' : Nat → Prop} {D D' : Nat} {L L' : List Dat} {W : List (Nat × Dat)} (h : AtS B w F F' D D' L W L') (hX : B ≤ X ∧ ¬ F X ∧ ¬ F' X) (hk : Keeps (· = X) w w1) : Below B w w1 ∧ AtS B w1 F F' D D' L W L' :=
  ⟨hk.below (fun k e => e ▸ hX.1) h.bs, h.d.on fun k hl hf => hk.block k hl fun e => hX.2.1 (e ▸ hf), h.t.on fun k hl hf => hk.block k hl fun e => hX.2.2 (e ▸ hf),
    fun k hf => ⟨(h.fb k hf).1, Nat.lt_of_lt_of_le (h.fb k hf).2 hk.size⟩, fun k hf => ⟨(h.tb k hf).1, Nat.lt_of_lt_of_le (h.tb k hf).2.1 hk.size, (h.tb k hf).2.2⟩⟩
/-- a disk, and its twin anew -/
theorem AtS.twin {B : Nat} {w w1 : World} {F : Nat → Prop} {D D' : Nat} {L : List Dat} (hd : DiskAt w F D L []) (hF : ∀ k, F k → B ≤ k ∧ k < w.heap.size) (ht : DiskAt w1 (newIn w w1) D' L []) (hb : Below w.heap.size w w1) : AtS B w1 F (newIn w w1) D D' L [] L :=
  ⟨hd.below hb, ht, fun k hf => ⟨(hF k hf).1, Nat.lt_of_lt_of_le (hF k hf).2 hb.size⟩, fun k hf => by
    have h1 := hF D hd.own
    exact ⟨by have := hf.1; omega, hf.2, fun e => by have := (hF k e).2; have := hf.1; omega⟩⟩
end Go.Proofs.YtkfmdkbiglkjpaaGreat
