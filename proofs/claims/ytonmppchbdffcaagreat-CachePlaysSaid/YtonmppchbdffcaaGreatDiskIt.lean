/- slices.Backward over a disk's writes. -/
import Derived.Test.YtonmppchbdffcaaGreatRange
import Derived.Test.YtonmppchbdffcaaGreatDisk0
import Derived.RangeFuncBox
import Derived.Shelf.Abstract
import Derived.Shelf.RegionOpen
import Derived.OwnWalkIn
import Derived.TacticsInMore
import Derived.LoopNIn
import Derived.LoopIn
import Derived.Sort.LoopGhostIn
namespace Go.Proofs.YtonmppchbdffcaaGreat
open Go Go.RowKit Go.Lib
attribute [local go_sem] Oper.semAt_some
attribute [local go_sem ↓] semAt_load_write
set_option maxRecDepth 100000

def wAt (W : List (Nat × Dat)) (i : Nat) : Nat × Dat := W.getD i (0, zeroD)
/-- the box with the slice, and the slice's cells -/
structure BkG (B : Nat) (ad : Option Addr) (cap : Nat) (W : List (Nat × Dat)) (w : World) : Prop where
  box : w.heap[B]? = some (.cells #[.slice ad W.length cap] 60 (0, 0))
  row : ∀ i x, W[i]? = some x → ∃ g, ad = some ⟨g, 0, none⟩ ∧ w.rangeAt g (i * 65) (wC x)
def BkK (B : Nat) (ad : Option Addr) (w w' : World) : Prop := w'.heap[B]? = w.heap[B]? ∧ ∀ g, ad = some ⟨g, 0, none⟩ → w'.heap[g]? = w.heap[g]?
theorem BkG.on {B : Nat} {ad : Option Addr} {cap : Nat} {W : List (Nat × Dat)} {w w' : World} (h : BkG B ad cap W w) (hk : BkK B ad w w') : BkG B ad cap W w' :=
  ⟨hk.1.trans h.box, fun i x hx => by
    obtain ⟨g, hg, hr⟩ := h.row i x hx
    exact ⟨g, hg, fun j v hv => (World.cell?_of_block (a := ⟨g, i * 65 + j, none⟩) (hk.2 g hg)).trans (hr j v hv)⟩⟩
theorem rev_range (k : Nat) : (List.range (k + 1)).reverse = k :: (List.range k).reverse := by rw [List.range_succ, List.reverse_append]; rfl

set_option maxHeartbeats 3200000 in
theorem back_iter (n B : Nat) (ad : Option Addr) (cap : Nat) (W : List (Nat × Dat)) (hz : ∀ x ∈ W, x.2.length = 64) (hm : W.length ≤ 1000000) :
    IterOK Fence.wide n Tryz.prog 59 #[.pointer (some ⟨B, 0, none⟩)] (fun i : Nat => #[.int .i64 (i : Int), .agg (wC (wAt W i)).toArray]) (fun w w' => w' = w) (BkK B ad) (BkG B ad cap W) (List.range W.length).reverse := by
  intro l J Jx w hG hJ hY h0
  refine callsIn_of_wp Tryz.func59 rfl trivial ?_ rfl
  simp only [Tryz.ntmps59, List.size_toArray, List.length_cons, List.length_nil, Nat.reduceAdd, Nat.reduceSub, Array.replicate_succ, Array.replicate_zero, List.push_toArray, List.append_toArray, List.nil_append, List.cons_append]
  have c1 := cell_of_row w B 0 _ _ _ hG.box
  simp only [List.getElem?_toArray, List.getElem?_cons_zero] at c1
  obtain ⟨m, hmm⟩ : ∃ m, m = W.length := ⟨_, rfl⟩
  have HM := Lib.hid hmm
  rw [← hmm] at c1 hm ⊢
  have HG := Lib.hid hG
  have HJ := Lib.hid hJ
  have HY := Lib.hid hY
  have HZ := Lib.hid hz
  have wr0 : IntKind.i64.wrap ((m : Int) - 1) = (m : Int) - 1 := by rw [IntKind.wrap_i64] <;> omega
  clear hG hJ hY hz hmm
  gi_wp2
  gi_loopg [3] m (fun k u wr => ∃ pre : List Nat, u = .int .i64 ((k : Int) - 1) ∧ k ≤ m ∧ (List.range m).reverse = pre ++ (List.range k).reverse ∧ BkG B ad cap W wr ∧ J pre wr)
  case atStart => exact ⟨[], rfl, Nat.le_refl _, rfl, HG.out, h0⟩
  case round =>
    obtain ⟨pre, rfl, hk, hp, hg, hj⟩ := hrel
    have HP := Lib.hid hp
    have HG2 := Lib.hid hg
    have HJ2 := Lib.hid hj
    have c2 := cell_of_row wr B 0 _ _ _ hg.box
    simp only [List.getElem?_toArray, List.getElem?_cons_zero] at c2
    rw [← HM.out] at c2
    clear hp hg hj c1
    cases gk with
    | zero =>
      have HD : Hid ((List.range m).reverse = pre) := Lib.hid (by rw [HP.out]; simp)
      gi_wp2
      go_end0
      exact ⟨⟨_, rfl⟩, .inl (by rw [HD.out]; exact HJ2.out)⟩
    | succ i =>
      have hx : W[i]? = some (wAt W i) := by
        unfold wAt
        rw [List.getD_eq_getElem?_getD, List.getElem?_eq_getElem (by have := HM.out; omega)]; rfl
      obtain ⟨g, rfl, hr⟩ := HG2.out.row i _ hx
      obtain ⟨fn, tm, assign, body, hy, hR⟩ := HY.out pre i wr (by rw [← HM.out, HP.out, rev_range]; exact ⟨(List.range i).reverse, by simp⟩) HJ2.out
      have hl65 : (wC (wAt W i)).length = 65 := by rw [wC_len, HZ.out _ (List.mem_of_getElem? hx)]
      obtain ⟨hdo, hdk⟩ := dat_range hr hl65
      have HRd := Lib.hid hR
      have e1 : ((i + 1 : Nat) : Int) - 1 = (i : Int) := by omega
      have e2 : IntKind.i64.wrap ((i : Int) - 1) = (i : Int) - 1 := by rw [IntKind.wrap_i64] <;> omega
      have e3 : (0 : Int) ≤ (i : Int) := by omega
      have e4 : (i : Int) < (m : Int) := by omega
      have e5 : i < m := by omega
      generalize wC (wAt W i) = cs at hdo hdk hy
      rw [e1]
      clear hR e1 hr hl65
      gi_wp2
      refine ⟨fun h => (by cases h), HRd.out.mono ?_⟩
      clear HRd hy hdo hdk
      rintro e W3 (⟨rfl, hJ3, hk3⟩ | ⟨rfl, hJx⟩)
      · have HG3 := Lib.hid (HG2.out.on hk3)
        have HJ3 := Lib.hid hJ3
        clear hJ3 hk3 c2
        gi_wp2
        go_roundg i
        case measure => omega
        case rel => exact ⟨pre ++ [i], rfl, by omega, by rw [HP.out, rev_range]; simp, HG3.out, HJ3.out⟩
      · gi_wp2
        refine bodyPost_ret (results_none rfl _ _ _) rfl ?_
        exact ⟨⟨_, rfl⟩, .inr ⟨pre ++ [i], by rw [HP.out, rev_range]; exact ⟨(List.range i).reverse, by simp⟩, hJx⟩⟩
end Go.Proofs.YtonmppchbdffcaaGreat
