/- strings.SplitSeq at a separator of one byte: its iterator's contract: the pieces come, one by one. -/
import Derived.Test.YtapjfcljbdlnkaaGreatDoorRange
import Derived.Test.YtapjfcljbdlnkaaGreatDoorCut
import Derived.Test.YtapjfcljbdlnkaaGreatDoorShelf
import Derived.Shelf.Abstract
import Derived.Shelf.RegionOpen
import Derived.WalkKit
import Derived.WalkSpells
import Derived.OwnWalkIn
import Derived.TacticsInMore
import Derived.LoopNIn
import Derived.LoopIn
import Derived.Sort.LoopGhostIn
import Derived.Lib.Hide
namespace Go.Proofs.YtapjfcljbdlnkaaGreatDoor
open Go Go.RowKit Go.Lib
attribute [local go_sem] Oper.semAt_some
set_option maxRecDepth 100000

theorem idx_none (c : UInt8) : ∀ s : List UInt8, c ∉ s → Lib.indexByte s c = -1
  | [], _ => rfl
  | b :: l, h => by
    have h1 : ¬ b = c := fun e => h (by simp [e])
    have h2 : c ∉ l := fun e => h (by simp [e])
    simp [Lib.indexByte, h1, idx_none c l h2]
theorem idx_at (c : UInt8) (t : List UInt8) : ∀ p : List UInt8, c ∉ p → Lib.indexByte (p ++ c :: t) c = (p.length : Int)
  | [], _ => by simp [Lib.indexByte]
  | b :: l, h => by
    have h1 : ¬ b = c := fun e => h (by simp [e])
    have h2 : c ∉ l := fun e => h (by simp [e])
    have ih := idx_at c t l h2
    have h3 : ¬ ((l.length : Int) = -1) := by omega
    simp [Lib.indexByte, h1, ih, h3]
theorem first_at (c : UInt8) : ∀ s : List UInt8, c ∈ s → ∃ p t, s = p ++ c :: t ∧ c ∉ p
  | [], h => by simp at h
  | b :: l, h => by
    by_cases e : b = c
    · subst e; exact ⟨[], l, rfl, by simp⟩
    · obtain ⟨p, t, rfl, hp⟩ := first_at c l (by simpa [Ne.symm e] using h)
      exact ⟨b :: p, t, rfl, by simp [hp, Ne.symm e]⟩

/-- what the iterator does between two rounds -/
def SplT (B : Nat) (W W' : World) : Prop := W' = W ∨ ∃ v, W' = W.setCell ⟨B, 0, none⟩ v
/-- what a round must keep -/
def SplK (B1 B2 B3 : Nat) (W W' : World) : Prop := W'.heap[B1]? = W.heap[B1]? ∧ W'.heap[B2]? = W.heap[B2]? ∧ W'.heap[B3]? = W.heap[B3]?
/-- the three cells -/
def SplG (B1 B2 B3 : Nat) (c : UInt8) (s : List UInt8) (W : World) : Prop :=
  W.heap[B1]? = some (.cells #[.string ⟨#[c]⟩] 9 (0, 0)) ∧ W.heap[B2]? = some (.cells #[.string (bs s)] 9 (0, 0)) ∧ W.heap[B3]? = some (.cells #[.int .i64 0] 3 (0, 0))

theorem bs_take (p t : List UInt8) : (bs (p ++ t)).extract 0 p.length = bs p := by
  apply bs_inj; simp [bs]
theorem bs_drop (p t : List UInt8) (c : UInt8) : (bs (p ++ c :: t)).extract (p.length + 1) (bs (p ++ c :: t)).size = bs t := by
  apply bs_inj
  simp [bs, ByteArray.size]
  exact List.take_of_length_le (by omega)

set_option maxHeartbeats 1600000 in
theorem split_iter (n : Nat) (c : UInt8) (s : List UInt8) (hs : s.length < 4294967281) (B1 B2 B3 : Nat) (h12 : B1 ≠ B2) (h23 : B2 ≠ B3) :
    IterOK Fence.wide n Tryz.prog 68 #[.pointer (some ⟨B1, 0, none⟩), .pointer (some ⟨B2, 0, none⟩), .pointer (some ⟨B3, 0, none⟩)] (fun l : List UInt8 => #[.string (bs l)]) (SplT B2) (SplK B1 B2 B3) (SplG B1 B2 B3 c s) (cutAt c s) := by
  intro l J Jx W hG hJ hY h0
  refine callsIn_of_wp Tryz.func68 rfl trivial ?_ rfl
  simp only [Tryz.ntmps68, List.size_toArray, List.length_cons, List.length_nil, Nat.reduceAdd, Nat.reduceSub, Array.replicate_succ, Array.replicate_zero, List.push_toArray, List.append_toArray, List.nil_append, List.cons_append]
  obtain ⟨g1, g2, g3⟩ := hG
  have c1 := cell_of_row W B1 0 _ _ _ g1
  simp only [List.getElem?_toArray, List.getElem?_cons_zero] at c1
  have HJ := Lib.hid hJ
  have HY := Lib.hid hY
  have H1 := Lib.hid g1
  have H2 := Lib.hid g2
  have H3 := Lib.hid g3
  clear hJ hY g1 g2 g3
  gi_wp2
  gi_loopg [] s.length (fun k wr => ∃ (pre : List (List UInt8)) (r : List UInt8), r.length ≤ k ∧ r.length ≤ s.length ∧ cutAt c s = pre ++ cutAt c r ∧ SplG B1 B2 B3 c r wr ∧ J pre wr)
  case atStart => exact ⟨[], s, Nat.le_refl _, Nat.le_refl _, rfl, ⟨H1.out, H2.out, H3.out⟩, h0⟩
  case round =>
    obtain ⟨pre, r, hk, hrs, hc, ⟨g1, g2, g3⟩, hj⟩ := hrel
    have d1 := cell_of_row wr B1 0 _ _ _ g1
    have d2 := cell_of_row wr B2 0 _ _ _ g2
    have d3 := cell_of_row wr B3 0 _ _ _ g3
    simp only [List.getElem?_toArray, List.getElem?_cons_zero] at d1 d2 d3
    have HK := Lib.hid hk
    have HR := Lib.hid hrs
    have HC := Lib.hid hc
    have HG := Lib.hid (show SplG B1 B2 B3 c r wr from ⟨g1, g2, g3⟩)
    have HJ0 := Lib.hid hj
    clear hk hrs hc g1 g2 g3 hj
    by_cases hin : c ∈ r
    · obtain ⟨p, t, rfl, hp⟩ := first_at c r hin
      have hi := idx_at c t p hp
      have hcut : cutAt c (p ++ c :: t) = p :: cutAt c t := cutAt_app c t p hp
      have hsz : (bs (p ++ c :: t)).size = p.length + 1 + t.length := by rw [bs_size]; simp; omega
      have HI := Lib.hid hi
      have HS := Lib.hid hsz
      clear hi hsz hin
      obtain ⟨fn, tm, assign, body, hy, hR⟩ := HY.out pre p wr (by rw [HC.out, hcut]; exact ⟨cutAt c t, by simp⟩) HJ0.out
      have HRd := Lib.hid hR
      clear hR
      gi_wp2
      refine ⟨trivial, fun h => (by cases h), (callsIn_wide.2 (Tryz.strings_Index_one (bs (p ++ c :: t)) c _)).mono ?_⟩
      rintro e w1 ⟨rfl, rfl⟩
      rw [bs_data, HI.out]
      have e1 := bs_take p (c :: t)
      have e2 := bs_drop p t c
      have n1 : 0 ≤ (p.length : Int) := by omega
      have n2 : ¬ (p.length : Int) < 0 := by omega
      have n4 : p.length ≤ (bs (p ++ c :: t)).size := by rw [HS.out]; omega
      have n5 : p.length + 1 ≤ (bs (p ++ c :: t)).size := by rw [HS.out]; omega
      have n3 : p.length < 4294967281 := by have := HR.out; simp at this; omega
      gi_wp2
      refine ⟨fun h => (by cases h), HRd.out.mono ?_⟩
      clear HRd hy e1
      rintro e W3 (⟨rfl, hJ3, k1, k2, k3⟩ | ⟨rfl, hJx⟩)
      · have g1 := k1.trans HG.out.1
        have g2 := k2.trans HG.out.2.1
        have g3 := k3.trans HG.out.2.2
        have x1 := cell_of_row W3 B1 0 _ _ _ g1
        have x2 := cell_of_row W3 B2 0 _ _ _ g2
        have x3 := cell_of_row W3 B3 0 _ _ _ g3
        have f2 := frozen_of_row W3 B2 0 _ _ g2
        simp only [List.getElem?_toArray, List.getElem?_cons_zero] at x1 x2 x3
        have G1 := Lib.hid g1
        have G2 := Lib.hid g2
        have G3 := Lib.hid g3
        have HJ3 := Lib.hid hJ3
        clear g1 g2 g3 k1 k2 k3 hJ3 d1 d2 d3
        gi_wp2
        go_roundg (gk - 1)
        case measure => have := HK.out; simp at this; omega
        case rel =>
          refine ⟨pre ++ [p], t, by have := HK.out; simp at this; omega, by have := HR.out; simp at this; omega, by rw [HC.out, hcut]; simp, ?_, HJ.out _ _ _ HJ3.out (.inr ⟨_, rfl⟩)⟩
          refine ⟨?_, heap_setCell_same W3 B2 0 _ _ _ G2.out, ?_⟩
          · rw [heap_setCell_other _ _ _ _ h12]; exact G1.out
          · rw [heap_setCell_other _ _ _ _ (Ne.symm h23)]; exact G3.out
      · gi_wp2
        refine bodyPost_ret (results_none rfl _ _ _) rfl ?_
        exact ⟨⟨_, rfl⟩, .inr ⟨pre ++ [p], by rw [HC.out, hcut]; exact ⟨cutAt c t, by simp⟩, hJx⟩⟩
    · have hi := idx_none c r hin
      have hcut : cutAt c r = [r] := cutAt_none c r hin
      have HI := Lib.hid hi
      clear hi hin
      obtain ⟨fn, tm, assign, body, hy, hR⟩ := HY.out pre r wr (by rw [HC.out, hcut]; exact List.prefix_refl _) HJ0.out
      have HRd := Lib.hid hR
      clear hR
      gi_wp2
      refine ⟨trivial, fun h => (by cases h), (callsIn_wide.2 (Tryz.strings_Index_one (bs r) c _)).mono ?_⟩
      rintro e w1 ⟨rfl, rfl⟩
      rw [bs_data, HI.out]
      gi_wp2
      refine ⟨fun h => (by cases h), HRd.out.mono ?_⟩
      clear HRd hy
      rintro e W3 (⟨rfl, hJ3, -⟩ | ⟨rfl, hJx⟩)
      · gi_wp2
        go_end0
        exact ⟨⟨_, rfl⟩, .inl (by rw [HC.out, hcut]; exact hJ3)⟩
      · gi_wp2
        go_end0
        exact ⟨⟨_, rfl⟩, .inr ⟨pre ++ [r], by rw [HC.out, hcut]; exact List.prefix_refl _, hJx⟩⟩

/-- strings.SplitSeq: three cells, and the iterator over them. -/
theorem split_seq (c : UInt8) (s : List UInt8) (w : World) :
    Calls Tryz.prog 29 #[.string (bs s), .string ⟨#[c]⟩] w fun e w' =>
      e = .returned (.func (.func 68) #[] #[.pointer (some ⟨w.heap.size + 1, 0, none⟩), .pointer (some ⟨w.heap.size, 0, none⟩), .pointer (some ⟨w.heap.size + 2, 0, none⟩)]) ∧
        w' = ((w.alloc (.cells #[.string (bs s)] 9)).alloc (.cells #[.string ⟨#[c]⟩] 9)).alloc (.cells #[.int .i64 0] 3) := by
  have inner : ∀ w, Calls Tryz.prog 53 #[.string (bs s), .string ⟨#[c]⟩, .int .i64 0] w fun e w' =>
      e = .returned (.func (.func 68) #[] #[.pointer (some ⟨w.heap.size + 1, 0, none⟩), .pointer (some ⟨w.heap.size, 0, none⟩), .pointer (some ⟨w.heap.size + 2, 0, none⟩)]) ∧
        w' = ((w.alloc (.cells #[.string (bs s)] 9)).alloc (.cells #[.string ⟨#[c]⟩] 9)).alloc (.cells #[.int .i64 0] 3) := by
    intro w
    go_enter Tryz.func53, Tryz.ntmps53
    go_wp2_with fail
    go_ret
    exact ⟨rfl, rfl⟩
  have HI := Lib.hid inner
  clear inner
  go_enter Tryz.func29, Tryz.ntmps29
  go_wp2_with fail
  refine (HI.out _).mono ?_
  rintro e w1 ⟨rfl, rfl⟩
  go_wp2_with fail
  go_ret
  exact ⟨rfl, rfl⟩
theorem split_cells (c : UInt8) (s : List UInt8) (w W : World)
    (hb : Below (w.heap.size + 3) (((w.alloc (.cells #[.string (bs s)] 9)).alloc (.cells #[.string ⟨#[c]⟩] 9)).alloc (.cells #[.int .i64 0] 3)) W) :
    SplG (w.heap.size + 1) w.heap.size (w.heap.size + 2) c s W := by
  have h1 := Below.heap_alloc ((w.alloc (.cells #[.string (bs s)] 9)).alloc (.cells #[.string ⟨#[c]⟩] 9)) (.cells #[.int .i64 0] 3)
  have h2 := Below.heap_alloc (w.alloc (.cells #[.string (bs s)] 9)) (.cells #[.string ⟨#[c]⟩] 9)
  have n1 := heap_alloc_new w (.cells #[.string (bs s)] 9)
  have n2 := heap_alloc_new (w.alloc (.cells #[.string (bs s)] 9)) (.cells #[.string ⟨#[c]⟩] 9)
  have n3 := heap_alloc_new ((w.alloc (.cells #[.string (bs s)] 9)).alloc (.cells #[.string ⟨#[c]⟩] 9)) (.cells #[.int .i64 0] 3)
  simp only [World.size_alloc] at h1 h2 n1 n2 n3
  refine ⟨?_, ?_, ?_⟩
  · exact (hb.block _ (by omega)).trans ((h1 _ (by omega)).trans n2)
  · exact (hb.block _ (by omega)).trans ((h1 _ (by omega)).trans ((h2 _ (by omega)).trans n1))
  · exact (hb.block _ (by omega)).trans n3
end Go.Proofs.YtapjfcljbdlnkaaGreatDoor
