/- (*script.reader).step: one step more, or too many. -/
import Derived.Test.YtdhpagdfigghfaaGreatDoorLaws
import Derived.Test.YtdhpagdfigghfaaGreatDoorProg
import Derived.WalkKit
import Derived.WalkSpells
import Derived.WalkLawsBesides
import Derived.Deep.RegionLaw
import Derived.Deep.AppendLies
import Derived.OwnWalk
import Derived.Laws.Pointers
import Derived.Lib.Strings
import Derived.Below
import Derived.OneCell
import Derived.Laws.Rows
import Derived.Lib.Hide
namespace Go.Proofs.YtdhpagdfigghfaaGreatDoor
open Go.RowKit Go.Lib
set_option maxRecDepth 100000

/-- All blocks are as they were, but two, and new ones. -/
structure Kept (b : Nat) (row : Option Nat) (w w' : World) : Prop where
  os : w'.os = w.os
  tape : w'.tape = w.tape
  output : w'.output = w.output
  size : w.heap.size ≤ w'.heap.size
  block : ∀ k, k < w.heap.size → k ≠ b → some k ≠ row → w'.heap[k]? = w.heap[k]?

theorem Kept.of_below {b : Nat} {row : Option Nat} {w w' : World} (h : Below w.heap.size w w') : Kept b row w w' := ⟨h.os, h.tape, h.output, h.size, fun k hk _ _ => h.block k hk⟩

/-- The reader's block. -/
def RdAt (w : World) (b : Nat) (d f t fl bk stp lns at_ : Value) : Prop := w.heap[b]? = some (.cells #[d, f, t, fl, bk, stp, lns, at_] 60 (0, 0))
theorem RdAt.lt {w : World} {b : Nat} {d f t fl bk stp lns at_ : Value} (h : RdAt w b d f t fl bk stp lns at_) : b < w.heap.size := (Array.getElem?_eq_some_iff.1 h).1
theorem RdAt.cell {w : World} {b : Nat} {d f t fl bk stp lns at_ : Value} (h : RdAt w b d f t fl bk stp lns at_) (j : Nat) : w.cell? ⟨b, j, none⟩ = #[d, f, t, fl, bk, stp, lns, at_][j]? := cell_of_row w b j _ _ _ h
theorem RdAt.frozen {w : World} {b : Nat} {d f t fl bk stp lns at_ : Value} (h : RdAt w b d f t fl bk stp lns at_) (j : Nat) : w.frozen? ⟨b, j, none⟩ = false := frozen_of_row w b j _ _ h

theorem Step.info : (Tryz.prog.info? 51).map (fun i => (i.zero, i.size, i.bytes)) = some (some (.agg #[.int .i64 0, .int .i64 0, .slice none 0 0]), 3, 40) := by kernel_rfl

theorem own_len {w : World} {base : Nat} {e : TypeId} {size : Nat} {v : Value} {n : Nat} {xs : List Value} (h : w.ownsRow base e size v n xs) : ∃ ad cap, v = .slice ad n cap ∧ n ≤ maxLen := by
  rcases h.2 with ⟨h1, h2⟩ | ⟨g, cap, cur, h1, _, _, h3, h4, _⟩
  · exact ⟨none, 0, by rw [h1, h2], by omega⟩
  · exact ⟨_, cap, h1, by omega⟩

set_option maxHeartbeats 3200000 in
theorem step_ok (b n base : Nat) (d f t fl bk stp lns at_ : Value) (k N : Int) (y : Value) (xs : List Value) (w : World)
    (hb : RdAt w b d f t fl bk stp lns at_) (hown : w.ownsRow base 51 3 stp n xs) (hn : n < 1000) (hbase : base ≤ w.heap.size) (hne : stp.ownBlock ≠ some b) (hy : y.oneCell' = true) :
    Calls Tryz.prog 31 #[.pointer (some ⟨b, 0, none⟩), .agg #[.int .i64 k, .int .i64 N, y]] w fun e w' => e = .returned (.int .i64 0) ∧ ∃ g cap,
      RdAt w' b d f t fl bk (.slice (some ⟨g, 0, none⟩) (n + 1) cap) lns at_ ∧ w'.ownsRow base 51 3 (.slice (some ⟨g, 0, none⟩) (n + 1) cap) (n + 1) (xs ++ [.int .i64 k, .int .i64 N, y]) ∧
      g ≠ b ∧ (stp.ownBlock = some g ∨ w.heap.size ≤ g) ∧ Kept b stp.ownBlock w w' := by
  obtain ⟨ad, cap0, rfl, hn63⟩ := own_len hown
  obtain ⟨i0, hi0, hz0, hz1, hz2⟩ := info_parts Step.info
  have hlt := hb.lt
  have hc5 := hb.cell 5
  have hf5 := hb.frozen 5
  simp only [List.getElem?_toArray, List.getElem?_cons_succ, List.getElem?_cons_zero] at hc5
  have HB := Lib.hid hb
  have HW := Lib.hid (show Below w.heap.size w ((w.alloc (.cells #[.int .i64 k, .int .i64 N, y] 51)).alloc (.cells #[.int .i64 k, .int .i64 N, y] 51)).drew from (((Below.refl _ _).alloc (Nat.le_refl _) _).alloc (by simp) _).drew)
  clear hb
  have HN := World.news_of_block (w := ((w.alloc (.cells #[.int .i64 k, .int .i64 N, y] 51)).alloc (.cells #[.int .i64 k, .int .i64 N, y] 51)).drew) (B := w.heap.size + 1) (cs := #[.int .i64 k, .int .i64 N, y]) (t := 51) (fr := (0, 0)) (by
    have := heap_alloc_new (w.alloc (.cells #[.int .i64 k, .int .i64 N, y] 51)) (.cells #[.int .i64 k, .int .i64 N, y] 51)
    simp only [World.size_alloc] at this
    exact this)
  have hO : ∀ u ∈ [Value.int .i64 k, .int .i64 N, y], u.oneCell' = true := by
    intro u hu
    simp only [List.mem_cons, List.not_mem_nil, or_false] at hu
    rcases hu with rfl | rfl | rfl
    · rfl
    · rfl
    · exact hy
  have hCell : ∀ w1 : World, (((w.alloc (.cells #[.int .i64 k, .int .i64 N, y] 51)).alloc (.cells #[.int .i64 k, .int .i64 N, y] 51)).drew).grownBy w1 (Value.slice ad n cap0).ownBlock → w1.cell? ⟨b, 5, none⟩ = some (.slice ad n cap0) := fun w1 hg => by
    rw [hg.cell_far ⟨b, 5, none⟩ (by simp; omega) (Ne.symm hne)]
    go_simp
  have hFro : ∀ w1 : World, (((w.alloc (.cells #[.int .i64 k, .int .i64 N, y] 51)).alloc (.cells #[.int .i64 k, .int .i64 N, y] 51)).drew).grownBy w1 (Value.slice ad n cap0).ownBlock → w1.frozen? ⟨b, 5, none⟩ = false := fun w1 hg => by
    rw [hg.frozen_far ⟨b, 5, none⟩ (by simp; omega) (Ne.symm hne)]
    go_simp
  have hn2 : ((n : Int) == 1000) = false := by simp; omega
  go_enter Tryz.func31, Tryz.ntmps31
  go_wp2_with fail
  go_region_law
    ((refine step_append_lies _ (by rfl) _ _ _ (by rfl) base 51 i0 _ 3 40 Tryz.underlying26 hi0 hz0 hz1 hz2 rfl (by omega) (.slice ad n cap0) n xs (by rfl) (((hown.alloc _).alloc _).drew)
        ⟨w.heap.size + 1, 0, none⟩ 1 1 [.int .i64 k, .int .i64 N, y] (by rfl) (by rfl) HN hO (by omega) (by simp [maxLen] at *; omega) (by omega) (by simp; omega) (w.heap.size + 2) (by simp) ?_; intro g cap w1 hown1 hgrow hat hlt1; have hc1 := hCell w1 hgrow; have hf1 := hFro w1 hgrow))
  all_goals
    go_wp2
    go_ret
    have hb := HB.out
    have hgb : g ≠ b := by
      rcases hat with h | h
      · intro e; subst e; exact hne h
      · omega
    have hb1 : RdAt w1 b d f t fl bk (.slice ad n cap0) lns at_ := by
      unfold RdAt
      rw [hgrow.block b (by simp; omega) (fun e => hne e.symm), HW.out.block b hlt]
      exact hb
    refine ⟨rfl, g, cap, ?_, ownsRow_setCell_other hown1 (by simp [Value.ownBlock]; omega) _, hgb, ?_, ⟨hgrow.os, hgrow.tape, hgrow.output, ?_, ?_⟩⟩
    · exact heap_setCell_same w1 b 5 _ _ _ hb1
    · rcases hat with h | h
      · exact .inl h
      · right; omega
    · have := hgrow.size
      simp only [World.size_setCell]
      have e : ((w.alloc (Obj.cells #[Value.int .i64 k, Value.int .i64 N, y] 51)).alloc (Obj.cells #[Value.int .i64 k, Value.int .i64 N, y] 51)).drew.heap.size = w.heap.size + 2 := by simp
      omega
    · intro k hk hkb hkr
      rw [heap_setCell_other w1 _ k _ hkb, hgrow.block k (by simp; omega) hkr, HW.out.block k hk]

set_option maxHeartbeats 800000 in
theorem step_full (b base : Nat) (d f t fl bk stp lns at_ : Value) (x : Value) (xs : List Value) (w : World)
    (hb : RdAt w b d f t fl bk stp lns at_) (hown : w.ownsRow base 51 3 stp 1000 xs) (k N : Int) (y : Value) (hx : x = .agg #[.int .i64 k, .int .i64 N, y]) :
    Calls Tryz.prog 31 #[.pointer (some ⟨b, 0, none⟩), x] w fun e w' => e = .returned (.int .i64 22) ∧ Below w.heap.size w w' := by
  subst hx
  obtain ⟨ad, cap0, rfl, hn63⟩ := own_len hown
  have hlt := hb.lt
  have hc5 := hb.cell 5
  simp only [List.getElem?_toArray, List.getElem?_cons_succ, List.getElem?_cons_zero] at hc5
  clear hb hown
  go_enter Tryz.func31, Tryz.ntmps31
  go_wp2_with fail
  go_ret
  exact ⟨rfl, (Below.refl _ _).alloc (Nat.le_refl _) _⟩

end Go.Proofs.YtdhpagdfigghfaaGreatDoor
