/- disk: New, Len, Write; dev.OfDisk. -/
import Derived.Test.YtonmppchbdffcaaGreatDskOps
import Derived.Test.YtonmppchbdffcaaGreatDev0
namespace Go.Proofs.YtonmppchbdffcaaGreat
open Go Go.RowKit Go.Lib
set_option maxRecDepth 100000

/-- a disk: blocks that last, writes that wait; F: the blocks of memory that it has -/
structure DiskAt (w : World) (F : Nat → Prop) (D : Nat) (L : List Dat) (W : List (Nat × Dat)) : Prop where
  lz : ∀ d ∈ L, d.length = 64
  wz : ∀ x ∈ W, x.2.length = 64 ∧ x.1 < L.length
  own : F D
  mem : ∃ vl vw, w.heap[D]? = some (.cells #[vl, vw] 62 (0, 0)) ∧ w.ownsRow 0 34 64 vl L.length (lasC L) ∧ w.ownsRow 0 78 65 vw W.length (waiC W) ∧ (∀ k, vl.ownBlock = some k → F k) ∧ (∀ k, vw.ownBlock = some k → F k)
theorem DiskAt.lt {w : World} {F : Nat → Prop} {D : Nat} {L : List Dat} {W : List (Nat × Dat)} (h : DiskAt w F D L W) : D < w.heap.size := by
  obtain ⟨vl, vw, h1, _⟩ := h.mem
  exact (Array.getElem?_eq_some_iff.1 h1).1
theorem DiskAt.on {w w' : World} {F : Nat → Prop} {D : Nat} {L : List Dat} {W : List (Nat × Dat)} (h : DiskAt w F D L W) (hk : ∀ k, k < w.heap.size → F k → w'.heap[k]? = w.heap[k]?) : DiskAt w' F D L W := by
  obtain ⟨vl, vw, h1, h2, h3, h4, h5⟩ := h.mem
  exact ⟨h.lz, h.wz, h.own, vl, vw, (hk D h.lt h.own).trans h1, own_move h2 (Nat.le_refl _) fun k e => hk k (own_lt h2 k e).2 (h4 k e), own_move h3 (Nat.le_refl _) fun k e => hk k (own_lt h3 k e).2 (h5 k e), h4, h5⟩
theorem DiskAt.below {w w' : World} {F : Nat → Prop} {D : Nat} {L : List Dat} {W : List (Nat × Dat)} (h : DiskAt w F D L W) (hb : Below w.heap.size w w') : DiskAt w' F D L W := h.on fun k hk _ => hb.block k hk
theorem DiskAt.keeps {w w' : World} {F G : Nat → Prop} {D : Nat} {L : List Dat} {W : List (Nat × Dat)} (h : DiskAt w F D L W) (hb : Keeps G w w') (hG : ∀ k, F k → ¬ G k) : DiskAt w' F D L W := h.on fun k hk hf => hb.block k hk (hG k hf)
theorem DiskAt.weak {w : World} {F F' : Nat → Prop} {D : Nat} {L : List Dat} {W : List (Nat × Dat)} (h : DiskAt w F D L W) (hF : ∀ k, F k → F' k) : DiskAt w F' D L W := by
  obtain ⟨vl, vw, h1, h2, h3, h4, h5⟩ := h.mem
  exact ⟨h.lz, h.wz, hF _ h.own, vl, vw, h1, h2, h3, fun k e => hF k (h4 k e), fun k e => hF k (h5 k e)⟩
theorem DiskAt.cells {w : World} {D : Nat} {vl vw : Value} (h : w.heap[D]? = some (.cells #[vl, vw] 62 (0, 0))) :
    w.cell? ⟨D, 0, none⟩ = some vl ∧ w.cell? ⟨D, 1, none⟩ = some vw ∧ w.frozen? ⟨D, 0, none⟩ = false ∧ w.frozen? ⟨D, 1, none⟩ = false := by
  have c0 := cell_of_row w D 0 _ _ _ h
  have c1 := cell_of_row w D 1 _ _ _ h
  simp only [List.getElem?_toArray, List.getElem?_cons_succ, List.getElem?_cons_zero] at c0 c1
  exact ⟨c0, c1, frozen_of_row w D 0 _ _ h, frozen_of_row w D 1 _ _ h⟩

theorem disk_len (F : Nat → Prop) (D : Nat) (L : List Dat) (W : List (Nat × Dat)) (w : World) (h : DiskAt w F D L W) :
    Calls Tryz.prog 25 #[.pointer (some ⟨D, 0, none⟩)] w fun e w' => e = .returned (.int .i64 (L.length : Int)) ∧ w' = w := by
  obtain ⟨vl, vw, h1, h2, -⟩ := h.mem
  obtain ⟨ad, cap, rfl, hn⟩ := own_len h2
  obtain ⟨c0, c1, f0, f1⟩ := DiskAt.cells h1
  clear h h1 h2
  go_enter Tryz.func25, Tryz.ntmps25
  go_wp2_with fail
  go_ret
  exact ⟨rfl, rfl⟩
/-- the blocks that are new in w' -/
def newIn (w w' : World) (k : Nat) : Prop := w.heap.size ≤ k ∧ k < w'.heap.size
set_option maxHeartbeats 1600000 in
theorem disk_new (n : Nat) (h0 : 1 ≤ n) (h1 : n ≤ 512) (w : World) :
    Calls Tryz.prog 5 #[.int .i64 (n : Int)] w fun e w' => ∃ D, e = .returned (.pointer (some ⟨D, 0, none⟩)) ∧ DiskAt w' (newIn w w') D (List.replicate n zeroD) [] ∧ Below w.heap.size w w' := by
  obtain ⟨i, hi, hz0, hz1, hz2⟩ := info_parts data_info
  have hmk := run_make (P := Tryz.prog) w 59 34 i (.agg z64) Tryz.underlying59 hi hz0 .i64 .i64 (n : Int) (n : Int) (by omega) (by omega) (by rw [hz2]; omega) (by omega)
  rw [hz1] at hmk
  simp only [Int.toNat_natCast, Value.cells] at hmk
  have hM := made_zero n
  have hMs := size_madeCells z64 (n * 64)
  generalize madeCells z64 (n * 64) = M at hmk hM hMs
  have k1 : ¬ (n : Int) < 1 := by omega
  have k2 : ¬ (512 : Int) < (n : Int) := by omega
  have HM := Lib.hid (And.intro hM hMs)
  clear hM hMs hi hz0 hz1 hz2
  go_enter Tryz.func5, Tryz.ntmps5
  go_wp2_with fail
  go_ret
  refine ⟨w.heap.size + 1, rfl, ⟨fun d hd => by rw [List.eq_of_mem_replicate hd]; rfl, fun x hx => (by cases hx), ⟨by omega, by simp⟩, .slice (some ⟨w.heap.size, 0, none⟩) n n, .slice none 0 0, heap_alloc2_new _ _ _, ?_, World.ownsRow_nil _ _ _ _, fun k hk => ?_, fun k hk => by cases hk⟩, ((Below.refl _ _).alloc (Nat.le_refl _) _).alloc (by simp) _⟩
  · have hl : (List.replicate n zeroD).length = n := by simp
    rw [hl]
    refine ⟨by rw [← HM.out.1, Array.length_toList]; exact HM.out.2, .inr ⟨w.heap.size, n, M, rfl, Nat.zero_le _, heap_alloc2_old _ _ _, Nat.le_refl _, by unfold maxLen; omega, HM.out.2, ?_⟩⟩
    rw [List.take_of_length_le (by rw [Array.length_toList, HM.out.2]; exact Nat.le_refl _)]
    exact HM.out.1
  · obtain rfl : w.heap.size = k := by simpa [Value.ownBlock] using hk
    exact ⟨Nat.le_refl _, by simp; omega⟩

set_option maxHeartbeats 1600000 in
theorem dev_of (F : Nat → Prop) (D : Nat) (L : List Dat) (W : List (Nat × Dat)) (w : World) (h : DiskAt w F D L W) :
    Calls Tryz.prog 7 #[.pointer (some ⟨D, 0, none⟩)] w fun e w' => e = .returned (.pointer (some ⟨w.heap.size, 0, none⟩)) ∧ DevAt w' w.heap.size D L.length 1099511627776 0 ∧ Below w.heap.size w w' := by
  have HL := Lib.hid (disk_len F D L W w h)
  have hb1 : (w.alloc (.cells #[.pointer (some ⟨D, 0, none⟩), .pointer none, .int .i64 0, .int .i64 (L.length : Int), .int .i64 0, .int .i64 0] 73)).heap[w.heap.size]? = some (.cells #[.pointer (some ⟨D, 0, none⟩), .pointer none, .int .i64 0, .int .i64 (L.length : Int), .int .i64 0, .int .i64 0] 73 (0, 0)) := heap_alloc_new _ _
  have HA := Lib.hid (atom_store ⟨w.heap.size, 4, none⟩ (.int .i64 0) 1099511627776 _ (by rw [cell_of_row _ _ 4 _ _ _ hb1]; rfl) (frozen_of_row _ _ 4 _ _ hb1))
  clear h hb1
  go_enter Tryz.func7, Tryz.ntmps7
  go_wp2_with fail
  refine HL.out.mono ?_
  rintro e w' ⟨rfl, hw'⟩
  rw [hw']
  clear hw' w'
  go_wp2_with fail
  refine HA.out.mono ?_
  rintro e w' ⟨rfl, rfl⟩
  go_wp2_with fail
  go_ret
  exact ⟨rfl, heap_alloc_new _ _, (Below.refl _ _).alloc (Nat.le_refl _) _⟩

theorem lasC_len {L : List Dat} (h : ∀ d ∈ L, d.length = 64) : (lasC L).length = L.length * 64 := flat_len dC 64 L fun y hy => by rw [dC_len]; exact h y hy
theorem waiC_snoc (W : List (Nat × Dat)) (x : Nat × Dat) : waiC (W ++ [x]) = waiC W ++ wC x := by simp [waiC]
/-- F, and the blocks that came -/
def orNew (F : Nat → Prop) (w w' : World) (k : Nat) : Prop := F k ∨ newIn w w' k
attribute [local go_sem ↓] wp_bslice exec_bwrite exec_load_data
set_option maxHeartbeats 6400000 in
theorem disk_write (F : Nat → Prop) (D : Nat) (L : List Dat) (W : List (Nat × Dat)) (b : Nat) (x : Dat) (hb : b < L.length) (hx : x.length = 64) (hW : W.length ≤ 100000) (w : World) (h : DiskAt w F D L W) :
    Calls Tryz.prog 10 #[.pointer (some ⟨D, 0, none⟩), .int .i64 (b : Int), .agg (dC x).toArray] w fun e w' => e = .returned (.bool true) ∧ DiskAt w' (orNew F w w') D L (W ++ [(b, x)]) ∧ Keeps F w w' := by
  have HL := Lib.hid (fun w' (hb : Below w.heap.size w w') => disk_len F D L W w' (h.below hb))
  have H := Lib.hid h
  have HBX := Lib.hid (And.intro hb hx)
  obtain ⟨vl, vw, h1, h2, h3, h4, h5⟩ := h.mem
  obtain ⟨ad, cap0, rfl, hn63⟩ := own_len h3
  obtain ⟨c0, c1, f0, f1⟩ := DiskAt.cells h1
  have hlt := h.lt
  have hwx : wC (b, x) = .int .i64 (b : Int) :: dC x := rfl
  have hone := dC_one x
  have hlen : (dC x).length = 64 := by rw [dC_len, hx]
  have HWX := Lib.hid hwx
  generalize dC x = cs at hone hlen HWX
  have hxs : cs.toArray.size = 64 := by simp [hlen]
  have k1 : ¬ (b : Int) < 0 := by omega
  have k2 : ¬ (L.length : Int) ≤ (b : Int) := by omega
  have hwo : ∀ v ∈ (Value.int .i64 (b : Int) :: cs), v.oneCell' = true := fun v hv => by
    rcases List.mem_cons.1 hv with rfl | h
    · rfl
    · exact hone v h
  obtain ⟨i0, hi0, hz0, hz1, hz2⟩ := info_parts write_info
  have hne : (Value.slice ad W.length cap0).ownBlock ≠ some D := fun e => by
    rcases own_form h3 with ⟨rfl, _⟩ | ⟨g, rfl, _⟩
    · cases e
    · obtain rfl : g = D := by simpa [Value.ownBlock] using e
      rcases h3.2 with ⟨e1, _⟩ | ⟨g', cap', cur, e1, _, e3, _⟩
      · cases e1
      · cases e1
        rw [h1] at e3
        simp at e3
  have hB1 : Below w.heap.size w (w.alloc (.cells cs.toArray 34)).drew := ((Below.refl _ _).alloc (Nat.le_refl _) _).drew
  have hB2 : Below w.heap.size w ((w.alloc (.cells cs.toArray 34)).alloc (.cells (Value.int .i64 (b : Int) :: cs).toArray 78)).drew := (((Below.refl _ _).alloc (Nat.le_refl _) _).alloc (by simp) _).drew
  have hR1 : (w.alloc (.cells cs.toArray 34)).drew.rangeAt w.heap.size 0 cs := fun j v hv => by
    rw [Nat.zero_add, World.cell?_drew, cell_of_row _ _ j _ _ (0, 0) (heap_alloc_last w _)]
    simpa using hv
  have hR2 : ((w.alloc (.cells cs.toArray 34)).alloc (.cells (Value.int .i64 (b : Int) :: cs).toArray 78)).drew.rangeAt w.heap.size 0 cs := fun j v hv => by
    rw [Nat.zero_add, World.cell?_drew, cell_of_row _ _ j _ _ (0, 0) (heap_alloc2_old w _ _)]
    simpa using hv
  have hown2 : ((w.alloc (.cells cs.toArray 34)).alloc (.cells (Value.int .i64 (b : Int) :: cs).toArray 78)).drew.ownsRow 0 78 65 (.slice ad W.length cap0) W.length (waiC W) := own_on h3 hB2
  have hor : ∀ r, (Value.slice ad W.length cap0).ownBlock = some r → r < w.heap.size := fun r e => (own_lt h3 r e).2
  have hC3 : ∀ w1 : World, (((w.alloc (.cells cs.toArray 34)).alloc (.cells (Value.int .i64 (b : Int) :: cs).toArray 78)).drew).grownBy w1 (Value.slice ad W.length cap0).ownBlock → w1.cell? ⟨D, 1, none⟩ = some (.slice ad W.length cap0) := fun w1 hg => by
    rw [hg.cell_far ⟨D, 1, none⟩ (by simp; omega) (Ne.symm hne)]
    exact (hB2.cell (World.block_lt_of_cell? _ _ c1)).trans c1
  have hF3 : ∀ w1 : World, (((w.alloc (.cells cs.toArray 34)).alloc (.cells (Value.int .i64 (b : Int) :: cs).toArray 78)).drew).grownBy w1 (Value.slice ad W.length cap0).ownBlock → w1.frozen? ⟨D, 1, none⟩ = false := fun w1 hg => by
    rw [hg.frozen_far ⟨D, 1, none⟩ (by simp; omega) (Ne.symm hne), World.frozen?_drew]
    exact (hB2.frozen (p := ⟨D, 1, none⟩) hlt).trans f1
  have HN := World.news_of_block (w := ((w.alloc (.cells cs.toArray 34)).alloc (.cells (Value.int .i64 (b : Int) :: cs).toArray 78)).drew) (B := w.heap.size + 1) (cs := (Value.int .i64 (b : Int) :: cs).toArray) (t := 78) (fr := (0, 0)) (heap_alloc2_new _ _ _)
  obtain ⟨hdo, hdk⟩ := dat_range hR1 hlen
  have HFZ := Lib.hid (And.intro hF3 hC3)
  have HOW := Lib.hid hown2
  have HROW := Lib.hid (row_tag h3)
  have HB2 := Lib.hid hB2
  have HNW := Lib.hid (And.intro HN hwo)
  have H1 := Lib.hid (And.intro h1 (And.intro h2 (And.intro h4 (And.intro h5 (And.intro hne hor)))))
  have hu := Tryz.underlying34
  have hi : (Tryz.prog.info? 34).map (·.size) = some cs.length := by rw [data_size, hlen]
  have hdl : datLen (.agg cs.toArray) = true := decide_eq_true (by simp [Value.cells, hlen])
  have hwr : wrLen (.agg (Value.int .i64 (b : Int) :: cs).toArray) = true := decide_eq_true (by simp [Value.cells, hlen])
  have HLEN := Lib.hid hlen
  clear hxs hlen hi hu
  clear h hR1 hR2 hF3 hC3 hown2 HN hwo h1 h2 h3 h4 h5 hwx hB1 hB2 hb hx hor
  go_enter Tryz.func10, Tryz.ntmps10
  go_wp2_with fail
  refine (HL.out _ ((Below.refl _ _).alloc (Nat.le_refl _) _)).mono ?_
  rintro e w' ⟨rfl, hw'⟩
  rw [hw']
  clear hw' w'
  go_wp2_with fail
  go_region_law
    ((refine step_append_lies _ (by rfl) _ _ _ (by rfl) 0 78 i0 _ 65 72 Tryz.underlying60 hi0 hz0 hz1 hz2 rfl (by omega) (.slice ad W.length cap0) W.length (waiC W) (by rfl) HOW.out
        ⟨w.heap.size + 1, 0, none⟩ 1 1 (Value.int .i64 (b : Int) :: cs) (by rfl) (by simp [HLEN.out]) HNW.out.1 HNW.out.2 (by omega) (by simp [maxLen] at *; omega) (by omega) (by simp) (w.heap.size + 2) (by simp) ?_; intro g cap w1 hown1 hgrow hat hlt1; have hf1 := HFZ.out.1 w1 hgrow; have hc1 := HFZ.out.2 w1 hgrow))
  all_goals
    go_wp2_with fail
    go_ret
    obtain ⟨q1, q2, q4, q5, -, -⟩ := H1.out
    have hb1 : w1.heap[D]? = some (.cells #[vl, .slice ad W.length cap0] 62 (0, 0)) := by
      rw [hgrow.block D (by simp; omega) (Ne.symm hne)]
      exact (HB2.out.block D hlt).trans q1
    have hkp : ∀ k, k < w.heap.size → k ≠ D → (Value.slice ad W.length cap0).ownBlock ≠ some k → (w1.setCell ⟨D, 1, none⟩ (.slice (some ⟨g, 0, none⟩) (W.length + 1) cap)).heap[k]? = w.heap[k]? := fun k hk hkD hkr => by
      rw [heap_setCell_other w1 _ k _ hkD, hgrow.block k (by simp; omega) (Ne.symm hkr)]
      exact HB2.out.block k hk
    have hsz := hgrow.size
    simp only [World.size_drew, World.size_alloc] at hsz
    refine ⟨rfl, ⟨H.out.lz, ?_, .inl H.out.own, vl, .slice (some ⟨g, 0, none⟩) (W.length + 1) cap, heap_setCell_same w1 D 1 _ _ _ hb1, own_move q2 (Nat.le_refl _) fun k hk => ?_, ?_, fun k hk => .inl (q4 k hk), fun k hk => ?_⟩, ⟨hgrow.os, hgrow.tape, hgrow.output, by simp only [World.size_setCell]; omega, fun k hk hf => hkp k hk (fun e => hf (e ▸ H.out.own)) fun e => hf (q5 k e)⟩⟩
    · intro y hy
      rcases List.mem_append.1 hy with h | h
      · exact H.out.wz y h
      · obtain rfl := List.mem_singleton.1 h
        exact ⟨HBX.out.2, HBX.out.1⟩
    · obtain ⟨cur, hc⟩ := row_tag q2 k hk
      refine hkp k (own_lt q2 k hk).2 (tag_ne hc q1 (by decide)) fun e => ?_
      obtain ⟨cur', hc'⟩ := HROW.out k e
      exact tag_ne hc hc' (by decide) rfl
    · have e : (W ++ [(b, x)]).length = W.length + 1 := by simp
      rw [e, waiC_snoc, HWX.out]
      exact ownsRow_setCell_other hown1 (by
        simp only [Value.ownBlock]
        intro e
        have e : g = D := by simpa using e
        subst e
        rcases hat with h | h
        · exact hne h
        · omega) _
    · obtain rfl : g = k := by simpa [Value.ownBlock] using hk
      rcases hat with h | h
      · exact .inl (q5 g h)
      · exact .inr ⟨by omega, by simp only [World.size_setCell]; omega⟩
end Go.Proofs.YtonmppchbdffcaaGreat
