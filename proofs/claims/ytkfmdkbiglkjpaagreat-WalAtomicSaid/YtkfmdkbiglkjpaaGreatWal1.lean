/- Puts in memory; the blocks of the log; right. -/
import Derived.Test.YtkfmdkbiglkjpaaGreatWal0
namespace Go.Proofs.YtkfmdkbiglkjpaaGreat
open Go Go.RowKit Go.Lib
attribute [local go_sem ↓] wp_bslice exec_load_data exec_load_put exec_store_data exec_store_put
set_option maxRecDepth 100000

abbrev PutV := Int × Dat
def pC (p : PutV) : List Value := .int .i64 p.1 :: dC p.2
theorem pC_len (p : PutV) : (pC p).length = p.2.length + 1 := by simp [pC, dC_len]
theorem pC_one (p : PutV) : ∀ v ∈ pC p, v.oneCell' = true := fun v hv => by
  rcases List.mem_cons.1 hv with rfl | h
  · rfl
  · exact dC_one _ v h
def putC (l : List PutV) : List Value := (l.map pC).flatten
/-- a slice of Puts that can be read -/
structure PReads (w : World) (ad : Option Addr) (cap : Nat) (l : List PutV) : Prop where
  len : l.length ≤ cap
  max : cap ≤ maxLen
  d64 : ∀ p ∈ l, p.2.length = 64
  at' : ∀ (i : Nat) (p : PutV), l[i]? = some p → ∃ g, ad = some ⟨g, 0, none⟩ ∧ w.rangeAt g (i * 65) (pC p)
/-- its block -/
def PIn (w : World) (F : Nat → Prop) (X : Nat) (ad : Option Addr) : Prop := ∀ g, ad = some ⟨g, 0, none⟩ → g < w.heap.size ∧ ¬ F g ∧ g ≠ X
theorem PReads.on {w w' : World} {ad : Option Addr} {cap : Nat} {l : List PutV} (h : PReads w ad cap l) (hk : ∀ g, ad = some ⟨g, 0, none⟩ → w'.heap[g]? = w.heap[g]?) : PReads w' ad cap l :=
  ⟨h.len, h.max, h.d64, fun i p hp => by
    obtain ⟨g, e, hr⟩ := h.at' i p hp
    exact ⟨g, e, fun j v hv => (World.cell?_of_block (a := ⟨g, i * 65 + j, none⟩) (hk g e)).trans (hr j v hv)⟩⟩
theorem PReads.lt {w : World} {ad : Option Addr} {cap : Nat} {l : List PutV} (h : PReads w ad cap l) (h0 : 0 < l.length) : ∃ g, ad = some ⟨g, 0, none⟩ ∧ g < w.heap.size := by
  obtain ⟨g, e, hr⟩ := h.at' 0 _ (List.getElem?_eq_getElem h0)
  exact ⟨g, e, World.block_lt_of_cell? _ ⟨g, 0 * 65 + 0, none⟩ (hr 0 _ rfl)⟩
theorem PReads.below {w w' : World} {ad : Option Addr} {cap : Nat} {l : List PutV} (h : PReads w ad cap l) (hb : Below w.heap.size w w') : PReads w' ad cap l := by
  by_cases h0 : 0 < l.length
  · obtain ⟨g, e, hl⟩ := h.lt h0
    exact h.on fun g' e' => by
      rw [e] at e'
      obtain rfl : g = g' := by simpa using e'
      exact hb.block g hl
  · exact ⟨h.len, h.max, h.d64, fun i p hp => by have := (List.getElem?_eq_some_iff.1 hp).1; omega⟩
theorem PReads.of_row {w : World} {B : Nat} {ad : Option Addr} {cap : Nat} {l : List PutV} (h : w.ownsRow B 60 65 (.slice ad l.length cap) l.length (putC l)) (hz : ∀ p ∈ l, p.2.length = 64) (h0 : l.length ≤ cap) (hm : cap ≤ maxLen) : PReads w ad cap l :=
  ⟨h0, hm, hz, fun i x hx => by
    obtain ⟨g, cap', hsl, _, hc⟩ := own_cell h (by have := (List.getElem?_eq_some_iff.1 hx).1; omega)
    obtain ⟨rfl, rfl⟩ : ad = some ⟨g, 0, none⟩ ∧ cap = cap' := by simpa using hsl
    exact ⟨g, rfl, fun j v hv => hc _ v (flat_at pC 65 l i x j v (fun y hy => by rw [pC_len, hz y hy]) hx hv)⟩⟩
/-- a round over Puts: one is taken into a cell of its own -/
structure PRound (wr : World) (g i : Nat) (p : PutV) : Prop where
  dok : datOf 65 wr (.pointer (some ⟨g, i * 65, none⟩)) = pC p
  dk : datOk 65 wr (.pointer (some ⟨g, i * 65, none⟩)) = true
  ag : aggOk 65 (.agg (pC p).toArray) = true
  th : thereOk 65 (wr.alloc (.cells Tryz.zeroCells60 60)) (.pointer (some ⟨wr.heap.size, 0, none⟩)) = true
  pt : putAt (wr.alloc (.cells Tryz.zeroCells60 60)) (.pointer (some ⟨wr.heap.size, 0, none⟩)) (pC p).toArray = wr.alloc (.cells (pC p).toArray 60)
  bx : (wr.alloc (.cells (pC p).toArray 60)).heap[wr.heap.size]? = some (.cells (pC p).toArray 60 (0, 0))
  bl : Below wr.heap.size wr (wr.alloc (.cells (pC p).toArray 60))
  sz : (wr.alloc (.cells (pC p).toArray 60)).heap.size = wr.heap.size + 1
theorem put_round {wr : World} {g i : Nat} {p : PutV} (hr : wr.rangeAt g (i * 65) (pC p)) (hp : p.2.length = 64) : PRound wr g i p := by
  have hwl : (pC p).length = 65 := by rw [pC_len, hp]
  obtain ⟨hdo, hdk⟩ := dat_range hr hwl
  have hal := all_oneCell_toArray (pC_one p)
  have hzc : (Array.size Tryz.zeroCells60) = 65 := by decide
  exact ⟨hdo, hdk, agg_ok hwl (pC_one p), there_row (n := 65) (heap_alloc_last wr (.cells Tryz.zeroCells60 60)) hzc, putAt_new 60 put_size wr 60 Tryz.zeroCells60 (pC p).toArray hzc (by simpa using hwl) hal, heap_alloc_last _ _, (Below.refl _ _).alloc (Nat.le_refl _) _, by simp⟩
/-- what the cell of a round holds -/
theorem put_cell {w : World} {R : Nat} {p : PutV} (h : w.heap[R]? = some (.cells (pC p).toArray 60 (0, 0))) : w.cell? ⟨R, 0, none⟩ = some (.int .i64 p.1) ∧ w.rangeAt R 1 (dC p.2) := by
  refine ⟨by rw [cell_of_row w R 0 _ _ _ h]; rfl, fun j v hv => ?_⟩
  rw [cell_of_row w R (1 + j) _ _ _ h, List.getElem?_toArray, Nat.add_comm]
  exact hv

theorem super_header (w : World) : Calls Tryz.prog 23 #[] w fun e w' => e = .returned (.int .i64 1) ∧ w' = w := by
  go_enter Tryz.func23, Tryz.ntmps23
  go_wp2_with fail
  go_ret
  exact ⟨rfl, rfl⟩
theorem super_bitmap (w : World) : Calls Tryz.prog 35 #[] w fun e w' => e = .returned (.int .i64 18) ∧ w' = w := by
  go_enter Tryz.func35, Tryz.ntmps35
  go_wp2_with fail
  go_ret
  exact ⟨rfl, rfl⟩
theorem super_log (i : Nat) (hi : i < 16) (w : World) : Calls Tryz.prog 37 #[.int .i64 (i : Int)] w fun e w' => e = .returned (.tuple #[.int .i64 (2 + i : Nat), .bool true]) ∧ w' = w := by
  have k1 : ¬ (i : Int) < 0 := by omega
  have k2 : ¬ (16 : Int) ≤ (i : Int) := by omega
  have wr1 : IntKind.i64.wrap (2 + (i : Int)) = ((2 + i : Nat) : Int) := by rw [IntKind.wrap_i64] <;> omega
  go_enter Tryz.func37, Tryz.ntmps37
  go_wp2_with fail
  go_ret2
  exact ⟨rfl, rfl⟩

def okAt (N : Nat) (l : List PutV) (i : Nat) (p : PutV) : Bool := decide (18 ≤ p.1) && decide (p.1 < (N : Int)) && (l.take i).all fun q => decide (p.1 ≠ q.1)
/-- may they be written together? -/
def rightB (N : Nat) (l : List PutV) : Bool := (List.range l.length).all fun i => okAt N l i (l.getD i (0, []))
theorem right_no {N : Nat} {l : List PutV} {i : Nat} {p : PutV} (hp : l[i]? = some p) (h : okAt N l i p = false) : rightB N l = false := by
  refine Bool.eq_false_iff.2 fun hr => ?_
  have h1 := List.all_eq_true.1 hr i (List.mem_range.2 (List.getElem?_eq_some_iff.1 hp).1)
  rw [List.getD_eq_getElem?_getD, hp, Option.getD_some, h] at h1
  cases h1
set_option maxHeartbeats 6400000 in
theorem wal_right (X D : Nat) (N left dn : Nat) (ad : Option Addr) (cap : Nat) (l : List PutV) (w : World) (hN : N ≤ 1000) (hd : DevAt w X D N left dn) (hl : l.length ≤ 1000) (h : PReads w ad cap l) :
    Calls Tryz.prog 19 #[.pointer (some ⟨X, 0, none⟩), .slice ad l.length cap] w fun e w' => e = .returned (.bool (rightB N l)) ∧ Below w.heap.size w w' := by
  have HH := Lib.hid h
  have HLE := Lib.hid (fun w' (hb : Below w.heap.size w w') => dev_len X D N left dn w' (hd.on (hb.block X hd.lt)))
  obtain ⟨m, hm⟩ : ∃ m, m = l.length := ⟨_, rfl⟩
  have HM := Lib.hid hm
  have hcap : m ≤ cap := hm ▸ h.len
  have hcm := h.max
  rw [← hm] at hl ⊢
  clear h hd hm
  go_enter Tryz.func19, Tryz.ntmps19
  go_wp2_with fail
  go_loopg [11] m (fun k v wr => ∃ (i : Nat), k + i = m ∧ v = .int .i64 (i : Int) ∧ Below w.heap.size w wr ∧ ∀ j, j < i → ∃ p, l[j]? = some p ∧ okAt N l j p = true)
  case atStart => exact ⟨0, by simp, rfl, Below.refl _ _, fun j hj => by omega⟩
  case round =>
    obtain ⟨i, hk, rfl, hB, hok⟩ := hrel
    have hk := Lib.hid hk
    have HB := Lib.hid hB
    have HOK := Lib.hid hok
    clear hB hok
    by_cases hi : i < m
    · have hi1 : (i : Int) < (m : Int) := by omega
      have hi3 : (0 : Int) ≤ (i : Int) := by omega
      have wr1 : IntKind.i64.wrap ((i : Int) + 1) = (i : Int) + 1 := by rw [IntKind.wrap_i64] <;> omega
      obtain ⟨p, hp⟩ : ∃ p, l[i]? = some p := ⟨l[i]'(by have := HM.out; omega), List.getElem?_eq_getElem _⟩
      have HP := Lib.hid hp
      have HR := Lib.hid (HH.out.below HB.out)
      obtain ⟨g, rfl, hr⟩ := HR.out.at' i p hp
      obtain ⟨hdo, hdk, hag, hth, hpt, hbx, hbl, hsz⟩ := put_round hr (HH.out.d64 p (List.mem_of_getElem? hp))
      obtain ⟨c0, -⟩ := put_cell hbx
      obtain ⟨w1, hw1⟩ : ∃ w1, w1 = wr.alloc (.cells (pC p).toArray 60) := ⟨_, rfl⟩
      rw [← hw1] at hpt hbx hbl hsz c0
      have hbl2 := HB.out.trans (hbl.mono HB.out.size)
      have HLN := Lib.hid (HLE.out w1.drew hbl2.drew)
      have HBM := Lib.hid (super_bitmap w1.drew)
      have c0' : w1.drew.cell? ⟨wr.heap.size, 0, none⟩ = some (.int .i64 p.1) := c0
      have HW1 := Lib.hid hw1
      have HX := Lib.hid (And.intro hbx (And.intro hbl (And.intro hsz hbl2)))
      clear hr hbx hbl hbl2 hw1 hp
      by_cases h18 : p.1 < 18
      · have k4 : decide (p.1 < 18) = true := decide_eq_true h18
        have HE : Hid (rightB N l = false) := Lib.hid (right_no HP.out (by simp [okAt]; omega))
        go_wp2_with fail
        refine wp_region_still_lit (by kernel_rfl) (by kernel_rfl) ?_
        still_step
        still_step
        still_call HBM.out
        repeat still_step
        refine wpStill_nil ?_
        go_wp2_with fail
        go_ret
        rw [HE.out]
        exact ⟨rfl, HX.out.2.2.2.drew⟩
      · have k4 : decide (p.1 < 18) = false := decide_eq_false h18
        by_cases hpN : p.1 < (N : Int)
        · have k5 : decide ((N : Int) ≤ p.1) = false := decide_eq_false (by omega)
          have k6 : ¬ (N : Int) ≤ p.1 := by omega
          go_wp2_with fail
          refine wp_region_still_lit (by kernel_rfl) (by kernel_rfl) ?_
          still_step
          still_step
          still_call HBM.out
          still_step
          still_step
          still_step
          still_step
          still_step
          still_call HLN.out
          repeat still_step
          refine wpStill_nil ?_
          have hic : (i : Int) ≤ (cap : Int) := by omega
          go_wp2_with fail
          have HC0 := Lib.hid (And.intro hi (And.intro h18 hpN))
          clear hdo hdk hth hpt c0 c0' k4 k5 k6 hic hi1 hi3 hag
          obtain ⟨R, hR⟩ : ∃ R, R = wr.heap.size := ⟨_, rfl⟩
          have HXR : Hid (w1.heap[R]? = some (.cells (pC p).toArray 60 (0, 0)) ∧ w1.heap.size = R + 1) := Lib.hid (by rw [hR]; exact ⟨HX.out.1, HX.out.2.2.1⟩)
          rw [← hR]
          obtain ⟨G0, hG0⟩ : ∃ G0, G0 = gk := ⟨_, rfl⟩
          have HG0 := Lib.hid hG0
          clear hR hG0
          go_loopg [31] i (fun k v wq => ∃ (j : Nat), k + j = i ∧ v = .int .i64 (j : Int) ∧ Below w1.heap.size w1 wq ∧ ∀ j', j' < j → ∃ q, l[j']? = some q ∧ p.1 ≠ q.1)
          case atStart => exact ⟨0, by simp, rfl, (Below.refl _ _).drew, fun j hj => by omega⟩
          case round =>
            obtain ⟨j, hkj, rfl, hBj, hokj⟩ := hrel
            have hkj := Lib.hid hkj
            have HBJ := Lib.hid hBj
            have HOJ := Lib.hid hokj
            clear hBj hokj
            by_cases hj : j < i
            · have hj1 : (j : Int) < (i : Int) := by omega
              have hj3 : (0 : Int) ≤ (j : Int) := by omega
              have wr2 : IntKind.i64.wrap ((j : Int) + 1) = (j : Int) + 1 := by rw [IntKind.wrap_i64] <;> omega
              obtain ⟨q, hq⟩ : ∃ q, l[j]? = some q := ⟨l[j]'(by have := HM.out; omega), List.getElem?_eq_getElem _⟩
              have HQ := Lib.hid hq
              obtain ⟨g', e', hrq⟩ := ((HR.out.below HX.out.2.1).below HBJ.out).at' j q hq
              obtain rfl : g = g' := by simpa using e'
              obtain ⟨hdo, hdk, hag, hth, hpt, hbx, hbl, hsz2⟩ := put_round hrq (HH.out.d64 q (List.mem_of_getElem? hq))
              obtain ⟨d0, -⟩ := put_cell hbx
              have hbl2 := HBJ.out.trans (hbl.mono HBJ.out.size)
              have hRl : R < w1.heap.size := by have := HXR.out.2; omega
              have c1 : (wr.alloc (.cells (pC q).toArray 60)).cell? ⟨R, 0, none⟩ = some (.int .i64 p.1) := by
                rw [World.cell?_of_block (a := ⟨R, 0, none⟩) (hbl2.block R hRl)]
                exact (put_cell HXR.out.1).1
              have HB2 := Lib.hid hbl2
              clear hrq hbx hbl hbl2 hsz2 hq
              by_cases hpq : p.1 = q.1
              · have k7 : (p.1 == q.1) = true := beq_iff_eq.2 hpq
                have HE : Hid (rightB N l = false) := Lib.hid (right_no HP.out (by
                  have h1 : q ∈ l.take i := List.mem_iff_getElem?.2 ⟨j, by rw [List.getElem?_take, if_pos hj]; exact HQ.out⟩
                  have h2 : ((l.take i).all fun q => decide (p.1 ≠ q.1)) = false := Bool.eq_false_iff.2 fun h => by
                    have := List.all_eq_true.1 h q h1
                    simp [hpq] at this
                  unfold okAt; rw [h2, Bool.and_false]))
                clear hpq
                go_wp2_with fail
                go_ret
                rw [HE.out]
                exact ⟨rfl, HX.out.2.2.2.trans (HB2.out.mono HX.out.2.2.2.size)⟩
              · have k7 : (p.1 == q.1) = false := beq_eq_false_iff_ne.2 hpq
                have HPQ := Lib.hid hpq
                clear hpq
                go_wp2_with fail
                go_roundg (gk - 1)
                case measure => have := hkj.out; omega
                case rel => exact ⟨j + 1, by have := hkj.out; omega, by simp, HB2.out, fun j' hj' => by
                  by_cases h : j' = j
                  · subst h; exact ⟨q, HQ.out, HPQ.out⟩
                  · exact HOJ.out j' (by omega)⟩
            · have hj1 : ¬ (j : Int) < (i : Int) := by omega
              have HEN : Hid (∀ j', j' < i + 1 → ∃ p, l[j']? = some p ∧ okAt N l j' p = true) := Lib.hid fun j' hj' => by
                by_cases h : j' = i
                · subst h
                  refine ⟨p, HP.out, ?_⟩
                  simp only [okAt, Bool.and_eq_true, decide_eq_true_eq, List.all_eq_true]
                  refine ⟨⟨HC0.out.2.1, HC0.out.2.2⟩, fun q hq => ?_⟩
                  obtain ⟨n, hn⟩ := List.mem_iff_getElem?.1 hq
                  rw [List.getElem?_take] at hn
                  split at hn
                  · obtain ⟨q', hq', hne⟩ := HOJ.out n (by have := hkj.out; omega)
                    rw [hn] at hq'
                    cases hq'
                    exact hne
                  · cases hn
                · exact HOK.out j' (by omega)
              go_wp2_with fail
              go_roundg (G0 - 1)
              case measure => have := hk.out; have := HG0.out; omega
              case rel => exact ⟨i + 1, by have := hk.out; have := HG0.out; omega, by simp, HX.out.2.2.2.trans (HBJ.out.mono HX.out.2.2.2.size), HEN.out⟩
        · have k5 : decide ((N : Int) ≤ p.1) = true := decide_eq_true (by omega)
          have k6 : (N : Int) ≤ p.1 := by omega
          have HE : Hid (rightB N l = false) := Lib.hid (right_no HP.out (by simp [okAt]; omega))
          go_wp2_with fail
          refine wp_region_still_lit (by kernel_rfl) (by kernel_rfl) ?_
          still_step
          still_step
          still_call HBM.out
          still_step
          still_step
          still_step
          still_step
          still_step
          still_call HLN.out
          repeat still_step
          refine wpStill_nil ?_
          go_wp2_with fail
          go_ret
          rw [HE.out]
          exact ⟨rfl, HX.out.2.2.2.drew⟩
    · have hi1 : ¬ (i : Int) < (m : Int) := by omega
      have HE : Hid (rightB N l = true) := Lib.hid (by
        refine List.all_eq_true.2 fun j hj => ?_
        obtain ⟨p, hp, ho⟩ := HOK.out j (by have := List.mem_range.1 hj; have := HM.out; have := hk.out; omega)
        rw [List.getD_eq_getElem?_getD, hp]; exact ho)
      go_wp2_with fail
      go_ret
      rw [HE.out]
      exact ⟨rfl, HB.out⟩
end Go.Proofs.YtkfmdkbiglkjpaaGreat
