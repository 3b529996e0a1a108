/- cache.New, Begin, Write, End, Done. -/
import Derived.Test.YtonmppchbdffcaaGreatC27Copy
import Derived.Test.YtonmppchbdffcaaGreatDev0
namespace Go.Proofs.YtonmppchbdffcaaGreat
open Go Go.RowKit Go.Lib Go.Maps
attribute [local go_sem ↓] exec_alloc_data exec_store_data exec_load_data exec_build0
attribute [local go_sem] run_makeMap
set_option maxRecDepth 100000

/-- a cache: its dev, its two maps, how often it read -/
def CaAt (w : World) (C X md mc : Nat) (r : Int) : Prop := w.heap[C]? = some (.cells #[.pointer (some ⟨X, 0, none⟩), .map (some md), .map (some mc), .int .i64 r] 65 (0, 0))
/-- a deed: its cache, its own map -/
def TxAt (w : World) (T C mo : Nat) : Prop := w.heap[T]? = some (.cells #[.pointer (some ⟨C, 0, none⟩), .map (some mo)] 76 (0, 0))
theorem CaAt.lt {w : World} {C X md mc : Nat} {r : Int} (h : CaAt w C X md mc r) : C < w.heap.size := (Array.getElem?_eq_some_iff.1 h).1
theorem TxAt.lt {w : World} {T C mo : Nat} (h : TxAt w T C mo) : T < w.heap.size := (Array.getElem?_eq_some_iff.1 h).1
theorem CaAt.cells {w : World} {C X md mc : Nat} {r : Int} (h : CaAt w C X md mc r) : w.cell? ⟨C, 0, none⟩ = some (.pointer (some ⟨X, 0, none⟩)) ∧ w.cell? ⟨C, 1, none⟩ = some (.map (some md)) ∧ w.cell? ⟨C, 2, none⟩ = some (.map (some mc)) ∧ w.cell? ⟨C, 3, none⟩ = some (.int .i64 r) :=
  ⟨by rw [cell_of_row w C 0 _ _ _ h]; rfl, by rw [cell_of_row w C 1 _ _ _ h]; rfl, by rw [cell_of_row w C 2 _ _ _ h]; rfl, by rw [cell_of_row w C 3 _ _ _ h]; rfl⟩
theorem TxAt.cells {w : World} {T C mo : Nat} (h : TxAt w T C mo) : w.cell? ⟨T, 0, none⟩ = some (.pointer (some ⟨C, 0, none⟩)) ∧ w.cell? ⟨T, 1, none⟩ = some (.map (some mo)) :=
  ⟨by rw [cell_of_row w T 0 _ _ _ h]; rfl, by rw [cell_of_row w T 1 _ _ _ h]; rfl⟩
theorem Keeps.mono {F F' : Nat → Prop} {w w' : World} (h : Keeps F w w') (hf : ∀ k, F k → F' k) : Keeps F' w w' := ⟨h.os, h.tape, h.output, h.size, fun k hk hn => h.block k hk fun e => hn (hf k e)⟩
theorem TxAt.ne {w : World} {T C mo b n : Nat} {D : DataW Unit} (h : TxAt w T C mo) (hm : MapAt w b n D) : T ≠ b := fun e => by
  obtain ⟨es, clock, hb, -⟩ := hm
  rw [← e, show w.heap[T]? = _ from h] at hb
  cases hb
theorem CaAt.ne {w : World} {C X md mc b n : Nat} {r : Int} {D : DataW Unit} (h : CaAt w C X md mc r) (hm : MapAt w b n D) : C ≠ b := fun e => by
  obtain ⟨es, clock, hb, -⟩ := hm
  rw [← e, show w.heap[C]? = _ from h] at hb
  cases hb
theorem grown_keeps {w w' : World} {b : Nat} (h : w.grownBy w' (some b)) : Keeps (· = b) w w' := ⟨h.os, h.tape, h.output, h.size, fun k hk hf => h.block k hk fun e => hf (Option.some.inj e)⟩
theorem MapAt.on {w w' : World} {b n : Nat} {D : DataW Unit} (h : MapAt w b n D) (hk : w'.heap[b]? = w.heap[b]?) : MapAt w' b n D := by
  obtain ⟨es, clock, hb, F, hs, hD⟩ := h
  exact ⟨es, clock, hk.trans hb, F, hs, hD⟩

set_option maxHeartbeats 3200000 in
theorem cache_new (X : Nat) (w : World) :
    Calls Tryz.prog 6 #[.pointer (some ⟨X, 0, none⟩)] w fun e w' => ∃ C md mc, e = .returned (.pointer (some ⟨C, 0, none⟩)) ∧ CaAt w' C X md mc 0 ∧ MapAt w' md 0 (.map []) ∧ MapAt w' mc 0 (.map []) ∧ md ≠ mc ∧ w.heap.size ≤ md ∧ w.heap.size ≤ mc ∧ w.heap.size ≤ C ∧ Below w.heap.size w w' := by
  obtain ⟨w1, hw1⟩ : ∃ w1, w1 = w.alloc (.map #[] 0) := ⟨_, rfl⟩
  have hm1 : MapAt w1 w.heap.size 0 (.map []) := by rw [hw1]; exact World.ownsMap_made w _ _ _
  have hs1 : w1.heap.size = w.heap.size + 1 := by rw [hw1]; simp
  obtain ⟨w2, hw2⟩ : ∃ w2, w2 = w1.alloc (.map #[] 0) := ⟨_, rfl⟩
  have hm2 : MapAt w2 w1.heap.size 0 (.map []) := by rw [hw2]; exact World.ownsMap_made w1 _ _ _
  have hm12 : MapAt w2 w.heap.size 0 (.map []) := by rw [hw2]; exact hm1.alloc _
  have hs2 : w2.heap.size = w.heap.size + 2 := by rw [hw2]; simp [hs1]
  have HW := Lib.hid (And.intro hw1 hw2)
  have HM := Lib.hid (And.intro hm12 hm2)
  have HS := Lib.hid (And.intro hs1 hs2)
  clear hw1 hw2 hm1 hm2 hm12 hs1 hs2
  go_enter Tryz.func6, Tryz.ntmps6
  go_wp2_with fail
  go_ret
  rw [← HW.out.1, ← HW.out.2]
  have hb : Below w.heap.size w w2 := by rw [HW.out.2, HW.out.1]; exact ((Below.refl _ _).alloc (Nat.le_refl _) _).alloc (by simp) _
  have hs := HS.out
  have hm := HM.out.2
  rw [hs.1] at hm
  refine ⟨w.heap.size + 1 + 1, w.heap.size, w.heap.size + 1, rfl, ?_, HM.out.1.alloc _, hm.alloc _, by omega, by omega, by omega, by omega, hb.alloc (by omega) _⟩
  have h := heap_alloc_last w2 (.cells #[.pointer (some ⟨X, 0, none⟩), .map (some w.heap.size), .map (some (w.heap.size + 1)), .int .i64 0] 65)
  rw [hs.2] at h
  exact h
set_option maxHeartbeats 3200000 in
theorem cache_begin (C : Nat) (w : World) :
    Calls Tryz.prog 8 #[.pointer (some ⟨C, 0, none⟩)] w fun e w' => ∃ T mo, e = .returned (.pointer (some ⟨T, 0, none⟩)) ∧ TxAt w' T C mo ∧ MapAt w' mo 0 (.map []) ∧ w.heap.size ≤ mo ∧ w.heap.size ≤ T ∧ Below w.heap.size w w' := by
  obtain ⟨w1, hw1⟩ : ∃ w1, w1 = w.alloc (.map #[] 0) := ⟨_, rfl⟩
  have hm1 : MapAt w1 w.heap.size 0 (.map []) := by rw [hw1]; exact World.ownsMap_made w _ _ _
  have hs1 : w1.heap.size = w.heap.size + 1 := by rw [hw1]; simp
  have HW := Lib.hid hw1
  have HM := Lib.hid hm1
  have HS := Lib.hid hs1
  clear hw1 hm1 hs1
  go_enter Tryz.func8, Tryz.ntmps8
  go_wp2_with fail
  go_ret
  rw [← HW.out]
  have hb : Below w.heap.size w w1 := by rw [HW.out]; exact (Below.refl _ _).alloc (Nat.le_refl _) _
  refine ⟨w.heap.size + 1, w.heap.size, rfl, ?_, HM.out.alloc _, by omega, by omega, hb.alloc (by have := HS.out; omega) _⟩
  have h := heap_alloc_last w1 (.cells #[.pointer (some ⟨C, 0, none⟩), .map (some w.heap.size)] 76)
  rw [HS.out] at h
  exact h
theorem reg_still_tail {P : Program} {id : Nat} {Q : Exit → Act → World → Prop} {a : Act} {w : World} {l : List Oper} (n : Nat) (hm : P.follows .mixedOrders = true) (hB : Region.lexTailB .any l.toArray n = true)
    (h : wpStill P l.toArray w.drew (fun a' => wpList P l.toArray Q (l.drop n) a' w.drew) (l.take n) a) : (Code.region id l.toArray true).wp P Q a w := wp_region_still_tail n hm hB h
set_option maxHeartbeats 3200000 in
theorem tx_write (T C X md mc mo no n left dn D : Nat) (r : Int) (Do : DataW Unit) (b : Nat) (d : Dat) (w : World) (hT : TxAt w T C mo) (hC : CaAt w C X md mc r) (hX : DevAt w X D n left dn) (hm : MapAt w mo no Do) (hno : no ≤ 100000) (hb : b < n) (hn : n ≤ 1000) (hd : d.length = 64) :
    Calls Tryz.prog 27 #[.pointer (some ⟨T, 0, none⟩), .int .i64 (b : Int), .agg (dC d).toArray] w fun e w' => e = .returned (.bool true) ∧ MapAt w' mo (no + 1) (Do.put (.int .i64 (b : Int)) (.lit (.string d))) ∧ Keeps (· = mo) w w' := by
  have hag := agg_ok (cs := dC d) (n := 64) (by rw [dC_len, hd]) (dC_one d)
  obtain ⟨w1, hw1⟩ : ∃ w1, w1 = w.alloc (.cells (dC d).toArray 34) := ⟨_, rfl⟩
  have hb1 : Below w.heap.size w w1 := by rw [hw1]; exact (Below.refl _ _).alloc (Nat.le_refl _) _
  have hbx : w1.heap[w.heap.size]? = some (.cells (dC d).toArray 34 (0, 0)) := by rw [hw1]; exact heap_alloc_last _ _
  have hr1 : w1.drew.rangeAt w.heap.size 0 (dC d) := fun j v hv => by rw [World.cell?_drew, Nat.zero_add, cell_of_row w1 _ j _ _ _ hbx, List.getElem?_toArray]; exact hv
  obtain ⟨hdo, hdk⟩ := dat_range hr1 (by rw [dC_len, hd] : (dC d).length = 64)
  have hT1 : TxAt w1 T C mo := (hb1.block T hT.lt).trans hT
  have hC1 : CaAt w1 C X md mc r := (hb1.block C hC.lt).trans hC
  have hm1 : MapAt w1 mo no Do := hm.on (hb1.block mo hm.lt)
  obtain ⟨t0, t1⟩ := hT1.cells
  obtain ⟨c0, -⟩ := hC1.cells
  have HL := Lib.hid (dev_len X D n left dn w1 (hX.on (hb1.block X hX.lt)))
  obtain ⟨w2, hup, hm2, hg2⟩ := map_store hm1.drew hno (b : Int) (by omega) (by omega) hd
  have k1 : ¬ (b : Int) < 0 := by omega
  have k2 : ¬ (n : Int) ≤ (b : Int) := by omega
  have hw2 := hw1.symm
  have HR := Lib.hid (And.intro hm2 (And.intro hg2 hb1))
  clear hT hC hX hm hT1 hC1 hm1 hr1 hbx hb1 hw1 hm2 hg2
  go_enter Tryz.func27, Tryz.ntmps27
  go_wp2_with fail
  refine HL.out.mono ?_
  rintro e w' ⟨rfl, hw'⟩
  rw [hw']
  clear hw' w' hw2
  go_wp2_with fail
  refine reg_still_tail 6 (by kernel_rfl) (by kernel_rfl) ?_
  simp only [List.take_succ_cons, List.take_zero, List.drop_succ_cons, List.drop_zero]
  repeat still_step
  refine wpStill_nil ?_
  go_wp2_with fail
  go_ret
  exact ⟨rfl, HR.out.1, (Keeps.of_below HR.out.2.2.drew).trans (grown_keeps HR.out.2.1)⟩
set_option maxHeartbeats 3200000 in
theorem tx_write_no (T C X md mc mo n left dn D : Nat) (r : Int) (b : Int) (d : Dat) (w : World) (hT : TxAt w T C mo) (hC : CaAt w C X md mc r) (hX : DevAt w X D n left dn) (hb : ¬ (0 ≤ b ∧ b < (n : Int))) :
    Calls Tryz.prog 27 #[.pointer (some ⟨T, 0, none⟩), .int .i64 b, .agg (dC d).toArray] w fun e w' => e = .returned (.bool false) ∧ Below w.heap.size w w' := by
  obtain ⟨w1, hw1⟩ : ∃ w1, w1 = w.alloc (.cells (dC d).toArray 34) := ⟨_, rfl⟩
  have hb1 : Below w.heap.size w w1 := by rw [hw1]; exact (Below.refl _ _).alloc (Nat.le_refl _) _
  have hT1 : TxAt w1 T C mo := (hb1.block T hT.lt).trans hT
  have hC1 : CaAt w1 C X md mc r := (hb1.block C hC.lt).trans hC
  obtain ⟨t0, t1⟩ := hT1.cells
  obtain ⟨c0, -⟩ := hC1.cells
  have HL := Lib.hid (dev_len X D n left dn w1 (hX.on (hb1.block X hX.lt)))
  have hw2 := hw1.symm
  have HB := Lib.hid hb1
  clear hT hC hX hT1 hC1 hb1 hw1
  by_cases h0 : b < 0
  · go_enter Tryz.func27, Tryz.ntmps27
    go_wp2_with fail
    go_ret
    exact ⟨rfl, HB.out⟩
  · have k2 : (n : Int) ≤ b := by omega
    go_enter Tryz.func27, Tryz.ntmps27
    go_wp2_with fail
    refine HL.out.mono ?_
    rintro e w' ⟨rfl, hw'⟩
    rw [hw']
    clear hw' w' hw2
    go_wp2_with fail
    go_ret
    exact ⟨rfl, HB.out⟩
set_option maxHeartbeats 3200000 in
theorem tx_end (T C X md mc mo nd no : Nat) (r : Int) (Dd Do : DataW Unit) (w : World) (hT : TxAt w T C mo) (hC : CaAt w C X md mc r) (hd : MapAt w md nd Dd) (hm : MapAt w mo no Do) (hne : md ≠ mo) (hn : nd + no ≤ 100000) :
    Calls Tryz.prog 28 #[.pointer (some ⟨T, 0, none⟩)] w fun e w' => e = .returned (.tuple #[]) ∧ MapAt w' md (nd + no) (Lib.mergeD Dd Do) ∧ MapAt w' mo 0 (.map []) ∧ Keeps (fun k => k = md ∨ k = mo) w w' := by
  obtain ⟨t0, t1⟩ := hT.cells
  obtain ⟨c0, c1, -⟩ := hC.cells
  have hsz := World.ownsMap.size_le hm
  have hmax : (100000 : Nat) < maxLen := by decide
  have HCP := Lib.hid (maps_copy md mo nd no Dd Do w.drew hd.drew hm.drew hne (by omega))
  have HT := Lib.hid hT
  have HS := Lib.hid (And.intro hsz (And.intro hne (And.intro (hT.ne hd) (hT.ne hm))))
  clear hC hd hm hsz hmax
  go_enter Tryz.func28, Tryz.ntmps28
  go_wp2_with fail
  refine reg_still_tail 11 (by kernel_rfl) (by kernel_rfl) ?_
  simp only [List.take_succ_cons, List.take_zero, List.drop_succ_cons, List.drop_zero]
  repeat still_step
  refine wpStill_nil ?_
  clear t0 t1 c0 c1
  go_wp2_with fail
  refine HCP.out.mono ?_
  rintro e w1 ⟨rfl, hd1, hm1, hg1⟩
  have hT1 : TxAt w1 T C mo := (hg1.block T hT.lt (fun e => HS.out.2.2.1 (Option.some.inj e))).trans HT.out
  obtain ⟨t0, t1⟩ := hT1.cells
  obtain ⟨w2, hcl, hm2, hg2⟩ := map_clear hm1
  have hd2 := hd1.kept hg2 (fun e => HS.out.2.1 (Option.some.inj e))
  have HR := Lib.hid (And.intro (hd2.mono (by have := HS.out.1; omega : nd + Maps.size Do ≤ nd + no)) (And.intro hm2 (And.intro hg1 hg2)))
  clear hT1 hd1 hm1 hg1 hm2 hg2 hd2
  go_wp2_with fail
  go_end0
  refine ⟨rfl, HR.out.1, HR.out.2.1, ?_⟩
  have k1 : Keeps (fun k => k = md ∨ k = mo) w w.drew := Keeps.of_below (Below.refl _ _).drew
  have k2 : Keeps (fun k => k = md ∨ k = mo) w.drew w1 := (grown_keeps HR.out.2.2.1).mono fun k e => .inl e
  have k3 : Keeps (fun k => k = md ∨ k = mo) w1 w2 := (grown_keeps HR.out.2.2.2).mono fun k e => .inr e
  exact (k1.trans k2).trans k3
set_option maxHeartbeats 3200000 in
theorem cache_done (C X md mc nd nc : Nat) (r : Int) (Dd Dc : DataW Unit) (w : World) (hC : CaAt w C X md mc r) (hd : MapAt w md nd Dd) (hc : MapAt w mc nc Dc) (hne : md ≠ mc) :
    Calls Tryz.prog 12 #[.pointer (some ⟨C, 0, none⟩)] w fun e w' => e = .returned (.tuple #[]) ∧ MapAt w' md 0 (.map []) ∧ MapAt w' mc 0 (.map []) ∧ Keeps (fun k => k = md ∨ k = mc) w w' := by
  obtain ⟨-, c1, c2, -⟩ := hC.cells
  obtain ⟨w1, hcl1, hc1, hg1⟩ := map_clear hc
  have hd1 := hd.kept hg1 (fun e => hne (Option.some.inj e))
  have hC1 : CaAt w1 C X md mc r := (hg1.block C hC.lt (fun e => hC.ne hc (Option.some.inj e))).trans hC
  obtain ⟨-, d1, -⟩ := hC1.cells
  obtain ⟨w2, hcl2, hd2, hg2⟩ := map_clear hd1
  have hc2 := hc1.kept hg2 (fun e => hne (Option.some.inj e).symm)
  have HR := Lib.hid (And.intro hd2 (And.intro hc2 (And.intro hg1 hg2)))
  clear hC hd hc hc1 hg1 hd1 hC1 hd2 hg2 hc2
  go_enter Tryz.func12, Tryz.ntmps12
  go_wp2_with fail
  go_end0
  exact ⟨rfl, HR.out.1, HR.out.2.1, ((grown_keeps HR.out.2.2.1).mono fun k e => .inr e).trans ((grown_keeps HR.out.2.2.2).mono fun k e => .inl e)⟩
end Go.Proofs.YtonmppchbdffcaaGreat
