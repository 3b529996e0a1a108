/- Tx.Own, Tx.Cost, Reads, Waiting. -/
import Derived.Test.YtonmppchbdffcaaGreatC27Awake
import Derived.Test.YtonmppchbdffcaaGreatC27TxRead
namespace Go.Proofs.YtonmppchbdffcaaGreat
open Go Go.RowKit Go.Lib Go.Maps Go.Sort Go.Shelf
attribute [local go_sem ↓] exec_alloc_data exec_store_data exec_load_data exec_build0
set_option maxRecDepth 100000

set_option maxHeartbeats 3200000 in
/-- Own: the deed's map's keys, sorted -/
theorem tx_own (T C md nd : Nat) (Dd : DataW Unit) (w : World) (hC : TxAt w T C md) (hd : MapAt w md nd Dd) (hn : nd ≤ 100000) :
    Calls Tryz.prog 21 #[.pointer (some ⟨T, 0, none⟩)] w fun e w' => ∃ ad cap, ∃ ss : List Int, e = .returned (.slice ad ss.length cap) ∧ ss.Perm (intKeys Dd) ∧ IReads w' ad (ss.mergeSort (fun x y => decide (x ≤ y))) ∧ Below w.heap.size w w' := by
  have hmax : (100000 : Nat) < maxLen := by decide
  have hsz := World.ownsMap.size_le hd
  have hbl := hd.lt
  have hseq : SeqGives Fence.wide 2 Tryz.prog 42 #[.pointer (some ⟨w.heap.size, 0, none⟩)] encZ (fun ss => ss.Perm (intKeys Dd)) (Maps.size Dd) (w.alloc (.cells #[.map (some md)] 63)) :=
    AnyZI.keys_gives (ρ := Tryz.keysA_ren) { Tryz.keysA with } Fence.wide _ trivial rfl (by omega) w.heap.size md nd Dd _ (by simp) (by simp) (by
      obtain ⟨es, clock, hb, Ft, hs, hD⟩ := hd
      exact ⟨es, clock, (Below.heap_alloc _ _ md hbl).trans hb, Ft, hs, hD⟩)
  have cK : ∀ mb W, Calls Tryz.prog 31 #[.map mb] W fun e w' => e = .returned (.func (.func 42) #[] #[.pointer (some ⟨W.heap.size, 0, none⟩)]) ∧ w' = W.alloc (.cells #[.map mb] 63) := fun mb W => (callsIn_wide (n := 5)).1 (AnyZI.keys_in Tryz.keysA Fence.wide 5 trivial rfl mb W)
  have cS := AnyZI.sorted_in Tryz.sortedA Fence.wide 5 trivial trivial trivial trivial rfl (by omega) (Tryz.sortsA _) (enters_of Tryz.func41 (by kernel_rfl) rfl) 42 #[.pointer (some ⟨w.heap.size, 0, none⟩)] trivial (enters_of Tryz.func42 (by kernel_rfl) rfl) _ _ (by omega) (by omega) _ hseq
  change CallsIn _ _ Tryz.prog 30 _ _ _ at cS
  have CS := Lib.hid ((callsIn_wide (n := 5)).1 cS)
  have CK := Lib.hid cK
  obtain ⟨-, c1⟩ := hC.cells
  clear hd hC hseq cK cS hmax hsz hbl
  go_enter Tryz.func21, Tryz.ntmps21
  go_wp2_with fail
  refine (CK.out _ _).mono ?_
  rintro e w1 ⟨rfl, hw1⟩
  rw [hw1]
  clear hw1 w1
  go_wp2_with fail
  refine CS.out.mono ?_
  rintro e w2 ⟨v, ss, rfl, hS, hrow, hnil, hb⟩
  have HQ := Lib.hid (And.intro hS (And.intro hrow hb))
  clear hS hrow hnil hb
  go_wp2_with fail
  go_ret
  have hrow := HQ.out.2.1
  obtain ⟨ad, cap, hv, -⟩ := own_len hrow
  subst hv
  refine ⟨ad, cap, ss, rfl, HQ.out.1, fun j x hx => ?_, ((Below.refl _ w).alloc (Nat.le_refl _) _).trans (HQ.out.2.2.mono (by simp))⟩
  have hlen : (ss.mergeSort fun x y => decide (x ≤ y)).length = ss.length := List.length_mergeSort _
  obtain ⟨g, cap', hsl, -, hc⟩ := own_cell hrow (by have := (List.getElem?_eq_some_iff.1 hx).1; omega)
  obtain ⟨rfl, rfl⟩ : ad = some ⟨g, 0, none⟩ ∧ cap = cap' := by simpa using hsl
  refine ⟨g, 0, rfl, ?_⟩
  rw [Nat.zero_add]
  exact hc j _ (by rw [List.getElem?_map, hx]; rfl)
theorem disk_waiting0 (F : Nat → Prop) (D : Nat) (L : List Dat) (w : World) (h : DiskAt w F D L []) :
    Calls Tryz.prog 23 #[.pointer (some ⟨D, 0, none⟩)] w fun e w' => e = .returned (.slice none 0 0) ∧ w' = w := by
  obtain ⟨vl, vw, h1, h2, h3, h4, h5⟩ := h.mem
  obtain ⟨ad, cap0, rfl, hn63⟩ := own_len h3
  obtain ⟨c0, c1, f0, f1⟩ := DiskAt.cells h1
  simp only [List.length_nil] at c1
  clear h h1 h2 h3 h4 h5
  go_enter Tryz.func23, Tryz.ntmps23
  go_wp2_with fail
  go_loopg [3, 13] 0 (fun k u v wr => k = 0 ∧ v = .int .i64 0 ∧ u = .slice none 0 0 ∧ wr = w)
  case atStart => exact ⟨rfl, rfl, rfl, rfl⟩
  case round =>
    obtain ⟨-, rfl, rfl, rfl⟩ := hrel
    go_wp2_with fail
    go_ret
    exact ⟨rfl, rfl⟩
theorem cache_reads (C X md mc : Nat) (r : Int) (w : World) (hC : CaAt w C X md mc r) :
    Calls Tryz.prog 24 #[.pointer (some ⟨C, 0, none⟩)] w fun e w' => e = .returned (.int .i64 r) ∧ w' = w := by
  obtain ⟨-, -, -, c3⟩ := hC.cells
  clear hC
  go_enter Tryz.func24, Tryz.ntmps24
  go_wp2_with fail
  go_ret
  exact ⟨rfl, rfl⟩
def costN (D : DataW Unit) (l : List Int) : Nat := (l.filter fun b => !Maps.has D (.int .i64 b)).length
theorem costN_snoc (D : DataW Unit) (l : List Int) (x : Int) : costN D (l ++ [x]) = costN D l + if Maps.has D (.int .i64 x) = true then 0 else 1 := by
  unfold costN
  rw [List.filter_append, List.length_append]
  cases h : Maps.has D (.int .i64 x) <;> simp [h]
set_option maxHeartbeats 6400000 in
theorem tx_cost (T C X md mc mo nd no : Nat) (r : Int) (Dd Do : DataW Unit) (kl : List Int) (w : World) (hT : TxAt w T C mo) (hC : CaAt w C X md mc r) (hd : MapAt w md nd Dd) (hm : MapAt w mo no Do) (hn : no ≤ 100000) (hkl : ∀ ss : List Int, ss.Perm (intKeys Do) → ss.mergeSort (fun x y => decide (x ≤ y)) = kl ∧ ss.length = kl.length) (hb : ∀ x ∈ kl, 0 ≤ x ∧ x ≤ 1000) (hlen : kl.length ≤ 1000) :
    Calls Tryz.prog 22 #[.pointer (some ⟨T, 0, none⟩)] w fun e w' => e = .returned (.int .i64 (costN Dd kl : Int)) ∧ Below w.heap.size w w' := by
  have HO := Lib.hid (tx_own T C mo no Do w hT hm hn)
  have HK := Lib.hid (And.intro hkl (And.intro hb hlen))
  have HH := Lib.hid (And.intro hT (And.intro hC hd))
  clear hT hC hd hm hkl hb hlen
  go_enter Tryz.func22, Tryz.ntmps22
  go_wp2_with fail
  refine HO.out.mono ?_
  rintro e w1 ⟨ad, cap, ss, rfl, hss, hir, hb1⟩
  obtain ⟨e1, e2⟩ := HK.out.1 ss hss
  rw [e1] at hir
  obtain ⟨m, hm⟩ : ∃ m, m = ss.length := ⟨_, rfl⟩
  rw [← hm]
  have H1 := Lib.hid (And.intro hir (And.intro hb1 (hm.trans e2)))
  clear hss hir hb1 e1 e2 hm
  go_wp2_with fail
  go_loopg [3, 11] m (fun k u v wr => ∃ i : Nat, k + i = m ∧ u = .int .i64 (costN Dd (kl.take i) : Int) ∧ v = .int .i64 (i : Int) ∧ Below w.heap.size w wr ∧ Below w1.heap.size w1 wr)
  case atStart => exact ⟨0, by simp, rfl, rfl, H1.out.2.1, Below.refl _ _⟩
  case round =>
    obtain ⟨i, hk, rfl, rfl, hbr, hbr1⟩ := hrel
    have hk := Lib.hid hk
    have HB := Lib.hid (And.intro hbr hbr1)
    by_cases hi : i < m
    · have hi1 : (i : Int) < (m : Int) := by omega
      have hi3 : (0 : Int) ≤ (i : Int) := by omega
      have wr1 : IntKind.i64.wrap ((i : Int) + 1) = (i : Int) + 1 := by have := HK.out.2.2; have := H1.out.2.2; rw [IntKind.wrap_i64] <;> omega
      obtain ⟨x, hx⟩ : ∃ x, kl[i]? = some x := ⟨kl[i]'(by have := H1.out.2.2; omega), List.getElem?_eq_getElem _⟩
      have hxb := HK.out.2.1 x (List.mem_of_getElem? hx)
      obtain ⟨g, o, rfl, c0⟩ := (H1.out.1.below hbr1) i x hx
      have hC1 : CaAt wr C X md mc r := (hbr.block C HH.out.2.1.lt).trans HH.out.2.1
      have hT1 : TxAt wr T C mo := (hbr.block T HH.out.1.lt).trans HH.out.1
      obtain ⟨-, c1, -⟩ := hC1.cells
      obtain ⟨t0, -⟩ := hT1.cells
      obtain ⟨d0, hd0, hlk0, -⟩ := map_look (HH.out.2.2.on (hbr.block md HH.out.2.2.lt)) x (by omega) (by omega)
      obtain ⟨w2, hw2⟩ : ∃ w2, w2 = wr.alloc (.cells (dC d0).toArray 34) := ⟨_, rfl⟩
      obtain ⟨th2, pt2, hb2, -, -⟩ := lay_dat hd0 hw2
      have ag0 := agg_ok (cs := dC d0) (n := 64) (by rw [dC_len, hd0]) (dC_one d0)
      have HN := Lib.hid (And.intro (hbr.trans (hb2.mono hbr.size)) (hbr1.trans (hb2.mono hbr1.size)))
      have htk : kl.take (i + 1) = kl.take i ++ [x] := by rw [List.take_add_one, hx]; rfl
      have hcl : costN Dd (kl.take i) ≤ 1000 := by
        unfold costN
        refine Nat.le_trans (List.length_filter_le _ _) ?_
        rw [List.length_take]
        have := HK.out.2.2; omega
      have wr2 : IntKind.i64.wrap ((costN Dd (kl.take i) : Int) + 1) = (costN Dd (kl.take i) : Int) + 1 := by rw [IntKind.wrap_i64] <;> omega
      have HE := Lib.hid (costN_snoc Dd (kl.take i) x)
      have HTK := Lib.hid htk
      clear hbr hbr1 hC1 hT1 hw2 hb2 hx hxb hd0 htk hcl
      cases hh : Maps.has Dd (.int .i64 x) with
      | true =>
        rw [hh] at hlk0
        have HE2 : Hid (costN Dd (kl.take (i + 1)) = costN Dd (kl.take i)) := Lib.hid (by rw [HTK.out, HE.out, hh]; rfl)
        clear hh
        go_wp2_with fail
        go_roundg (gk - 1)
        case measure => have := hk.out; omega
        case rel => exact ⟨i + 1, by have := hk.out; omega, by rw [HE2.out], by simp, HN.out.1, HN.out.2⟩
      | false =>
        rw [hh] at hlk0
        have HE2 : Hid (costN Dd (kl.take (i + 1)) = costN Dd (kl.take i) + 1) := Lib.hid (by rw [HTK.out, HE.out, hh]; rfl)
        clear hh
        go_wp2_with fail
        go_roundg (gk - 1)
        case measure => have := hk.out; omega
        case rel => exact ⟨i + 1, by have := hk.out; omega, by rw [HE2.out]; simp, by simp, HN.out.1, HN.out.2⟩
    · have hi1 : ¬ (i : Int) < (m : Int) := by omega
      obtain rfl : i = m := by have := hk.out; omega
      have HE : Hid (kl.take i = kl) := Lib.hid (by rw [H1.out.2.2, List.take_length])
      clear hbr hbr1
      go_wp2_with fail
      go_ret
      exact ⟨by rw [HE.out]; rfl, HB.out.1⟩
end Go.Proofs.YtonmppchbdffcaaGreat
