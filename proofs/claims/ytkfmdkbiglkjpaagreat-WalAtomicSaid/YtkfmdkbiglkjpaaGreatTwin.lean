/- slices.Clone, disk.Twin. -/
import Derived.Test.YtkfmdkbiglkjpaaGreatWal7
import Derived.Laws.Cover3
namespace Go.Proofs.YtkfmdkbiglkjpaaGreat
open Go Go.RowKit Go.Lib
set_option maxRecDepth 100000

theorem run_eql_slice_nil {P : Program} (w : World) (t e : TypeId) (a : Option Addr) (l c : Nat) (h : P.underlying t = some (.slice e)) : (binOp .eql t (.slice a l c) (.slice none 0 0)).run P w = .ok (.bool a.isNone) w := by
  simp only [binOp]
  simp [run_equal_slice_nil w t e a l c h]
attribute [local go_sem] run_eql_slice_nil

set_option maxHeartbeats 3200000 in
theorem clone_writes (B n cap : Nat) (ad : Option Addr) (xs : List Value) (h1x : ∀ v ∈ xs, v.oneCell' = true) (hn : n ≤ 100000) (w : World) (h : w.ownsRow B 79 65 (.slice ad n cap) n xs) :
    Calls Tryz.prog 29 #[.slice ad n cap] w fun e w' => ∃ ad' cap', e = .returned (.slice ad' n cap') ∧ w'.ownsRow w.heap.size 79 65 (.slice ad' n cap') n xs ∧ Below w.heap.size w w' := by
  have H := Lib.hid h
  obtain ⟨i0, hi0, hz0, hz1, hz2⟩ := info_parts write_info
  rcases h.2 with ⟨h0, hn0⟩ | ⟨g, cap', cur, h1, h2, h3, h4, h5, h6, h7⟩
  · obtain ⟨rfl, rfl, rfl⟩ : ad = none ∧ n = 0 ∧ cap = 0 := by simpa using h0
    have hx : xs = [] := List.eq_nil_of_length_eq_zero (by have := h.1; omega)
    subst hx
    clear h h0
    go_enter Tryz.func29, Tryz.ntmps29
    go_wp2_with fail
    go_ret
    exact ⟨none, 0, rfl, World.ownsRow_nil _ _ _ _, Below.refl _ _⟩
  · obtain ⟨rfl, rfl⟩ : ad = some ⟨g, 0, none⟩ ∧ cap = cap' := by simpa using h1
    have hgl : g < w.heap.size := (Array.getElem?_eq_some_iff.1 h3).1
    by_cases hn0 : n = 0
    · subst hn0
      have hx : xs = [] := List.eq_nil_of_length_eq_zero (by have := h.1; omega)
      subst hx
      clear h h1 h7
      go_enter Tryz.func29, Tryz.ntmps29
      go_wp2_with fail
      go_ret
      exact ⟨some ⟨w.heap.size, 0, none⟩, 0, rfl, ⟨rfl, .inr ⟨w.heap.size, 0, #[], rfl, Nat.le_refl _, heap_alloc_last _ _, Nat.le_refl _, Nat.zero_le _, rfl, rfl⟩⟩, (Below.refl _ _).alloc (Nat.le_refl _) _⟩
    · have hlen := h.1
      obtain ⟨w1, hw1⟩ : ∃ w1, w1 = w.alloc (.cells #[] 79) := ⟨_, rfl⟩
      have hb1 : Below w.heap.size w w1 := by rw [hw1]; exact (Below.refl _ _).alloc (Nat.le_refl _) _
      have hown : w1.ownsRow w.heap.size 79 65 (.slice (some ⟨w.heap.size, 0, none⟩) 0 0) 0 [] := ⟨rfl, .inr ⟨w.heap.size, 0, #[], rfl, Nat.le_refl _, by rw [hw1]; exact heap_alloc_last _ _, Nat.le_refl _, Nat.zero_le _, rfl, rfl⟩⟩
      have hnews : ∀ j u, xs[j]? = some u → w1.cell? ((⟨g, 0, none⟩ : Addr).add j) = some u := fun j u hu => by
        rw [addr_add, World.cell?_of_block (a := ⟨g, j, none⟩) (hb1.block g hgl)]
        obtain ⟨g', cap2, hsl, _, hc⟩ := own_cell h (by omega)
        obtain ⟨e1, -⟩ : some (⟨g, 0, none⟩ : Addr) = some ⟨g', 0, none⟩ ∧ cap = cap2 := by simpa using hsl
        obtain rfl : g = g' := by simpa using e1
        exact hc j u hu
      have HO := Lib.hid (And.intro hown (And.intro hnews (And.intro hlen hb1)))
      have HW1 := Lib.hid hw1
      have hs1 : w1.heap.size = w.heap.size + 1 := by rw [hw1]; simp
      clear h h1 h2 h3 h4 h5 h6 h7 hown hnews hlen hb1 hw1
      go_enter Tryz.func29, Tryz.ntmps29
      go_wp2_with (first
        | (rw [← HW1.out]; at_builtin; refine wpList_append_lies _ rfl _ _ _ rfl w.heap.size 79 i0 _ 65 72 Tryz.underlying54 hi0 hz0 hz1 hz2 rfl (by omega) (.slice (some ⟨w.heap.size, 0, none⟩) 0 0) 0 [] rfl HO.out.1 ⟨g, 0, none⟩ n cap xs rfl HO.out.2.2.1 HO.out.2.1 h1x (by omega) (by unfold maxLen; omega) (by omega) (by omega) (w.heap.size + 1) hs1 ?_; intro g2 cap2 w5 hown5 hgrow5 _ _; have HX5 := Lib.hid (And.intro hown5 hgrow5); clear hown5 hgrow5)
        | fail)
      go_ret
      refine ⟨some ⟨g2, 0, none⟩, cap2, rfl, by have := HX5.out.1; rwa [Nat.zero_add, List.nil_append] at this, HO.out.2.2.2.grown HX5.out.2 HO.out.2.2.2.size fun k e => ?_⟩
      have e : w.heap.size = k := by simpa [Value.ownBlock] using e
      omega

set_option maxHeartbeats 3200000 in
theorem clone_datas (B n cap : Nat) (ad : Option Addr) (xs : List Value) (h1x : ∀ v ∈ xs, v.oneCell' = true) (hn : n ≤ 100000) (w : World) (h : w.ownsRow B 49 64 (.slice ad n cap) n xs) :
    Calls Tryz.prog 28 #[.slice ad n cap] w fun e w' => ∃ ad' cap', e = .returned (.slice ad' n cap') ∧ w'.ownsRow w.heap.size 49 64 (.slice ad' n cap') n xs ∧ Below w.heap.size w w' := by
  have H := Lib.hid h
  obtain ⟨i0, hi0, hz0, hz1, hz2⟩ := info_parts data_info
  rcases h.2 with ⟨h0, hn0⟩ | ⟨g, cap', cur, h1, h2, h3, h4, h5, h6, h7⟩
  · obtain ⟨rfl, rfl, rfl⟩ : ad = none ∧ n = 0 ∧ cap = 0 := by simpa using h0
    have hx : xs = [] := List.eq_nil_of_length_eq_zero (by have := h.1; omega)
    subst hx
    clear h h0
    go_enter Tryz.func28, Tryz.ntmps28
    go_wp2_with fail
    go_ret
    exact ⟨none, 0, rfl, World.ownsRow_nil _ _ _ _, Below.refl _ _⟩
  · obtain ⟨rfl, rfl⟩ : ad = some ⟨g, 0, none⟩ ∧ cap = cap' := by simpa using h1
    have hgl : g < w.heap.size := (Array.getElem?_eq_some_iff.1 h3).1
    by_cases hn0 : n = 0
    · subst hn0
      have hx : xs = [] := List.eq_nil_of_length_eq_zero (by have := h.1; omega)
      subst hx
      clear h h1 h7
      go_enter Tryz.func28, Tryz.ntmps28
      go_wp2_with fail
      go_ret
      exact ⟨some ⟨w.heap.size, 0, none⟩, 0, rfl, ⟨rfl, .inr ⟨w.heap.size, 0, #[], rfl, Nat.le_refl _, heap_alloc_last _ _, Nat.le_refl _, Nat.zero_le _, rfl, rfl⟩⟩, (Below.refl _ _).alloc (Nat.le_refl _) _⟩
    · have hlen := h.1
      obtain ⟨w1, hw1⟩ : ∃ w1, w1 = w.alloc (.cells #[] 49) := ⟨_, rfl⟩
      have hb1 : Below w.heap.size w w1 := by rw [hw1]; exact (Below.refl _ _).alloc (Nat.le_refl _) _
      have hown : w1.ownsRow w.heap.size 49 64 (.slice (some ⟨w.heap.size, 0, none⟩) 0 0) 0 [] := ⟨rfl, .inr ⟨w.heap.size, 0, #[], rfl, Nat.le_refl _, by rw [hw1]; exact heap_alloc_last _ _, Nat.le_refl _, Nat.zero_le _, rfl, rfl⟩⟩
      have hnews : ∀ j u, xs[j]? = some u → w1.cell? ((⟨g, 0, none⟩ : Addr).add j) = some u := fun j u hu => by
        rw [addr_add, World.cell?_of_block (a := ⟨g, j, none⟩) (hb1.block g hgl)]
        obtain ⟨g', cap2, hsl, _, hc⟩ := own_cell h (by omega)
        obtain ⟨e1, -⟩ : some (⟨g, 0, none⟩ : Addr) = some ⟨g', 0, none⟩ ∧ cap = cap2 := by simpa using hsl
        obtain rfl : g = g' := by simpa using e1
        exact hc j u hu
      have HO := Lib.hid (And.intro hown (And.intro hnews (And.intro hlen hb1)))
      have HW1 := Lib.hid hw1
      have hs1 : w1.heap.size = w.heap.size + 1 := by rw [hw1]; simp
      clear h h1 h2 h3 h4 h5 h6 h7 hown hnews hlen hb1 hw1
      go_enter Tryz.func28, Tryz.ntmps28
      go_wp2_with (first
        | (rw [← HW1.out]; at_builtin; refine wpList_append_lies _ rfl _ _ _ rfl w.heap.size 49 i0 _ 64 64 Tryz.underlying53 hi0 hz0 hz1 hz2 rfl (by omega) (.slice (some ⟨w.heap.size, 0, none⟩) 0 0) 0 [] rfl HO.out.1 ⟨g, 0, none⟩ n cap xs rfl HO.out.2.2.1 HO.out.2.1 h1x (by omega) (by unfold maxLen; omega) (by omega) (by omega) (w.heap.size + 1) hs1 ?_; intro g2 cap2 w5 hown5 hgrow5 _ _; have HX5 := Lib.hid (And.intro hown5 hgrow5); clear hown5 hgrow5)
        | fail)
      go_ret
      refine ⟨some ⟨g2, 0, none⟩, cap2, rfl, by have := HX5.out.1; rwa [Nat.zero_add, List.nil_append] at this, HO.out.2.2.2.grown HX5.out.2 HO.out.2.2.2.size fun k e => ?_⟩
      have e : w.heap.size = k := by simpa [Value.ownBlock] using e
      omega

set_option maxHeartbeats 6400000 in
theorem disk_twin (F : Nat → Prop) (D : Nat) (L : List Dat) (W : List (Nat × Dat)) (hL : L.length ≤ 1000) (hW : W.length ≤ 100000) (w : World) (h : DiskAt w F D L W) :
    Calls Tryz.prog 10 #[.pointer (some ⟨D, 0, none⟩)] w fun e w' => ∃ D', e = .returned (.pointer (some ⟨D', 0, none⟩)) ∧ DiskAt w' (newIn w w') D' L W ∧ Below w.heap.size w w' := by
  obtain ⟨vl, vw, h1, h2, h3, -, -⟩ := h.mem
  obtain ⟨ad, cap0, rfl, hn63⟩ := own_len h3
  obtain ⟨adl, capl, rfl, hnl⟩ := own_len h2
  obtain ⟨c0, c1, f0, f1⟩ := DiskAt.cells h1
  have hlt := h.lt
  have H := Lib.hid h
  have honeL : ∀ v ∈ lasC L, v.oneCell' = true := fun v hv => by
    obtain ⟨cs, hcs, hv⟩ := List.mem_flatten.1 hv
    obtain ⟨d, _, rfl⟩ := List.mem_map.1 hcs
    exact dC_one d v hv
  have honeW : ∀ v ∈ waiC W, v.oneCell' = true := fun v hv => by
    obtain ⟨cs, hcs, hv⟩ := List.mem_flatten.1 hv
    obtain ⟨d, _, rfl⟩ := List.mem_map.1 hcs
    exact wC_one d v hv
  have HSK := Lib.hid (show ∀ w', Below w.heap.size w w' → w'.cell? ⟨D, 0, none⟩ = some (.slice adl L.length capl) ∧ w'.cell? ⟨D, 1, none⟩ = some (.slice ad W.length cap0) ∧ Below w.heap.size w w' from fun w' hb => ⟨(World.cell?_of_block (a := ⟨D, 0, none⟩) (hb.block D hlt)).trans c0, (World.cell?_of_block (a := ⟨D, 1, none⟩) (hb.block D hlt)).trans c1, hb⟩)
  have HCL : Hid (∀ w1, Below w.heap.size w w1 → Calls Tryz.prog 28 #[.slice adl L.length capl] w1 fun e w' => ∃ ad' cap', e = .returned (.slice ad' L.length cap') ∧ w'.ownsRow w.heap.size 49 64 (.slice ad' L.length cap') L.length (lasC L) ∧ Below w1.heap.size w1 w' ∧ Below w.heap.size w w') := Lib.hid fun w1 hb => by
    refine (clone_datas 0 L.length capl adl (lasC L) honeL (by omega) w1 (own_on h2 hb)).mono ?_
    rintro e w' ⟨a1, a2, he, ho, hb2⟩
    exact ⟨a1, a2, he, own_weak ho hb.size, hb2, hb.trans (hb2.mono hb.size)⟩
  have HCW : Hid (∀ w1, Below w.heap.size w w1 → Calls Tryz.prog 29 #[.slice ad W.length cap0] w1 fun e w' => ∃ ad' cap', e = .returned (.slice ad' W.length cap') ∧ w'.ownsRow w.heap.size 79 65 (.slice ad' W.length cap') W.length (waiC W) ∧ Below w1.heap.size w1 w' ∧ Below w.heap.size w w') := Lib.hid fun w1 hb => by
    refine (clone_writes 0 W.length cap0 ad (waiC W) honeW hW w1 (own_on h3 hb)).mono ?_
    rintro e w' ⟨a1, a2, he, ho, hb2⟩
    exact ⟨a1, a2, he, own_weak ho hb.size, hb2, hb.trans (hb2.mono hb.size)⟩
  clear h h1 h2 h3 honeL honeW
  go_enter Tryz.func10, Tryz.ntmps10
  go_wp2_with fail
  go_region_held3 (fun w' => w'.cell? ⟨D, 0, none⟩ = some (.slice adl L.length capl) ∧ w'.cell? ⟨D, 1, none⟩ = some (.slice ad W.length cap0) ∧ Below w.heap.size w w')
    (first | exact HSK.out _ (hcy.alloc hcy.size _) | exact HSK.out _ hcy | exact HSK.out _ hcx | exact HSK.out _ (Below.refl _ _).drew)
    (first | (go_at_call 28; refine (HCL.out _ ?_).mono ?_; (first | exact (Below.refl _ _).drew | (go_split_ands; assumption)); rintro e w' ⟨adx, capx, rfl, hox, hbx, hcx⟩) | (go_at_call 29; refine (HCW.out _ ?_).mono ?_; (first | exact (Below.refl _ _).drew | (go_split_ands; assumption)); rintro e w' ⟨ady, capy, rfl, hoy, hby, hcy⟩))
  have hox2 := own_on hox (hby.mono (by omega))
  have HX := Lib.hid (And.intro hox2 (And.intro hoy hcy))
  clear hox hby hbx hcx hcy hoy hox2
  go_wp2_with fail
  go_ret
  have hsz := HX.out.2.2.size
  refine ⟨_, rfl, ⟨H.out.lz, H.out.wz, ⟨hsz, by simp⟩, .slice adx L.length capx, .slice ady W.length capy, heap_alloc_last _ _, own_weak (own_on HX.out.1 ((Below.refl _ _).alloc (Nat.le_refl _) _)) (Nat.zero_le _), own_weak (own_on HX.out.2.1 ((Below.refl _ _).alloc (Nat.le_refl _) _)) (Nat.zero_le _), fun k e => ?_, fun k e => ?_⟩, HX.out.2.2.alloc hsz _⟩
  · have h1 := own_lt HX.out.1 k e
    exact ⟨h1.1, by simp; omega⟩
  · have h1 := own_lt HX.out.2.1 k e
    exact ⟨h1.1, by simp; omega⟩
end Go.Proofs.YtkfmdkbiglkjpaaGreat
