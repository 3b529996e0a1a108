/- The state's at. -/
import Derived.Test.YtonmppchbdffcaaGreatC27Does4
namespace Go.Proofs.YtonmppchbdffcaaGreat
open Go Go.RowKit Go.Lib Go.Maps
attribute [local go_sem ↓] exec_alloc_data exec_store_data exec_load_data exec_build0
set_option maxRecDepth 100000

/-- what stands at b: for a deed, or for the cache -/
def atS (ds : List Dat) (bs : List Bool) (b : Nat) (deed : Bool) : Dat := if (deed && bs.getD (12 + b) false) = true then ds.getD (12 + b) zeroD else if bs.getD (6 + b) false = true then ds.getD (6 + b) zeroD else ds.getD b zeroD
theorem atS_len {w : World} {S : Nat} {ds : List Dat} {bs : List Bool} (h : StAt w S ds bs) {b : Nat} (hb : b < 6) (deed : Bool) : (atS ds bs b deed).length = 64 := by
  have hg : ∀ i, i < 18 → (ds.getD i zeroD).length = 64 := fun i hi => by
    rw [List.getD_eq_getElem?_getD, List.getElem?_eq_getElem (by rw [h.dl]; exact hi)]
    exact h.dz _ (List.getElem_mem _)
  unfold atS
  split
  · exact hg _ (by omega)
  · split
    · exact hg _ (by omega)
    · exact hg _ (by omega)
set_option maxHeartbeats 3200000 in
theorem state_at (S b : Nat) (deed : Bool) (ds : List Dat) (bs : List Bool) (w : World) (h : StAt w S ds bs) (hb : b < 6) :
    Calls Tryz.prog 18 #[.pointer (some ⟨S, 0, none⟩), .int .i64 (b : Int), .bool deed] w fun e w' => e = .returned (.agg (dC (atS ds bs b deed)).toArray) ∧ Below w.heap.size w w' := by
  obtain ⟨w1, hw1⟩ : ∃ w1, w.alloc (.cells z64 34) = w1 := ⟨_, rfl⟩
  have hb1 : Below w.heap.size w w1 := by rw [← hw1]; exact (Below.refl _ _).alloc (Nat.le_refl _) _
  have hg1 : w1.heap[w.heap.size]? = some (.cells z64 34 (0, 0)) := by rw [← hw1]; exact heap_alloc_last _ _
  have h1 := h.on (hb1.block S h.lt)
  have hlen := atS_len h hb deed
  have hbl := h.bl
  have hdl := h.dl
  have k1 : (0 : Int) ≤ (b : Int) := by omega
  have k2 : (b : Int) < 6 := by omega
  obtain ⟨f2, -⟩ := h1.flag (List.getElem?_eq_getElem (by omega : 12 + b < bs.length))
  obtain ⟨f1, -⟩ := h1.flag (List.getElem?_eq_getElem (by omega : 6 + b < bs.length))
  have g2 : bs.getD (12 + b) false = bs[12 + b]'(by omega) := by rw [List.getD_eq_getElem?_getD, List.getElem?_eq_getElem (by omega)]; rfl
  have g1 : bs.getD (6 + b) false = bs[6 + b]'(by omega) := by rw [List.getD_eq_getElem?_getD, List.getElem?_eq_getElem (by omega)]; rfl
  rw [← g2, show 1152 + (12 + b) = 1164 + b by omega] at f2
  rw [← g1, show 1152 + (6 + b) = 1158 + b by omega] at f1
  have hdat : ∀ i (hi : i < 18), datOf 64 w1 (.pointer (some ⟨S, 64 * i, none⟩)) = dC (ds.getD i zeroD) ∧ datOk 64 w1 (.pointer (some ⟨S, 64 * i, none⟩)) = true := fun i hi => by
    have e : ds[i]? = some (ds.getD i zeroD) := by rw [List.getD_eq_getElem?_getD, List.getElem?_eq_getElem (by omega)]; rfl
    exact dat_range (h1.data e) (by rw [dC_len, h.dz _ (List.mem_of_getElem? e)])
  obtain ⟨do2, dk2⟩ := hdat (12 + b) (by omega)
  obtain ⟨do1, dk1⟩ := hdat (6 + b) (by omega)
  obtain ⟨do0, dk0⟩ := hdat b (by omega)
  rw [show 64 * (12 + b) = 768 + b * 64 by omega] at do2 dk2
  rw [show 64 * (6 + b) = 384 + b * 64 by omega] at do1 dk1
  rw [show 64 * b = b * 64 by omega] at do0 dk0
  have HA : Hid (atS ds bs b deed = if (deed && bs.getD (12 + b) false) = true then ds.getD (12 + b) zeroD else if bs.getD (6 + b) false = true then ds.getD (6 + b) zeroD else ds.getD b zeroD) := Lib.hid rfl
  generalize bs.getD (12 + b) false = u2 at *
  generalize bs.getD (6 + b) false = u1 at *
  generalize ds.getD (12 + b) zeroD = d2 at *
  generalize ds.getD (6 + b) zeroD = d1 at *
  generalize ds.getD b zeroD = d0 at *
  obtain ⟨x, hx⟩ : ∃ x, x = atS ds bs b deed := ⟨_, rfl⟩
  rw [← hx] at HA hlen ⊢
  have th := there_row (n := 64) hg1 rfl
  have pt : ∀ d : Dat, d.length = 64 → putAt w1 (.pointer (some ⟨w.heap.size, 0, none⟩)) (dC d).toArray = w1.setRow w.heap.size (dC d).toArray := fun d hd => putAt_row 34 data_size w1 w.heap.size _ z64 (dC d).toArray hg1 rfl (by simp [dC_len, hd]) (all_oneCell_toArray (dC_one d))
  have ptx := pt x hlen
  have agx := agg_ok (cs := dC x) (n := 64) (by rw [dC_len, hlen]) (dC_one x)
  have hsr := setRow_heap w1 w.heap.size _ (dC x).toArray _ _ hg1
  have HQ := Lib.hid (And.intro hsr (And.intro hb1 hlen))
  clear h h1 hlen hbl hdl hb g1 g2 hdat hsr hb1 hg1 pt hx
  cases deed with
  | true =>
    cases u2 with
    | true =>
      have e : x = d2 := HA.out.trans rfl
      subst e
      go_enter Tryz.func18, Tryz.ntmps18
      go_wp2_with fail
      refine bodyPost_ret (results_c1 Tryz.results18 _ _ w.heap.size 34 _ (0, 0) _ ?hg HQ.out.1 Tryz.underlying34 rfl (by rw [data_size]; simp [dC_len, HQ.out.2.2])) ?hr ?hq
      case hg => rfl
      case hr => rfl
      case hq => exact ⟨rfl, below_setRow HQ.out.2.1 (Nat.le_refl _) _⟩
    | false =>
      cases u1 with
      | true =>
        have e : x = d1 := HA.out.trans rfl
        subst e
        go_enter Tryz.func18, Tryz.ntmps18
        go_wp2_with fail
        refine bodyPost_ret (results_c1 Tryz.results18 _ _ w.heap.size 34 _ (0, 0) _ ?hg HQ.out.1 Tryz.underlying34 rfl (by rw [data_size]; simp [dC_len, HQ.out.2.2])) ?hr ?hq
        case hg => rfl
        case hr => rfl
        case hq => exact ⟨rfl, below_setRow HQ.out.2.1 (Nat.le_refl _) _⟩
      | false =>
        have e : x = d0 := HA.out.trans rfl
        subst e
        go_enter Tryz.func18, Tryz.ntmps18
        go_wp2_with fail
        refine bodyPost_ret (results_c1 Tryz.results18 _ _ w.heap.size 34 _ (0, 0) _ ?hg HQ.out.1 Tryz.underlying34 rfl (by rw [data_size]; simp [dC_len, HQ.out.2.2])) ?hr ?hq
        case hg => rfl
        case hr => rfl
        case hq => exact ⟨rfl, below_setRow HQ.out.2.1 (Nat.le_refl _) _⟩
  | false =>
    cases u1 with
    | true =>
      have e : x = d1 := HA.out.trans rfl
      subst e
      go_enter Tryz.func18, Tryz.ntmps18
      go_wp2_with fail
      refine bodyPost_ret (results_c1 Tryz.results18 _ _ w.heap.size 34 _ (0, 0) _ ?hg HQ.out.1 Tryz.underlying34 rfl (by rw [data_size]; simp [dC_len, HQ.out.2.2])) ?hr ?hq
      case hg => rfl
      case hr => rfl
      case hq => exact ⟨rfl, below_setRow HQ.out.2.1 (Nat.le_refl _) _⟩
    | false =>
      have e : x = d0 := HA.out.trans rfl
      subst e
      go_enter Tryz.func18, Tryz.ntmps18
      go_wp2_with fail
      refine bodyPost_ret (results_c1 Tryz.results18 _ _ w.heap.size 34 _ (0, 0) _ ?hg HQ.out.1 Tryz.underlying34 rfl (by rw [data_size]; simp [dC_len, HQ.out.2.2])) ?hr ?hq
      case hg => rfl
      case hr => rfl
      case hq => exact ⟨rfl, below_setRow HQ.out.2.1 (Nat.le_refl _) _⟩
end Go.Proofs.YtonmppchbdffcaaGreat
