/- maps.Copy at maps of blocks (the kit's proof at one-cell elements, turned to blocks). -/
import Derived.Test.YtonmppchbdffcaaGreatC27Ops
import Derived.Test.YtonmppchbdffcaaGreatC27Base
namespace Go.Proofs.YtonmppchbdffcaaGreat
open Go Go.RowKit Go.Lib Go.Maps
attribute [local go_sem ↓] exec_alloc_data exec_store_data exec_load_data
set_option maxRecDepth 100000

set_option maxHeartbeats 4000000 in
theorem maps_copy (bd bs nd ns : Nat) (Dd Ds : DataW Unit) (w : World) (hd : MapAt w bd nd Dd) (hs : MapAt w bs ns Ds) (hne : bd ≠ bs) (hroom : nd + Maps.size Ds ≤ maxLen) :
    Calls Tryz.prog 34 #[.map (some bd), .map (some bs)] w fun e w' => e = .returned (.tuple #[]) ∧ MapAt w' bd (nd + Maps.size Ds) (Lib.mergeD Dd Ds) ∧ MapAt w' bs ns Ds ∧ w.grownBy w' (some bd) := by
  have hbd := hd.lt
  have hbs := hs.lt
  go_enter Tryz.func34, Tryz.ntmps34
  go_wp2_with (first
    | (at_range; refine wpList_range_own _ rfl _ 63 rfl 3 34 intK map_under datR bs ns _ rfl hs ?_; intro w0 hrg0 hg0 hs0)
    | go_in)
  go_frame
  go_loopw [8] (fun _ wr => ∃ (left : Lit → Bool) (cnt : Nat) (Dout : DataW Unit), wr.ranges Tryz.prog 3 datR bs w.heap.size ns Ds left cnt ∧ cnt ≤ Maps.size Ds ∧
      MapAt wr bd (nd + (Maps.size Ds - cnt)) Dout ∧ Merged Dout Dd Ds left ∧ w.grownBy wr (some bd))
    (fun _ wr => wr.rangeLeft bs w.heap.size)
  case atStart =>
    exact ⟨_, _, Dd, hrg0, Nat.le_refl _, (hd.kept hg0 (by simp)).mono (by omega), merged_start Dd Ds, hg0.but _⟩
  case round =>
    obtain ⟨left, cnt, Dout, hrg, hcs, hout, hM, hgw⟩ := hrel
    go_wp2_with (first
      | (at_next; refine wpList_next_ranges _ rfl _ rfl 3 intK datR (Value.int .i64) (fun d : Dat => .agg (dC d).toArray) (fun key kl hkey => by obtain ⟨x, rfl, _⟩ := Maps.keyOf_int_inv Tryz.underlying3 hkey; exact ⟨x, rfl⟩) (fun v y hv => by obtain ⟨d, _, e, _⟩ := datR_inv hv; exact ⟨d, e⟩) bs w.heap.size ns _ _ _ rfl hrg ?_ ?_)
      | go_in)
    · -- nothing is left
      intro hc0 hl0
      go_wp2
      go_end0
      subst hc0
      have e := merged_eq intK.one hM hl0 (hout.canon intK) (hd.canonK intK) (hs.canonK intK)
      subst e
      exact ⟨rfl, by simpa using hout, hrg.owns, hgw⟩
    · -- an entry has come
      intro x c kl yd yp w1 cnt1 hkey hlx hv hat hrg1 hlt hg1 hs1 hen
      have hc64 : c.length = 64 := by
        obtain ⟨d', hd', e, -⟩ := datR_inv hv
        rw [dC_inj (Value.agg.inj e)]; exact hd'
      have hout1 := hout.kept hg1 (fun e => by have := Option.some.inj e; omega)
      have hag := agg_ok (cs := dC c) (n := 64) (by rw [dC_len, hc64]) (dC_one c)
      have hth := there_row (n := 64) (heap_alloc_last w1 (.cells z64 34)) rfl
      have hpt := putAt_new 34 data_size w1 34 z64 (dC c).toArray rfl (by simp [dC_len, hc64]) (all_oneCell_toArray (dC_one c))
      obtain ⟨W1, hW1⟩ : ∃ W1, W1 = w1.alloc (.cells (dC c).toArray 34) := ⟨_, rfl⟩
      rw [← hW1] at hpt
      have hga : w1.grownBy W1 none := by rw [hW1]; exact World.grownBy_alloc w1 _ none
      have hbx : W1.heap[w1.heap.size]? = some (.cells (dC c).toArray 34 (0, 0)) := by rw [hW1]; exact heap_alloc_last _ _
      have hr1 : W1.rangeAt w1.heap.size 0 (dC c) := fun j v hv => by rw [Nat.zero_add, cell_of_row W1 _ j _ _ _ hbx, List.getElem?_toArray]; exact hv
      obtain ⟨hdo, hdk⟩ := dat_range hr1 (by rw [dC_len, hc64] : (dC c).length = 64)
      have hout2 := hout1.kept hga (by simp)
      have hrg2 := hrg1.kept hga (by simp) (by simp)
      have hg12 := hg1.andThen hga (fun j hj => by cases hj)
      have HW := Lib.hid hW1
      have HC := Lib.hid hc64
      have HGA := Lib.hid hga
      have HBX := Lib.hid hbx
      clear hr1 hW1 hc64 hbx
      rw [hs1] at hth hpt hdo hdk
      go_wp2_with (first
        | (at_mapUpdate; refine wpList_mapUpdate_own _ rfl _ _ _ 63 rfl 3 34 intK map_under datR bd _ _ rfl hout2 (by omega) _ _ _ rfl rfl hkey yd yp hv ?_; intro w2 hout3 hg2; go_frame)
        | go_in)
      have hrg3 := hrg2.kept hg2 (fun e => hne (Option.some.inj e).symm) (fun e => by have := Option.some.inj e; omega)
      go_roundw
      case rel =>
        exact ⟨_, cnt1, _, hrg3, by omega, hout3.mono (by omega), merged_step hM hout.isMap (intK.key hkey) hat, ((hgw.andThen hg1 (fun j hj => .inl (by cases hj; exact Nat.le_refl _))).andThen HGA.out (fun j hj => by cases hj)).andThen hg2 (fun j hj => .inr hj)⟩
      case measure => rw [hrg3.left_eq, hrg.left_eq]; exact hlt
end Go.Proofs.YtonmppchbdffcaaGreat
