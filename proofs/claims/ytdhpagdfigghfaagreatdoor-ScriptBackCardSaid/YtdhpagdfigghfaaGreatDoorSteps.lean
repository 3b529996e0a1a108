/- onionskinlaw43.steps at equal steps. -/
import Derived.Test.YtdhpagdfigghfaaGreatDoorPrintOut
namespace Go.Proofs.YtdhpagdfigghfaaGreatDoor
open Go.RowKit Go.Lib
set_option maxRecDepth 100000

set_option maxHeartbeats 6400000 in
theorem steps_same (v u : Value) (B B' : Nat) (cs cs' : List Value) (ss : List Ln) (w : World) (hown : w.ownsRow B 51 3 v ss.length cs) (hc : CellsAt w cs ss)
    (hown' : w.ownsRow B' 50 3 u ss.length cs') (hc' : CellsAt w cs' ss) (hn : ss.length ≤ 30) (hok : ∀ x ∈ ss, x.Num) :
    Calls Tryz.prog 9 #[v, u] w fun e w' => e = .returned (.bool true) ∧ Below w.heap.size w w' := by
  obtain ⟨ad, cap, rfl, hn63⟩ := own_len hown
  obtain ⟨ad', cap1, rfl, -⟩ := own_len hown'
  have HO := Lib.hid hown
  have HC := Lib.hid hc
  have HO' := Lib.hid hown'
  have HC' := Lib.hid hc'
  clear hown hc hown' hc'
  go_enter Tryz.func9, Tryz.ntmps9
  go_wp2_with fail
  go_loopg [5] ss.length (fun k s wr => ∃ i : Nat, k + i = ss.length ∧ s = .int .i64 (i : Int) ∧ Below w.heap.size w wr)
  case atStart => exact ⟨0, by simp, rfl, Below.refl _ _⟩
  case round =>
    obtain ⟨i, hk, rfl, hb⟩ := hrel
    have hk := Lib.hid hk
    have HB := Lib.hid hb
    clear hb
    by_cases hi : i < ss.length
    · have hi1 : (i : Int) < (ss.length : Int) := by omega
      have hi3 : (0 : Int) ≤ (i : Int) := by omega
      obtain ⟨x, hx⟩ : ∃ x, ss[i]? = some x := ⟨ss[i], List.getElem?_eq_getElem (by omega)⟩
      obtain ⟨g, cap', hsl, _, hcell⟩ := own_cell HO.out (by omega)
      obtain ⟨rfl, rfl⟩ : ad = some ⟨g, 0, none⟩ ∧ cap = cap' := by simpa using hsl
      obtain ⟨g', cap2, hsl', _, hcell'⟩ := own_cell HO'.out (by omega)
      obtain ⟨rfl, rfl⟩ : ad' = some ⟨g', 0, none⟩ ∧ cap1 = cap2 := by simpa using hsl'
      obtain ⟨y, a1, a2, a3, a4⟩ := HC.out i x hx
      obtain ⟨z, b1, b2, b3, b4⟩ := HC'.out i x hx
      have c1 := hcell _ _ a1
      have c2 := hcell _ _ a2
      have c3 := hcell _ _ a3
      have d1 := (HB.out.cell (World.block_lt_of_cell? _ _ c1)).trans c1
      have d2 := (HB.out.cell (World.block_lt_of_cell? _ _ c2)).trans c2
      have d3 := (HB.out.cell (World.block_lt_of_cell? _ _ c3)).trans c3
      have c1' := hcell' _ _ b1
      have c2' := hcell' _ _ b2
      have c3' := hcell' _ _ b3
      have e1 := (HB.out.cell (World.block_lt_of_cell? _ _ c1')).trans c1'
      have e2 := (HB.out.cell (World.block_lt_of_cell? _ _ c2')).trans c2'
      have e3 := (HB.out.cell (World.block_lt_of_cell? _ _ c3')).trans c3'
      have wr1 : IntKind.i64.wrap ((i : Int) + 1) = (i : Int) + 1 := by rw [IntKind.wrap_i64]; omega
      have HR := Lib.hid (a4.on HB.out)
      have HR' := Lib.hid (b4.on HB.out)
      have hlen : x.bytes.length < 4611686018427387904 := by
        have := (hok x (List.mem_of_getElem? hx))
        cases x with
        | shw => decide
        | trn n l => simp [Ln.bytes]
        | typ l => have h : l.length ≤ 64 := this; simp [Ln.bytes]; omega
      rw [Nat.mul_comm] at d1 d2 d3 e1 e2 e3
      clear a1 a2 a3 a4 b1 b2 b3 b4 c1 c2 c3 c1' c2' c3' hcell hcell' hsl hsl' hx
      go_wp2_with fail
      refine region_still_tail 35 (by kernel_rfl) (by kernel_rfl) ?_
      simp only [List.take_succ_cons, List.take_zero, List.drop_succ_cons, List.drop_zero]
      repeat still_step
      refine wpStill_nil ?_
      go_wp2_with fail
      refine (same_bytes y z x.bytes hlen wr.drew HR.out HR'.out).mono ?_
      rintro e w3 ⟨rfl, hb3⟩
      have HB3 := Lib.hid (HB.out.drew.trans (hb3.mono HB.out.size))
      clear hb3
      go_wp2_with fail
      go_roundg (gk - 1)
      case measure => have := hk.out; omega
      case rel => exact ⟨i + 1, by have := hk.out; omega, by simp, HB3.out⟩
    · have hi1 : ¬ (i : Int) < (ss.length : Int) := by omega
      go_wp2_with fail
      go_ret
      exact ⟨rfl, HB.out⟩

end Go.Proofs.YtdhpagdfigghfaaGreatDoor
