/- Decode, isa's and the reference's. -/
import Derived.Test.YtapjfcljbdlnkaaGreatDoorWrL
namespace Go.Proofs.YtapjfcljbdlnkaaGreatDoor
open Go Go.RowKit Go.Lib
set_option maxRecDepth 100000

theorem results_cell2 {P : Program} {fn : Func} {p u : Tmp} {ty : TypeId} (h : fn.results = #[.cell p ty, .tmp u]) (tmps : Array Value) (w : World) (g : Nat) (t : TypeId) (cs : Array Value) (fr : Nat × Nat) (d : TypeDesc)
    (hp : tmps.getD p undef = .pointer (some ⟨g, 0, none⟩)) (hg : w.heap[g]? = some (.cells cs t fr))
    (hu : P.underlying ty = some d) (hd : (match d with | .struct _ | .array _ _ => true | _ => false) = true) (hi : (P.info? ty).map (·.size) = some cs.size) :
    (results fn tmps).run P w = .ok (.tuple #[.agg cs, tmps.getD u undef]) w := by
  have hp' : tmps[p]?.getD undef = .pointer (some ⟨g, 0, none⟩) := by simpa using hp
  simp [results, h, hp', asAddr, run_loadVar_row w g t ty cs fr d hg hu hd hi]
/-- an instruction's fields, or none -/
def insX (x : Nat) : Array Value := if decOk x then #[.int .i64 (opX x : Int), .int .i64 (aX x : Int), .int .i64 (bX x : Int), .int .i64 (immX x)] else #[.int .i64 0, .int .i64 0, .int .i64 0, .int .i64 0]

set_option maxHeartbeats 1600000 in
theorem ref_fields_big (z : Int) (h : 24 < z) (w : World) :
    Calls Tryz.prog 28 #[.int .i64 z] w fun e w' => e = .returned (.tuple #[.bool false, .bool false, .bool false, .bool false]) ∧ w' = w := by
  have k1 : (1 : Int) ≤ z := by omega
  have k2 : ¬ z ≤ 24 := by omega
  have k3 : (z == 18) = false := beq_eq_false_iff_ne.2 (by omega)
  have k4 : (z == 22) = false := beq_eq_false_iff_ne.2 (by omega)
  have k5 : (z == 24) = false := beq_eq_false_iff_ne.2 (by omega)
  have k6 : (3 : Int) ≤ z := by omega
  have k7 : ¬ z ≤ 12 := by omega
  have k8 : (14 : Int) ≤ z := by omega
  have k9 : ¬ z ≤ 17 := by omega
  have k10 : (z == 21) = false := beq_eq_false_iff_ne.2 (by omega)
  clear h
  go_enter Tryz.func28, Tryz.ntmps28
  go_wp2_with fail
  (try simp only [Exit.inBlock, Exit.then])
  refine bodyPost_ret (results_tmp4 rfl _ _ _) rfl ?_
  exact ⟨rfl, rfl⟩
set_option maxHeartbeats 1600000 in
theorem ref_valid_big (z a b imm : Int) (h : 24 < z) (w : World) :
    Calls Tryz.prog 52 #[.agg #[.int .i64 z, .int .i64 a, .int .i64 b, .int .i64 imm]] w fun e w' => e = .returned (.bool false) ∧ Below w.heap.size w w' := by
  have HF := Lib.hid (fun w1 => ref_fields_big z h w1)
  obtain ⟨c0, c1, c2, c3, hb⟩ := instr_new w z a b imm
  have HB := Lib.hid hb
  clear hb
  go_enter Tryz.func52, Tryz.ntmps52
  go_wp2_with fail
  refine (HF.out _).mono ?_
  rintro e w1 ⟨rfl, hw1⟩
  rw [hw1]
  clear hw1 w1
  go_wp2_with fail
  go_ret
  exact ⟨rfl, HB.out⟩
theorem ref_valid_x (x : Nat) (w : World) :
    Calls Tryz.prog 52 #[.agg #[.int .i64 (opX x : Int), .int .i64 (aX x : Int), .int .i64 (bX x : Int), .int .i64 (immX x)]] w fun e w' => e = .returned (.bool (decOk x)) ∧ Below w.heap.size w w' := by
  by_cases h : opX x ≤ 24
  · refine (ref_valid _ _ _ _ h w).mono ?_
    rintro e w' ⟨rfl, hb⟩
    exact ⟨by rw [decOk, decide_eq_true h]; rfl, hb⟩
  · refine (ref_valid_big _ _ _ _ (by omega) w).mono ?_
    rintro e w' ⟨rfl, hb⟩
    exact ⟨by rw [decOk, decide_eq_false h]; rfl, hb⟩
set_option maxHeartbeats 1600000 in
theorem isa_fields_big (b : Nat) (z : Int) (h : 24 < z) (w : World) :
    Calls Tryz.prog 60 #[.pointer (some ⟨b, 0, none⟩), .int .i64 z] w fun e w' => e = .returned (.int .i64 0) ∧ w' = w := by
  have k1 : ¬ z < 0 := by omega
  go_enter Tryz.func60, Tryz.ntmps60
  go_wp2_with fail
  go_ret
  exact ⟨rfl, rfl⟩
set_option maxHeartbeats 1600000 in
theorem isa_valid_big (t : Nat) (z a b imm : Int) (h : 24 < z) (w : World) :
    Calls Tryz.prog 48 #[.pointer (some ⟨t, 0, none⟩), .agg #[.int .i64 z, .int .i64 a, .int .i64 b, .int .i64 imm]] w fun e w' => e = .returned (.bool false) ∧ Below w.heap.size w w' := by
  have HF := Lib.hid (fun w1 => isa_fields_big t z h w1)
  have hb : Below w.heap.size w (w.alloc (.cells #[.int .i64 z, .int .i64 a, .int .i64 b, .int .i64 imm] 74)) := (Below.refl _ _).alloc (Nat.le_refl _) _
  have HB := Lib.hid hb
  clear hb
  go_enter Tryz.func48, Tryz.ntmps48
  go_wp2_with fail
  refine (HF.out _).mono ?_
  rintro e w1 ⟨rfl, hw1⟩
  rw [hw1]
  clear hw1 w1
  go_wp2_with fail
  go_ret
  exact ⟨rfl, HB.out⟩
theorem isa_valid_x (t x : Nat) (w : World) (ht : TabS w t) :
    Calls Tryz.prog 48 #[.pointer (some ⟨t, 0, none⟩), .agg #[.int .i64 (opX x : Int), .int .i64 (aX x : Int), .int .i64 (bX x : Int), .int .i64 (immX x)]] w fun e w' => e = .returned (.bool (decOk x)) ∧ Step28 t w w' ∧ TabS w' t := by
  by_cases h : opX x ≤ 24
  · refine (valid_any t _ _ _ _ h w ht).mono ?_
    rintro e w' ⟨rfl, hb, hf⟩
    exact ⟨by rw [decOk, decide_eq_true h]; rfl, hb, .inr hf⟩
  · refine (isa_valid_big t _ _ _ _ (by omega) w).mono ?_
    rintro e w' ⟨rfl, hb⟩
    exact ⟨by rw [decOk, decide_eq_false h]; rfl, Step28.of_below hb ht.lt, ht.on (hb.block _ ht.lt)⟩
end Go.Proofs.YtapjfcljbdlnkaaGreatDoor
