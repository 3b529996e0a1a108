/- onionskinref02.Fields, Valid, Encode. -/
import Derived.Test.YtapjfcljbdlnkaaGreatDoorRef03e
namespace Go.Proofs.YtapjfcljbdlnkaaGreatDoor
open Go Go.RowKit Go.Lib
set_option maxRecDepth 100000

theorem results_tmp4 {fn : Func} {t u v x : Tmp} (h : fn.results = #[.tmp t, .tmp u, .tmp v, .tmp x]) (tmps : Array Value) (P : Program) (w : World) :
    (results fn tmps).run P w = .ok (.tuple #[tmps.getD t undef, tmps.getD u undef, tmps.getD v undef, tmps.getD x undef]) w := by
  simp [results, h]
set_option maxHeartbeats 6400000 in
theorem ref_fields_int (z : Int) (hz : z = 0 ∨ z = 1 ∨ z = 2 ∨ z = 3 ∨ z = 4 ∨ z = 5 ∨ z = 6 ∨ z = 7 ∨ z = 8 ∨ z = 9 ∨ z = 10 ∨ z = 11 ∨ z = 12 ∨ z = 13 ∨ z = 14 ∨ z = 15 ∨ z = 16 ∨ z = 17 ∨ z = 18 ∨ z = 19 ∨ z = 20 ∨ z = 21 ∨ z = 22 ∨ z = 23 ∨ z = 24) (w : World) :
    Calls Tryz.prog 28 #[.int .i64 z] w fun e w' => e = .returned (.tuple #[.bool (hasA z.toNat), .bool (hasB z.toNat), .bool (hasI z.toNat), .bool (decide (1 ≤ z.toNat))]) ∧ w' = w := by
  rcases hz with rfl | rfl | rfl | rfl | rfl | rfl | rfl | rfl | rfl | rfl | rfl | rfl | rfl | rfl | rfl | rfl | rfl | rfl | rfl | rfl | rfl | rfl | rfl | rfl | rfl
  all_goals
    go_enter Tryz.func28, Tryz.ntmps28
    go_wp2_with fail
    (try simp only [Exit.inBlock, Exit.then])
    refine bodyPost_ret (results_tmp4 rfl _ _ _) rfl ?_
    exact ⟨rfl, rfl⟩
theorem ref_fields (op : Nat) (hop : op ≤ 24) (w : World) :
    Calls Tryz.prog 28 #[.int .i64 (op : Int)] w fun e w' => e = .returned (.tuple #[.bool (hasA op), .bool (hasB op), .bool (hasI op), .bool (decide (1 ≤ op))]) ∧ w' = w := by
  have := ref_fields_int (op : Int) (by omega) w
  rwa [Int.toNat_natCast] at this

theorem instr_new (w : World) (op a b imm : Int) :
    let w1 := w.alloc (.cells #[.int .i64 op, .int .i64 a, .int .i64 b, .int .i64 imm] 87)
    w1.cell? ⟨w.heap.size, 0, none⟩ = some (.int .i64 op) ∧ w1.cell? ⟨w.heap.size, 1, none⟩ = some (.int .i64 a) ∧ w1.cell? ⟨w.heap.size, 2, none⟩ = some (.int .i64 b) ∧ w1.cell? ⟨w.heap.size, 3, none⟩ = some (.int .i64 imm) ∧ Below w.heap.size w w1 := by
  have hnew := heap_alloc_new w (.cells #[.int .i64 op, .int .i64 a, .int .i64 b, .int .i64 imm] 87)
  have c0 := cell_of_row _ w.heap.size 0 _ _ _ hnew
  have c1 := cell_of_row _ w.heap.size 1 _ _ _ hnew
  have c2 := cell_of_row _ w.heap.size 2 _ _ _ hnew
  have c3 := cell_of_row _ w.heap.size 3 _ _ _ hnew
  simp only [List.getElem?_toArray, List.getElem?_cons_succ, List.getElem?_cons_zero] at c0 c1 c2 c3
  exact ⟨c0, c1, c2, c3, (Below.refl _ _).alloc (Nat.le_refl _) _⟩

set_option maxHeartbeats 6400000 in
theorem ref_valid (op : Nat) (a b imm : Int) (hop : op ≤ 24) (w : World) :
    Calls Tryz.prog 52 #[.agg #[.int .i64 (op : Int), .int .i64 a, .int .i64 b, .int .i64 imm]] w fun e w' => e = .returned (.bool (validP op a b imm)) ∧ Below w.heap.size w w' := by
  have HF := Lib.hid (fun w1 => ref_fields op hop w1)
  have hV : validP op a b imm = (decide (1 ≤ op) && fitsP (hasA op) a 0 15 && fitsP (hasB op) b 0 15 && fitsP (hasI op) imm (-32768) 32767) := rfl
  generalize hasA op = A at HF hV
  generalize hasB op = B at HF hV
  generalize hasI op = I at HF hV
  generalize hok : decide (1 ≤ op) = ok at HF hV
  generalize validP op a b imm = V at hV ⊢
  obtain ⟨c0, c1, c2, c3, hb⟩ := instr_new w (op : Int) a b imm
  have HB := Lib.hid hb
  clear hb hok
  have hq : (ok = false ∧ V = false) ∨ (ok = true ∧ a < 0 ∧ V = false) ∨ (ok = true ∧ ¬ a < 0 ∧ 15 < a ∧ V = false) ∨ (ok = true ∧ ¬ a < 0 ∧ ¬ 15 < a ∧
      ((b < 0 ∧ V = false) ∨ (¬ b < 0 ∧ 15 < b ∧ V = false) ∨ (¬ b < 0 ∧ ¬ 15 < b ∧ ((imm < -32768 ∧ V = false) ∨ (¬ imm < -32768 ∧ 32767 < imm ∧ V = false) ∨
        (¬ imm < -32768 ∧ ¬ 32767 < imm ∧ V = ((A || a == 0) && (B || b == 0) && (I || imm == 0))))))) := by
    subst hV
    have fz : ∀ (h : Bool) (v l u : Int), l ≤ 0 → 0 ≤ u → ¬ (l ≤ v ∧ v ≤ u) → fitsP h v l u = false := by
      intro h v l u h1 h2 h3
      cases h
      · have : ¬ v = 0 := by omega
        simp [fitsP, this]
      · unfold fitsP
        rw [if_pos rfl]
        by_cases h4 : l ≤ v
        · rw [decide_eq_true h4, decide_eq_false (by omega : ¬ v ≤ u)]; rfl
        · rw [decide_eq_false h4]; rfl
    have fo : ∀ (h : Bool) (v l u : Int), l ≤ v → v ≤ u → fitsP h v l u = (h || v == 0) := by
      intro h v l u h1 h2
      cases h
      · simp [fitsP]
      · simp [fitsP, h1, h2]
    cases ok
    · left; simp
    right
    by_cases h1 : a < 0
    · left; refine ⟨rfl, h1, ?_⟩; rw [fz A a 0 15 (by omega) (by omega) (by omega)]; simp
    right
    by_cases h2 : 15 < a
    · left; refine ⟨rfl, h1, h2, ?_⟩; rw [fz A a 0 15 (by omega) (by omega) (by omega)]; simp
    right
    refine ⟨rfl, h1, h2, ?_⟩
    by_cases h3 : b < 0
    · left; refine ⟨h3, ?_⟩; rw [fz B b 0 15 (by omega) (by omega) (by omega)]; simp
    right
    by_cases h4 : 15 < b
    · left; refine ⟨h3, h4, ?_⟩; rw [fz B b 0 15 (by omega) (by omega) (by omega)]; simp
    right
    refine ⟨h3, h4, ?_⟩
    by_cases h5 : imm < -32768
    · left; refine ⟨h5, ?_⟩; rw [fz I imm _ _ (by omega) (by omega) (by omega)]; simp
    right
    by_cases h6 : 32767 < imm
    · left; refine ⟨h5, h6, ?_⟩; rw [fz I imm _ _ (by omega) (by omega) (by omega)]; simp
    right
    refine ⟨h5, h6, ?_⟩
    rw [fo A a 0 15 (by omega) (by omega), fo B b 0 15 (by omega) (by omega), fo I imm _ _ (by omega) (by omega)]; rfl
  have HQ := Lib.hid hq
  clear hq hV
  go_enter Tryz.func52, Tryz.ntmps52
  go_wp2_with fail
  refine (HF.out _).mono ?_
  rintro e w1 ⟨rfl, hw1⟩
  rw [hw1]
  clear hw1 w1
  generalize w.alloc (.cells #[.int .i64 (op : Int), .int .i64 a, .int .i64 b, .int .i64 imm] 87) = w1 at *
  have hend : Hid (V = false) → Hid (V = false ∧ Below w.heap.size w w1) := fun h => Lib.hid ⟨h.out, HB.out⟩
  rcases HQ.out with ⟨rfl, h⟩ | ⟨rfl, k1, h⟩ | ⟨rfl, k1, k2, h⟩ | ⟨rfl, k1, k2, ⟨k3, h⟩ | ⟨k3, k4, h⟩ | ⟨k3, k4, ⟨k5, h⟩ | ⟨k5, k6, h⟩ | ⟨k5, k6, h⟩⟩⟩
  rotate_right
  · have hr : (A = true ∨ (A = false ∧ a = 0) ∨ (A = false ∧ (a == 0) = false)) := by cases A <;> by_cases e : a = 0 <;> simp [e]
    have hs : (B = true ∨ (B = false ∧ b = 0) ∨ (B = false ∧ (b == 0) = false)) := by cases B <;> by_cases e : b = 0 <;> simp [e]
    have ht : (I = true ∨ (I = false ∧ imm = 0) ∨ (I = false ∧ (imm == 0) = false)) := by cases I <;> by_cases e : imm = 0 <;> simp [e]
    have HS := Lib.hid hs
    have HT := Lib.hid ht
    have HH := Lib.hid h
    clear h hs ht hend HQ
    rcases hr with rfl | ⟨rfl, rfl⟩ | ⟨rfl, e1⟩
    rotate_right
    · have HV : Hid (V = false) := Lib.hid (by rw [HH.out, e1]; rfl)
      clear HH HS HT
      go_wp2_with fail
      go_ret
      rw [HV.out]
      exact ⟨rfl, HB.out⟩
    all_goals
      have HH2 : Hid (V = ((B || b == 0) && (I || imm == 0))) := Lib.hid (by rw [HH.out]; simp)
      clear HH
      rcases HS.out with rfl | ⟨rfl, rfl⟩ | ⟨rfl, e2⟩
      rotate_right
      · have HV : Hid (V = false) := Lib.hid (by rw [HH2.out, e2]; rfl)
        clear HH2 HS HT
        go_wp2_with fail
        go_ret
        rw [HV.out]
        exact ⟨rfl, HB.out⟩
      all_goals
        have HH3 : Hid (V = (I || imm == 0)) := Lib.hid (by rw [HH2.out]; simp)
        clear HH2 HS
        rcases HT.out with rfl | ⟨rfl, rfl⟩ | ⟨rfl, e3⟩
        · have HV : Hid (V = true) := Lib.hid (by rw [HH3.out]; rfl)
          clear HH3 HT
          go_wp2_with fail
          go_ret
          rw [HV.out]
          exact ⟨rfl, HB.out⟩
        · have HV : Hid (V = true) := Lib.hid (by rw [HH3.out]; rfl)
          clear HH3 HT
          go_wp2_with fail
          go_ret
          rw [HV.out]
          exact ⟨rfl, HB.out⟩
        · have HV : Hid (V = false) := Lib.hid (by rw [HH3.out, e3]; rfl)
          clear HH3 HT
          go_wp2_with fail
          go_ret
          rw [HV.out]
          exact ⟨rfl, HB.out⟩
  all_goals
    have HV : Hid (V = false) := Lib.hid h
    clear h hend HQ
    go_wp2_with fail
    go_ret
    rw [HV.out]
    exact ⟨rfl, HB.out⟩

set_option maxHeartbeats 3200000 in
theorem ref_encode (op : Nat) (a b imm : Int) (hop : op ≤ 24) (w : World) :
    Calls Tryz.prog 46 #[.agg #[.int .i64 (op : Int), .int .i64 a, .int .i64 b, .int .i64 imm]] w fun e w' => e = .returned (.tuple #[.int .u32 (encR op a b imm), .bool (validP op a b imm)]) ∧ Below w.heap.size w w' := by
  have HV := Lib.hid (fun w1 => ref_valid op a b imm hop w1)
  obtain ⟨c0, c1, c2, c3, hb⟩ := instr_new w (op : Int) a b imm
  have HB := Lib.hid hb
  clear hb
  go_enter Tryz.func46, Tryz.ntmps46
  go_wp2_with fail
  refine (HV.out _).mono ?_
  rintro e w2 ⟨rfl, hb2⟩
  generalize w.alloc (.cells #[.int .i64 (op : Int), .int .i64 a, .int .i64 b, .int .i64 imm] 87) = w1 at *
  have HB2 := Lib.hid (HB.out.trans (hb2.mono HB.out.size))
  have d1 := (hb2.cell (World.block_lt_of_cell? _ _ c1)).trans c1
  have d0 := (hb2.cell (World.block_lt_of_cell? _ _ c0)).trans c0
  have d2 := (hb2.cell (World.block_lt_of_cell? _ _ c2)).trans c2
  have d3 := (hb2.cell (World.block_lt_of_cell? _ _ c3)).trans c3
  clear c0 c1 c2 c3 hb2
  cases hv : validP op a b imm with
  | false =>
    have HVV := Lib.hid hv
    clear hv
    go_wp2_with fail
    go_ret2
    rw [HVV.out, show encR op a b imm = 0 by simp [encR, HVV.out]]
    exact ⟨rfl, HB2.out⟩
  | true =>
    have HVV := Lib.hid hv
    obtain ⟨v1, v2, v3, v4⟩ := valid_parts hv
    have HE : Hid (encR op a b imm = encV op a b imm) := Lib.hid (by simp [encR, HVV.out])
    have q1 : IntKind.i64.wrap ((op : Int) * 16) = (op : Int) * 16 := by rw [IntKind.wrap_i64] <;> omega
    have q2 : IntKind.i64.wrap ((op : Int) * 16 + a) = (op : Int) * 16 + a := by rw [IntKind.wrap_i64] <;> omega
    have q3 : IntKind.i64.wrap (((op : Int) * 16 + a) * 16) = ((op : Int) * 16 + a) * 16 := by rw [IntKind.wrap_i64] <;> omega
    have q4 : IntKind.i64.wrap (((op : Int) * 16 + a) * 16 + b) = ((op : Int) * 16 + a) * 16 + b := by rw [IntKind.wrap_i64] <;> omega
    have q5 : IntKind.i64.wrap ((((op : Int) * 16 + a) * 16 + b) * 65536) = (((op : Int) * 16 + a) * 16 + b) * 65536 := by rw [IntKind.wrap_i64] <;> omega
    by_cases hn : imm < 0
    · have q6 : IntKind.i64.wrap (imm + 65536) = imm + 65536 := by rw [IntKind.wrap_i64] <;> omega
      have q7 : IntKind.i64.wrap ((((op : Int) * 16 + a) * 16 + b) * 65536 + (imm + 65536)) = (((op : Int) * 16 + a) * 16 + b) * 65536 + (imm + 65536) := by rw [IntKind.wrap_i64] <;> omega
      have q8 : IntKind.u32.wrap ((((op : Int) * 16 + a) * 16 + b) * 65536 + (imm + 65536)) = encV op a b imm := by
        rw [IntKind.wrap_u32]; unfold encV; omega
      clear hv v1 v2 v3 v4
      go_wp2_with fail
      go_ret2
      rw [HVV.out, HE.out]
      first | exact ⟨rfl, HB2.out⟩ | (rw [← q8]; exact ⟨rfl, HB2.out⟩)
    · have q7 : IntKind.i64.wrap ((((op : Int) * 16 + a) * 16 + b) * 65536 + imm) = (((op : Int) * 16 + a) * 16 + b) * 65536 + imm := by rw [IntKind.wrap_i64] <;> omega
      have q8 : IntKind.u32.wrap ((((op : Int) * 16 + a) * 16 + b) * 65536 + imm) = encV op a b imm := by
        rw [IntKind.wrap_u32]; unfold encV; omega
      clear hv v1 v2 v3 v4
      go_wp2_with fail
      go_ret2
      rw [HVV.out, HE.out]
      first | exact ⟨rfl, HB2.out⟩ | (rw [← q8]; exact ⟨rfl, HB2.out⟩)
end Go.Proofs.YtapjfcljbdlnkaaGreatDoor
