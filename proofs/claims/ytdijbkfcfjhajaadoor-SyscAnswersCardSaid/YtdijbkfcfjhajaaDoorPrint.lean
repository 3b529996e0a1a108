/- Chapter 38's line of an event: the program's text, the reference's, and the example. -/
import Derived.Test.YtdijbkfcfjhajaaDoorNames
import Derived.Deep.RegionHeld3
namespace Go.Proofs.YtdijbkfcfjhajaaDoor
open Go.RowKit Go.Sort Go.Lib
set_option maxRecDepth 100000

/-- an event's cells, and what else lives on along the calls -/
def Ev (w : World) (p c v m : Int) (w' : World) : Prop := (w'.cell? ⟨w.heap.size, 0, none⟩ = some (.int .i64 p) ∧ w'.cell? ⟨w.heap.size, 1, none⟩ = some (.int .i64 c) ∧ w'.cell? ⟨w.heap.size, 2, none⟩ = some (.int .u32 v) ∧ w'.cell? ⟨w.heap.size, 3, none⟩ = some (.int .u32 m)) ∧ Below w.heap.size w w' ∧ w.heap.size < w'.heap.size ∧ Tab w'

theorem Ev.on {w w1 w2 : World} {p c v m : Int} (h : Ev w p c v m w1) (hb : Below w1.heap.size w1 w2) : Ev w p c v m w2 := by
  obtain ⟨⟨a, b, d, e⟩, f, g, t⟩ := h
  refine ⟨⟨?_, ?_, ?_, ?_⟩, f.trans (hb.mono (by omega)), by have := hb.size; omega, t.on hb⟩
  all_goals (rw [hb.cell (by assumption)]; assumption)

theorem Ev.drew {w w1 : World} {p c v m : Int} (h : Ev w p c v m w1) : Ev w p c v m w1.drew := ⟨h.1, h.2.1.drew, h.2.2.1, h.2.2.2.drew⟩
theorem Ev.tab {w w1 : World} {p c v m : Int} (h : Ev w p c v m w1) : Tab w1 := h.2.2.2
theorem Ev.cells {w w1 : World} {p c v m : Int} (h : Ev w p c v m w1) : w1.cell? ⟨w.heap.size, 0, none⟩ = some (.int .i64 p) ∧ w1.cell? ⟨w.heap.size, 1, none⟩ = some (.int .i64 c) ∧ Ev w p c v m w1 := ⟨h.1.1, h.1.2.1, h⟩

/-- the line of an event -/
def lineB (p c v m : Int) : List UInt8 :=
  Lib.itoa p ++ [32] ++ nameB c ++ [32] ++ (if c ≠ 0 ∧ 4294967272 ≤ v then [101, 114, 114, 111, 114, 32] ++ Lib.itoa (4294967296 - v) ++ [10]
    else Lib.itoa v ++ (if c = 4 ∨ c = 10 then [32] ++ Lib.itoa m else []) ++ [10])

set_option maxHeartbeats 2000000 in
theorem print_err (p c v m : Int) (hp0 : -9223372036854775808 ≤ p) (hp1 : p ≤ 9223372036854775807) (hc0 : -9223372036854775808 ≤ c) (hc1 : c ≤ 9223372036854775807)
    (hv : 4294967272 ≤ v) (hv1 : v ≤ 4294967295) (hc : c ≠ 0) (w : World) (ht : Tab w) :
    Calls Tryd.prog 8 #[.agg #[.int .i64 p, .int .i64 c, .int .u32 v, .int .u32 m]] w fun e w' => e = .returned (.string ⟨(lineB p c v m).toArray⟩) ∧ Below w.heap.size w w' := by
  have n1 : ¬ 9223372036854775807 < (Lib.itoa p).length + 1 := by have := itoa_len p hp0 hp1; omega
  have n2 : ¬ 9223372036854775807 < (Lib.itoa p).length + 1 + (nameB c).length := by have := itoa_len p hp0 hp1; have := nameB_len c hc0 hc1; omega
  have n3 : ¬ 9223372036854775807 < (Lib.itoa p).length + 1 + (nameB c).length + 1 := by have := itoa_len p hp0 hp1; have := nameB_len c hc0 hc1; omega
  have hcb : (c != 0) = true := by simp [hc]
  have HE2 := Lib.hid (fun w ht => itoa_any (4294967296 - v) (by omega) (by omega) w ht)
  have l1 := itoa_len p hp0 hp1
  have l2 := nameB_len c hc0 hc1
  have l3 := itoa_len (4294967296 - v) (by omega) (by omega)
  have HL := Lib.hid (show lineB p c v m = Lib.itoa p ++ [32] ++ nameB c ++ [32] ++ ([101, 114, 114, 111, 114, 32] ++ Lib.itoa (4294967296 - v) ++ [10]) by unfold lineB; rw [if_pos ⟨hc, hv⟩])
  have HP := Lib.hid (fun w ht => itoa_any p hp0 hp1 w ht)
  have HN := Lib.hid (fun w ht => name_any c hc0 hc1 w ht)
  have E0 : Ev w p c v m (w.alloc (.cells #[.int .i64 p, .int .i64 c, .int .u32 v, .int .u32 m] 26)) :=
    ⟨⟨by go_simp, by go_simp, by go_simp, by go_simp⟩, (Below.refl _ _).alloc (Nat.le_refl _) _, by simp, ht.alloc _⟩
  have HE := Lib.hid E0
  clear hp0 hp1 hc0 hc1 E0 ht hc
  go_enter Tryd.func8, Tryd.ntmps8
  go_wp2_with fail
  go_region_held3 (fun w' => w'.cell? ⟨w.heap.size, 0, none⟩ = some (.int .i64 p) ∧ w'.cell? ⟨w.heap.size, 1, none⟩ = some (.int .i64 c) ∧ Ev w p c v m w')
    (first | exact (Ev.drew HE.out).cells | (go_split_ands; exact (Ev.on (by assumption) hb).cells) | exact (Ev.on (Ev.drew HE.out) hb).cells)
    (first | (go_at_call 19; refine (HP.out _ ?_).mono ?_; (go_split_ands; exact Ev.tab (by assumption)); rintro e w' ⟨rfl, hb⟩) | (go_at_call 20; refine (HN.out _ ?_).mono ?_; (go_split_ands; exact Ev.tab (by assumption)); rintro e w' ⟨rfl, hb⟩))
  go_split_ands
  rename Ev w p c v m _ => E1
  have g2 := E1.1.2.2.1
  have E1 := Lib.hid E1
  go_wp2_with fail
  refine (error_yes v hv hv1 _).mono ?_
  rintro e w1 ⟨rfl, rfl⟩
  go_wp2_with fail
  all_goals try (exfalso; omega)
  refine (HE2.out _ E1.out.tab).mono ?_
  rintro e w1 ⟨rfl, hb2⟩
  go_wp2
  go_ret
  exact ⟨str_ret (by rw [HL.out]; simp), E1.out.2.1.trans (hb2.mono (Nat.le_of_lt E1.out.2.2.1))⟩

set_option maxHeartbeats 2000000 in
theorem print_zero (p c v m : Int) (hp0 : -9223372036854775808 ≤ p) (hp1 : p ≤ 9223372036854775807) (hc0 : -9223372036854775808 ≤ c) (hc1 : c ≤ 9223372036854775807)
    (hv : 4294967272 ≤ v) (hv1 : v ≤ 4294967295) (hc : c = 0) (w : World) (ht : Tab w) :
    Calls Tryd.prog 8 #[.agg #[.int .i64 p, .int .i64 c, .int .u32 v, .int .u32 m]] w fun e w' => e = .returned (.string ⟨(lineB p c v m).toArray⟩) ∧ Below w.heap.size w w' := by
  have n1 : ¬ 9223372036854775807 < (Lib.itoa p).length + 1 := by have := itoa_len p hp0 hp1; omega
  have n2 : ¬ 9223372036854775807 < (Lib.itoa p).length + 1 + (nameB c).length := by have := itoa_len p hp0 hp1; have := nameB_len c hc0 hc1; omega
  have n3 : ¬ 9223372036854775807 < (Lib.itoa p).length + 1 + (nameB c).length + 1 := by have := itoa_len p hp0 hp1; have := nameB_len c hc0 hc1; omega
  have HV := Lib.hid (fun w ht => fmtu_any v (by omega) (by omega) w ht)
  have l1 := itoa_len p hp0 hp1
  have l2 := nameB_len c hc0 hc1
  have l3 := itoa_len v (by omega) (by omega)
  have HL := Lib.hid (show lineB p c v m = Lib.itoa p ++ [32] ++ nameB c ++ [32] ++ (Lib.itoa v ++ [] ++ [10]) by unfold lineB; rw [if_neg (by omega), if_neg (by omega)])
  have hcb : (c != 0) = false := by simp [hc]
  have hc4 : (c == 4) = false := by simp [hc]
  have hc10 : (c == 10) = false := by simp [hc]
  have HP := Lib.hid (fun w ht => itoa_any p hp0 hp1 w ht)
  have HN := Lib.hid (fun w ht => name_any c hc0 hc1 w ht)
  have E0 : Ev w p c v m (w.alloc (.cells #[.int .i64 p, .int .i64 c, .int .u32 v, .int .u32 m] 26)) :=
    ⟨⟨by go_simp, by go_simp, by go_simp, by go_simp⟩, (Below.refl _ _).alloc (Nat.le_refl _) _, by simp, ht.alloc _⟩
  have HE := Lib.hid E0
  clear hp0 hp1 hc0 hc1 E0 ht hc
  go_enter Tryd.func8, Tryd.ntmps8
  go_wp2_with fail
  go_region_held3 (fun w' => w'.cell? ⟨w.heap.size, 0, none⟩ = some (.int .i64 p) ∧ w'.cell? ⟨w.heap.size, 1, none⟩ = some (.int .i64 c) ∧ Ev w p c v m w')
    (first | exact (Ev.drew HE.out).cells | (go_split_ands; exact (Ev.on (by assumption) hb).cells) | exact (Ev.on (Ev.drew HE.out) hb).cells)
    (first | (go_at_call 19; refine (HP.out _ ?_).mono ?_; (go_split_ands; exact Ev.tab (by assumption)); rintro e w' ⟨rfl, hb⟩) | (go_at_call 20; refine (HN.out _ ?_).mono ?_; (go_split_ands; exact Ev.tab (by assumption)); rintro e w' ⟨rfl, hb⟩))
  go_split_ands
  rename Ev w p c v m _ => E1
  have g2 := E1.1.2.2.1
  have E1 := Lib.hid E1
  go_wp2_with fail
  refine (error_yes v hv hv1 _).mono ?_
  rintro e w1 ⟨rfl, rfl⟩
  go_wp2_with fail
  refine (HV.out _ E1.out.tab).mono ?_
  rintro e w1 ⟨rfl, hb2⟩
  have E2 := E1.out.on hb2
  have g1 := E2.1.2.1
  have g3 := E2.1.2.2.2
  have E2 := Lib.hid E2
  go_wp2_with fail
  all_goals try (exfalso; omega)
  go_ret
  exact ⟨str_ret (by rw [HL.out]; simp), E2.out.2.1⟩

set_option maxHeartbeats 2000000 in
theorem print_plain (p c v m : Int) (hp0 : -9223372036854775808 ≤ p) (hp1 : p ≤ 9223372036854775807) (hc0 : -9223372036854775808 ≤ c) (hc1 : c ≤ 9223372036854775807)
    (hv0 : 0 ≤ v) (hv : v < 4294967272) (hc4 : ¬ c = 4) (hc10 : ¬ c = 10) (w : World) (ht : Tab w) :
    Calls Tryd.prog 8 #[.agg #[.int .i64 p, .int .i64 c, .int .u32 v, .int .u32 m]] w fun e w' => e = .returned (.string ⟨(lineB p c v m).toArray⟩) ∧ Below w.heap.size w w' := by
  have n1 : ¬ 9223372036854775807 < (Lib.itoa p).length + 1 := by have := itoa_len p hp0 hp1; omega
  have n2 : ¬ 9223372036854775807 < (Lib.itoa p).length + 1 + (nameB c).length := by have := itoa_len p hp0 hp1; have := nameB_len c hc0 hc1; omega
  have n3 : ¬ 9223372036854775807 < (Lib.itoa p).length + 1 + (nameB c).length + 1 := by have := itoa_len p hp0 hp1; have := nameB_len c hc0 hc1; omega
  have HV := Lib.hid (fun w ht => fmtu_any v (by omega) (by omega) w ht)
  have l1 := itoa_len p hp0 hp1
  have l2 := nameB_len c hc0 hc1
  have l3 := itoa_len v (by omega) (by omega)
  have HL := Lib.hid (show lineB p c v m = Lib.itoa p ++ [32] ++ nameB c ++ [32] ++ (Lib.itoa v ++ [] ++ [10]) by unfold lineB; rw [if_neg (by omega), if_neg (by omega)])
  have hc4b : (c == 4) = false := by simp [hc4]
  have hc10b : (c == 10) = false := by simp [hc10]
  have HP := Lib.hid (fun w ht => itoa_any p hp0 hp1 w ht)
  have HN := Lib.hid (fun w ht => name_any c hc0 hc1 w ht)
  have E0 : Ev w p c v m (w.alloc (.cells #[.int .i64 p, .int .i64 c, .int .u32 v, .int .u32 m] 26)) :=
    ⟨⟨by go_simp, by go_simp, by go_simp, by go_simp⟩, (Below.refl _ _).alloc (Nat.le_refl _) _, by simp, ht.alloc _⟩
  have HE := Lib.hid E0
  clear hp0 hp1 hc0 hc1 E0 ht hc4 hc10
  go_enter Tryd.func8, Tryd.ntmps8
  go_wp2_with fail
  go_region_held3 (fun w' => w'.cell? ⟨w.heap.size, 0, none⟩ = some (.int .i64 p) ∧ w'.cell? ⟨w.heap.size, 1, none⟩ = some (.int .i64 c) ∧ Ev w p c v m w')
    (first | exact (Ev.drew HE.out).cells | (go_split_ands; exact (Ev.on (by assumption) hb).cells) | exact (Ev.on (Ev.drew HE.out) hb).cells)
    (first | (go_at_call 19; refine (HP.out _ ?_).mono ?_; (go_split_ands; exact Ev.tab (by assumption)); rintro e w' ⟨rfl, hb⟩) | (go_at_call 20; refine (HN.out _ ?_).mono ?_; (go_split_ands; exact Ev.tab (by assumption)); rintro e w' ⟨rfl, hb⟩))
  go_split_ands
  rename Ev w p c v m _ => E1
  have g2 := E1.1.2.2.1
  have E1 := Lib.hid E1
  go_wp2_with fail
  refine (error_no v hv0 hv _).mono ?_
  rintro e w1 ⟨rfl, rfl⟩
  go_wp2_with fail
  refine (HV.out _ E1.out.tab).mono ?_
  rintro e w1 ⟨rfl, hb2⟩
  have E2 := E1.out.on hb2
  have g1 := E2.1.2.1
  have g3 := E2.1.2.2.2
  have E2 := Lib.hid E2
  go_wp2_with fail
  all_goals try (exfalso; omega)
  go_ret
  exact ⟨str_ret (by rw [HL.out]; simp), E2.out.2.1⟩

set_option maxHeartbeats 2000000 in
theorem print_four (p c v m : Int) (hp0 : -9223372036854775808 ≤ p) (hp1 : p ≤ 9223372036854775807) (hc0 : -9223372036854775808 ≤ c) (hc1 : c ≤ 9223372036854775807)
    (hv0 : 0 ≤ v) (hv : v < 4294967272) (hm0 : 0 ≤ m) (hm1 : m ≤ 4294967295) (hc : c = 4) (w : World) (ht : Tab w) :
    Calls Tryd.prog 8 #[.agg #[.int .i64 p, .int .i64 c, .int .u32 v, .int .u32 m]] w fun e w' => e = .returned (.string ⟨(lineB p c v m).toArray⟩) ∧ Below w.heap.size w w' := by
  have n1 : ¬ 9223372036854775807 < (Lib.itoa p).length + 1 := by have := itoa_len p hp0 hp1; omega
  have n2 : ¬ 9223372036854775807 < (Lib.itoa p).length + 1 + (nameB c).length := by have := itoa_len p hp0 hp1; have := nameB_len c hc0 hc1; omega
  have n3 : ¬ 9223372036854775807 < (Lib.itoa p).length + 1 + (nameB c).length + 1 := by have := itoa_len p hp0 hp1; have := nameB_len c hc0 hc1; omega
  have HV := Lib.hid (fun w ht => fmtu_any v (by omega) (by omega) w ht)
  have l1 := itoa_len p hp0 hp1
  have l2 := nameB_len c hc0 hc1
  have l3 := itoa_len v (by omega) (by omega)
  have HM := Lib.hid (fun w ht => fmtu_any m (by omega) (by omega) w ht)
  have l4 := itoa_len m (by omega) (by omega)
  have HL := Lib.hid (show lineB p c v m = Lib.itoa p ++ [32] ++ nameB c ++ [32] ++ (Lib.itoa v ++ ([32] ++ Lib.itoa m) ++ [10]) by unfold lineB; rw [if_neg (by omega), if_pos (by omega)])
  have hc4 : (c == 4) = true := by simp [hc]
  have HP := Lib.hid (fun w ht => itoa_any p hp0 hp1 w ht)
  have HN := Lib.hid (fun w ht => name_any c hc0 hc1 w ht)
  have E0 : Ev w p c v m (w.alloc (.cells #[.int .i64 p, .int .i64 c, .int .u32 v, .int .u32 m] 26)) :=
    ⟨⟨by go_simp, by go_simp, by go_simp, by go_simp⟩, (Below.refl _ _).alloc (Nat.le_refl _) _, by simp, ht.alloc _⟩
  have HE := Lib.hid E0
  clear hp0 hp1 hc0 hc1 E0 ht hc
  go_enter Tryd.func8, Tryd.ntmps8
  go_wp2_with fail
  go_region_held3 (fun w' => w'.cell? ⟨w.heap.size, 0, none⟩ = some (.int .i64 p) ∧ w'.cell? ⟨w.heap.size, 1, none⟩ = some (.int .i64 c) ∧ Ev w p c v m w')
    (first | exact (Ev.drew HE.out).cells | (go_split_ands; exact (Ev.on (by assumption) hb).cells) | exact (Ev.on (Ev.drew HE.out) hb).cells)
    (first | (go_at_call 19; refine (HP.out _ ?_).mono ?_; (go_split_ands; exact Ev.tab (by assumption)); rintro e w' ⟨rfl, hb⟩) | (go_at_call 20; refine (HN.out _ ?_).mono ?_; (go_split_ands; exact Ev.tab (by assumption)); rintro e w' ⟨rfl, hb⟩))
  go_split_ands
  rename Ev w p c v m _ => E1
  have g2 := E1.1.2.2.1
  have E1 := Lib.hid E1
  go_wp2_with fail
  refine (error_no v hv0 hv _).mono ?_
  rintro e w1 ⟨rfl, rfl⟩
  go_wp2_with fail
  refine (HV.out _ E1.out.tab).mono ?_
  rintro e w1 ⟨rfl, hb2⟩
  have E2 := E1.out.on hb2
  have g1 := E2.1.2.1
  have g3 := E2.1.2.2.2
  have E2 := Lib.hid E2
  go_wp2_with fail
  all_goals try (exfalso; omega)
  refine (HM.out _ E2.out.tab).mono ?_
  rintro e w1 ⟨rfl, hb3⟩
  go_wp2_with fail
  all_goals try (exfalso; omega)
  go_ret
  exact ⟨str_ret (by rw [HL.out]; simp), (E2.out.on hb3).2.1⟩

set_option maxHeartbeats 2000000 in
theorem print_ten (p c v m : Int) (hp0 : -9223372036854775808 ≤ p) (hp1 : p ≤ 9223372036854775807) (hc0 : -9223372036854775808 ≤ c) (hc1 : c ≤ 9223372036854775807)
    (hv0 : 0 ≤ v) (hv : v < 4294967272) (hm0 : 0 ≤ m) (hm1 : m ≤ 4294967295) (hc : c = 10) (w : World) (ht : Tab w) :
    Calls Tryd.prog 8 #[.agg #[.int .i64 p, .int .i64 c, .int .u32 v, .int .u32 m]] w fun e w' => e = .returned (.string ⟨(lineB p c v m).toArray⟩) ∧ Below w.heap.size w w' := by
  have n1 : ¬ 9223372036854775807 < (Lib.itoa p).length + 1 := by have := itoa_len p hp0 hp1; omega
  have n2 : ¬ 9223372036854775807 < (Lib.itoa p).length + 1 + (nameB c).length := by have := itoa_len p hp0 hp1; have := nameB_len c hc0 hc1; omega
  have n3 : ¬ 9223372036854775807 < (Lib.itoa p).length + 1 + (nameB c).length + 1 := by have := itoa_len p hp0 hp1; have := nameB_len c hc0 hc1; omega
  have HV := Lib.hid (fun w ht => fmtu_any v (by omega) (by omega) w ht)
  have l1 := itoa_len p hp0 hp1
  have l2 := nameB_len c hc0 hc1
  have l3 := itoa_len v (by omega) (by omega)
  have HM := Lib.hid (fun w ht => fmtu_any m (by omega) (by omega) w ht)
  have l4 := itoa_len m (by omega) (by omega)
  have HL := Lib.hid (show lineB p c v m = Lib.itoa p ++ [32] ++ nameB c ++ [32] ++ (Lib.itoa v ++ ([32] ++ Lib.itoa m) ++ [10]) by unfold lineB; rw [if_neg (by omega), if_pos (by omega)])
  have hc4 : (c == 4) = false := by simp [hc]
  have hc10 : (c == 10) = true := by simp [hc]
  have HP := Lib.hid (fun w ht => itoa_any p hp0 hp1 w ht)
  have HN := Lib.hid (fun w ht => name_any c hc0 hc1 w ht)
  have E0 : Ev w p c v m (w.alloc (.cells #[.int .i64 p, .int .i64 c, .int .u32 v, .int .u32 m] 26)) :=
    ⟨⟨by go_simp, by go_simp, by go_simp, by go_simp⟩, (Below.refl _ _).alloc (Nat.le_refl _) _, by simp, ht.alloc _⟩
  have HE := Lib.hid E0
  clear hp0 hp1 hc0 hc1 E0 ht hc
  go_enter Tryd.func8, Tryd.ntmps8
  go_wp2_with fail
  go_region_held3 (fun w' => w'.cell? ⟨w.heap.size, 0, none⟩ = some (.int .i64 p) ∧ w'.cell? ⟨w.heap.size, 1, none⟩ = some (.int .i64 c) ∧ Ev w p c v m w')
    (first | exact (Ev.drew HE.out).cells | (go_split_ands; exact (Ev.on (by assumption) hb).cells) | exact (Ev.on (Ev.drew HE.out) hb).cells)
    (first | (go_at_call 19; refine (HP.out _ ?_).mono ?_; (go_split_ands; exact Ev.tab (by assumption)); rintro e w' ⟨rfl, hb⟩) | (go_at_call 20; refine (HN.out _ ?_).mono ?_; (go_split_ands; exact Ev.tab (by assumption)); rintro e w' ⟨rfl, hb⟩))
  go_split_ands
  rename Ev w p c v m _ => E1
  have g2 := E1.1.2.2.1
  have E1 := Lib.hid E1
  go_wp2_with fail
  refine (error_no v hv0 hv _).mono ?_
  rintro e w1 ⟨rfl, rfl⟩
  go_wp2_with fail
  refine (HV.out _ E1.out.tab).mono ?_
  rintro e w1 ⟨rfl, hb2⟩
  have E2 := E1.out.on hb2
  have g1 := E2.1.2.1
  have g3 := E2.1.2.2.2
  have E2 := Lib.hid E2
  go_wp2_with fail
  all_goals try (exfalso; omega)
  refine (HM.out _ E2.out.tab).mono ?_
  rintro e w1 ⟨rfl, hb3⟩
  go_wp2_with fail
  all_goals try (exfalso; omega)
  go_ret
  exact ⟨str_ret (by rw [HL.out]; simp), (E2.out.on hb3).2.1⟩

theorem print_any (p c v m : Int) (hp0 : -9223372036854775808 ≤ p) (hp1 : p ≤ 9223372036854775807) (hc0 : -9223372036854775808 ≤ c) (hc1 : c ≤ 9223372036854775807)
    (hv0 : 0 ≤ v) (hv1 : v ≤ 4294967295) (hm0 : 0 ≤ m) (hm1 : m ≤ 4294967295) (w : World) (ht : Tab w) :
    Calls Tryd.prog 8 #[.agg #[.int .i64 p, .int .i64 c, .int .u32 v, .int .u32 m]] w fun e w' => e = .returned (.string ⟨(lineB p c v m).toArray⟩) ∧ Below w.heap.size w w' := by
  by_cases hv : 4294967272 ≤ v
  · by_cases hc : c = 0
    · exact print_zero p c v m hp0 hp1 hc0 hc1 hv hv1 hc w ht
    · exact print_err p c v m hp0 hp1 hc0 hc1 hv hv1 hc w ht
  · by_cases h4 : c = 4
    · exact print_four p c v m hp0 hp1 hc0 hc1 hv0 (by omega) hm0 hm1 h4 w ht
    · by_cases h10 : c = 10
      · exact print_ten p c v m hp0 hp1 hc0 hc1 hv0 (by omega) hm0 hm1 h10 w ht
      · exact print_plain p c v m hp0 hp1 hc0 hc1 hv0 (by omega) h4 h10 w ht
end Go.Proofs.YtdijbkfcfjhajaaDoor
