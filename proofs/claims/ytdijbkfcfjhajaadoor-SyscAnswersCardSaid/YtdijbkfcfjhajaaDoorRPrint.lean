/- Chapter 38's line of an event as the reference writes it, and the example. -/
import Derived.Test.YtdijbkfcfjhajaaDoorPrint
namespace Go.Proofs.YtdijbkfcfjhajaaDoor
open Go.RowKit Go.Sort Go.Lib
set_option maxRecDepth 100000

set_option maxHeartbeats 2000000 in
theorem rprint_in_err (p c v m : Int) (hp0 : -9223372036854775808 < p) (hp1 : p ≤ 9223372036854775807) (_hc0 : -9223372036854775808 < c) (_hc1 : c ≤ 9223372036854775807)
    (hi0 : 0 ≤ c) (hi1 : c ≤ 22) (hv : 4294967272 ≤ v) (hv1 : v ≤ 4294967295) (hc : c ≠ 0) (w : World) :
    Calls Tryd.prog 9 #[.int .i64 p, .int .i64 c, .int .u32 v, .int .u32 m] w fun e w' => e = .returned (.string ⟨(lineB p c v m).toArray⟩) ∧ Below w.heap.size w w' := by
  have HP := Lib.hid (fun w => digits_any p hp0 hp1 w)
  have l1 := itoa_len p (by omega) hp1
  have hn : nameArr[c.toNat]? = some (.string ⟨(nameAt c.toNat).toArray⟩) := nameArr_at _ (by omega)
  have hB := Lib.hid (show nameB c = nameAt c.toNat by unfold nameB; rw [if_pos (by omega)])
  have l2 : (nameAt c.toNat).length ≤ 6 := nameAt_len ⟨c.toNat, by omega⟩
  have HE2 := Lib.hid (fun w => digits_any (4294967296 - v) (by omega) (by omega) w)
  have l3 := itoa_len (4294967296 - v) (by omega) (by omega)
  have HL := Lib.hid (show lineB p c v m = Lib.itoa p ++ [32] ++ nameB c ++ [32] ++ ([101, 114, 114, 111, 114, 32] ++ Lib.itoa (4294967296 - v) ++ [10]) by unfold lineB; rw [if_pos (by omega)])
  have hq0 : (c != 0) = true := by simp; omega
  clear hp0 hp1 _hc0 _hc1 hc
  go_enter Tryd.func9, Tryd.ntmps9
  go_wp2_with (first | refine wpList_buildSliceAs rfl 54 9 23 _ rfl nameArr Tryd.underlying54 (by decide) (by decide) (by kernel_rfl) ?_ | fail)
  refine (HP.out _).mono ?_
  rintro e w1 ⟨rfl, rfl⟩
  go_wp2_with fail
  all_goals try (exfalso; omega)
  refine (rerror_yes v hv hv1 _).mono ?_
  rintro e w1 ⟨rfl, rfl⟩
  go_wp2_with fail
  all_goals try (exfalso; omega)
  refine (rerror_yes v hv hv1 _).mono ?_
  rintro e w1 ⟨rfl, rfl⟩
  go_wp2_with fail
  all_goals try (exfalso; omega)
  refine (HE2.out _).mono ?_
  rintro e w1 ⟨rfl, rfl⟩
  go_wp2_with fail
  all_goals try (exfalso; omega)
  go_ret
  exact ⟨str_ret (by rw [HL.out, hB.out]; simp), (Below.refl _ _).alloc (Nat.le_refl _) _⟩

set_option maxHeartbeats 2000000 in
theorem rprint_in_zero (p c v m : Int) (hp0 : -9223372036854775808 < p) (hp1 : p ≤ 9223372036854775807) (_hc0 : -9223372036854775808 < c) (_hc1 : c ≤ 9223372036854775807)
    (hv : 4294967272 ≤ v) (hv1 : v ≤ 4294967295) (hc : c = 0) (w : World) :
    Calls Tryd.prog 9 #[.int .i64 p, .int .i64 c, .int .u32 v, .int .u32 m] w fun e w' => e = .returned (.string ⟨(lineB p c v m).toArray⟩) ∧ Below w.heap.size w w' := by
  have HP := Lib.hid (fun w => digits_any p hp0 hp1 w)
  have l1 := itoa_len p (by omega) hp1
  have hn : nameArr[c.toNat]? = some (.string ⟨(nameAt c.toNat).toArray⟩) := nameArr_at _ (by omega)
  have hB := Lib.hid (show nameB c = nameAt c.toNat by unfold nameB; rw [if_pos (by omega)])
  have l2 : (nameAt c.toNat).length ≤ 6 := nameAt_len ⟨c.toNat, by omega⟩
  have HV := Lib.hid (fun w => digits_any v (by omega) (by omega) w)
  have l3 := itoa_len v (by omega) (by omega)
  have HL := Lib.hid (show lineB p c v m = Lib.itoa p ++ [32] ++ nameB c ++ [32] ++ (Lib.itoa v ++ [] ++ [10]) by unfold lineB; rw [if_neg (by omega), if_neg (by omega)])
  have hq0 : (c != 0) = false := by simp; omega
  have hq4 : (c == 4) = false := by simp; omega
  have hq10 : (c == 10) = false := by simp; omega
  have hi0 : 0 ≤ c := by omega
  have hi1 : c ≤ 22 := by omega
  clear hp0 hp1 _hc0 _hc1 hc
  go_enter Tryd.func9, Tryd.ntmps9
  go_wp2_with (first | refine wpList_buildSliceAs rfl 54 9 23 _ rfl nameArr Tryd.underlying54 (by decide) (by decide) (by kernel_rfl) ?_ | fail)
  refine (HP.out _).mono ?_
  rintro e w1 ⟨rfl, rfl⟩
  go_wp2_with fail
  all_goals try (exfalso; omega)
  refine (HV.out _).mono ?_
  rintro e w1 ⟨rfl, rfl⟩
  go_wp2_with fail
  all_goals try (exfalso; omega)
  go_ret
  exact ⟨str_ret (by rw [HL.out, hB.out]; simp), (Below.refl _ _).alloc (Nat.le_refl _) _⟩

set_option maxHeartbeats 2000000 in
theorem rprint_in_plain (p c v m : Int) (hp0 : -9223372036854775808 < p) (hp1 : p ≤ 9223372036854775807) (_hc0 : -9223372036854775808 < c) (_hc1 : c ≤ 9223372036854775807)
    (hi0 : 0 ≤ c) (hi1 : c ≤ 22) (hv0 : 0 ≤ v) (hv : v < 4294967272) (hz : c ≠ 0) (h4 : ¬ c = 4) (h10 : ¬ c = 10) (w : World) :
    Calls Tryd.prog 9 #[.int .i64 p, .int .i64 c, .int .u32 v, .int .u32 m] w fun e w' => e = .returned (.string ⟨(lineB p c v m).toArray⟩) ∧ Below w.heap.size w w' := by
  have HP := Lib.hid (fun w => digits_any p hp0 hp1 w)
  have l1 := itoa_len p (by omega) hp1
  have hn : nameArr[c.toNat]? = some (.string ⟨(nameAt c.toNat).toArray⟩) := nameArr_at _ (by omega)
  have hB := Lib.hid (show nameB c = nameAt c.toNat by unfold nameB; rw [if_pos (by omega)])
  have l2 : (nameAt c.toNat).length ≤ 6 := nameAt_len ⟨c.toNat, by omega⟩
  have HV := Lib.hid (fun w => digits_any v (by omega) (by omega) w)
  have l3 := itoa_len v (by omega) (by omega)
  have HL := Lib.hid (show lineB p c v m = Lib.itoa p ++ [32] ++ nameB c ++ [32] ++ (Lib.itoa v ++ [] ++ [10]) by unfold lineB; rw [if_neg (by omega), if_neg (by omega)])
  have hq0 : (c != 0) = true := by simp; omega
  have hq4 : (c == 4) = false := by simp; omega
  have hq10 : (c == 10) = false := by simp; omega
  clear hp0 hp1 _hc0 _hc1 hz h4 h10
  go_enter Tryd.func9, Tryd.ntmps9
  go_wp2_with (first | refine wpList_buildSliceAs rfl 54 9 23 _ rfl nameArr Tryd.underlying54 (by decide) (by decide) (by kernel_rfl) ?_ | fail)
  refine (HP.out _).mono ?_
  rintro e w1 ⟨rfl, rfl⟩
  go_wp2_with fail
  all_goals try (exfalso; omega)
  refine (rerror_no v hv0 hv _).mono ?_
  rintro e w1 ⟨rfl, rfl⟩
  go_wp2_with fail
  all_goals try (exfalso; omega)
  refine (HV.out _).mono ?_
  rintro e w1 ⟨rfl, rfl⟩
  go_wp2_with fail
  all_goals try (exfalso; omega)
  go_ret
  exact ⟨str_ret (by rw [HL.out, hB.out]; simp), (Below.refl _ _).alloc (Nat.le_refl _) _⟩

set_option maxHeartbeats 2000000 in
theorem rprint_in_zplain (p c v m : Int) (hp0 : -9223372036854775808 < p) (hp1 : p ≤ 9223372036854775807) (_hc0 : -9223372036854775808 < c) (_hc1 : c ≤ 9223372036854775807)
    (hv0 : 0 ≤ v) (hv : v < 4294967272) (hc : c = 0) (w : World) :
    Calls Tryd.prog 9 #[.int .i64 p, .int .i64 c, .int .u32 v, .int .u32 m] w fun e w' => e = .returned (.string ⟨(lineB p c v m).toArray⟩) ∧ Below w.heap.size w w' := by
  have HP := Lib.hid (fun w => digits_any p hp0 hp1 w)
  have l1 := itoa_len p (by omega) hp1
  have hn : nameArr[c.toNat]? = some (.string ⟨(nameAt c.toNat).toArray⟩) := nameArr_at _ (by omega)
  have hB := Lib.hid (show nameB c = nameAt c.toNat by unfold nameB; rw [if_pos (by omega)])
  have l2 : (nameAt c.toNat).length ≤ 6 := nameAt_len ⟨c.toNat, by omega⟩
  have HV := Lib.hid (fun w => digits_any v (by omega) (by omega) w)
  have l3 := itoa_len v (by omega) (by omega)
  have HL := Lib.hid (show lineB p c v m = Lib.itoa p ++ [32] ++ nameB c ++ [32] ++ (Lib.itoa v ++ [] ++ [10]) by unfold lineB; rw [if_neg (by omega), if_neg (by omega)])
  have hq0 : (c != 0) = false := by simp; omega
  have hq4 : (c == 4) = false := by simp; omega
  have hq10 : (c == 10) = false := by simp; omega
  have hi0 : 0 ≤ c := by omega
  have hi1 : c ≤ 22 := by omega
  clear hp0 hp1 _hc0 _hc1 hc
  go_enter Tryd.func9, Tryd.ntmps9
  go_wp2_with (first | refine wpList_buildSliceAs rfl 54 9 23 _ rfl nameArr Tryd.underlying54 (by decide) (by decide) (by kernel_rfl) ?_ | fail)
  refine (HP.out _).mono ?_
  rintro e w1 ⟨rfl, rfl⟩
  go_wp2_with fail
  all_goals try (exfalso; omega)
  refine (HV.out _).mono ?_
  rintro e w1 ⟨rfl, rfl⟩
  go_wp2_with fail
  all_goals try (exfalso; omega)
  go_ret
  exact ⟨str_ret (by rw [HL.out, hB.out]; simp), (Below.refl _ _).alloc (Nat.le_refl _) _⟩

set_option maxHeartbeats 2000000 in
theorem rprint_in_four (p c v m : Int) (hp0 : -9223372036854775808 < p) (hp1 : p ≤ 9223372036854775807) (_hc0 : -9223372036854775808 < c) (_hc1 : c ≤ 9223372036854775807)
    (hv0 : 0 ≤ v) (hv : v < 4294967272) (hm0 : 0 ≤ m) (hm1 : m ≤ 4294967295) (hc : c = 4) (w : World) :
    Calls Tryd.prog 9 #[.int .i64 p, .int .i64 c, .int .u32 v, .int .u32 m] w fun e w' => e = .returned (.string ⟨(lineB p c v m).toArray⟩) ∧ Below w.heap.size w w' := by
  have HP := Lib.hid (fun w => digits_any p hp0 hp1 w)
  have l1 := itoa_len p (by omega) hp1
  have hn : nameArr[c.toNat]? = some (.string ⟨(nameAt c.toNat).toArray⟩) := nameArr_at _ (by omega)
  have hB := Lib.hid (show nameB c = nameAt c.toNat by unfold nameB; rw [if_pos (by omega)])
  have l2 : (nameAt c.toNat).length ≤ 6 := nameAt_len ⟨c.toNat, by omega⟩
  have HV := Lib.hid (fun w => digits_any v (by omega) (by omega) w)
  have l3 := itoa_len v (by omega) (by omega)
  have HM := Lib.hid (fun w => digits_any m (by omega) (by omega) w)
  have l4 := itoa_len m (by omega) (by omega)
  have HL := Lib.hid (show lineB p c v m = Lib.itoa p ++ [32] ++ nameB c ++ [32] ++ (Lib.itoa v ++ ([32] ++ Lib.itoa m) ++ [10]) by unfold lineB; rw [if_neg (by omega), if_pos (by omega)])
  have hq0 : (c != 0) = true := by simp; omega
  have hq4 : (c == 4) = true := by simp; omega
  have hi0 : 0 ≤ c := by omega
  have hi1 : c ≤ 22 := by omega
  clear hp0 hp1 _hc0 _hc1 hc
  go_enter Tryd.func9, Tryd.ntmps9
  go_wp2_with (first | refine wpList_buildSliceAs rfl 54 9 23 _ rfl nameArr Tryd.underlying54 (by decide) (by decide) (by kernel_rfl) ?_ | fail)
  refine (HP.out _).mono ?_
  rintro e w1 ⟨rfl, rfl⟩
  go_wp2_with fail
  all_goals try (exfalso; omega)
  refine (rerror_no v hv0 hv _).mono ?_
  rintro e w1 ⟨rfl, rfl⟩
  go_wp2_with fail
  all_goals try (exfalso; omega)
  refine (HV.out _).mono ?_
  rintro e w1 ⟨rfl, rfl⟩
  go_wp2_with fail
  all_goals try (exfalso; omega)
  refine (HM.out _).mono ?_
  rintro e w1 ⟨rfl, rfl⟩
  go_wp2_with fail
  all_goals try (exfalso; omega)
  go_ret
  exact ⟨str_ret (by rw [HL.out, hB.out]; simp), (Below.refl _ _).alloc (Nat.le_refl _) _⟩

set_option maxHeartbeats 2000000 in
theorem rprint_in_ten (p c v m : Int) (hp0 : -9223372036854775808 < p) (hp1 : p ≤ 9223372036854775807) (_hc0 : -9223372036854775808 < c) (_hc1 : c ≤ 9223372036854775807)
    (hv0 : 0 ≤ v) (hv : v < 4294967272) (hm0 : 0 ≤ m) (hm1 : m ≤ 4294967295) (hc : c = 10) (w : World) :
    Calls Tryd.prog 9 #[.int .i64 p, .int .i64 c, .int .u32 v, .int .u32 m] w fun e w' => e = .returned (.string ⟨(lineB p c v m).toArray⟩) ∧ Below w.heap.size w w' := by
  have HP := Lib.hid (fun w => digits_any p hp0 hp1 w)
  have l1 := itoa_len p (by omega) hp1
  have hn : nameArr[c.toNat]? = some (.string ⟨(nameAt c.toNat).toArray⟩) := nameArr_at _ (by omega)
  have hB := Lib.hid (show nameB c = nameAt c.toNat by unfold nameB; rw [if_pos (by omega)])
  have l2 : (nameAt c.toNat).length ≤ 6 := nameAt_len ⟨c.toNat, by omega⟩
  have HV := Lib.hid (fun w => digits_any v (by omega) (by omega) w)
  have l3 := itoa_len v (by omega) (by omega)
  have HM := Lib.hid (fun w => digits_any m (by omega) (by omega) w)
  have l4 := itoa_len m (by omega) (by omega)
  have HL := Lib.hid (show lineB p c v m = Lib.itoa p ++ [32] ++ nameB c ++ [32] ++ (Lib.itoa v ++ ([32] ++ Lib.itoa m) ++ [10]) by unfold lineB; rw [if_neg (by omega), if_pos (by omega)])
  have hq0 : (c != 0) = true := by simp; omega
  have hq4 : (c == 4) = false := by simp; omega
  have hq10 : (c == 10) = true := by simp; omega
  have hi0 : 0 ≤ c := by omega
  have hi1 : c ≤ 22 := by omega
  clear hp0 hp1 _hc0 _hc1 hc
  go_enter Tryd.func9, Tryd.ntmps9
  go_wp2_with (first | refine wpList_buildSliceAs rfl 54 9 23 _ rfl nameArr Tryd.underlying54 (by decide) (by decide) (by kernel_rfl) ?_ | fail)
  refine (HP.out _).mono ?_
  rintro e w1 ⟨rfl, rfl⟩
  go_wp2_with fail
  all_goals try (exfalso; omega)
  refine (rerror_no v hv0 hv _).mono ?_
  rintro e w1 ⟨rfl, rfl⟩
  go_wp2_with fail
  all_goals try (exfalso; omega)
  refine (HV.out _).mono ?_
  rintro e w1 ⟨rfl, rfl⟩
  go_wp2_with fail
  all_goals try (exfalso; omega)
  refine (HM.out _).mono ?_
  rintro e w1 ⟨rfl, rfl⟩
  go_wp2_with fail
  all_goals try (exfalso; omega)
  go_ret
  exact ⟨str_ret (by rw [HL.out, hB.out]; simp), (Below.refl _ _).alloc (Nat.le_refl _) _⟩

set_option maxHeartbeats 2000000 in
theorem rprint_lo_err (p c v m : Int) (hp0 : -9223372036854775808 < p) (hp1 : p ≤ 9223372036854775807) (hc0 : -9223372036854775808 < c) (hc1 : c ≤ 9223372036854775807)
    (ho : c < 0) (hv : 4294967272 ≤ v) (hv1 : v ≤ 4294967295) (w : World) :
    Calls Tryd.prog 9 #[.int .i64 p, .int .i64 c, .int .u32 v, .int .u32 m] w fun e w' => e = .returned (.string ⟨(lineB p c v m).toArray⟩) ∧ Below w.heap.size w w' := by
  have HP := Lib.hid (fun w => digits_any p hp0 hp1 w)
  have l1 := itoa_len p (by omega) hp1
  have hB := Lib.hid (show nameB c = [99, 97, 108, 108, 32] ++ Lib.itoa c by unfold nameB; rw [if_neg (by omega)])
  have HC := Lib.hid (fun w => digits_any c hc0 hc1 w)
  have l2 := itoa_len c (by omega) hc1
  have HE2 := Lib.hid (fun w => digits_any (4294967296 - v) (by omega) (by omega) w)
  have l3 := itoa_len (4294967296 - v) (by omega) (by omega)
  have HL := Lib.hid (show lineB p c v m = Lib.itoa p ++ [32] ++ nameB c ++ [32] ++ ([101, 114, 114, 111, 114, 32] ++ Lib.itoa (4294967296 - v) ++ [10]) by unfold lineB; rw [if_pos (by omega)])
  have hq0 : (c != 0) = true := by simp; omega
  clear hp0 hp1 hc0 hc1 
  go_enter Tryd.func9, Tryd.ntmps9
  go_wp2_with (first | refine wpList_buildSliceAs rfl 54 9 23 _ rfl nameArr Tryd.underlying54 (by decide) (by decide) (by kernel_rfl) ?_ | fail)
  refine (HP.out _).mono ?_
  rintro e w1 ⟨rfl, rfl⟩
  go_wp2_with fail
  all_goals try (exfalso; omega)
  refine (HC.out _).mono ?_
  rintro e w1 ⟨rfl, rfl⟩
  go_wp2_with fail
  all_goals try (exfalso; omega)
  refine (rerror_yes v hv hv1 _).mono ?_
  rintro e w1 ⟨rfl, rfl⟩
  go_wp2_with fail
  all_goals try (exfalso; omega)
  refine (rerror_yes v hv hv1 _).mono ?_
  rintro e w1 ⟨rfl, rfl⟩
  go_wp2_with fail
  all_goals try (exfalso; omega)
  refine (HE2.out _).mono ?_
  rintro e w1 ⟨rfl, rfl⟩
  go_wp2_with fail
  all_goals try (exfalso; omega)
  go_ret
  exact ⟨str_ret (by rw [HL.out, hB.out]; simp), (Below.refl _ _).alloc (Nat.le_refl _) _⟩

set_option maxHeartbeats 2000000 in
theorem rprint_lo_plain (p c v m : Int) (hp0 : -9223372036854775808 < p) (hp1 : p ≤ 9223372036854775807) (hc0 : -9223372036854775808 < c) (hc1 : c ≤ 9223372036854775807)
    (ho : c < 0) (hv0 : 0 ≤ v) (hv : v < 4294967272) (w : World) :
    Calls Tryd.prog 9 #[.int .i64 p, .int .i64 c, .int .u32 v, .int .u32 m] w fun e w' => e = .returned (.string ⟨(lineB p c v m).toArray⟩) ∧ Below w.heap.size w w' := by
  have HP := Lib.hid (fun w => digits_any p hp0 hp1 w)
  have l1 := itoa_len p (by omega) hp1
  have hB := Lib.hid (show nameB c = [99, 97, 108, 108, 32] ++ Lib.itoa c by unfold nameB; rw [if_neg (by omega)])
  have HC := Lib.hid (fun w => digits_any c hc0 hc1 w)
  have l2 := itoa_len c (by omega) hc1
  have HV := Lib.hid (fun w => digits_any v (by omega) (by omega) w)
  have l3 := itoa_len v (by omega) (by omega)
  have HL := Lib.hid (show lineB p c v m = Lib.itoa p ++ [32] ++ nameB c ++ [32] ++ (Lib.itoa v ++ [] ++ [10]) by unfold lineB; rw [if_neg (by omega), if_neg (by omega)])
  have hq0 : (c != 0) = true := by simp; omega
  have hq4 : (c == 4) = false := by simp; omega
  have hq10 : (c == 10) = false := by simp; omega
  clear hp0 hp1 hc0 hc1 
  go_enter Tryd.func9, Tryd.ntmps9
  go_wp2_with (first | refine wpList_buildSliceAs rfl 54 9 23 _ rfl nameArr Tryd.underlying54 (by decide) (by decide) (by kernel_rfl) ?_ | fail)
  refine (HP.out _).mono ?_
  rintro e w1 ⟨rfl, rfl⟩
  go_wp2_with fail
  all_goals try (exfalso; omega)
  refine (HC.out _).mono ?_
  rintro e w1 ⟨rfl, rfl⟩
  go_wp2_with fail
  all_goals try (exfalso; omega)
  refine (rerror_no v hv0 hv _).mono ?_
  rintro e w1 ⟨rfl, rfl⟩
  go_wp2_with fail
  all_goals try (exfalso; omega)
  refine (HV.out _).mono ?_
  rintro e w1 ⟨rfl, rfl⟩
  go_wp2_with fail
  all_goals try (exfalso; omega)
  go_ret
  exact ⟨str_ret (by rw [HL.out, hB.out]; simp), (Below.refl _ _).alloc (Nat.le_refl _) _⟩

set_option maxHeartbeats 2000000 in
theorem rprint_hi_err (p c v m : Int) (hp0 : -9223372036854775808 < p) (hp1 : p ≤ 9223372036854775807) (hc0 : -9223372036854775808 < c) (hc1 : c ≤ 9223372036854775807)
    (ho : 22 < c) (hv : 4294967272 ≤ v) (hv1 : v ≤ 4294967295) (w : World) :
    Calls Tryd.prog 9 #[.int .i64 p, .int .i64 c, .int .u32 v, .int .u32 m] w fun e w' => e = .returned (.string ⟨(lineB p c v m).toArray⟩) ∧ Below w.heap.size w w' := by
  have HP := Lib.hid (fun w => digits_any p hp0 hp1 w)
  have l1 := itoa_len p (by omega) hp1
  have hB := Lib.hid (show nameB c = [99, 97, 108, 108, 32] ++ Lib.itoa c by unfold nameB; rw [if_neg (by omega)])
  have HC := Lib.hid (fun w => digits_any c hc0 hc1 w)
  have l2 := itoa_len c (by omega) hc1
  have HE2 := Lib.hid (fun w => digits_any (4294967296 - v) (by omega) (by omega) w)
  have l3 := itoa_len (4294967296 - v) (by omega) (by omega)
  have HL := Lib.hid (show lineB p c v m = Lib.itoa p ++ [32] ++ nameB c ++ [32] ++ ([101, 114, 114, 111, 114, 32] ++ Lib.itoa (4294967296 - v) ++ [10]) by unfold lineB; rw [if_pos (by omega)])
  have hq0 : (c != 0) = true := by simp; omega
  clear hp0 hp1 hc0 hc1 
  go_enter Tryd.func9, Tryd.ntmps9
  go_wp2_with (first | refine wpList_buildSliceAs rfl 54 9 23 _ rfl nameArr Tryd.underlying54 (by decide) (by decide) (by kernel_rfl) ?_ | fail)
  refine (HP.out _).mono ?_
  rintro e w1 ⟨rfl, rfl⟩
  go_wp2_with fail
  all_goals try (exfalso; omega)
  refine (HC.out _).mono ?_
  rintro e w1 ⟨rfl, rfl⟩
  go_wp2_with fail
  all_goals try (exfalso; omega)
  refine (rerror_yes v hv hv1 _).mono ?_
  rintro e w1 ⟨rfl, rfl⟩
  go_wp2_with fail
  all_goals try (exfalso; omega)
  refine (rerror_yes v hv hv1 _).mono ?_
  rintro e w1 ⟨rfl, rfl⟩
  go_wp2_with fail
  all_goals try (exfalso; omega)
  refine (HE2.out _).mono ?_
  rintro e w1 ⟨rfl, rfl⟩
  go_wp2_with fail
  all_goals try (exfalso; omega)
  go_ret
  exact ⟨str_ret (by rw [HL.out, hB.out]; simp), (Below.refl _ _).alloc (Nat.le_refl _) _⟩

set_option maxHeartbeats 2000000 in
theorem rprint_hi_plain (p c v m : Int) (hp0 : -9223372036854775808 < p) (hp1 : p ≤ 9223372036854775807) (hc0 : -9223372036854775808 < c) (hc1 : c ≤ 9223372036854775807)
    (ho : 22 < c) (hv0 : 0 ≤ v) (hv : v < 4294967272) (w : World) :
    Calls Tryd.prog 9 #[.int .i64 p, .int .i64 c, .int .u32 v, .int .u32 m] w fun e w' => e = .returned (.string ⟨(lineB p c v m).toArray⟩) ∧ Below w.heap.size w w' := by
  have HP := Lib.hid (fun w => digits_any p hp0 hp1 w)
  have l1 := itoa_len p (by omega) hp1
  have hB := Lib.hid (show nameB c = [99, 97, 108, 108, 32] ++ Lib.itoa c by unfold nameB; rw [if_neg (by omega)])
  have HC := Lib.hid (fun w => digits_any c hc0 hc1 w)
  have l2 := itoa_len c (by omega) hc1
  have HV := Lib.hid (fun w => digits_any v (by omega) (by omega) w)
  have l3 := itoa_len v (by omega) (by omega)
  have HL := Lib.hid (show lineB p c v m = Lib.itoa p ++ [32] ++ nameB c ++ [32] ++ (Lib.itoa v ++ [] ++ [10]) by unfold lineB; rw [if_neg (by omega), if_neg (by omega)])
  have hq0 : (c != 0) = true := by simp; omega
  have hq4 : (c == 4) = false := by simp; omega
  have hq10 : (c == 10) = false := by simp; omega
  clear hp0 hp1 hc0 hc1 
  go_enter Tryd.func9, Tryd.ntmps9
  go_wp2_with (first | refine wpList_buildSliceAs rfl 54 9 23 _ rfl nameArr Tryd.underlying54 (by decide) (by decide) (by kernel_rfl) ?_ | fail)
  refine (HP.out _).mono ?_
  rintro e w1 ⟨rfl, rfl⟩
  go_wp2_with fail
  all_goals try (exfalso; omega)
  refine (HC.out _).mono ?_
  rintro e w1 ⟨rfl, rfl⟩
  go_wp2_with fail
  all_goals try (exfalso; omega)
  refine (rerror_no v hv0 hv _).mono ?_
  rintro e w1 ⟨rfl, rfl⟩
  go_wp2_with fail
  all_goals try (exfalso; omega)
  refine (HV.out _).mono ?_
  rintro e w1 ⟨rfl, rfl⟩
  go_wp2_with fail
  all_goals try (exfalso; omega)
  go_ret
  exact ⟨str_ret (by rw [HL.out, hB.out]; simp), (Below.refl _ _).alloc (Nat.le_refl _) _⟩

theorem rprint_any (p c v m : Int) (hp0 : -9223372036854775808 < p) (hp1 : p ≤ 9223372036854775807) (hc0 : -9223372036854775808 < c) (hc1 : c ≤ 9223372036854775807)
    (hv0 : 0 ≤ v) (hv1 : v ≤ 4294967295) (hm0 : 0 ≤ m) (hm1 : m ≤ 4294967295) (w : World) :
    Calls Tryd.prog 9 #[.int .i64 p, .int .i64 c, .int .u32 v, .int .u32 m] w fun e w' => e = .returned (.string ⟨(lineB p c v m).toArray⟩) ∧ Below w.heap.size w w' := by
  by_cases hlo : c < 0
  · by_cases hv : 4294967272 ≤ v
    · exact rprint_lo_err p c v m hp0 hp1 hc0 hc1 hlo hv hv1 w
    · exact rprint_lo_plain p c v m hp0 hp1 hc0 hc1 hlo hv0 (by omega) w
  · by_cases hhi : 22 < c
    · by_cases hv : 4294967272 ≤ v
      · exact rprint_hi_err p c v m hp0 hp1 hc0 hc1 hhi hv hv1 w
      · exact rprint_hi_plain p c v m hp0 hp1 hc0 hc1 hhi hv0 (by omega) w
    · by_cases hv : 4294967272 ≤ v
      · by_cases hz : c = 0
        · exact rprint_in_zero p c v m hp0 hp1 hc0 hc1 hv hv1 hz w
        · exact rprint_in_err p c v m hp0 hp1 hc0 hc1 (by omega) (by omega) hv hv1 hz w
      · by_cases hz : c = 0
        · exact rprint_in_zplain p c v m hp0 hp1 hc0 hc1 hv0 (by omega) hz w
        · by_cases h4 : c = 4
          · exact rprint_in_four p c v m hp0 hp1 hc0 hc1 hv0 (by omega) hm0 hm1 h4 w
          · by_cases h10 : c = 10
            · exact rprint_in_ten p c v m hp0 hp1 hc0 hc1 hv0 (by omega) hm0 hm1 h10 w
            · exact rprint_in_plain p c v m hp0 hp1 hc0 hc1 (by omega) (by omega) hv0 (by omega) hz h4 h10 w
end Go.Proofs.YtdijbkfcfjhajaaDoor
