/- The walks of chapter 38's laws on lines and errors. -/
import Derived.Test.YtdijbkfcfjhajaaDoorAwake
namespace Go.Proofs.YtdijbkfcfjhajaaDoor
open Go.RowKit Go.Sort Go.Lib
set_option maxRecDepth 100000

set_option maxHeartbeats 1000000 in
theorem law_prints (p c v m : Int) (hp0 : -9223372036854775808 ≤ p) (hp1 : p ≤ 9223372036854775807) (hc0 : -9223372036854775808 ≤ c) (hc1 : c ≤ 9223372036854775807)
    (hv0 : 0 ≤ v) (hv1 : v ≤ 4294967295) (hm0 : 0 ≤ m) (hm1 : m ≤ 4294967295) (w : World) (ht : Tab w) :
    Calls Tryd.prog 3 #[.int .i64 p, .int .i64 c, .int .u32 v, .int .u32 m] w fun e w' => e = .returned (.bool true) ∧ Below w.heap.size w w' := by
  have HA := Lib.hid (fun w2 (hb : Below w.heap.size w w2) => awake_true w2 (ht.on hb))
  by_cases h1 : p < -1000000000
  · clear ht hp0 hp1 hc0 hc1 hv0 hv1 hm0 hm1
    go_enter Tryd.func3, Tryd.ntmps3
    go_wp2_with fail
    refine (HA.out _ (Below.refl _ _)).mono ?_
    rintro e w1 ⟨rfl, hb1⟩
    go_wp2
    go_ret
    exact ⟨rfl, hb1⟩
  · by_cases h2 : c < -1000000000
    · clear ht hp0 hp1 hc0 hc1 hv0 hv1 hm0 hm1
      go_enter Tryd.func3, Tryd.ntmps3
      go_wp2_with fail
      refine (HA.out _ (Below.refl _ _)).mono ?_
      rintro e w1 ⟨rfl, hb1⟩
      go_wp2
      go_ret
      exact ⟨rfl, hb1⟩
    · have H1 := Lib.hid (print_any p c v m hp0 hp1 hc0 hc1 hv0 hv1 hm0 hm1 w ht)
      have H2 := Lib.hid (fun w2 => rprint_any p c v m (by omega) hp1 (by omega) hc1 hv0 hv1 hm0 hm1 w2)
      clear ht hp0 hp1 hc0 hc1 hv0 hv1 hm0 hm1
      go_enter Tryd.func3, Tryd.ntmps3
      go_wp2_with fail
      refine H1.out.mono ?_
      rintro e w1 ⟨rfl, hb1⟩
      go_wp2_with fail
      refine (H2.out _).mono ?_
      rintro e w2 ⟨rfl, hb2⟩
      have hb3 := hb1.trans (hb2.mono hb1.size)
      go_wp2_with fail
      refine (HA.out _ hb3).mono ?_
      rintro e w3 ⟨rfl, hb4⟩
      go_wp2
      go_ret
      exact ⟨rfl, hb3.trans (hb4.mono hb3.size)⟩

set_option maxHeartbeats 1000000 in
theorem law_errors (v n : Int) (hv0 : 0 ≤ v) (hv1 : v ≤ 4294967295) (w : World) (ht : Tab w) :
    Calls Tryd.prog 4 #[.int .u32 v, .int .i64 n] w fun e w' => e = .returned (.bool true) ∧ Below w.heap.size w w' := by
  have HA := Lib.hid (awake_true w ht)
  clear ht
  by_cases hv : 4294967272 ≤ v
  · have hlt : v < 4294967296 := by omega
    have hcode := Lib.hid (fun w => code_any (4294967296 - v) (by omega) (by omega) w)
    have hvv := Lib.hid (show 4294967296 - (4294967296 - v) = v by omega)
    by_cases hn : 1 ≤ n ∧ n ≤ 24
    · obtain ⟨hn0, hn1⟩ := hn
      have hnn := Lib.hid (show 4294967296 - (4294967296 - n) = n by omega)
      go_enter Tryd.func4, Tryd.ntmps4
      go_wp2_with fail
      refine (error_yes v hv hv1 _).mono ?_
      rintro e w1 ⟨rfl, rfl⟩
      go_wp2_with fail
      refine (rerror_yes v hv hv1 _).mono ?_
      rintro e w1 ⟨rfl, rfl⟩
      go_wp2_with fail
      refine (code_any n hn0 (by omega) _).mono ?_
      rintro e w1 ⟨rfl, rfl⟩
      go_wp2_with fail
      refine (error_yes (4294967296 - n) (by omega) (by omega) _).mono ?_
      rintro e w1 ⟨rfl, rfl⟩
      rw [hnn.out]
      go_wp2_with fail
      refine (hcode.out _).mono ?_
      rintro e w1 ⟨rfl, rfl⟩
      rw [hvv.out]
      go_wp2_with fail
      refine HA.out.mono ?_
      rintro e w1 ⟨rfl, hb1⟩
      go_wp2
      go_ret
      exact ⟨rfl, hb1⟩
    · have hn' : n < 1 ∨ 24 < n := by omega
      clear hn
      rcases hn' with hn' | hn'
      all_goals
        go_enter Tryd.func4, Tryd.ntmps4
        go_wp2_with fail
        refine (error_yes v hv hv1 _).mono ?_
        rintro e w1 ⟨rfl, rfl⟩
        go_wp2_with fail
        refine (rerror_yes v hv hv1 _).mono ?_
        rintro e w1 ⟨rfl, rfl⟩
        go_wp2_with fail
        refine (hcode.out _).mono ?_
        rintro e w1 ⟨rfl, rfl⟩
        rw [hvv.out]
        go_wp2_with fail
        refine HA.out.mono ?_
        rintro e w1 ⟨rfl, hb1⟩
        go_wp2
        go_ret
        exact ⟨rfl, hb1⟩
  · have hv' : v < 4294967272 := by omega
    clear hv
    by_cases hn : 1 ≤ n ∧ n ≤ 24
    · obtain ⟨hn0, hn1⟩ := hn
      have hnn := Lib.hid (show 4294967296 - (4294967296 - n) = n by omega)
      go_enter Tryd.func4, Tryd.ntmps4
      go_wp2_with fail
      refine (error_no v hv0 hv' _).mono ?_
      rintro e w1 ⟨rfl, rfl⟩
      go_wp2_with fail
      refine (rerror_no v hv0 hv' _).mono ?_
      rintro e w1 ⟨rfl, rfl⟩
      go_wp2_with fail
      refine (code_any n hn0 (by omega) _).mono ?_
      rintro e w1 ⟨rfl, rfl⟩
      go_wp2_with fail
      refine (error_yes (4294967296 - n) (by omega) (by omega) _).mono ?_
      rintro e w1 ⟨rfl, rfl⟩
      rw [hnn.out]
      go_wp2_with fail
      refine HA.out.mono ?_
      rintro e w1 ⟨rfl, hb1⟩
      go_wp2
      go_ret
      exact ⟨rfl, hb1⟩
    · have hn' : n < 1 ∨ 24 < n := by omega
      clear hn
      rcases hn' with hn' | hn'
      all_goals
        go_enter Tryd.func4, Tryd.ntmps4
        go_wp2_with fail
        refine (error_no v hv0 hv' _).mono ?_
        rintro e w1 ⟨rfl, rfl⟩
        go_wp2_with fail
        refine (rerror_no v hv0 hv' _).mono ?_
        rintro e w1 ⟨rfl, rfl⟩
        go_wp2_with fail
        refine HA.out.mono ?_
        rintro e w1 ⟨rfl, hb1⟩
        go_wp2
        go_ret
        exact ⟨rfl, hb1⟩
end Go.Proofs.YtdijbkfcfjhajaaDoor
