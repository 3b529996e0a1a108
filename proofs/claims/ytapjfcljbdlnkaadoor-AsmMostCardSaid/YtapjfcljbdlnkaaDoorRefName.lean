/- onionskinref26.Name: may a text be a name? -/
import Derived.Test.YtapjfcljbdlnkaaDoorName
namespace Go.Proofs.YtapjfcljbdlnkaaDoor
open Go Go.RowKit Go.Lib
set_option maxRecDepth 100000

set_option maxHeartbeats 1600000 in
theorem ref_name (p : List UInt8) (hp : p.length ≤ 1000000) (w : World) :
    Calls Tryd.prog 34 #[.string (bs p)] w fun e w' => e = .returned (.bool (nameOK p)) ∧ w = w' := by
  have hT := bs_list p
  have hsz := bs_size p
  go_enter Tryd.func34, Tryd.ntmps34
  go_wp2_with fail
  go_loopg [3] p.length (fun k c wr => ∃ i : Nat, k + i = p.length ∧ c = .int .i64 (i : Int) ∧ (p.take i).all nameByte = true ∧ w = wr)
  case atStart => exact ⟨0, by simp, rfl, by simp, rfl⟩
  case round =>
    obtain ⟨i, hk, rfl, ha, rfl⟩ := hrel
    have hk := Lib.hid hk
    have HA := Lib.hid ha
    clear ha
    by_cases hi : i < p.length
    · have hi1 : (i : Int) < (p.length : Int) := by omega
      have hi0 : (0 : Int) ≤ (i : Int) := by omega
      obtain ⟨x, hx⟩ : ∃ x, p[i]? = some x := ⟨p[i], List.getElem?_eq_getElem hi⟩
      have hg := bs_get p i x hx
      have HX := Lib.hid hx
      have hx256 := x.toNat_lt
      have wr1 : IntKind.i64.wrap ((i : Int) + 1) = (i : Int) + 1 := by rw [IntKind.wrap_i64]; omega
      clear hx
      have HB : Hid (nameByte x = true → (p.take (i + 1)).all nameByte = true) := Lib.hid fun hb => by
        rw [List.take_add_one, HX.out, List.all_append, HA.out]; simp [hb]
      have HC : Hid (nameByte x = false → nameOK p = false) := Lib.hid fun hb => by
        have : p.all nameByte = false := by
          rw [List.all_eq_false]
          exact ⟨x, List.mem_of_getElem? HX.out, by rw [hb]; simp⟩
        unfold nameOK; rw [this]; simp
      have hcase : x.toNat < 33 ∨ (33 ≤ x.toNat ∧ 126 < x.toNat) ∨ (33 ≤ x.toNat ∧ x.toNat ≤ 126 ∧ x.toNat = 47) ∨ (33 ≤ x.toNat ∧ x.toNat ≤ 126 ∧ x.toNat ≠ 47) := by omega
      have HQ := Lib.hid hcase
      clear hcase
      rcases HQ.out with h | ⟨h, h'⟩ | ⟨h, h', h''⟩ | ⟨h, h', h''⟩
      · have k1 : (x.toNat : Int) < 33 := by omega
        have hb : nameByte x = false := by simp [nameByte]; omega
        have HB1 := Lib.hid hb
        clear hb h
        go_wp2_with fail
        go_ret
        exact ⟨by rw [HC.out HB1.out]; rfl, rfl⟩
      · have k1 : ¬ (x.toNat : Int) < 33 := by omega
        have k2 : 126 < (x.toNat : Int) := by omega
        have hb : nameByte x = false := by simp [nameByte]; omega
        have HB1 := Lib.hid hb
        clear hb h h'
        go_wp2_with fail
        go_ret
        exact ⟨by rw [HC.out HB1.out]; rfl, rfl⟩
      · have k1 : ¬ (x.toNat : Int) < 33 := by omega
        have k2 : ¬ 126 < (x.toNat : Int) := by omega
        have k3 : ((x.toNat : Int) == 47) = true := by simp; omega
        have hb : nameByte x = false := by simp [nameByte]; omega
        have HB1 := Lib.hid hb
        clear hb h h' h''
        go_wp2_with fail
        go_ret
        exact ⟨by rw [HC.out HB1.out]; rfl, rfl⟩
      · have k1 : ¬ (x.toNat : Int) < 33 := by omega
        have k2 : ¬ 126 < (x.toNat : Int) := by omega
        have k3 : ((x.toNat : Int) == 47) = false := by simp; omega
        have hb : nameByte x = true := by simp [nameByte]; omega
        have HB1 := Lib.hid hb
        clear hb h h' h''
        go_wp2_with fail
        go_roundg (gk - 1)
        case measure => have := hk.out; omega
        case rel => exact ⟨i + 1, by have := hk.out; omega, by simp, HB.out HB1.out, rfl⟩
    · have hi1 : ¬ (i : Int) < (p.length : Int) := by omega
      have hil : i = p.length := by have := hk.out; omega
      subst hil
      have ha := HA.out
      rw [List.take_length] at ha
      have hcase : p = [] ∨ (p ≠ [] ∧ 14 < p.length) ∨ p = [46] ∨ p = [46, 46] ∨ (p ≠ [] ∧ p.length ≤ 14 ∧ p ≠ [46] ∧ p ≠ [46, 46]) := by
        by_cases h0 : p = []
        · exact .inl h0
        · by_cases h1 : 14 < p.length
          · exact .inr (.inl ⟨h0, h1⟩)
          · by_cases h2 : p = [46]
            · exact .inr (.inr (.inl h2))
            · by_cases h3 : p = [46, 46]
              · exact .inr (.inr (.inr (.inl h3)))
              · exact .inr (.inr (.inr (.inr ⟨h0, by omega, h2, h3⟩)))
      have HL := Lib.hid ha
      clear ha HA
      have HQ := Lib.hid hcase
      clear hcase
      rcases HQ.out with rfl | ⟨h0, h1⟩ | rfl | rfl | ⟨h0, h1, h2, h3⟩
      · go_wp2_with fail
        go_ret
        exact ⟨rfl, rfl⟩
      · have j1 : (1 : Int) ≤ (p.length : Int) := by omega
        have j2 : ¬ (p.length : Int) ≤ 14 := by omega
        have e : nameOK p = false := by simp [nameOK]; omega
        have HE := Lib.hid e
        clear e h0 h1
        go_wp2_with fail
        go_ret
        exact ⟨by rw [HE.out]; rfl, rfl⟩
      · go_wp2_with fail
        go_ret
        exact ⟨rfl, rfl⟩
      · go_wp2_with fail
        go_ret
        exact ⟨rfl, rfl⟩
      · have j1 : (1 : Int) ≤ (p.length : Int) := by have : 0 < p.length := List.length_pos_iff.2 h0; omega
        have j2 : (p.length : Int) ≤ 14 := by omega
        have f2 : (p == [46]) = false := by simpa using h2
        have f3 : (p == [46, 46]) = false := by simpa using h3
        have f2' : (p != [46]) = true := by simpa using h2
        have f3' : (p != [46, 46]) = true := by simpa using h3
        have e : nameOK p = true := by rw [nameOK_in p h0 h1 h2 h3]; exact HL.out
        have HE := Lib.hid e
        clear e h0 h1 h2 h3
        go_wp2_with fail
        go_ret
        exact ⟨by rw [HE.out]; rfl, rfl⟩
end Go.Proofs.YtapjfcljbdlnkaaDoor
