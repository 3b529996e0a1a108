/- onionskinlaw03.ascii, onionskinref03.blank, Parts, Lines. -/
import Derived.Test.YtapjfcljbdlnkaaGreatDoorAsmBase
import Derived.Test.YtapjfcljbdlnkaaGreatDoorLaws
namespace Go.Proofs.YtapjfcljbdlnkaaGreatDoor
open Go Go.RowKit Go.Lib
set_option maxRecDepth 100000

def asc (b : UInt8) : Bool := decide (b.toNat < 128)
/-- a text's bytes below 128, of the first 600 -/
def asciiP (s : List UInt8) : List UInt8 := (s.take 600).filter asc
theorem bs_cat (a b : List UInt8) : bs a ++ bs b = bs (a ++ b) := by
  apply bs_inj
  simp [bs_data, ByteArray.data_append]
set_option maxHeartbeats 1600000 in
theorem ascii_any (s : List UInt8) (hs : s.length ≤ 9223372036854775807) (w : World) :
    Calls Tryz.prog 5 #[.string (bs s), .int .i64 600] w fun e w' => e = .returned (.string (bs (asciiP s))) ∧ w' = w := by
  have hsz := bs_size s
  have hT := bs_list s
  go_enter Tryz.func5, Tryz.ntmps5
  go_wp2_with fail
  go_loopg [5, 6] 600 (fun k u v wr => ∃ i : Nat, k + i = 600 ∧ i ≤ s.length ∧ v = .int .i64 (i : Int) ∧ u = .string (bs ((s.take i).filter asc)) ∧ wr = w)
  case atStart => exact ⟨0, by omega, by omega, rfl, rfl, rfl⟩
  case round =>
    obtain ⟨i, hk, hil, rfl, rfl, rfl⟩ := hrel
    have hk := Lib.hid hk
    have hi3 : (0 : Int) ≤ (i : Int) := by omega
    have wr1 : IntKind.i64.wrap ((i : Int) + 1) = (i : Int) + 1 := by rw [IntKind.wrap_i64]; have := hk.out; omega
    by_cases hi : i < s.length
    · have hi1 : (i : Int) < (s.length : Int) := by omega
      by_cases hj : i < 600
      · have hj1 : (i : Int) < 600 := by omega
        obtain ⟨x, hx⟩ : ∃ x, s[i]? = some x := ⟨s[i], List.getElem?_eq_getElem hi⟩
        have hg := bs_get s i x hx
        obtain ⟨t, ht⟩ : ∃ t, t = (s.take i).filter asc := ⟨_, rfl⟩
        have htl : t.length ≤ 600 := by rw [ht]; have := List.length_filter_le asc (s.take i); simp at this; have := hk.out; omega
        have hts := bs_size t
        have hnx : (s.take (i + 1)).filter asc = if asc x then t ++ [x] else t := by
          rw [List.take_add_one, hx, List.filter_append, ht]
          cases hax : asc x <;> simp [hax]
        have HN := Lib.hid hnx
        rw [← ht]
        by_cases hax : x.toNat < 128
        · have ha : asc x = true := decide_eq_true hax
          have k1 : (x.toNat : Int) < 128 := by omega
          have e1 := bs_piece s i (i + 1)
          have e2 : (s.drop i).take (i + 1 - i) = [x] := by
            rw [show i + 1 - i = 1 by omega, List.take_one, List.head?_drop, hx]; rfl
          rw [e2] at e1
          have hi2 : (i : Int) ≤ (i : Int) + 1 := by omega
          have hi4 : (i : Int) + 1 ≤ ((bs s).size : Int) := by rw [hsz]; omega
          have e3 := bs_size [x]
          have HA := Lib.hid ha
          clear hx ht hnx hax ha e2
          go_wp2_with fail
          go_roundg (gk - 1)
          case measure => have := hk.out; omega
          case rel => exact ⟨i + 1, by have := hk.out; omega, by omega, by simp, by rw [HN.out, HA.out, bs_cat]; rfl, rfl⟩
        · have ha : asc x = false := decide_eq_false hax
          have k1 : ¬ (x.toNat : Int) < 128 := by omega
          have HA := Lib.hid ha
          clear hx ht hnx hax ha
          go_wp2_with fail
          go_roundg (gk - 1)
          case measure => have := hk.out; omega
          case rel => exact ⟨i + 1, by have := hk.out; omega, by omega, by simp, by rw [HN.out, HA.out]; rfl, rfl⟩
      · have hj1 : ¬ (i : Int) < 600 := by omega
        have HE : Hid (asciiP s = (s.take i).filter asc) := Lib.hid (by unfold asciiP; rw [show i = 600 by have := hk.out; omega])
        go_wp2_with fail
        go_ret
        rw [HE.out]
        exact ⟨rfl, rfl⟩
    · have hi1 : ¬ (i : Int) < (s.length : Int) := by omega
      have HE : Hid (asciiP s = (s.take i).filter asc) := Lib.hid (by
        unfold asciiP
        rw [List.take_of_length_le (by have := hk.out; omega), List.take_of_length_le (by omega)])
      go_wp2_with fail
      go_ret
      rw [HE.out]
      exact ⟨rfl, rfl⟩

/-- the reference's blanks -/
def blankR (b : UInt8) : Bool := b == 32 || (decide (9 ≤ b.toNat) && (decide (b.toNat ≤ 13) && (b != 10)))
set_option maxHeartbeats 1600000 in
theorem ref_blank (x : UInt8) (w : World) : Calls Tryz.prog 41 #[.int .u8 x.toNat] w fun e w' => e = .returned (.bool (blankR x)) ∧ w' = w := by
  have h32 : (x == 32) = decide (x.toNat = 32) := by rw [Bool.eq_iff_iff]; simp [← UInt8.toNat_inj]
  have h10 : (x != 10) = decide (x.toNat ≠ 10) := by rw [Bool.eq_iff_iff]; simp [← UInt8.toNat_inj]
  have HB : Hid (blankR x = (decide (x.toNat = 32) || (decide (9 ≤ x.toNat) && (decide (x.toNat ≤ 13) && decide (x.toNat ≠ 10))))) := Lib.hid (by unfold blankR; rw [h32, h10])
  obtain ⟨n, hn⟩ : ∃ n, n = x.toNat := ⟨_, rfl⟩
  rw [← hn] at HB ⊢
  clear h32 h10 hn
  have hq : n = 32 ∨ (n ≠ 32 ∧ ¬ 9 ≤ n) ∨ (n ≠ 32 ∧ 9 ≤ n ∧ ¬ n ≤ 13) ∨ (n ≠ 32 ∧ 9 ≤ n ∧ n ≤ 13 ∧ n = 10) ∨ (n ≠ 32 ∧ 9 ≤ n ∧ n ≤ 13 ∧ n ≠ 10) := by omega
  have HQ := Lib.hid hq
  clear hq
  rcases HQ.out with rfl | ⟨h1, h2⟩ | ⟨h1, h2, h3⟩ | ⟨h1, h2, h3, rfl⟩ | ⟨h1, h2, h3, h4⟩
  · have HV : Hid (blankR x = true) := Lib.hid (by rw [HB.out]; rfl)
    go_enter Tryz.func41, Tryz.ntmps41
    go_wp2_with fail
    go_ret
    rw [HV.out]
    exact ⟨rfl, rfl⟩
  · have HV : Hid (blankR x = false) := Lib.hid (by rw [HB.out]; simp; omega)
    have e1 : ((n : Int) == 32) = false := beq_eq_false_iff_ne.2 (by omega)
    have e2 : ¬ (9 : Int) ≤ (n : Int) := by omega
    clear h1 h2
    go_enter Tryz.func41, Tryz.ntmps41
    go_wp2_with fail
    go_ret
    rw [HV.out]
    exact ⟨rfl, rfl⟩
  · have HV : Hid (blankR x = false) := Lib.hid (by rw [HB.out]; simp; omega)
    have e1 : ((n : Int) == 32) = false := beq_eq_false_iff_ne.2 (by omega)
    have e2 : (9 : Int) ≤ (n : Int) := by omega
    have e3 : ¬ (n : Int) ≤ 13 := by omega
    clear h1 h2 h3
    go_enter Tryz.func41, Tryz.ntmps41
    go_wp2_with fail
    go_ret
    rw [HV.out]
    exact ⟨rfl, rfl⟩
  · have HV : Hid (blankR x = false) := Lib.hid (by rw [HB.out]; rfl)
    go_enter Tryz.func41, Tryz.ntmps41
    go_wp2_with fail
    go_ret
    rw [HV.out]
    exact ⟨rfl, rfl⟩
  · have HV : Hid (blankR x = true) := Lib.hid (by rw [HB.out]; simp; omega)
    have e1 : ((n : Int) == 32) = false := beq_eq_false_iff_ne.2 (by omega)
    have e2 : (9 : Int) ≤ (n : Int) := by omega
    have e3 : (n : Int) ≤ 13 := by omega
    have e4 : ((n : Int) == 10) = false := beq_eq_false_iff_ne.2 (by omega)
    have e5 : ((n : Int) != 10) = true := by simp [bne, e4]
    clear h1 h2 h3 h4
    go_enter Tryz.func41, Tryz.ntmps41
    go_wp2_with fail
    go_ret
    rw [HV.out]
    exact ⟨rfl, rfl⟩
end Go.Proofs.YtapjfcljbdlnkaaGreatDoor
