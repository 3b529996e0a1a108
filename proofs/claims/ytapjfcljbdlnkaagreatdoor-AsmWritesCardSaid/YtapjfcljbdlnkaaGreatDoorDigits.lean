/- The reference's decimal numeral (onionskinref03.Digits) is the library's 'itoa'. -/
import Derived.Test.YtapjfcljbdlnkaaGreatDoorShelf
import Derived.WalkKit
import Derived.WalkSpells
import Derived.WalkLawsBesides
import Derived.Lib.AppendIntMem
import Derived.Lib.ItoaLen
import Derived.Lib.Strings
namespace Go.Proofs.YtapjfcljbdlnkaaGreatDoor
open Go.RowKit Go.Sort Go.Lib
set_option maxRecDepth 100000

theorem ba_eq {a b : ByteArray} (h : a.data.toList = b.data.toList) : a = b := by
  cases a; cases b; simp only at h; rw [Array.toList_inj.1 h]

theorem digit_piece {i : Nat} (h : i < 10) : ({ data := #[48, 49, 50, 51, 52, 53, 54, 55, 56, 57] } : ByteArray).extract i (i + 1) = ⟨(Lib.decDigits i).toArray⟩ := by
  rw [Lib.decDigits_one h]
  have : ∀ i : Fin 10, ({ data := #[48, 49, 50, 51, 52, 53, 54, 55, 56, 57] } : ByteArray).extract i.val (i.val + 1) = ⟨[UInt8.ofNat (48 + i.val)].toArray⟩ := by decide +kernel
  exact this ⟨i, h⟩

theorem str_ret {a b : ByteArray} (h : a.data.toList = b.data.toList) : Ending.returned (.string a) = Ending.returned (.string b) := by rw [ba_eq h]

theorem digits_join (u : Nat) (h : ¬ u < 10) : Lib.decDigits (u / 10) ++ Lib.decDigits (u % 10) = Lib.decDigits u := by
  rw [Lib.decDigits_one (i := u % 10) (by omega), Lib.decDigits.eq_def u, dif_neg h]

theorem dig_len (u : Nat) (h : u ≤ 9223372036854775807) : (Lib.decDigits u).length ≤ 20 := by
  rw [Lib.decDigits_length]; exact Lib.nDigits_le20 u (by omega)

set_option maxHeartbeats 1000000 in
theorem digits_nat (k : Nat) : ∀ (n : Int) (_ : 0 ≤ n) (_ : n ≤ 9223372036854775807) (_ : n.toNat ≤ k) (w : World),
    Calls Tryz.prog 27 #[.int .i64 n] w fun e w' => e = .returned (.string ⟨(Lib.decDigits n.toNat).toArray⟩) ∧ w = w' := by
  induction k with
  | zero =>
    intro n h0 _ hk w
    obtain rfl : n = 0 := by omega
    go_enter Tryz.func27, Tryz.ntmps27
    go_wp2
    go_ret
    exact ⟨congrArg (fun b => Ending.returned (.string b)) (digit_piece (i := 0) (by omega)), rfl⟩
  | succ k ih =>
    intro n h0 hn hk w
    obtain ⟨u, rfl⟩ : ∃ u : Nat, n = u := ⟨n.toNat, by omega⟩
    by_cases h : u < 10
    · clear ih hk
      go_enter Tryz.func27, Tryz.ntmps27
      go_wp2
      go_ret
      exact ⟨by rw [digit_piece h]; rfl, rfl⟩
    · have IH := Lib.hid ih
      have J := Lib.hid (digits_join u h)
      have b1 : (u : Int) / 10 ≤ k := by omega
      have b2 : (u : Int) % 10 ≤ k := by omega
      have l1 := dig_len (u / 10) (by omega)
      have l2 := dig_len (u % 10) (by omega)
      clear ih hk
      go_enter Tryz.func27, Tryz.ntmps27
      go_wp2_with fail
      refine (IH.out _ (by omega) (by omega) (by omega) _).mono ?_
      rintro e w' ⟨rfl, rfl⟩
      go_wp2_with fail
      refine (IH.out _ (by omega) (by omega) (by omega) _).mono ?_
      rintro e w' ⟨rfl, rfl⟩
      go_wp2
      go_ret
      refine ⟨?_, rfl⟩
      exact str_ret (by rw [show ((u : Int)).toNat = u from rfl, ← J.out]; simp)

theorem str_ret_of {b : ByteArray} {l : List UInt8} (h : b.data.toList = l) : Ending.returned (.string b) = Ending.returned (.string ⟨l.toArray⟩) := str_ret (by simpa using h)

set_option maxHeartbeats 1000000 in
theorem digits_any (n : Int) (h0 : -9223372036854775808 < n) (h1 : n ≤ 9223372036854775807) (w : World) :
    Calls Tryz.prog 27 #[.int .i64 n] w fun e w' => e = .returned (.string ⟨(Lib.itoa n).toArray⟩) ∧ w = w' := by
  by_cases h : n < 0
  · have H := fun w => digits_nat (-n).toNat (-n) (by omega) (by omega) (Nat.le_refl _) w
    have HH := Lib.hid H
    clear H
    have l1 := dig_len n.natAbs (by omega)
    have e : (-n).toNat = n.natAbs := by omega
    rw [e] at HH
    have hi : Hid (Lib.itoa n = 45 :: Lib.decDigits n.natAbs) := Lib.hid (by unfold Lib.itoa; rw [if_pos h])
    go_enter Tryz.func27, Tryz.ntmps27
    go_wp2_with fail
    refine (HH.out _).mono ?_
    rintro e w' ⟨rfl, rfl⟩
    go_wp2
    go_ret
    refine ⟨str_ret (by rw [hi.out]; simp), rfl⟩
  · have H := digits_nat n.toNat n (by omega) (by omega) (Nat.le_refl _) w
    refine H.mono ?_
    rintro e w' ⟨rfl, rfl⟩
    refine ⟨by unfold Lib.itoa; rw [if_neg h], rfl⟩
end Go.Proofs.YtapjfcljbdlnkaaGreatDoor
