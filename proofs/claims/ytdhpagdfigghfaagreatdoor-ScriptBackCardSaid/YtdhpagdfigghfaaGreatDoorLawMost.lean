/- The walk of ScriptMost. -/
import Derived.Test.YtdhpagdfigghfaaGreatDoorScAwake
namespace Go.Proofs.YtdhpagdfigghfaaGreatDoor
open Go.RowKit Go.Lib
set_option maxRecDepth 100000

theorem joined_append (c : UInt8) : ∀ a b : List (List UInt8), joined c (a ++ b) = joined c a ++ joined c b
  | [], _ => rfl
  | l :: a, b => by simp only [List.cons_append, joined, joined_append c a b]; simp
theorem trim_joined (ls : List (List UInt8)) (h0 : ls ≠ []) : Lib.trimSuffix (joined 10 ls) [10] = (joined 10 ls).dropLast := by
  have h := joined_drop 10 ls h0
  unfold Lib.trimSuffix
  rw [if_pos]
  · rw [List.dropLast_eq_take]; rfl
  · rw [h]; simp [Lib.hasSuffix]

def shows (n : Nat) : List UInt8 := joined 10 (List.replicate n [115, 104, 111, 119])
theorem shows_succ (n : Nat) : shows (n + 1) = shows n ++ [115, 104, 111, 119, 10] := by
  unfold shows
  rw [List.replicate_succ', joined_append]; rfl
theorem shows_len : ∀ n, (shows n).length = 5 * n
  | 0 => rfl
  | n + 1 => by rw [shows_succ, List.length_append, shows_len n]; simp; omega
theorem shows_cut (n : Nat) (h : 0 < n) : cutAt 10 (Lib.trimSuffix (shows n) [10]) = (List.replicate n (some Ln.shw)).map lineText := by
  unfold shows
  rw [trim_joined _ (by simp; omega), cutAt_trim _ _ (by simp; omega)]
  · simp [lineText, Ln.text]
  · intro l hl
    rw [List.eq_of_mem_replicate hl]; decide

theorem steps_replicate (n : Nat) : stepsOf (List.replicate n (some Ln.shw)) = List.replicate n Ln.shw := by
  unfold stepsOf; simp

theorem shows_ok (n : Nat) (h0 : 0 < n) (h : n ≤ 1000) (m : Int) (w : World) (hm : w.cell? ⟨0, 0, none⟩ = some (.int .i64 m)) :
    Calls Tryz.prog 6 #[.string (bs (shows n))] w fun e w' => POk w (List.replicate n Ln.shw) e w' := by
  have := parse_lines (List.replicate n (some Ln.shw)) (shows n) m w (by rw [shows_len]; omega) hm (shows_cut n h0) (fun x hx => by
    have := List.eq_of_mem_replicate hx
    simp at this; subst this; exact ⟨trivial, trivial⟩) (by simp; omega) n (by simp) (by rw [List.take_of_length_le (by simp), steps_replicate]; simpa using h) (.inl (by simp))
  rw [steps_replicate] at this
  simpa using this
theorem shows_big (n : Nat) (h : n = 1001) (m : Int) (w : World) (hm : w.cell? ⟨0, 0, none⟩ = some (.int .i64 m)) :
    Calls Tryz.prog 6 #[.string (bs (shows n))] w fun e w' => PBig w 1000 e w' := by
  subst h
  have := parse_lines (List.replicate 1001 (some Ln.shw)) (shows 1001) m w (by rw [shows_len]; omega) hm (shows_cut 1001 (by omega)) (fun x hx => by
    have := List.eq_of_mem_replicate hx
    simp at this; subst this; exact ⟨trivial, trivial⟩) (by rw [List.length_replicate]; omega) 1000 (by rw [List.length_replicate]; omega) (by rw [List.take_replicate, steps_replicate, List.length_replicate]; omega) (.inr ⟨⟨.shw, by rw [List.getElem?_replicate, if_pos (by omega)]⟩, by rw [List.take_replicate, steps_replicate, List.length_replicate]; omega⟩)
  refine this.mono fun e w' h => ?_
  rw [List.length_replicate, if_neg (by omega)] at h
  exact h

theorem and_three (a : Int) : ∃ n : Nat, bits .and .i64 a 3 = (n : Int) ∧ n ≤ 3 := by
  have h3 : (BitVec.ofInt 64 3).toNat = 3 := by decide
  have hx : (BitVec.ofInt 64 a).toNat &&& 3 ≤ 3 := Nat.and_le_right
  refine ⟨(BitVec.ofInt 64 a).toNat &&& 3, ?_, hx⟩
  show IntKind.i64.wrap ((BitVec.ofInt 64 a &&& BitVec.ofInt 64 3).toNat : Int) = _
  rw [BitVec.toNat_and, h3, IntKind.wrap_i64]
  omega

theorem bs_append (a b : List UInt8) : bs a ++ bs b = bs (a ++ b) := by
  apply bs_inj
  simp [bs_data, ByteArray.data_append]

set_option maxHeartbeats 1600000 in
theorem law_most (a m : Int) (w : World) (hm : w.cell? ⟨0, 0, none⟩ = some (.int .i64 m)) :
    Calls Tryz.prog 4 #[.int .i64 a] w fun e w' => e = .returned (.bool true) ∧ Below w.heap.size w w' := by
  have HM := Lib.hid hm
  have hm0 := World.block_lt_of_cell? w _ hm
  go_enter Tryz.func4, Tryz.ntmps4
  obtain ⟨q, hq, hq3⟩ := and_three a
  have hw : IntKind.i64.wrap (998 + (q : Int)) = ((998 + q : Nat) : Int) := by rw [IntKind.wrap_i64]; omega
  have hw' : wrap64 (998 + (q : Int)) = ((998 + q : Nat) : Int) := by rw [← IntWalk.i64_left]; exact hw
  obtain ⟨n, hn⟩ : ∃ n, n = 998 + q := ⟨_, rfl⟩
  rw [← hn] at hw hw'
  clear hm
  go_wp2_with fail
  go_loopg [3, 4] n (fun k s c wr => ∃ i : Nat, k + i = n ∧ s = .string (bs (shows i)) ∧ c = .int .i64 (i : Int) ∧ wr = w)
  case atStart => exact ⟨0, by simp, rfl, rfl, rfl⟩
  case round =>
    obtain ⟨i, hk, rfl, rfl, rfl⟩ := hrel
    have hk := Lib.hid hk
    have hsz : (bs (shows i)).size = 5 * i := by rw [bs_size, shows_len]
    by_cases hi : i < n
    · have hi1 : (i : Int) < (n : Int) := by omega
      have wr1 : IntKind.i64.wrap ((i : Int) + 1) = (i : Int) + 1 := by rw [IntKind.wrap_i64]; omega
      go_wp2_with fail
      go_roundg (gk - 1)
      case measure => have := hk.out; omega
      case rel =>
        refine ⟨i + 1, by have := hk.out; omega, ?_, by simp, rfl⟩
        rw [shows_succ, ← bs_append]; rfl
    · have hi1 : ¬ (i : Int) < (n : Int) := by omega
      have hin : i = n := by have := hk.out; omega
      subst hin
      go_wp2_with fail
      have hq4 : q ≤ 2 ∨ q = 3 := by omega
      have HQ := Lib.hid hq4
      have HK := Lib.hid hq3
      clear hq4 hq3
      rcases HQ.out with h2 | h3
      · have t1 : ¬ (1000 : Int) < 998 + (q : Int) := by omega
        refine (shows_ok (998 + q) (by omega) (by omega) m wr HM.out).mono ?_
        rintro e w1 ⟨stp, xs, rfl, hown, hst, hb⟩
        obtain ⟨ad, cap, rfl, -⟩ := own_len hown
        have hlen : (List.replicate (998 + q) Ln.shw).length = 998 + q := by simp
        have HB := Lib.hid hb
        clear hown hst hb h2
        go_wp2_with fail
        refine (awake_true m _ ?_).mono ?_
        · rw [Below.cell ((Below.refl w1.heap.size w1).alloc (Nat.le_refl _) _) (Nat.lt_of_lt_of_le hm0 HB.out.size), HB.out.cell hm0]
          exact HM.out
        rintro e w2 ⟨rfl, hb2⟩
        have HB2 := Lib.hid (HB.out.trans (((Below.refl _ w1).alloc HB.out.size _).trans (hb2.mono (by have := HB.out.size; simp only [World.size_alloc]; omega))))
        clear hb2
        go_wp2_with fail
        go_ret
        exact ⟨rfl, HB2.out⟩
      · subst h3
        refine (shows_big _ rfl m wr HM.out).mono ?_
        rintro e w1 ⟨rfl, hb⟩
        have HB := Lib.hid hb
        clear hb
        go_wp2_with fail
        refine (awake_true m _ ?_).mono ?_
        · rw [Below.cell ((Below.refl w1.heap.size w1).alloc (Nat.le_refl _) _) (Nat.lt_of_lt_of_le hm0 HB.out.size), HB.out.cell hm0]
          exact HM.out
        rintro e w2 ⟨rfl, hb2⟩
        have HB2 := Lib.hid (HB.out.trans (((Below.refl _ w1).alloc HB.out.size _).trans (hb2.mono (by have := HB.out.size; simp only [World.size_alloc]; omega))))
        clear hb2
        go_wp2_with fail
        go_ret
        exact ⟨rfl, HB2.out⟩

end Go.Proofs.YtdhpagdfigghfaaGreatDoor
