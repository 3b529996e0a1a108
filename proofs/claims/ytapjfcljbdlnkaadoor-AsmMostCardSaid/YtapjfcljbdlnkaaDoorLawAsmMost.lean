/- The walk of AsmMost. -/
import Derived.Test.YtapjfcljbdlnkaaDoorAsmAwake
namespace Go.Proofs.YtapjfcljbdlnkaaDoor
open Go Go.RowKit Go.Lib
set_option maxRecDepth 100000

theorem joined_app (c : UInt8) : ∀ a b : List (List UInt8), joined c (a ++ b) = joined c a ++ joined c b
  | [], _ => rfl
  | l :: a, b => by simp only [List.cons_append, joined, joined_app c a b]; simp
theorem trim_join (ls : List (List UInt8)) (h0 : ls ≠ []) : Lib.trimSuffix (joined 10 ls) [10] = (joined 10 ls).dropLast := by
  have h := joined_drop 10 ls h0
  unfold Lib.trimSuffix
  rw [if_pos]
  · rw [List.dropLast_eq_take]; rfl
  · rw [h]; simp [Lib.hasSuffix]
def line7 : List UInt8 := [119, 111, 114, 100, 32, 55]
def sevens (n : Nat) : List UInt8 := joined 10 (List.replicate n line7)
theorem sevens_succ (n : Nat) : sevens (n + 1) = sevens n ++ [119, 111, 114, 100, 32, 55, 10] := by
  unfold sevens
  rw [List.replicate_succ', joined_app]; rfl
theorem sevens_len : ∀ n, (sevens n).length = 7 * n
  | 0 => rfl
  | n + 1 => by rw [sevens_succ, List.length_append, sevens_len n]; simp; omega
theorem sevens_cut (n : Nat) (h : 0 < n) : textLines (sevens n) = List.replicate n line7 := by
  unfold textLines sevens
  rw [trim_join _ (by simp; omega), cutAt_trim _ _ (by simp; omega)]
  intro l hl
  rw [List.eq_of_mem_replicate hl]; decide
def parts7 : List (List UInt8) := [[119, 111, 114, 100], [55]]
theorem line7_parts : lineParts line7 = parts7 := by decide +kernel
theorem word7 (labs : List (List UInt8 × Nat)) (i : Nat) : wordP labs i parts7 = some 7 := by
  have h : wordNum [55] = some 7 := by decide +kernel
  simp [wordP, parts7, wordName, h]
def mkL : Nat → Nat → List (List (List UInt8) × Nat)
  | _, 0 => []
  | a, k + 1 => (parts7, a + 1) :: mkL (a + 1) k
theorem first_sevens (labs : List (List UInt8 × Nat)) : ∀ (k : Nat) (lines : List (List (List UInt8) × Nat)) (a : Nat), firstGo labs lines a (List.replicate k line7) = .ok (labs, lines ++ mkL a k)
  | 0, lines, a => by simp [firstGo, mkL]
  | k + 1, lines, a => by
    rw [List.replicate_succ, firstGo_word (p := [119, 111, 114, 100]) (ps := [[55]]) line7_parts (by decide), first_sevens labs k]
    simp [mkL, parts7]
theorem read_sevens (labs : List (List UInt8 × Nat)) : ∀ (k i a : Nat) (out : List Int), out.length + k ≤ 512 → readGo labs i out (mkL a k) = (out ++ List.replicate k 7, 0, 0)
  | 0, i, a, out, _ => by simp [mkL, readGo]
  | k + 1, i, a, out, h => by
    rw [mkL, readGo_some (word7 labs i) (by omega), read_sevens labs k _ _ _ (by simp; omega), List.replicate_succ]
    simp
theorem read_sevens_big (labs : List (List UInt8 × Nat)) : ∀ (k i a : Nat) (out : List Int), out.length ≤ 512 → 512 < out.length + k → readGo labs i out (mkL a k) = ([], ((a + (512 - out.length) + 1 : Nat) : Int), 22)
  | 0, i, a, out, h, h2 => by omega
  | k + 1, i, a, out, h, h2 => by
    by_cases hl : out.length = 512
    · rw [mkL, readGo_big (word7 labs i) hl, hl]
    · rw [mkL, readGo_some (word7 labs i) hl, read_sevens_big labs k _ _ _ (by simp <;> omega) (by simp <;> omega)]
      congr 2
      simp
      omega
theorem readP_sevens (n : Nat) (h0 : 0 < n) (h : n ≤ 512) : readP (sevens n) = (List.replicate n 7, 0, 0) := by
  have : firstP (sevens n) = .ok ([], mkL 0 n) := by unfold firstP; rw [sevens_cut n h0, first_sevens]; simp
  unfold readP
  rw [this]
  exact (read_sevens [] n 0 0 [] (by simpa using h)).trans (by simp)
theorem readP_sevens_big : readP (sevens 513) = ([], 513, 22) := by
  have : firstP (sevens 513) = .ok ([], mkL 0 513) := by unfold firstP; rw [sevens_cut 513 (by omega), first_sevens]; simp
  unfold readP
  rw [this]
  exact read_sevens_big [] 513 0 0 [] (by simp) (by simp)

theorem and_three (a : Int) : ∃ n : Nat, bits .and .i64 a 3 = (n : Int) ∧ n ≤ 3 := by
  have h3 : (BitVec.ofInt 64 3).toNat = 3 := by decide
  have hx : (BitVec.ofInt 64 a).toNat &&& 3 ≤ 3 := Nat.and_le_right
  refine ⟨(BitVec.ofInt 64 a).toNat &&& 3, ?_, hx⟩
  show IntKind.i64.wrap ((BitVec.ofInt 64 a &&& BitVec.ofInt 64 3).toNat : Int) = _
  rw [BitVec.toNat_and, h3, IntKind.wrap_i64]
  omega
theorem bs_app (a b : List UInt8) : bs a ++ bs b = bs (a ++ b) := by
  apply bs_inj
  simp [bs_data, ByteArray.data_append]

set_option maxHeartbeats 3200000 in
theorem law_asm_most (a : Int) (w : World) (he : Errs w) :
    Calls Tryd.prog 4 #[.int .i64 a] w fun e w' => e = .returned (.bool true) ∧ Below w.heap.size w w' := by
  have HE := Lib.hid he
  clear he
  go_enter Tryd.func4, Tryd.ntmps4
  obtain ⟨q, hq, hq3⟩ := and_three a
  have hw : IntKind.i64.wrap (510 + (q : Int)) = ((510 + q : Nat) : Int) := by rw [IntKind.wrap_i64]; omega
  have hw' : wrap64 (510 + (q : Int)) = ((510 + q : Nat) : Int) := by rw [← IntWalk.i64_left]; exact hw
  obtain ⟨n, hn⟩ : ∃ n, n = 510 + q := ⟨_, rfl⟩
  rw [← hn] at hw hw'
  go_wp2_with fail
  go_loopg [3, 4] n (fun k s c wr => ∃ i : Nat, k + i = n ∧ s = .string (bs (sevens i)) ∧ c = .int .i64 (i : Int) ∧ wr = w)
  case atStart => exact ⟨0, by simp, rfl, rfl, rfl⟩
  case round =>
    obtain ⟨i, hk, rfl, rfl, rfl⟩ := hrel
    have hk := Lib.hid hk
    have hsz : (bs (sevens i)).size = 7 * i := by rw [bs_size, sevens_len]
    by_cases hi : i < n
    · have hi1 : (i : Int) < (n : Int) := by omega
      have wr1 : IntKind.i64.wrap ((i : Int) + 1) = (i : Int) + 1 := by rw [IntKind.wrap_i64]; omega
      go_wp2_with fail
      go_roundg (gk - 1)
      case measure => have := hk.out; omega
      case rel =>
        refine ⟨i + 1, by have := hk.out; omega, ?_, by simp, rfl⟩
        rw [sevens_succ, ← bs_app]; rfl
    · have hi1 : ¬ (i : Int) < (n : Int) := by omega
      have hin : i = n := by have := hk.out; omega
      subst hin
      go_wp2_with fail
      have hq4 : q ≤ 2 ∨ q = 3 := by omega
      have HQ := Lib.hid hq4
      have HK := Lib.hid hq3
      clear hq4 hq3
      rcases HQ.out with h2 | h3
      · have t1 : ¬ (512 : Int) < 510 + (q : Int) := by omega
        have HR := Lib.hid (read_any (sevens (510 + q)) (by rw [sevens_len]; omega) wr HE.out)
        rw [readP_sevens _ (by omega) (by omega)] at HR
        refine HR.out.mono ?_
        rintro e w1 ⟨v, rfl, hown, hb⟩
        have hlen : (List.replicate (510 + q) (7 : Int)).length = 510 + q := by simp
        simp only [hlen] at hown
        obtain ⟨ad, cap, rfl, -⟩ := own_len hown
        have HB := Lib.hid hb
        have HA := Lib.hid (asm_awake w1 (HE.out.on hb))
        clear hown hb h2 hlen HR
        go_wp2_with fail
        refine HA.out.mono ?_
        rintro e w2 ⟨rfl, hb2⟩
        have HB2 := Lib.hid (HB.out.trans (hb2.mono HB.out.size))
        clear hb2
        go_wp2_with fail
        go_ret
        exact ⟨rfl, HB2.out⟩
      · subst h3
        have HR := Lib.hid (read_any (sevens 513) (by rw [sevens_len]; omega) wr HE.out)
        rw [readP_sevens_big] at HR
        refine HR.out.mono ?_
        rintro e w1 ⟨v, rfl, hown, hb⟩
        obtain ⟨ad, cap, rfl, -⟩ := own_len hown
        have HB := Lib.hid hb
        have HA := Lib.hid (asm_awake w1 (HE.out.on hb))
        clear hown hb HR
        go_wp2_with fail
        refine HA.out.mono ?_
        rintro e w2 ⟨rfl, hb2⟩
        have HB2 := Lib.hid (HB.out.trans (hb2.mono HB.out.size))
        clear hb2
        go_wp2_with fail
        go_ret
        exact ⟨rfl, HB2.out⟩
end Go.Proofs.YtapjfcljbdlnkaaDoor
