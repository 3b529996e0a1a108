/- asm's small functions: decimal, shape, registers, jumps, name. -/
import Derived.Test.YtapjfcljbdlnkaaGreatDoorShelf
import Derived.Test.YtapjfcljbdlnkaaGreatDoorAsmBase
import Derived.Test.YtapjfcljbdlnkaaGreatDoorOwn
import Derived.Test.YtapjfcljbdlnkaaGreatDoorSplitSeq
namespace Go.Proofs.YtapjfcljbdlnkaaGreatDoor
open Go Go.RowKit Go.Lib
set_option maxRecDepth 100000

def digitB (b : UInt8) : Bool := decide (48 ≤ b.toNat ∧ b.toNat ≤ 57)
/-- a number, however great: no needless 0, a - ahead -/
def decimalP (s : List UInt8) : Bool := (Lib.trimPrefix s [45]).all digitB && (s == [48] || ((Lib.trimPrefix s [45]) != [] && (Lib.trimPrefix s [45]).head? != some 48))
theorem trimPrefix_len (s p : List UInt8) : (Lib.trimPrefix s p).length ≤ s.length := by
  unfold Lib.trimPrefix; split <;> simp

set_option maxHeartbeats 1600000 in
theorem decimal_ok (s : List UInt8) (hs : s.length ≤ 100000) (w : World) :
    Calls Tryz.prog 58 #[.string (bs s)] w fun e w' => e = .returned (.bool (decimalP s)) ∧ Below w.heap.size w w' := by
  obtain ⟨d, hd⟩ : ∃ d, d = Lib.trimPrefix s [45] := ⟨_, rfl⟩
  have hdl : d.length ≤ 100000 := by rw [hd]; have := trimPrefix_len s [45]; omega
  have hsz : (bs d).size = d.length := bs_size d
  have hT := bs_list d
  have HT := Lib.hid (show ∀ w, Calls Tryz.prog 74 #[.string (bs s), .string ⟨#[45]⟩] w fun e w' => e = .returned (.string (bs d)) ∧ w' = w from fun w => by
    have h := Tryz.strings_TrimPrefix (bs s) ⟨#[45]⟩ w
    rw [bs_data, ← hd] at h
    exact h)
  have HD : Hid (decimalP s = (d.all digitB && (s == [48] || (d != [] && d.head? != some 48)))) := Lib.hid (by rw [hd]; rfl)
  clear hd
  go_enter Tryz.func58, Tryz.ntmps58
  go_wp2_with fail
  refine (HT.out _).mono ?_
  rintro e w1 ⟨rfl, rfl⟩
  go_wp2_with fail
  rw [Lib.run_convert_string_bytes w1 _ _ 5 (bs d) Tryz.underlying9 Tryz.underlying70 Tryz.underlying5]
  have hc0 := fun (j : Nat) (x : UInt8) (hx : d[j]? = some x) => Lib.bytesWorld_cell w1 5 (bs d) j (by rw [bs_size]; exact (List.getElem?_eq_some_iff.1 hx).1)
  have hb2 : Below w1.heap.size w1 (Lib.bytesWorld w1 5 (bs d)) := Lib.bytesWorld_below _ _ _
  have hcell : ∀ (j : Nat) (x : UInt8), d[j]? = some x → (Lib.bytesWorld w1 5 (bs d)).cell? ⟨w1.heap.size, j, none⟩ = some (.int .u8 x.toNat) := fun j x hx => by
    rw [hc0 j x hx, bs_data, List.getD_eq_getElem?_getD, hx]; rfl
  generalize Lib.bytesWorld w1 5 (bs d) = w2 at hb2 hcell
  generalize grownCap w1 (bs d).size 0 5 = cp
  rw [hsz]
  have HC := Lib.hid hcell
  have HB2 := Lib.hid hb2
  clear hc0 hb2 hcell
  go_wp2_with fail
  go_loopg [11] d.length (fun k c wr => ∃ i : Nat, k + i = d.length ∧ c = .int .i64 (i : Int) ∧ (d.take i).all digitB = true ∧ wr = w2)
  case atStart => exact ⟨0, by omega, rfl, rfl, rfl⟩
  case round =>
    obtain ⟨i, hk, rfl, hall, rfl⟩ := hrel
    have hk := Lib.hid hk
    have HA := Lib.hid hall
    have hi3 : (0 : Int) ≤ (i : Int) := by omega
    have wr1 : IntKind.i64.wrap ((i : Int) + 1) = (i : Int) + 1 := by rw [IntKind.wrap_i64]; have := hk.out; omega
    clear hall
    by_cases hi : i < d.length
    · have hi1 : (i : Int) < (d.length : Int) := by omega
      obtain ⟨x, hx⟩ : ∃ x, d[i]? = some x := ⟨d[i], List.getElem?_eq_getElem hi⟩
      have d1 := HC.out i x hx
      have HX := Lib.hid hx
      clear hx
      by_cases hdg : digitB x = true
      · have HN : Hid ((d.take (i + 1)).all digitB = true) := Lib.hid (by rw [List.take_add_one, HX.out, List.all_append, HA.out]; simpa using hdg)
        have hdg2 : 48 ≤ x.toNat ∧ x.toNat ≤ 57 := by simpa [digitB] using hdg
        have k1 : ¬ (x.toNat : Int) < 48 := by omega
        have k2 : ¬ 57 < (x.toNat : Int) := by omega
        clear hdg hdg2
        go_wp2_with fail
        go_roundg (gk - 1)
        case measure => have := hk.out; omega
        case rel => exact ⟨i + 1, by have := hk.out; omega, by simp, HN.out, rfl⟩
      · have HE : Hid (decimalP s = false) := Lib.hid (by
          rw [HD.out]
          have : d.all digitB = false := by
            rw [List.all_eq_false]
            exact ⟨x, List.mem_of_getElem? HX.out, hdg⟩
          rw [this]; rfl)
        have hq : (x.toNat : Int) < 48 ∨ (¬ (x.toNat : Int) < 48 ∧ 57 < (x.toNat : Int)) := by
          have : ¬ (48 ≤ x.toNat ∧ x.toNat ≤ 57) := by simpa [digitB] using hdg
          omega
        have HQ := Lib.hid hq
        clear hdg hq
        rcases HQ.out with k1 | ⟨k1, k2⟩
        all_goals
          go_wp2_with fail
          go_ret
          rw [HE.out]
          exact ⟨rfl, HB2.out⟩
    · have hi1 : ¬ (i : Int) < (d.length : Int) := by omega
      have HE : Hid (decimalP s = (s == [48] || (d != [] && d.head? != some 48))) := Lib.hid (by
        rw [HD.out]
        have h := HA.out
        rw [List.take_of_length_le (by omega)] at h
        rw [h]; rfl)
      have hTs := bs_list s
      by_cases h0 : s = [48]
      · have e0 : (s == [48]) = true := by simpa using h0
        have HE2 : Hid (decimalP s = true) := Lib.hid (by rw [HE.out, e0]; rfl)
        clear h0
        go_wp2_with fail
        go_ret
        rw [HE2.out]
        exact ⟨rfl, HB2.out⟩
      · have e0 : (s == [48]) = false := by simpa using h0
        cases d with
        | nil =>
          have HE2 : Hid (decimalP s = false) := Lib.hid (by rw [HE.out, e0]; rfl)
          clear h0
          go_wp2_with fail
          go_ret
          rw [HE2.out]
          exact ⟨rfl, HB2.out⟩
        | cons y ys =>
          have hg := bs_get (y :: ys) 0 y rfl
          have g0 : (y :: ys).isEmpty = false := rfl
          have HE2 : Hid (decimalP s = (y != 48)) := Lib.hid (by rw [HE.out, e0]; by_cases hy : y = 48 <;> simp [hy, bne])
          by_cases hy : y = 48
          · subst hy
            clear h0
            go_wp2_with fail
            go_ret
            rw [HE2.out]
            exact ⟨rfl, HB2.out⟩
          · have hy2 : y.toNat ≠ 48 := fun e => hy (UInt8.toNat_inj.1 (show y.toNat = (48 : UInt8).toNat from e))
            have k1 : ((y.toNat : Int) == 48) = false := beq_eq_false_iff_ne.2 (by omega)
            have k2 : ((y.toNat : Int) != 48) = true := by simp [bne, k1]
            have HE3 : Hid (decimalP s = true) := Lib.hid (by rw [HE2.out]; simpa using hy)
            clear h0 hy hy2
            go_wp2_with fail
            go_ret
            rw [HE3.out]
            exact ⟨rfl, HB2.out⟩

theorem jumps_ok (op : Nat) (h : op ≤ 24) (w : World) :
    Calls Tryz.prog 38 #[.int .i64 (op : Int)] w fun e w' => e = .returned (.bool (decide (18 ≤ op ∧ op ≤ 22))) ∧ w' = w := by
  by_cases h1 : 18 ≤ op
  · have k1 : (18 : Int) ≤ (op : Int) := by omega
    by_cases h2 : op ≤ 22
    · have k2 : (op : Int) ≤ 22 := by omega
      rw [show decide (18 ≤ op ∧ op ≤ 22) = true from decide_eq_true ⟨h1, h2⟩]
      go_enter Tryz.func38, Tryz.ntmps38
      go_wp2_with fail
      go_ret
      exact ⟨rfl, rfl⟩
    · have k2 : ¬ (op : Int) ≤ 22 := by omega
      rw [show decide (18 ≤ op ∧ op ≤ 22) = false from decide_eq_false (by omega)]
      go_enter Tryz.func38, Tryz.ntmps38
      go_wp2_with fail
      go_ret
      exact ⟨rfl, rfl⟩
  · have k1 : ¬ (18 : Int) ≤ (op : Int) := by omega
    rw [show decide (18 ≤ op ∧ op ≤ 22) = false from decide_eq_false (by omega)]
    go_enter Tryz.func38, Tryz.ntmps38
    go_wp2_with fail
    go_ret
    exact ⟨rfl, rfl⟩

/-- has an instruction so many registers, and numbers? -/
def shapeP (op regs nums : Nat) : Bool :=
  if op = 1 ∨ op = 2 ∨ op = 13 ∨ op = 19 ∨ op = 20 then regs == 1 && nums == 1
  else if op = 14 ∨ op = 15 ∨ op = 16 ∨ op = 17 ∨ op = 21 then regs == 2 && nums == 1
  else if op = 18 ∨ op = 22 ∨ op = 24 then regs == 0 && nums == 1
  else if op = 23 then regs == 1 && nums == 0
  else decide (0 < op) && regs == 2 && nums == 0
set_option maxHeartbeats 12800000 in
theorem shape_ok (op regs nums : Nat) (h : op ≤ 24) (hr : regs ≤ 2) (hn : nums ≤ 1) (w : World) :
    Calls Tryz.prog 22 #[.int .i64 (op : Int), .int .i64 (regs : Int), .int .i64 (nums : Int)] w fun e w' => e = .returned (.bool (shapeP op regs nums)) ∧ w' = w := by
  have h1 : op = 0 ∨ op = 1 ∨ op = 2 ∨ op = 3 ∨ op = 4 ∨ op = 5 ∨ op = 6 ∨ op = 7 ∨ op = 8 ∨ op = 9 ∨ op = 10 ∨ op = 11 ∨ op = 12 ∨ op = 13 ∨ op = 14 ∨ op = 15 ∨ op = 16 ∨ op = 17 ∨ op = 18 ∨ op = 19 ∨ op = 20 ∨ op = 21 ∨ op = 22 ∨ op = 23 ∨ op = 24 := by omega
  have h2 : regs = 0 ∨ regs = 1 ∨ regs = 2 := by omega
  have h3 : nums = 0 ∨ nums = 1 := by omega
  clear h hr hn
  rcases h1 with rfl | rfl | rfl | rfl | rfl | rfl | rfl | rfl | rfl | rfl | rfl | rfl | rfl | rfl | rfl | rfl | rfl | rfl | rfl | rfl | rfl | rfl | rfl | rfl | rfl <;>
  rcases h2 with rfl | rfl | rfl <;> rcases h3 with rfl | rfl
  all_goals
    go_enter Tryz.func22, Tryz.ntmps22
    go_wp2_with fail
    go_ret
    exact ⟨rfl, rfl⟩
end Go.Proofs.YtapjfcljbdlnkaaGreatDoor
