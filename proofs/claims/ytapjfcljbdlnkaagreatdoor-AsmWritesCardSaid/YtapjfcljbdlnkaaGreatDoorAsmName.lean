/- asm.name, asm.registers. -/
import Derived.Test.YtapjfcljbdlnkaaGreatDoorAsmSmall
import Derived.Test.YtapjfcljbdlnkaaGreatDoorLaws
namespace Go.Proofs.YtapjfcljbdlnkaaGreatDoor
open Go Go.RowKit Go.Lib
set_option maxRecDepth 100000

def opArr : Array Value := #[.string ⟨#[]⟩, .string ⟨#[115, 101, 116]⟩, .string ⟨#[104, 105, 103, 104]⟩, .string ⟨#[109, 111, 118]⟩, .string ⟨#[97, 100, 100]⟩, .string ⟨#[115, 117, 98]⟩, .string ⟨#[109, 117, 108]⟩, .string ⟨#[100, 105, 118]⟩, .string ⟨#[97, 110, 100]⟩, .string ⟨#[111, 114]⟩, .string ⟨#[120, 111, 114]⟩, .string ⟨#[115, 104, 108]⟩, .string ⟨#[115, 104, 114]⟩, .string ⟨#[97, 100, 100, 105]⟩, .string ⟨#[108, 111, 97, 100]⟩, .string ⟨#[115, 116, 111, 114, 101]⟩, .string ⟨#[108, 111, 97, 100, 98]⟩, .string ⟨#[115, 116, 111, 114, 101, 98]⟩, .string ⟨#[106, 109, 112]⟩, .string ⟨#[106, 122]⟩, .string ⟨#[106, 110, 122]⟩, .string ⟨#[106, 108, 116]⟩, .string ⟨#[99, 97, 108, 108]⟩, .string ⟨#[114, 101, 116]⟩, .string ⟨#[115, 121, 115]⟩]
def opL : List (List UInt8) := [[], [115, 101, 116], [104, 105, 103, 104], [109, 111, 118], [97, 100, 100], [115, 117, 98], [109, 117, 108], [100, 105, 118], [97, 110, 100], [111, 114], [120, 111, 114], [115, 104, 108], [115, 104, 114], [97, 100, 100, 105], [108, 111, 97, 100], [115, 116, 111, 114, 101], [108, 111, 97, 100, 98], [115, 116, 111, 114, 101, 98], [106, 109, 112], [106, 122], [106, 110, 122], [106, 108, 116], [99, 97, 108, 108], [114, 101, 116], [115, 121, 115]]
def opAt (c : Nat) : List UInt8 := opL.getD c []
theorem opArr_eq : opArr = (opL.map fun l => Value.string (bs l)).toArray := rfl
theorem opAt_len : ∀ c : Fin 25, (opAt c.val).length ≤ 6 := by decide +kernel
theorem opArr_at (c : Nat) (h : c < 25) : opArr[c]? = some (.string (bs (opAt c))) := by
  have hl : c < opL.length := h
  rw [opArr_eq, List.getElem?_toArray, List.getElem?_map, List.getElem?_eq_getElem hl]
  simp [opAt, List.getD, List.getElem?_eq_getElem hl]

set_option maxHeartbeats 1000000 in
theorem op_name (op : Nat) (h0 : 0 < op) (h1 : op ≤ 24) (w : World) :
    Calls Tryz.prog 21 #[.int .i64 (op : Int)] w fun e w' => e = .returned (.string (bs (opAt op))) ∧ Below w.heap.size w w' := by
  have hn : opArr[op]? = some (.string (bs (opAt op))) := opArr_at _ (by omega)
  have k1 : ¬ (op : Int) < 1 := by omega
  have k2 : ¬ (25 : Int) ≤ (op : Int) := by omega
  have k3 : (0 : Int) ≤ (op : Int) := by omega
  have k4 : (op : Int) < 25 := by omega
  have k5 : op < 25 := by omega
  go_enter Tryz.func21, Tryz.ntmps21
  go_wp2_with (first
    | refine wpList_buildTo rfl 111 _ rfl _ rfl opArr (by kernel_rfl) ?_
    | refine wpList_store_new rfl 111 _ _ rfl rfl _ _ opArr rfl rfl (by kernel_rfl) (by kernel_rfl) (by kernel_rfl) ?_)
  go_ret
  exact ⟨rfl, (Below.refl _ _).alloc (Nat.le_refl _) _⟩

/-- how many registers an instruction has -/
def regsP (op : Nat) : Nat := if (shapeP op 0 0 || shapeP op 0 1) = true then 0 else if (shapeP op 1 0 || shapeP op 1 1) = true then 1 else if (shapeP op 2 0 || shapeP op 2 1) = true then 2 else 0
set_option maxHeartbeats 1600000 in
theorem registers_ok (op : Nat) (h : op ≤ 24) (w : World) :
    Calls Tryz.prog 36 #[.int .i64 (op : Int)] w fun e w' => e = .returned (.int .i64 (regsP op : Int)) ∧ w' = w := by
  have HS0 := Lib.hid (show ∀ n : Nat, n ≤ 2 → ∀ w, Calls Tryz.prog 22 #[.int .i64 (op : Int), .int .i64 (n : Int), .int .i64 0] w fun e w' => e = .returned (.bool (shapeP op n 0)) ∧ w' = w from fun n hn w => by
    have h9 := shape_ok op n 0 h hn (by omega) w
    rw [show ((0 : Nat) : Int) = 0 from rfl] at h9
    exact h9)
  have HS1 := Lib.hid (show ∀ n : Nat, n ≤ 2 → ∀ w, Calls Tryz.prog 22 #[.int .i64 (op : Int), .int .i64 (n : Int), .int .i64 1] w fun e w' => e = .returned (.bool (shapeP op n 1)) ∧ w' = w from fun n hn w => by
    have h9 := shape_ok op n 1 h hn (by omega) w
    rw [show ((1 : Nat) : Int) = 1 from rfl] at h9
    exact h9)
  clear h
  go_enter Tryz.func36, Tryz.ntmps36
  go_wp2_with fail
  go_loopg [4] 3 (fun k c wr => ∃ i : Nat, k + i = 3 ∧ c = .int .i64 (i : Int) ∧ (∀ j, j < i → (shapeP op j 0 || shapeP op j 1) = false) ∧ wr = w)
  case atStart => exact ⟨0, by omega, rfl, by omega, rfl⟩
  case round =>
    obtain ⟨i, hk, rfl, hno, rfl⟩ := hrel
    have hk := Lib.hid hk
    have HN := Lib.hid hno
    have wr1 : IntKind.i64.wrap ((i : Int) + 1) = (i : Int) + 1 := by rw [IntKind.wrap_i64]; have := hk.out; omega
    clear hno
    by_cases hi : i < 3
    · have hi1 : (i : Int) < 3 := by omega
      by_cases hs0 : shapeP op i 0 = true
      · have HE : Hid (regsP op = i) := Lib.hid (by
          have h0 : i = 0 ∨ i = 1 ∨ i = 2 := by omega
          rcases h0 with rfl | rfl | rfl
          · simp [regsP, hs0]
          · have a0 := HN.out 0 (by omega); simp [regsP, hs0, a0]
          · have a0 := HN.out 0 (by omega); have a1 := HN.out 1 (by omega); simp [regsP, hs0, a0, a1])
        go_wp2_with fail
        refine (HS0.out i (by omega) _).mono ?_
        rw [hs0]
        rintro e w2 ⟨rfl, rfl⟩
        go_wp2_with fail
        go_ret
        rw [HE.out]
        exact ⟨rfl, rfl⟩
      · have hs0 : shapeP op i 0 = false := by simpa using hs0
        go_wp2_with fail
        refine (HS0.out i (by omega) _).mono ?_
        rw [hs0]
        rintro e w2 ⟨rfl, rfl⟩
        go_wp2_with fail
        refine (HS1.out i (by omega) _).mono ?_
        by_cases hs1 : shapeP op i 1 = true
        · have HE : Hid (regsP op = i) := Lib.hid (by
            have h0 : i = 0 ∨ i = 1 ∨ i = 2 := by omega
            rcases h0 with rfl | rfl | rfl
            · simp [regsP, hs1]
            · have a0 := HN.out 0 (by omega); simp [regsP, hs1, a0]
            · have a0 := HN.out 0 (by omega); have a1 := HN.out 1 (by omega); simp [regsP, hs1, a0, a1])
          rw [hs1]
          rintro e w2 ⟨rfl, rfl⟩
          go_wp2_with fail
          go_ret
          rw [HE.out]
          exact ⟨rfl, rfl⟩
        · have hs1 : shapeP op i 1 = false := by simpa using hs1
          rw [hs1]
          rintro e w2 ⟨rfl, rfl⟩
          have HN2 : Hid (∀ j, j < i + 1 → (shapeP op j 0 || shapeP op j 1) = false) := Lib.hid (fun j hj => by
            rcases Nat.lt_or_ge j i with h | h
            · exact HN.out j h
            · obtain rfl : j = i := by omega
              rw [hs0, hs1]; rfl)
          clear hs0 hs1
          go_wp2_with fail
          go_roundg (gk - 1)
          case measure => have := hk.out; omega
          case rel => exact ⟨i + 1, by have := hk.out; omega, by simp, HN2.out, rfl⟩
    · have hi1 : ¬ (i : Int) < 3 := by omega
      have HE : Hid (regsP op = 0) := Lib.hid (by
        have a0 := HN.out 0 (by omega); have a1 := HN.out 1 (by omega); have a2 := HN.out 2 (by omega)
        simp [regsP, a0, a1, a2])
      go_wp2_with fail
      go_ret
      rw [HE.out]
      exact ⟨rfl, rfl⟩
end Go.Proofs.YtapjfcljbdlnkaaGreatDoor
