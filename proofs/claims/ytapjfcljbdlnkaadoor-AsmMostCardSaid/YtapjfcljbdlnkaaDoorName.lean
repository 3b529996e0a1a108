/- dir.Name: may a text be a name? -/
import Derived.Test.YtapjfcljbdlnkaaDoorCut
import Derived.Test.YtapjfcljbdlnkaaDoorProg
import Derived.WalkKit
import Derived.WalkSpells
import Derived.WalkLawsBesides
import Derived.OwnWalk
import Derived.Deep.LoopGhost
import Derived.Lib.Hide
import Derived.Outline
namespace Go.Proofs.YtapjfcljbdlnkaaDoor
open Go Go.RowKit Go.Lib
set_option maxRecDepth 100000

def nameByte (b : UInt8) : Bool := decide (33 ≤ b.toNat) && decide (b.toNat ≤ 126) && decide (b.toNat ≠ 47)
/-- may it be a name? -/
def nameOK (p : List UInt8) : Bool := !p.isEmpty && decide (p.length ≤ 14) && decide (p ≠ [46]) && decide (p ≠ [46, 46]) && p.all nameByte

theorem bs_list (p : List UInt8) : (bs p).toList = p := by rw [Lib.toList_data, bs_data]
theorem bs_get (p : List UInt8) (i : Nat) (x : UInt8) (h : p[i]? = some x) : ∀ h', (bs p)[i]'h' = x := fun h' => by
  have h2 : (bs p).data.toList[i]? = some x := by rw [bs_data]; exact h
  have h3 := (Array.getElem?_toList (xs := (bs p).data) (i := i)).symm.trans h2
  exact (Array.getElem?_eq_some_iff.1 h3).2

theorem nameOK_in (p : List UInt8) (h0 : p ≠ []) (h1 : p.length ≤ 14) (h2 : p ≠ [46]) (h3 : p ≠ [46, 46]) : nameOK p = p.all nameByte := by
  simp [nameOK, h0, h1, h2, h3]

set_option maxHeartbeats 1600000 in
theorem name_out (p : List UInt8) (h : p = [] ∨ 14 < p.length ∨ p = [46] ∨ p = [46, 46]) (hp : p.length ≤ 1000000) (w : World) :
    Calls Tryd.prog 33 #[.string (bs p)] w fun e w' => e = .returned (.bool false) ∧ w = w' := by
  have hT := bs_list p
  have hsz := bs_size p
  have HH := Lib.hid h
  rcases HH.out with rfl | h | rfl | rfl
  · go_enter Tryd.func33, Tryd.ntmps33
    go_wp2_with fail
    go_ret
    exact ⟨rfl, rfl⟩
  · have h1 : 14 < (p.length : Int) := by omega
    have h2 : p.isEmpty = false := by cases p; simp at h; rfl
    go_enter Tryd.func33, Tryd.ntmps33
    clear HH h
    go_wp2_with fail
    go_ret
    exact ⟨rfl, rfl⟩
  · go_enter Tryd.func33, Tryd.ntmps33
    go_wp2_with fail
    go_ret
    exact ⟨rfl, rfl⟩
  · go_enter Tryd.func33, Tryd.ntmps33
    go_wp2_with fail
    go_ret
    exact ⟨rfl, rfl⟩

set_option maxHeartbeats 1600000 in
theorem name_ok (p : List UInt8) (hp : p.length ≤ 1000000) (w : World) :
    Calls Tryd.prog 33 #[.string (bs p)] w fun e w' => e = .returned (.bool (nameOK p)) ∧ w = w' := by
  by_cases hc : p = [] ∨ 14 < p.length ∨ p = [46] ∨ p = [46, 46]
  · have e : nameOK p = false := by
      rcases hc with rfl | h | rfl | rfl
      · rfl
      · simp [nameOK]; omega
      · rfl
      · rfl
    rw [e]; exact name_out p hc hp w
  · have g0 : p ≠ [] := fun e => hc (.inl e)
    have g1 : p.length ≤ 14 := by
      rcases Nat.lt_or_ge 14 p.length with h | h
      · exact absurd (.inr (.inl h)) hc
      · exact h
    have g2 : p ≠ [46] := fun e => hc (.inr (.inr (.inl e)))
    have g3 : p ≠ [46, 46] := fun e => hc (.inr (.inr (.inr e)))
    have HN := Lib.hid (nameOK_in p g0 g1 g2 g3)
    have f0 : p.isEmpty = false := by cases p; exact absurd rfl g0; rfl
    have f1 : ¬ 14 < (p.length : Int) := by omega
    have f2 : (p == [46]) = false := by simpa using g2
    have f3 : (p == [46, 46]) = false := by simpa using g3
    have hT := bs_list p
    have hsz := bs_size p
    clear hc g0 g2 g3
    go_enter Tryd.func33, Tryd.ntmps33
    go_wp2_with fail
    go_loopg [21] p.length (fun k c wr => ∃ i : Nat, k + i = p.length ∧ c = .int .i64 (i : Int) ∧ (p.take i).all nameByte = true ∧ w = wr)
    case atStart => exact ⟨0, by simp, rfl, by simp, rfl⟩
    case round =>
      obtain ⟨i, hk, rfl, ha, rfl⟩ := hrel
      have hk := Lib.hid hk
      have HA := Lib.hid ha
      clear ha
      by_cases hi : i < p.length
      · have hi1 : (i : Int) < (p.length : Int) := by omega
        have hi0 : (0 : Int) ≤ (i : Int) := by omega
        obtain ⟨x, hx⟩ : ∃ x, p[i]? = some x := ⟨p[i], List.getElem?_eq_getElem hi⟩
        have hg := bs_get p i x hx
        have HX := Lib.hid hx
        have hx256 := x.toNat_lt
        have wr1 : IntKind.i64.wrap ((i : Int) + 1) = (i : Int) + 1 := by rw [IntKind.wrap_i64]; omega
        clear hx
        have HB : Hid (nameByte x = true → (p.take (i + 1)).all nameByte = true) := Lib.hid fun hb => by
          rw [List.take_add_one, HX.out, List.all_append, HA.out]; simp [hb]
        have HC : Hid (nameByte x = false → p.all nameByte = false) := Lib.hid fun hb => by
          rw [List.all_eq_false]
          exact ⟨x, List.mem_of_getElem? HX.out, by rw [hb]; simp⟩
        have hcase : x.toNat ≤ 32 ∨ (32 < x.toNat ∧ 126 < x.toNat) ∨ (32 < x.toNat ∧ x.toNat ≤ 126 ∧ x.toNat = 47) ∨ (32 < x.toNat ∧ x.toNat ≤ 126 ∧ x.toNat ≠ 47) := by omega
        have HQ := Lib.hid hcase
        clear hcase
        rcases HQ.out with h | ⟨h, h'⟩ | ⟨h, h', h''⟩ | ⟨h, h', h''⟩
        · have k1 : (x.toNat : Int) ≤ 32 := by omega
          have hb : nameByte x = false := by simp [nameByte]; omega
          have HB1 := Lib.hid hb
          clear hb h
          go_wp2_with fail
          go_ret
          exact ⟨by rw [HN.out, HC.out HB1.out]; rfl, rfl⟩
        · have k1 : ¬ (x.toNat : Int) ≤ 32 := by omega
          have k2 : 126 < (x.toNat : Int) := by omega
          have hb : nameByte x = false := by simp [nameByte]; omega
          have HB1 := Lib.hid hb
          clear hb h h'
          go_wp2_with fail
          go_ret
          exact ⟨by rw [HN.out, HC.out HB1.out]; rfl, rfl⟩
        · have k1 : ¬ (x.toNat : Int) ≤ 32 := by omega
          have k2 : ¬ 126 < (x.toNat : Int) := by omega
          have k3 : ((x.toNat : Int) == 47) = true := by simp; omega
          have hb : nameByte x = false := by simp [nameByte]; omega
          have HB1 := Lib.hid hb
          clear hb h h' h''
          go_wp2_with fail
          go_ret
          exact ⟨by rw [HN.out, HC.out HB1.out]; rfl, rfl⟩
        · have k1 : ¬ (x.toNat : Int) ≤ 32 := by omega
          have k2 : ¬ 126 < (x.toNat : Int) := by omega
          have k3 : ((x.toNat : Int) == 47) = false := by simp; omega
          have hb : nameByte x = true := by simp [nameByte]; omega
          have HB1 := Lib.hid hb
          clear hb h h' h''
          go_wp2_with fail
          go_roundg (gk - 1)
          case measure => have := hk.out; omega
          case rel => exact ⟨i + 1, by have := hk.out; omega, by simp, HB.out HB1.out, rfl⟩
      · have hi1 : ¬ (i : Int) < (p.length : Int) := by omega
        have hil : i = p.length := by have := hk.out; omega
        subst hil
        go_wp2_with fail
        go_ret
        have := HA.out
        rw [List.take_length] at this
        exact ⟨by rw [HN.out, this]; rfl, rfl⟩
end Go.Proofs.YtapjfcljbdlnkaaDoor
