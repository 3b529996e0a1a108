/- The walk of AsmReads. -/
import Derived.Test.YtapjfcljbdlnkaaGreatDoorRef03j
import Derived.Test.YtapjfcljbdlnkaaGreatDoorAsmAwake
namespace Go.Proofs.YtapjfcljbdlnkaaGreatDoor
open Go Go.RowKit Go.Lib
set_option maxRecDepth 100000

/-- a slice of words that can be read: these words -/
def UReads (w : World) (v : Value) (l : List Int) : Prop :=
  ∃ ad cap, v = .slice ad l.length cap ∧ ∀ j x, l[j]? = some x → ∃ b off, ad = some ⟨b, off, none⟩ ∧ w.cell? ⟨b, off + j, none⟩ = some (.int .u32 x)
theorem UReads.on {w w' : World} {v : Value} {l : List Int} (h : UReads w v l) (hb : Below w.heap.size w w') : UReads w' v l := by
  obtain ⟨ad, cap, hv, hc⟩ := h
  refine ⟨ad, cap, hv, fun j x hx => ?_⟩
  obtain ⟨b, off, e, h1⟩ := hc j x hx
  exact ⟨b, off, e, (hb.cell (World.block_lt_of_cell? _ _ h1)).trans h1⟩
theorem UReads.own {w : World} {B : Nat} {v : Value} {l : List Int} (h : w.ownsRow B 39 1 v l.length (u32s l)) : UReads w v l := by
  obtain ⟨ad, cap, rfl, hn⟩ := own_len h
  refine ⟨ad, cap, rfl, fun j x hx => ?_⟩
  obtain ⟨g, cap', hsl, _, hcell⟩ := own_cell h (by have := (List.getElem?_eq_some_iff.1 hx).1; omega)
  obtain ⟨rfl, rfl⟩ : ad = some ⟨g, 0, none⟩ ∧ cap = cap' := by simpa using hsl
  exact ⟨g, 0, rfl, by rw [Nat.zero_add]; exact hcell j (.int .u32 x) (by unfold u32s; rw [List.getElem?_map, hx]; rfl)⟩

set_option maxHeartbeats 1600000 in
theorem same_words (v u : Value) (l : List Int) (hl : l.length ≤ 1000000) (w : World) (hv : UReads w v l) (hu : UReads w u l) :
    Calls Tryz.prog 8 #[v, u] w fun e w' => e = .returned (.bool true) ∧ Below w.heap.size w w' := by
  obtain ⟨ad, cap, rfl, hv2⟩ := hv
  obtain ⟨ad', cap', rfl, hu2⟩ := hu
  have HV2 := Lib.hid hv2
  have HU2 := Lib.hid hu2
  clear hv2 hu2
  go_enter Tryz.func8, Tryz.ntmps8
  go_wp2_with fail
  go_loopg [5] l.length (fun k s wr => ∃ i : Nat, k + i = l.length ∧ s = .int .i64 (i : Int) ∧ Below w.heap.size w wr)
  case atStart => exact ⟨0, by simp, rfl, Below.refl _ _⟩
  case round =>
    obtain ⟨i, hk, rfl, hb⟩ := hrel
    have hk := Lib.hid hk
    have HB := Lib.hid hb
    by_cases hi : i < l.length
    · have hi0 : (0 : Int) ≤ (i : Int) := by omega
      have hi1 : (i : Int) < (l.length : Int) := by omega
      obtain ⟨x, hx⟩ : ∃ x, l[i]? = some x := ⟨l[i], List.getElem?_eq_getElem hi⟩
      obtain ⟨b, off, rfl, h1⟩ := HV2.out i x hx
      obtain ⟨b', off', rfl, h2⟩ := HU2.out i x hx
      have k1 := (hb.cell (World.block_lt_of_cell? _ _ h1)).trans h1
      have k2 := (hb.cell (World.block_lt_of_cell? _ _ h2)).trans h2
      have wr1 : IntKind.i64.wrap ((i : Int) + 1) = (i : Int) + 1 := by rw [IntKind.wrap_i64] <;> omega
      clear hb hx h1 h2
      go_wp2_with fail
      go_region
      go_wp2_with fail
      go_roundg (gk - 1)
      case measure => have := hk.out; omega
      case rel => exact ⟨i + 1, by have := hk.out; omega, by simp, HB.out.drew⟩
    · have hi1 : ¬ (i : Int) < (l.length : Int) := by omega
      go_wp2_with fail
      go_ret
      exact ⟨rfl, HB.out⟩

theorem readGo_len (labs : List (List UInt8 × Nat)) : ∀ (lines : List (List (List UInt8) × Nat)) (i : Nat) (out : List Int), out.length ≤ 512 → (readGo labs i out lines).1.length ≤ 512
  | [], _, _, h => h
  | (ps, a) :: r, i, out, h => by
    cases hx : wordP labs i ps with
    | none => rw [readGo_none hx]; simp
    | some v =>
      by_cases hb : out.length = 512
      · rw [readGo_big hx hb]; simp
      · rw [readGo_some hx hb]
        exact readGo_len labs r (i + 1) (out ++ [v]) (by simp; omega)
theorem readP_len (s : List UInt8) : (readP s).1.length ≤ 512 := by
  unfold readP
  split
  · simp
  · exact readGo_len _ _ _ _ (by simp)
set_option maxHeartbeats 3200000 in
theorem law_asm_reads (s : List UInt8) (hs : s.length ≤ maxLen) (w : World) (he : Errs w) :
    Calls Tryz.prog 3 #[.string (bs s)] w fun e w' => e = .returned (.bool true) ∧ Below w.heap.size w w' := by
  have HA := Lib.hid (ascii_any s (by unfold maxLen at hs; omega) w)
  have htl : (asciiP s).length ≤ 600 := by
    unfold asciiP
    exact Nat.le_trans (List.length_filter_le _ _) (by simp; omega)
  generalize asciiP s = t at HA htl
  have HR := Lib.hid (fun w1 (hb : Below w.heap.size w w1) => read_any t (by omega) w1 (he.on hb))
  have HQ := Lib.hid (fun w1 => ref_read t (by omega) w1)
  have hrl := readP_len t
  rw [← read_same t] at HQ
  obtain ⟨r, x, y⟩ : ∃ r x, True ∧ (r, x) = (readP t) := ⟨(readP t).1, (readP t).2, trivial, rfl⟩
  rw [← y.2] at HR HQ hrl
  obtain ⟨x1, x2⟩ := x
  have HE := Lib.hid he
  clear he y
  simp only at hrl
  go_enter Tryz.func3, Tryz.ntmps3
  go_wp2_with fail
  refine HA.out.mono ?_
  rintro e w0 ⟨rfl, hw0⟩
  rw [hw0]
  clear hw0 w0
  go_wp2_with fail
  refine (HR.out w (Below.refl _ _)).mono ?_
  rintro e w1 ⟨v, rfl, hown, hb1⟩
  have HV := Lib.hid (UReads.own hown)
  have HB1 := Lib.hid hb1
  clear hown hb1
  go_wp2_with fail
  refine (HQ.out w1).mono ?_
  rintro e w2 ⟨u, rfl, hown, hb2⟩
  have HS := Lib.hid (same_words v u r (by omega) w2 (HV.out.on hb2) (UReads.own hown))
  have HB2 := Lib.hid (HB1.out.trans (hb2.mono HB1.out.size))
  clear hown hb2 HV
  go_wp2_with fail
  refine HS.out.mono ?_
  rintro e w3 ⟨rfl, hb3⟩
  have HB3 := Lib.hid (HB2.out.trans (hb3.mono HB2.out.size))
  have HW := Lib.hid (asm_awake w3 (HE.out.on HB3.out))
  clear hb3 HS
  go_wp2_with fail
  refine HW.out.mono ?_
  rintro e w4 ⟨rfl, hb4⟩
  have HB4 := Lib.hid (HB3.out.trans (hb4.mono HB3.out.size))
  clear hb4
  go_wp2_with fail
  go_ret
  exact ⟨rfl, HB4.out⟩
end Go.Proofs.YtapjfcljbdlnkaaGreatDoor
