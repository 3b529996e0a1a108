/- onionskinref03.register, Op, find. -/
import Derived.Test.YtapjfcljbdlnkaaGreatDoorRef03d
namespace Go.Proofs.YtapjfcljbdlnkaaGreatDoor
open Go Go.RowKit Go.Lib
set_option maxRecDepth 100000

/-- a register, as the reference has it; -1: none -/
def regR (s : List UInt8) : Int :=
  match s with
  | 114 :: t => if (numR t).2 && (decide (0 ≤ (numR t).1) && decide ((numR t).1 ≤ 15)) then (numR t).1 else -1
  | _ => -1
set_option maxHeartbeats 3200000 in
theorem ref_register (s : List UInt8) (hs : s.length ≤ 1000000) (w : World) :
    Calls Tryz.prog 44 #[.string (bs s)] w fun e w' => e = .returned (.int .i64 (regR s)) ∧ w' = w := by
  have hsz := bs_size s
  have hTs := bs_list s
  match s, hs with
  | [], _ =>
    go_enter Tryz.func44, Tryz.ntmps44
    go_wp2_with fail
    go_ret
    exact ⟨rfl, rfl⟩
  | [x], _ =>
    have HE : Hid (regR [x] = -1) := Lib.hid (by
      unfold regR
      split
      · rename_i t h
        obtain rfl : t = [] := by simpa using (List.cons.inj h).2.symm
        rfl
      · rfl)
    go_enter Tryz.func44, Tryz.ntmps44
    go_wp2_with fail
    go_ret
    rw [HE.out]
    exact ⟨rfl, rfl⟩
  | x :: y :: t, hs =>
    have hg := bs_get (x :: y :: t) 0 x rfl
    have k0 : ¬ ((x :: y :: t).length : Int) < 2 := by simp; omega
    have k00 : (0 : Int) < ((x :: y :: t).length : Int) := by simp; omega
    by_cases hx : x = 114
    · subst hx
      obtain ⟨r, hr⟩ : ∃ r, r = y :: t := ⟨_, rfl⟩
      have hrl : r.length ≤ 1000000 := by rw [hr]; simp at hs ⊢; omega
      have HN := Lib.hid (fun w => ref_number r hrl w)
      have h9 : (bs (114 :: y :: t)).extract 1 (bs (114 :: y :: t)).size = bs r := by rw [hr]; apply bs_inj; simp [bs, ByteArray.size]
      have h9' : (bs (114 :: y :: t)).extract 1 ((y :: t).length + 1) = bs r := by rw [hr]; apply bs_inj; simp [bs, ByteArray.size]
      have h9'' : (bs (114 :: y :: t)).extract 1 (t.length + 1 + 1) = bs r := by rw [hr]; apply bs_inj; simp [bs, ByteArray.size]
      have h8 : 1 ≤ (bs (114 :: y :: t)).size := by rw [hsz]; simp
      have h7 : (1 : Int) ≤ ((bs (114 :: y :: t)).size : Int) := by omega
      have HE : Hid (regR (114 :: y :: t) = if (numR r).2 && (decide (0 ≤ (numR r).1) && decide ((numR r).1 ≤ 15)) then (numR r).1 else -1) := Lib.hid (by rw [hr]; rfl)
      rcases hnr : numR r with ⟨n, ok⟩
      rw [hnr] at HN HE
      simp only at HN HE
      have hq : (ok = false ∧ regR (114 :: y :: t) = -1) ∨ (ok = true ∧ n < 0 ∧ regR (114 :: y :: t) = -1) ∨ (ok = true ∧ ¬ n < 0 ∧ 15 < n ∧ regR (114 :: y :: t) = -1) ∨ (ok = true ∧ ¬ n < 0 ∧ ¬ 15 < n ∧ regR (114 :: y :: t) = n) := by
        rw [HE.out]
        cases ok
        · left; simp
        · right
          by_cases h0 : n < 0
          · left; exact ⟨rfl, h0, by rw [decide_eq_false (by omega : ¬ 0 ≤ n)]; simp⟩
          · right
            by_cases h1 : 15 < n
            · left; exact ⟨rfl, h0, h1, by rw [decide_eq_false (by omega : ¬ n ≤ 15)]; simp⟩
            · right; exact ⟨rfl, h0, h1, by rw [decide_eq_true (by omega : 0 ≤ n), decide_eq_true (by omega : n ≤ 15)]; rfl⟩
      have HQ := Lib.hid hq
      clear hr hnr hq hs HE
      go_enter Tryz.func44, Tryz.ntmps44
      go_wp2_with fail
      refine (HN.out _).mono ?_
      rintro e w2 ⟨rfl, hw2⟩
      rw [hw2]
      clear hw2 w2
      rcases HQ.out with ⟨rfl, h⟩ | ⟨rfl, k1, h⟩ | ⟨rfl, k1, k2, h⟩ | ⟨rfl, k1, k2, h⟩
      all_goals
        have HH := Lib.hid h
        clear h
        go_wp2_with fail
        go_ret
        rw [HH.out]
        exact ⟨rfl, rfl⟩
    · have HE : Hid (regR (x :: y :: t) = -1) := Lib.hid (by
        unfold regR
        split
        · rename_i q h
          exact absurd (List.cons.inj h).1 hx
        · rfl)
      have hxn : x.toNat ≠ 114 := fun e => hx (UInt8.toNat_inj.1 e)
      have e1 : ((x.toNat : Int) == 114) = false := beq_eq_false_iff_ne.2 (by omega)
      have e2 : ((x.toNat : Int) != 114) = true := by simp [bne, e1]
      clear hx hxn
      go_enter Tryz.func44, Tryz.ntmps44
      go_wp2_with fail
      go_ret
      rw [HE.out]
      exact ⟨rfl, rfl⟩

theorem opOf_at : ∀ i : Fin 24, opOf (opAt (i.val + 1)) = i.val + 1 := by decide +kernel
theorem opGo_none (p : List UInt8) : ∀ n, (∀ j, j < n → opAt (j + 1) ≠ p) → opGo p n = 0
  | 0, _ => rfl
  | n + 1, h => by
    unfold opGo
    rw [if_neg (h n (by omega))]
    exact opGo_none p n fun j hj => h j (by omega)
def opArr24 : Array Value := #[.string ⟨#[115, 101, 116]⟩, .string ⟨#[104, 105, 103, 104]⟩, .string ⟨#[109, 111, 118]⟩, .string ⟨#[97, 100, 100]⟩, .string ⟨#[115, 117, 98]⟩, .string ⟨#[109, 117, 108]⟩, .string ⟨#[100, 105, 118]⟩, .string ⟨#[97, 110, 100]⟩, .string ⟨#[111, 114]⟩, .string ⟨#[120, 111, 114]⟩, .string ⟨#[115, 104, 108]⟩, .string ⟨#[115, 104, 114]⟩, .string ⟨#[97, 100, 100, 105]⟩, .string ⟨#[108, 111, 97, 100]⟩, .string ⟨#[115, 116, 111, 114, 101]⟩, .string ⟨#[108, 111, 97, 100, 98]⟩, .string ⟨#[115, 116, 111, 114, 101, 98]⟩, .string ⟨#[106, 109, 112]⟩, .string ⟨#[106, 122]⟩, .string ⟨#[106, 110, 122]⟩, .string ⟨#[106, 108, 116]⟩, .string ⟨#[99, 97, 108, 108]⟩, .string ⟨#[114, 101, 116]⟩, .string ⟨#[115, 121, 115]⟩]
theorem opArr24_at (c : Nat) (h : c < 24) : opArr24[c]? = some (.string (bs (opAt (c + 1)))) := by
  have e : opArr24 = ((opL.drop 1).map fun l => Value.string (bs l)).toArray := rfl
  have hl : c + 1 < opL.length := by show c + 1 < 25; omega
  rw [e, List.getElem?_toArray, List.getElem?_map, List.getElem?_drop, show 1 + c = c + 1 by omega, List.getElem?_eq_getElem hl]
  simp [opAt, List.getD, List.getElem?_eq_getElem hl]

set_option maxHeartbeats 3200000 in
theorem ref_op (p : List UInt8) (w : World) :
    Calls Tryz.prog 43 #[.string (bs p)] w fun e w' => e = .returned (.int .i64 (opOf p : Int)) ∧ Below w.heap.size w w' := by
  have hTp := bs_list p
  go_enter Tryz.func43, Tryz.ntmps43
  go_wp2_with (first | refine wpList_buildSliceAs rfl 56 9 24 _ rfl opArr24 Tryz.underlying56 (by decide) (by decide) (by kernel_rfl) ?_ | fail)
  have hcell : ∀ c, c < 24 → (w.alloc (.cells opArr24 9)).cell? ⟨w.heap.size, c, none⟩ = some (.string (bs (opAt (c + 1)))) := fun c hc => by
    rw [cell_of_row _ w.heap.size c _ _ _ (heap_alloc_new w _)]
    exact opArr24_at c hc
  have hb : Below w.heap.size w (w.alloc (.cells opArr24 9)) := (Below.refl _ _).alloc (Nat.le_refl _) _
  generalize w.alloc (.cells opArr24 9) = w1 at *
  have HC := Lib.hid hcell
  have HB := Lib.hid hb
  clear hcell hb
  go_loopg [4] 24 (fun k v wr => ∃ i : Nat, k + i = 24 ∧ v = .int .i64 (i : Int) ∧ (∀ j, j < i → opAt (j + 1) ≠ p) ∧ wr = w1)
  case atStart => exact ⟨0, by omega, rfl, by omega, rfl⟩
  case round =>
    obtain ⟨i, hk, rfl, hno, rfl⟩ := hrel
    have hk := Lib.hid hk
    have HN := Lib.hid hno
    have hi3 : (0 : Int) ≤ (i : Int) := by omega
    have wr1 : IntKind.i64.wrap ((i : Int) + 1) = (i : Int) + 1 := by rw [IntKind.wrap_i64]; have := hk.out; omega
    clear hno
    by_cases hi : i < 24
    · have hi1 : (i : Int) < 24 := by omega
      have d1 := HC.out i hi
      obtain ⟨nm, hnm⟩ : ∃ nm, nm = opAt (i + 1) := ⟨_, rfl⟩
      rw [← hnm] at d1
      have hTn := bs_list nm
      by_cases hq : nm = p
      · have HE : Hid (opOf p = i + 1) := Lib.hid (by rw [← hq, hnm]; exact opOf_at ⟨i, hi⟩)
        have e1 : (nm == p) = true := by simpa using hq
        clear hnm hq
        go_wp2_with fail
        go_ret
        rw [HE.out]
        exact ⟨rfl, HB.out⟩
      · have HN2 : Hid (∀ j, j < i + 1 → opAt (j + 1) ≠ p) := Lib.hid fun j hj => by
          rcases Nat.lt_or_ge j i with h | h
          · exact HN.out j h
          · obtain rfl : j = i := by omega
            rw [← hnm]; exact hq
        have e1 : (nm == p) = false := by simpa using hq
        clear hnm hq
        go_wp2_with fail
        go_roundg (gk - 1)
        case measure => have := hk.out; omega
        case rel => exact ⟨i + 1, by have := hk.out; omega, by simp, HN2.out, rfl⟩
    · have hi1 : ¬ (i : Int) < 24 := by omega
      have HE : Hid (opOf p = 0) := Lib.hid (opGo_none p 24 fun j hj => HN.out j (by omega))
      go_wp2_with fail
      go_ret
      rw [HE.out]
      exact ⟨rfl, HB.out⟩

/-- labels in a slice -/
def LabsAt (W : World) (v : Value) (labs : List (List UInt8 × Nat)) : Prop :=
  ∃ ad cap, v = .slice ad labs.length cap ∧ ∀ (j : Nat) (y : List UInt8 × Nat), labs[j]? = some y → ∃ g off, ad = some ⟨g, off, none⟩ ∧ W.cell? ⟨g, off + j * 2, none⟩ = some (.string (bs y.1)) ∧ W.cell? ⟨g, off + j * 2 + 1, none⟩ = some (.int .i64 (y.2 : Int))
theorem LabsAt.on {W W' : World} {v : Value} {labs : List (List UInt8 × Nat)} (h : LabsAt W v labs) (hb : Below W.heap.size W W') : LabsAt W' v labs := by
  obtain ⟨ad, cap, h1, h2⟩ := h
  refine ⟨ad, cap, h1, fun j y hy => ?_⟩
  obtain ⟨g, off, e, c1, c2⟩ := h2 j y hy
  exact ⟨g, off, e, (hb.cell (World.block_lt_of_cell? _ _ c1)).trans c1, (hb.cell (World.block_lt_of_cell? _ _ c2)).trans c2⟩
theorem look_first {labs : List (List UInt8 × Nat)} {s : List UInt8} {i : Nat} {y : List UInt8 × Nat} (hno : ∀ j z, j < i → labs[j]? = some z → z.1 ≠ s) (hy : labs[i]? = some y) (he : y.1 = s) : look labs s = some y.2 := by
  induction labs generalizing i with
  | nil => simp at hy
  | cons a labs ih =>
    cases i with
    | zero =>
      simp only [List.getElem?_cons_zero, Option.some.injEq] at hy
      subst hy
      simp [look, he]
    | succ i =>
      have ha : a.1 ≠ s := hno 0 a (by omega) rfl
      have ha' : (a.1 == s) = false := by simpa using ha
      have := ih (i := i) (fun j z hj hz => hno (j + 1) z (by omega) (by simpa using hz)) (by simpa using hy)
      unfold look at this ⊢
      rw [List.find?_cons, ha']
      exact this
theorem look_nowhere {labs : List (List UInt8 × Nat)} {s : List UInt8} (hno : ∀ z ∈ labs, z.1 ≠ s) : look labs s = none := by
  unfold look
  rw [List.find?_eq_none.2 (fun z hz => by simpa using hno z hz)]; rfl
set_option maxHeartbeats 3200000 in
theorem ref_find (v : Value) (labs : List (List UInt8 × Nat)) (hll : labs.length ≤ 1000000) (s : List UInt8) (w : World) (hv : LabsAt w v labs) :
    Calls Tryz.prog 16 #[v, .string (bs s)] w fun e w' => e = .returned (.tuple #[.int .i64 (((look labs s).getD 0 : Nat) : Int), .bool (look labs s).isSome]) ∧ w' = w := by
  obtain ⟨ad, cap, rfl, hc⟩ := hv
  have hTs := bs_list s
  have HC := Lib.hid hc
  clear hc
  go_enter Tryz.func16, Tryz.ntmps16
  go_wp2_with fail
  go_loopg [6] labs.length (fun k u wr => ∃ i : Nat, k + i = labs.length ∧ u = .int .i64 (i : Int) ∧ (∀ j z, j < i → labs[j]? = some z → z.1 ≠ s) ∧ wr = w)
  case atStart => exact ⟨0, by omega, rfl, by omega, rfl⟩
  case round =>
    obtain ⟨i, hk, rfl, hno, rfl⟩ := hrel
    have hk := Lib.hid hk
    have HN := Lib.hid hno
    have hi3 : (0 : Int) ≤ (i : Int) := by omega
    have wr1 : IntKind.i64.wrap ((i : Int) + 1) = (i : Int) + 1 := by rw [IntKind.wrap_i64]; have := hk.out; omega
    clear hno
    by_cases hi : i < labs.length
    · have hi1 : (i : Int) < (labs.length : Int) := by omega
      obtain ⟨y, hy⟩ : ∃ y, labs[i]? = some y := ⟨labs[i], List.getElem?_eq_getElem hi⟩
      obtain ⟨g, off, rfl, d1, d2⟩ := HC.out i y hy
      obtain ⟨nm, at_⟩ := y
      simp only at d1 d2
      have hTn := bs_list nm
      by_cases hq : nm = s
      · have HE : Hid (look labs s = some at_) := Lib.hid (look_first HN.out hy hq)
        have e1 : (nm == s) = true := by simpa using hq
        clear hy hq
        go_wp2_with fail
        go_ret2
        rw [HE.out]
        exact ⟨rfl, rfl⟩
      · have HN2 : Hid (∀ j z, j < i + 1 → labs[j]? = some z → z.1 ≠ s) := Lib.hid fun j z hj hz => by
          rcases Nat.lt_or_ge j i with h | h
          · exact HN.out j z h hz
          · obtain rfl : j = i := by omega
            rw [hy] at hz; cases hz; exact hq
        have e1 : (nm == s) = false := by simpa using hq
        clear hy hq
        go_wp2_with fail
        go_roundg (gk - 1)
        case measure => have := hk.out; omega
        case rel => exact ⟨i + 1, by have := hk.out; omega, by simp, HN2.out, rfl⟩
    · have hi1 : ¬ (i : Int) < (labs.length : Int) := by omega
      have HE : Hid (look labs s = none) := Lib.hid (look_nowhere fun z hz => by
        obtain ⟨j, hj, rfl⟩ := List.mem_iff_getElem.1 hz
        exact HN.out j _ (by omega) (List.getElem?_eq_getElem hj))
      go_wp2_with fail
      go_ret2
      rw [HE.out]
      exact ⟨rfl, rfl⟩
end Go.Proofs.YtapjfcljbdlnkaaGreatDoor
