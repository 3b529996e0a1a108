/- onionskinref03.Lines. -/
import Derived.Test.YtapjfcljbdlnkaaGreatDoorRef03b
namespace Go.Proofs.YtapjfcljbdlnkaaGreatDoor
open Go Go.RowKit Go.Lib
set_option maxRecDepth 100000

/-- a text's lines, as the reference has them -/
def linesR (s : List UInt8) : List (List UInt8) := if (cutAt 10 s).getLast? = some [] then (cutAt 10 s).dropLast else cutAt 10 s
def LSt (s : List UInt8) (out : List (List UInt8)) (f i : Nat) : Prop := cutAt 10 s = out ++ cutAt 10 (s.drop f) ∧ (10 : UInt8) ∉ cutFrom s f i
theorem drop_split (s : List UInt8) (f i : Nat) (hf : f ≤ i) : s.drop f = cutFrom s f i ++ s.drop i := by
  unfold cutFrom
  have h := (List.take_append_drop (i - f) (s.drop f)).symm
  rw [List.drop_drop, show f + (i - f) = i by omega] at h
  exact h
theorem LSt.next {s : List UInt8} {out : List (List UInt8)} {f i : Nat} (h : LSt s out f i) (hf : f ≤ i) {x : UInt8} (hx : s[i]? = some x) (h1 : x ≠ 10) : LSt s out f (i + 1) := by
  refine ⟨h.1, ?_⟩
  rw [cutFrom_next s f i x hx hf]
  simp [h.2, Ne.symm h1]
theorem LSt.cut {s : List UInt8} {out : List (List UInt8)} {f i : Nat} (h : LSt s out f i) (hf : f ≤ i) (hx : s[i]? = some 10) : LSt s (out ++ [cutFrom s f i]) (i + 1) (i + 1) := by
  refine ⟨?_, by rw [cutFrom_self]; simp⟩
  rw [h.1, drop_split s f i hf, drop_at s i 10 hx, cutAt_app 10 _ _ h.2]
  simp
theorem LSt.fin {s : List UInt8} {out : List (List UInt8)} {f : Nat} (h : LSt s out f s.length) (hf : f < s.length) : linesR s = out ++ [s.drop f] := by
  have e : cutFrom s f s.length = s.drop f := by unfold cutFrom; rw [List.take_of_length_le (by simp)]
  have h2 := h.2
  rw [e] at h2
  have h3 := h.1
  rw [cutAt_none 10 _ h2] at h3
  unfold linesR
  rw [h3, if_neg]
  simp
  omega
theorem LSt.fin0 {s : List UInt8} {out : List (List UInt8)} {f : Nat} (h : LSt s out f s.length) (hf : ¬ f < s.length) : linesR s = out := by
  have h3 := h.1
  rw [List.drop_eq_nil_of_le (by omega)] at h3
  have e : cutAt 10 ([] : List UInt8) = [[]] := rfl
  rw [e] at h3
  unfold linesR
  rw [h3, if_pos (by simp)]
  simp

set_option maxHeartbeats 6400000 in
theorem ref_lines (s : List UInt8) (hsm : s.length ≤ 1000000) (w : World) :
    Calls Tryz.prog 14 #[.string (bs s)] w (StrsR w (linesR s)) := by
  obtain ⟨i0, hi0, hz0, hz1, hz2⟩ := info_parts str_info
  have hT := bs_list s
  have hsz : (bs s).size = s.length := bs_size s
  have hct := cutAt_count 10 s
  have hcl : s.count 10 ≤ s.length := List.count_le_length
  have HL := Lib.hid (show (cutAt 10 s).length ≤ 1000001 by omega)
  clear hct hcl
  go_enter Tryz.func14, Tryz.ntmps14
  go_wp2_with fail
  go_loopg [3, 4, 5] s.length (fun k u v j wr => ∃ (i f : Nat) (out : List (List UInt8)), k + i = s.length ∧ f ≤ i ∧ i ≤ s.length ∧ j = .int .i64 (i : Int) ∧ v = .int .i64 (f : Int) ∧ LSt s out f i ∧
    wr.ownsRow w.heap.size 9 1 u out.length (strs out) ∧ Below w.heap.size w wr)
  case atStart => exact ⟨0, 0, [], by omega, by omega, by omega, rfl, rfl, ⟨rfl, by simp [cutFrom]⟩, World.ownsRow_nil _ _ _ _, Below.refl _ _⟩
  case round =>
    obtain ⟨i, f, out, hk, hfi, hil, rfl, rfl, hst, hrow, hB⟩ := hrel
    obtain ⟨ad, cap, rfl, hn63⟩ := own_len hrow
    have hk := Lib.hid hk
    have HST := Lib.hid hst
    have HO := Lib.hid hrow
    have HB := Lib.hid hB
    have hsW := hB.size
    have hi0' : (0 : Int) ≤ (i : Int) := by omega
    have wr1 : IntKind.i64.wrap ((i : Int) + 1) = (i : Int) + 1 := by rw [IntKind.wrap_i64]; omega
    have hol : out.length ≤ 1000001 := by have := HL.out; rw [hst.1] at this; simp at this; omega
    have f1 : (f : Int) ≤ (i : Int) := by omega
    have f0 : (0 : Int) ≤ (f : Int) := by omega
    have f2 : (i : Int) ≤ ((bs s).size : Int) := by rw [hsz]; omega
    have f3 : (f : Int) ≤ ((bs s).size : Int) := by rw [hsz]; omega
    have f4 : f ≤ (bs s).size := by rw [hsz]; omega
    have fin : ∀ (p : List UInt8) (g1 cap1 : Nat) (w2 : World), w2.ownsRow w.heap.size 9 1 (.slice (some ⟨g1, 0, none⟩) (out.length + 1) cap1) (out.length + 1) (strs out ++ [.string (bs p)]) → (wr.alloc (.cells #[.string (bs p)] 9)).grownBy w2 (Value.slice ad out.length cap).ownBlock →
        w2.ownsRow w.heap.size 9 1 (.slice (some ⟨g1, 0, none⟩) (out.length + 1) cap1) (out ++ [p]).length (strs (out ++ [p])) ∧ Below w.heap.size w w2 := fun p g1 cap1 w2 h1 h2 =>
      ⟨by rw [strs_snoc]; simpa using h1, (HB.out.alloc hsW _).grown h2 (by simp; omega) (fun k hk => (own_lt HO.out k hk).1)⟩
    have FIN := Lib.hid fin
    clear hst hrow hB fin
    by_cases hilt : i < s.length
    · have hi1 : (i : Int) < (s.length : Int) := by omega
      obtain ⟨x, hx⟩ : ∃ x, s[i]? = some x := ⟨s[i], List.getElem?_eq_getElem hilt⟩
      have hg := bs_get s i x hx
      by_cases hx10 : x = 10
      · subst hx10
        obtain ⟨p, hp⟩ : ∃ p, p = cutFrom s f i := ⟨_, rfl⟩
        have hpc : (bs s).extract f i = bs p := by rw [bs_piece, hp]; rfl
        have HN := Lib.hid (HST.out.cut hfi hx)
        rw [← hp] at HN
        clear hx hp
        go_wp2_with (at_builtin; refine wpList_append_lies _ rfl _ _ 56 rfl w.heap.size 9 i0 (.string ⟨#[]⟩) 1 16 Tryz.underlying56 hi0 hz0 hz1 hz2 rfl (by decide) (.slice ad out.length cap) out.length (strs out) rfl (HO.out.alloc _) ⟨wr.heap.size, 0, none⟩ 1 1 [.string (bs p)] rfl rfl (cell_one_new _ _ _) (by simp [Value.oneCell']) (by omega) (by unfold maxLen; omega) (by omega) (by simp; omega) (wr.heap.size + 1) (by simp) ?_)
        intro g1 cap1 w2 hown1 hgrow hat hlt1
        have H1 := Lib.hid (FIN.out _ _ _ _ hown1 hgrow)
        clear hown1 hgrow hat hlt1
        go_wp2_with fail
        go_roundg (gk - 1)
        case measure => have := hk.out; omega
        case rel => exact ⟨i + 1, i + 1, out ++ [p], by have := hk.out; omega, by omega, by omega, by simp, by simp, HN.out, by simpa using H1.out.1, H1.out.2⟩
      · have hxn : x.toNat ≠ 10 := fun e => hx10 (UInt8.toNat_inj.1 e)
        have e1 : ((x.toNat : Int) == 10) = false := beq_eq_false_iff_ne.2 (by omega)
        have HN := Lib.hid (HST.out.next hfi hx hx10)
        clear hx hx10 hxn
        go_wp2_with fail
        go_roundg (gk - 1)
        case measure => have := hk.out; omega
        case rel => exact ⟨i + 1, f, out, by have := hk.out; omega, by omega, by omega, by simp, rfl, HN.out, HO.out, HB.out⟩
    · have hi1 : ¬ (i : Int) < (s.length : Int) := by omega
      obtain rfl : i = s.length := by omega
      by_cases hfl : f < s.length
      · have hfl1 : (f : Int) < (s.length : Int) := by omega
        have HE := Lib.hid (HST.out.fin hfl)
        obtain ⟨p, hp⟩ : ∃ p, p = s.drop f := ⟨_, rfl⟩
        have hpc : (bs s).extract f (bs s).size = bs p := by rw [bs_piece, hp, List.take_of_length_le (by simp [hsz])]
        have hpc2 : (bs s).extract f s.length = bs p := by rw [← hsz]; exact hpc
        rw [← hp] at HE
        clear hp
        go_wp2_with (at_builtin; refine wpList_append_lies _ rfl _ _ 56 rfl w.heap.size 9 i0 (.string ⟨#[]⟩) 1 16 Tryz.underlying56 hi0 hz0 hz1 hz2 rfl (by decide) (.slice ad out.length cap) out.length (strs out) rfl (HO.out.alloc _) ⟨wr.heap.size, 0, none⟩ 1 1 [.string (bs p)] rfl rfl (cell_one_new _ _ _) (by simp [Value.oneCell']) (by omega) (by unfold maxLen; omega) (by omega) (by simp; omega) (wr.heap.size + 1) (by simp) ?_)
        intro g1 cap1 w2 hown1 hgrow hat hlt1
        have H1 := Lib.hid (FIN.out _ _ _ _ hown1 hgrow)
        clear hown1 hgrow hat hlt1
        go_wp2_with fail
        go_ret
        rw [HE.out]
        exact ⟨_, rfl, by simpa using H1.out.1, H1.out.2⟩
      · have hfl1 : ¬ (f : Int) < (s.length : Int) := by omega
        have HE := Lib.hid (HST.out.fin0 hfl)
        go_wp2_with fail
        go_ret
        rw [HE.out]
        exact ⟨_, rfl, HO.out, HB.out⟩
end Go.Proofs.YtapjfcljbdlnkaaGreatDoor
