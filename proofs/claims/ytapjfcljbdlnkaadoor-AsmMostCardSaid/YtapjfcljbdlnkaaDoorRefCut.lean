/- onionskinref40.cut: the pieces of a text at a byte. -/
import Derived.Test.YtapjfcljbdlnkaaDoorShellL
namespace Go.Proofs.YtapjfcljbdlnkaaDoor
open Go Go.RowKit Go.Lib
set_option maxRecDepth 100000

/-- the parts from place f on, where place i has been reached -/
def partsC (c : UInt8) (s : List UInt8) (f i : Nat) : List (List UInt8) := if i ≤ s.length then cutAt c (s.drop f) else []
theorem parts_cutC (c : UInt8) (s : List UInt8) (f i : Nat) (hf : f ≤ i) (hi : i ≤ s.length) (hno : c ∉ (s.drop f).take (i - f)) (hat : i = s.length ∨ s[i]? = some c) :
    partsC c s f i = (s.drop f).take (i - f) :: partsC c s (i + 1) (i + 1) := by
  unfold partsC
  rw [if_pos hi]
  have hsp : s.drop f = (s.drop f).take (i - f) ++ s.drop i := by
    have h := (List.take_append_drop (i - f) (s.drop f)).symm
    rw [List.drop_drop, show f + (i - f) = i by omega] at h
    exact h
  rcases Nat.lt_or_ge i s.length with hlt | hge
  · have h47 : s[i]? = some c := by
      rcases hat with h | h
      · omega
      · exact h
    have hd : s.drop i = c :: s.drop (i + 1) := by
      rw [List.drop_eq_getElem_cons hlt]
      rw [List.getElem?_eq_getElem hlt] at h47
      rw [Option.some.inj h47]
    rw [if_pos (by omega)]
    conv => lhs; rw [hsp, hd]
    exact cutAt_app c _ _ hno
  · obtain rfl : i = s.length := by omega
    rw [if_neg (by omega)]
    have h0 : s.drop s.length = [] := List.drop_eq_nil_of_le (Nat.le_refl _)
    rw [h0, List.append_nil] at hsp
    have h9 := cutAt_none c _ hno
    rw [← hsp] at h9 ⊢
    exact h9
theorem no_nextC (c : UInt8) (s : List UInt8) (f i : Nat) (hf : f ≤ i) (x : UInt8) (hx : s[i]? = some x) (hne : x ≠ c) (hno : c ∉ (s.drop f).take (i - f)) : c ∉ (s.drop f).take (i + 1 - f) := by
  have : (s.drop f).take (i + 1 - f) = (s.drop f).take (i - f) ++ [x] := by
    rw [show i + 1 - f = (i - f) + 1 by omega, List.take_add_one]
    rw [List.getElem?_drop, show f + (i - f) = i by omega, hx]; rfl
  rw [this]
  simp [hno, Ne.symm hne]

/-- strings in a row of one's own -/
def StrsAt (w : World) (r : List (List UInt8)) (e : Ending) (w' : World) : Prop := ∃ v, e = .returned v ∧ w'.ownsRow w.heap.size 9 1 v r.length (strs r) ∧ Below w.heap.size w w'

set_option maxHeartbeats 3200000 in
theorem ref_cut (c : UInt8) (s : List UInt8) (hsm : s.length ≤ 1000000) (w : World) :
    Calls Tryd.prog 18 #[.string (bs s), .int .u8 c.toNat] w (StrsAt w (cutAt c s)) := by
  obtain ⟨i0, hi0, hz0, hz1, hz2⟩ := info_parts str_info
  have hT := bs_list s
  have hsz : (bs s).size = s.length := bs_size s
  have hc256 := c.toNat_lt
  have hct := cutAt_count c s
  have hcl : s.count c ≤ s.length := List.count_le_length
  have HL := Lib.hid (show (cutAt c s).length ≤ 1000001 by omega)
  clear hct hcl
  go_enter Tryd.func18, Tryd.ntmps18
  go_wp2_with fail
  go_loopg [5, 6, 7] (s.length + 1) (fun k u v j wr => ∃ (i f : Nat) (out : List (List UInt8)), k + i = s.length + 1 ∧ f ≤ i ∧ j = .int .i64 (i : Int) ∧ v = .int .i64 (f : Int) ∧ c ∉ (s.drop f).take (i - f) ∧
    cutAt c s = out ++ partsC c s f i ∧ wr.ownsRow w.heap.size 9 1 u out.length (strs out) ∧ Below w.heap.size w wr)
  case atStart => exact ⟨0, 0, [], by omega, by omega, rfl, rfl, by simp, by unfold partsC; simp, World.ownsRow_nil _ _ _ _, Below.refl _ _⟩
  case round =>
    obtain ⟨i, f, out, hk, hfi, rfl, rfl, hno, hgo, hrow, hB⟩ := hrel
    obtain ⟨ad, cap, rfl, hn63⟩ := own_len hrow
    have hk := Lib.hid hk
    have HN := Lib.hid hno
    have HG := Lib.hid hgo
    have HO := Lib.hid hrow
    have HB := Lib.hid hB
    have hsW := hB.size
    have hi0' : (0 : Int) ≤ (i : Int) := by omega
    have wr1 : IntKind.i64.wrap ((i : Int) + 1) = (i : Int) + 1 := by rw [IntKind.wrap_i64]; have := hk.out; omega
    have hol : out.length ≤ 1000001 := by have := HL.out; rw [hgo] at this; simp at this; omega
    clear hno hgo hrow hB
    by_cases hi : i ≤ s.length
    · have hi1 : (i : Int) ≤ (s.length : Int) := by omega
      by_cases hc : i < s.length ∧ s[i]? ≠ some c
      · obtain ⟨hlt, hne⟩ := hc
        obtain ⟨x, hx⟩ : ∃ x, s[i]? = some x := ⟨s[i], List.getElem?_eq_getElem hlt⟩
        have hxc : x ≠ c := fun e => hne (by rw [hx, e])
        have hxn : x.toNat ≠ c.toNat := fun e => hxc (UInt8.toNat_inj.1 e)
        have hg := bs_get s i x hx
        have HX := Lib.hid (no_nextC c s f i hfi x hx hxc HN.out)
        have e0 : ((i : Int) == (s.length : Int)) = false := beq_eq_false_iff_ne.2 (by omega)
        have e2 : ((x.toNat : Int) == (c.toNat : Int)) = false := beq_eq_false_iff_ne.2 (by omega)
        have e3 : (i == s.length) = false := beq_eq_false_iff_ne.2 (by omega)
        have e4 : (x.toNat == c.toNat) = false := beq_eq_false_iff_ne.2 (by omega)
        have hP : Hid (partsC c s f (i + 1) = partsC c s f i) := Lib.hid (by unfold partsC; rw [if_pos hi, if_pos (by omega)])
        have hlt1 : (i : Int) < (s.length : Int) := by omega
        clear hne hx hxc hxn
        go_wp2_with fail
        go_roundg (gk - 1)
        case measure => have := hk.out; omega
        case rel => exact ⟨i + 1, f, out, by have := hk.out; omega, by omega, by simp, rfl, HX.out, by rw [hP.out]; exact HG.out, HO.out, HB.out⟩
      · have hat : i = s.length ∨ s[i]? = some c := by
          by_cases h1 : i < s.length
          · right
            by_cases h2 : s[i]? = some c
            · exact h2
            · exact absurd ⟨h1, h2⟩ hc
          · left; omega
        have HP := Lib.hid (parts_cutC c s f i hfi hi HN.out hat)
        have HAT := Lib.hid hat
        obtain ⟨p, hp⟩ : ∃ p, p = (s.drop f).take (i - f) := ⟨_, rfl⟩
        have hpc : (bs s).extract f i = bs p := by rw [bs_piece, hp]
        rw [← hp] at HP
        have HR : Hid (cutAt c s = (out ++ [p]) ++ partsC c s (i + 1) (i + 1)) := Lib.hid (by rw [HG.out, HP.out]; simp)
        clear hat hc hp HP HG
        have f1 : (f : Int) ≤ (i : Int) := by omega
        have f2 : (i : Int) ≤ ((bs s).size : Int) := by rw [hsz]; omega
        have HFN : Hid (i = s.length ∨ (i < s.length ∧ ∀ h', (bs s)[i]'h' = c)) := Lib.hid (by
          rcases HAT.out with h | h
          · left; omega
          · right
            exact ⟨by have := (List.getElem?_eq_some_iff.1 h).1; omega, bs_get s i c h⟩)
        clear HAT
        have fin : ∀ (g1 cap1 : Nat) (w2 : World), w2.ownsRow w.heap.size 9 1 (.slice (some ⟨g1, 0, none⟩) (out.length + 1) cap1) (out.length + 1) (strs out ++ [.string (bs p)]) → (wr.alloc (.cells #[.string (bs p)] 9)).grownBy w2 (Value.slice ad out.length cap).ownBlock →
            w2.ownsRow w.heap.size 9 1 (.slice (some ⟨g1, 0, none⟩) (out.length + 1) cap1) (out ++ [p]).length (strs (out ++ [p])) ∧ Below w.heap.size w w2 := fun g1 cap1 w2 h1 h2 =>
          ⟨by rw [strs_snoc]; simpa using h1, (HB.out.alloc hsW _).grown h2 (by simp; omega) (fun k hk => (own_lt HO.out k hk).1)⟩
        have FIN := Lib.hid fin
        clear fin
        rcases HFN.out with h1 | ⟨h1, h2⟩
        · have e0 : ((i : Int) == (s.length : Int)) = true := beq_iff_eq.2 (by omega)
          have e3 : (i == s.length) = true := beq_iff_eq.2 h1
          clear h1 hi1
          go_wp2_with (at_builtin; refine wpList_append_lies _ rfl _ _ 30 rfl w.heap.size 9 i0 (.string ⟨#[]⟩) 1 16 Tryd.underlying30 hi0 hz0 hz1 hz2 rfl (by decide) (.slice ad out.length cap) out.length (strs out) rfl (HO.out.alloc _) ⟨wr.heap.size, 0, none⟩ 1 1 [.string (bs p)] rfl rfl (cell_one_new _ _ _) (by simp [Value.oneCell']) (by omega) (by unfold maxLen; omega) (by omega) (by simp; omega) (wr.heap.size + 1) (by simp) ?_)
          intro g1 cap1 w2 hown1 hgrow hat hlt1
          have H1 := Lib.hid (FIN.out _ _ _ hown1 hgrow)
          clear hown1 hgrow hat hlt1
          go_wp2_with fail
          go_roundg (gk - 1)
          case measure => have := hk.out; omega
          case rel => exact ⟨i + 1, i + 1, out ++ [p], by have := hk.out; omega, by omega, by simp, by simp, by simp, HR.out, H1.out.1, H1.out.2⟩
        · have e0 : ((i : Int) == (s.length : Int)) = false := beq_eq_false_iff_ne.2 (by omega)
          have e3 : (i == s.length) = false := beq_eq_false_iff_ne.2 (by omega)
          have hlt1 : (i : Int) < (s.length : Int) := by omega
          clear h1
          go_wp2_with (at_builtin; refine wpList_append_lies _ rfl _ _ 30 rfl w.heap.size 9 i0 (.string ⟨#[]⟩) 1 16 Tryd.underlying30 hi0 hz0 hz1 hz2 rfl (by decide) (.slice ad out.length cap) out.length (strs out) rfl (HO.out.alloc _) ⟨wr.heap.size, 0, none⟩ 1 1 [.string (bs p)] rfl rfl (cell_one_new _ _ _) (by simp [Value.oneCell']) (by omega) (by unfold maxLen; omega) (by omega) (by simp; omega) (wr.heap.size + 1) (by simp) ?_)
          intro g1 cap1 w2 hown1 hgrow hat hlt1
          have H1 := Lib.hid (FIN.out _ _ _ hown1 hgrow)
          clear hown1 hgrow hat hlt1
          go_wp2_with fail
          go_roundg (gk - 1)
          case measure => have := hk.out; omega
          case rel => exact ⟨i + 1, i + 1, out ++ [p], by have := hk.out; omega, by omega, by simp, by simp, by simp, HR.out, H1.out.1, H1.out.2⟩
    · have hi1 : ¬ (i : Int) ≤ (s.length : Int) := by omega
      have HE : Hid (partsC c s f i = []) := Lib.hid (by unfold partsC; rw [if_neg hi])
      go_wp2_with fail
      go_ret
      refine ⟨_, rfl, ?_, HB.out⟩
      rw [HG.out, HE.out, List.append_nil]
      exact HO.out
end Go.Proofs.YtapjfcljbdlnkaaDoor
