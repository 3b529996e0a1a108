/- onionskinref03.Parts, Lines. -/
import Derived.Test.YtapjfcljbdlnkaaGreatDoorRef03a
namespace Go.Proofs.YtapjfcljbdlnkaaGreatDoor
open Go Go.RowKit Go.Lib
set_option maxRecDepth 100000

theorem fieldsQ_lenR (q : UInt8 → Bool) : ∀ (l cur : List UInt8), (fieldsQ q cur l).length ≤ l.length + 1
  | [], cur => by unfold fieldsQ; split <;> simp
  | b :: l, cur => by
    unfold fieldsQ
    split
    · split
      · have := fieldsQ_lenR q l []; simp; omega
      · have := fieldsQ_lenR q l []; simp; omega
    · have := fieldsQ_lenR q l (cur ++ [b]); simp; omega
/-- strings in a row of one's own -/
def StrsR (w : World) (r : List (List UInt8)) (e : Ending) (w' : World) : Prop := ∃ v, e = .returned v ∧ w'.ownsRow w.heap.size 9 1 v r.length (strs r) ∧ Below w.heap.size w w'
/-- a line's parts, as the reference has them -/
def partsR (s : List UInt8) : List (List UInt8) := fieldsB blankR (s.takeWhile (· != 59))
def cutFrom (s : List UInt8) (f i : Nat) : List UInt8 := (s.drop f).take (i - f)
def PSt (s : List UInt8) (out : List (List UInt8)) (f i : Nat) : Prop := partsR s = out ++ fieldsQ blankR (cutFrom s f i) ((s.drop i).takeWhile (· != 59))
theorem drop_at (s : List UInt8) (i : Nat) (x : UInt8) (hx : s[i]? = some x) : s.drop i = x :: s.drop (i + 1) := by
  obtain ⟨h1, h2⟩ := List.getElem?_eq_some_iff.1 hx
  rw [List.drop_eq_getElem_cons h1, h2]
theorem cutFrom_next (s : List UInt8) (f i : Nat) (x : UInt8) (hx : s[i]? = some x) (hf : f ≤ i) : cutFrom s f (i + 1) = cutFrom s f i ++ [x] := by
  unfold cutFrom
  rw [show i + 1 - f = (i - f) + 1 by omega, List.take_add_one, List.getElem?_drop, show f + (i - f) = i by omega, hx]; rfl
theorem cutFrom_self (s : List UInt8) (i : Nat) : cutFrom s i i = [] := by simp [cutFrom]
theorem cutFrom_ne (s : List UInt8) (f i : Nat) (h : f < i) (hi : i ≤ s.length) : cutFrom s f i ≠ [] := by
  intro e
  have := congrArg List.length e
  simp [cutFrom] at this
  omega
theorem cutFrom_len (s : List UInt8) (f i : Nat) : (cutFrom s f i).length ≤ s.length := by simp [cutFrom]; omega
theorem PSt.next {s : List UInt8} {out : List (List UInt8)} {f i : Nat} (h : PSt s out f i) (hf : f ≤ i) {x : UInt8} (hx : s[i]? = some x) (h1 : x ≠ 59) (h2 : blankR x = false) : PSt s out f (i + 1) := by
  unfold PSt at h ⊢
  have e : (x != 59) = true := by simpa using h1
  rw [h, drop_at s i x hx, cutFrom_next s f i x hx hf, List.takeWhile_cons, if_pos e]
  simp only [fieldsQ, h2, Bool.false_eq_true, if_false]
theorem PSt.fin {s : List UInt8} {out : List (List UInt8)} {f i : Nat} (h : PSt s out f i) (he : i = s.length ∨ s[i]? = some 59) : partsR s = if cutFrom s f i = [] then out else out ++ [cutFrom s f i] := by
  unfold PSt at h
  have e : (s.drop i).takeWhile (· != 59) = [] := by
    rcases he with rfl | hx
    · simp
    · rw [drop_at s i 59 hx]; rfl
  rw [h, e]
  simp only [fieldsQ]
  split <;> simp
theorem PSt.blank {s : List UInt8} {out : List (List UInt8)} {f i : Nat} (h : PSt s out f i) {x : UInt8} (hx : s[i]? = some x) (h1 : x ≠ 59) (h2 : blankR x = true) : PSt s (if cutFrom s f i = [] then out else out ++ [cutFrom s f i]) (i + 1) (i + 1) := by
  unfold PSt at h ⊢
  have e : (x != 59) = true := by simpa using h1
  rw [h, drop_at s i x hx, cutFrom_self, List.takeWhile_cons, if_pos e]
  simp only [fieldsQ, h2, if_true]
  split <;> simp

set_option maxHeartbeats 6400000 in
theorem ref_parts (s : List UInt8) (hsm : s.length ≤ 1000000) (w : World) :
    Calls Tryz.prog 15 #[.string (bs s)] w (StrsR w (partsR s)) := by
  obtain ⟨i0, hi0, hz0, hz1, hz2⟩ := info_parts str_info
  have hT := bs_list s
  have hsz : (bs s).size = s.length := bs_size s
  have hpl : (partsR s).length ≤ 1000001 := by
    have := fieldsQ_lenR blankR (s.takeWhile (· != 59)) []
    have h2 := (List.takeWhile_prefix (p := (· != (59 : UInt8))) (l := s)).length_le
    unfold partsR fieldsB; omega
  have HPL := Lib.hid hpl
  clear hpl
  go_enter Tryz.func15, Tryz.ntmps15
  go_wp2_with fail
  go_loopg [3, 4, 5] (s.length + 1) (fun k u v j wr => ∃ (i f : Nat) (out : List (List UInt8)), k + i = s.length + 1 ∧ f ≤ i ∧ i ≤ s.length ∧ j = .int .i64 (i : Int) ∧ v = .int .i64 (f : Int) ∧ PSt s out f i ∧
    wr.ownsRow w.heap.size 9 1 u out.length (strs out) ∧ Below w.heap.size w wr)
  case atStart => exact ⟨0, 0, [], by omega, by omega, by omega, rfl, rfl, rfl, World.ownsRow_nil _ _ _ _, Below.refl _ _⟩
  case round =>
    obtain ⟨i, f, out, hk, hfi, hil, rfl, rfl, hst, hrow, hB⟩ := hrel
    obtain ⟨ad, cap, rfl, hn63⟩ := own_len hrow
    have hk := Lib.hid hk
    have HST := Lib.hid hst
    have HO := Lib.hid hrow
    have HB := Lib.hid hB
    have hsW := hB.size
    have hi0' : (0 : Int) ≤ (i : Int) := by omega
    have wr1 : IntKind.i64.wrap ((i : Int) + 1) = (i : Int) + 1 := by rw [IntKind.wrap_i64]; omega
    have hol : out.length ≤ 1000001 := by have := HPL.out; rw [show partsR s = _ from hst] at this; simp at this; omega
    have hi1 : (i : Int) ≤ (s.length : Int) := by omega
    have f1 : (f : Int) ≤ (i : Int) := by omega
    have f2 : (i : Int) ≤ ((bs s).size : Int) := by rw [hsz]; omega
    obtain ⟨p, hp⟩ : ∃ p, p = cutFrom s f i := ⟨_, rfl⟩
    have hpc : (bs s).extract f i = bs p := by rw [bs_piece, hp]; rfl
    have fin : ∀ (g1 cap1 : Nat) (w2 : World), w2.ownsRow w.heap.size 9 1 (.slice (some ⟨g1, 0, none⟩) (out.length + 1) cap1) (out.length + 1) (strs out ++ [.string (bs p)]) → (wr.alloc (.cells #[.string (bs p)] 9)).grownBy w2 (Value.slice ad out.length cap).ownBlock →
        w2.ownsRow w.heap.size 9 1 (.slice (some ⟨g1, 0, none⟩) (out.length + 1) cap1) (out ++ [p]).length (strs (out ++ [p])) ∧ Below w.heap.size w w2 := fun g1 cap1 w2 h1 h2 =>
      ⟨by rw [strs_snoc]; simpa using h1, (HB.out.alloc hsW _).grown h2 (by simp; omega) (fun k hk => (own_lt HO.out k hk).1)⟩
    have FIN := Lib.hid fin
    clear hst hrow hB fin
    by_cases hend : i = s.length ∨ s[i]? = some 59
    · have HFN : Hid ((i = s.length ∧ (i == s.length) = true ∧ ((i : Int) == (s.length : Int)) = true) ∨ ((i : Int) < (s.length : Int) ∧ (i == s.length) = false ∧ ((i : Int) == (s.length : Int)) = false ∧ ∀ h', (bs s)[i]'h' = 59)) := Lib.hid (by
        rcases hend with h | h
        · left; exact ⟨h, beq_iff_eq.2 h, beq_iff_eq.2 (by omega)⟩
        · right
          have := (List.getElem?_eq_some_iff.1 h).1
          exact ⟨by omega, beq_eq_false_iff_ne.2 (by omega), beq_eq_false_iff_ne.2 (by omega), bs_get s i 59 h⟩)
      have HEN := Lib.hid (HST.out.fin hend)
      rw [← hp] at HEN
      by_cases hlt : f < i
      · have HE : Hid (partsR s = out ++ [p]) := Lib.hid (by rw [HEN.out, if_neg (by rw [hp]; exact cutFrom_ne s f i hlt hil)])
        have hlt1 : (f : Int) < (i : Int) := by omega
        clear hend hp HEN hlt hi1
        rcases HFN.out with ⟨-, e3, e0⟩ | ⟨hj, e3, e0, hg⟩
        all_goals
          go_wp2_with (at_builtin; refine wpList_append_lies _ rfl _ _ 56 rfl w.heap.size 9 i0 (.string ⟨#[]⟩) 1 16 Tryz.underlying56 hi0 hz0 hz1 hz2 rfl (by decide) (.slice ad out.length cap) out.length (strs out) rfl (HO.out.alloc _) ⟨wr.heap.size, 0, none⟩ 1 1 [.string (bs p)] rfl rfl (cell_one_new _ _ _) (by simp [Value.oneCell']) (by omega) (by unfold maxLen; omega) (by omega) (by simp; omega) (wr.heap.size + 1) (by simp) ?_)
          intro g1 cap1 w2 hown1 hgrow hat hlt1
          have H1 := Lib.hid (FIN.out _ _ _ hown1 hgrow)
          clear hown1 hgrow hat hlt1
          go_wp2_with fail
          go_ret
          rw [HE.out]
          exact ⟨_, rfl, by simpa using H1.out.1, H1.out.2⟩
      · have HE : Hid (partsR s = out) := Lib.hid (by rw [HEN.out, if_pos (by rw [hp, show f = i by omega]; exact cutFrom_self s i)])
        have hlt1 : ¬ (f : Int) < (i : Int) := by omega
        clear hend hp HEN hlt
        rcases HFN.out with ⟨-, e3, e0⟩ | ⟨hj, e3, e0, hg⟩
        all_goals
          go_wp2_with fail
          go_ret
          rw [HE.out]
          exact ⟨_, rfl, HO.out, HB.out⟩
    · have hilt : i < s.length := by
        rcases Nat.lt_or_ge i s.length with h | h
        · exact h
        · exact absurd (.inl (by omega)) hend
      obtain ⟨x, hx⟩ : ∃ x, s[i]? = some x := ⟨s[i], List.getElem?_eq_getElem hilt⟩
      have hx59 : x ≠ 59 := fun e => hend (.inr (by rw [hx, e]))
      have hxn : x.toNat ≠ 59 := fun e => hx59 (UInt8.toNat_inj.1 e)
      have hg := bs_get s i x hx
      have hj : (i : Int) < (s.length : Int) := by omega
      have e3 : (i == s.length) = false := beq_eq_false_iff_ne.2 (by omega)
      have e0 : ((i : Int) == (s.length : Int)) = false := beq_eq_false_iff_ne.2 (by omega)
      have e1 : ((x.toNat : Int) == 59) = false := beq_eq_false_iff_ne.2 (by omega)
      have HBL := Lib.hid (fun w => ref_blank x w)
      cases hbl : blankR x with
      | false =>
        have HN := Lib.hid (HST.out.next hfi hx hx59 hbl)
        rw [hbl] at HBL
        clear hend hx hx59 hxn hbl hp
        go_wp2_with fail
        refine (HBL.out _).mono ?_
        rintro e w2 ⟨rfl, rfl⟩
        go_wp2_with fail
        go_roundg (gk - 1)
        case measure => have := hk.out; omega
        case rel => exact ⟨i + 1, f, out, by have := hk.out; omega, by omega, by omega, by simp, rfl, HN.out, HO.out, HB.out⟩
      | true =>
        have HN := Lib.hid (HST.out.blank hx hx59 hbl)
        rw [hbl] at HBL
        rw [← hp] at HN
        by_cases hlt : f < i
        · have HN2 : Hid (PSt s (out ++ [p]) (i + 1) (i + 1)) := Lib.hid (by have := HN.out; rwa [if_neg (by rw [hp]; exact cutFrom_ne s f i hlt hil)] at this)
          have hlt1 : (f : Int) < (i : Int) := by omega
          clear hend hx hx59 hxn hbl hp HN hlt
          go_wp2_with fail
          refine (HBL.out _).mono ?_
          rintro e w3 ⟨rfl, hw3⟩
          rw [hw3]
          clear hw3 w3
          go_wp2_with (at_builtin; refine wpList_append_lies _ rfl _ _ 56 rfl w.heap.size 9 i0 (.string ⟨#[]⟩) 1 16 Tryz.underlying56 hi0 hz0 hz1 hz2 rfl (by decide) (.slice ad out.length cap) out.length (strs out) rfl (HO.out.alloc _) ⟨wr.heap.size, 0, none⟩ 1 1 [.string (bs p)] rfl rfl (cell_one_new _ _ _) (by simp [Value.oneCell']) (by omega) (by unfold maxLen; omega) (by omega) (by simp; omega) (wr.heap.size + 1) (by simp) ?_)
          intro g1 cap1 w2 hown1 hgrow hat hlt1
          have H1 := Lib.hid (FIN.out _ _ _ hown1 hgrow)
          clear hown1 hgrow hat hlt1
          go_wp2_with fail
          go_roundg (gk - 1)
          case measure => have := hk.out; omega
          case rel => exact ⟨i + 1, i + 1, out ++ [p], by have := hk.out; omega, by omega, by omega, by simp, by simp, HN2.out, by simpa using H1.out.1, H1.out.2⟩
        · have HN2 : Hid (PSt s out (i + 1) (i + 1)) := Lib.hid (by have := HN.out; rwa [if_pos (by rw [hp, show f = i by omega]; exact cutFrom_self s i)] at this)
          have hlt1 : ¬ (f : Int) < (i : Int) := by omega
          clear hend hx hx59 hxn hbl hp HN hlt
          go_wp2_with fail
          refine (HBL.out _).mono ?_
          rintro e w2 ⟨rfl, rfl⟩
          go_wp2_with fail
          go_roundg (gk - 1)
          case measure => have := hk.out; omega
          case rel => exact ⟨i + 1, i + 1, out, by have := hk.out; omega, by omega, by omega, by simp, by simp, HN2.out, HO.out, HB.out⟩
end Go.Proofs.YtapjfcljbdlnkaaGreatDoor
