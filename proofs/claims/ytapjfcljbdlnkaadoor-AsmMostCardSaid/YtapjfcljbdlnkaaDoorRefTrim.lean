/- onionskinref40.trim: a text without blanks at its ends. -/
import Derived.Test.YtapjfcljbdlnkaaDoorRefCut
namespace Go.Proofs.YtapjfcljbdlnkaaDoor
open Go Go.RowKit Go.Lib
set_option maxRecDepth 100000

theorem bs_init (l : List UInt8) (b : UInt8) : (bs (l ++ [b])).extract 0 l.length = bs l := bs_take l [b]
theorem bs_rest (b : UInt8) (t : List UInt8) : (bs (b :: t)).extract 1 (bs (b :: t)).size = bs t := bs_drop [] t b
theorem snoc_of (l : List UInt8) (h : l ≠ []) : ∃ a b, l = a ++ [b] := ⟨l.dropLast, l.getLast h, (List.dropLast_concat_getLast h).symm⟩

set_option maxHeartbeats 6400000 in
theorem ref_trim (s : List UInt8) (hsm : s.length ≤ 1000000) (w : World) :
    Calls Tryd.prog 19 #[.string (bs s)] w fun e w' => e = .returned (.string (bs (trimL s))) ∧ w = w' := by
  go_enter Tryd.func19, Tryd.ntmps19
  go_wp2_with fail
  go_loopg [0] s.length (fun k u wr => ∃ r : List UInt8, u = .string (bs r) ∧ r.length ≤ k ∧ r.length ≤ s.length ∧ s.dropWhile blankB = r.dropWhile blankB ∧ w = wr)
  case atStart => exact ⟨s, rfl, Nat.le_refl _, Nat.le_refl _, rfl, rfl⟩
  case round =>
    obtain ⟨r, rfl, hk, hrs, hd, rfl⟩ := hrel
    have HK := Lib.hid hk
    have HR := Lib.hid hrs
    have HD := Lib.hid hd
    clear hk hrs hd
    by_cases hb : ∃ b t, r = b :: t ∧ blankB b = true
    · obtain ⟨b, t, rfl, hb⟩ := hb
      have hT := bs_list (b :: t)
      have hsz : (bs (b :: t)).size = t.length + 1 := by rw [bs_size]; rfl
      have hg0 : ∀ h', (bs (b :: t))[0]'h' = b := bs_get _ 0 b rfl
      have he : (bs (b :: t)).extract 1 (t.length + 1) = bs t := by have := bs_rest b t; rw [hsz] at this; exact this
      have HE := Lib.hid (show s.dropWhile blankB = t.dropWhile blankB by rw [HD.out, List.dropWhile_cons_of_pos hb])
      have hcase : b = 32 ∨ b = 9 := by simpa [blankB] using hb
      have htl := HR.out
      simp only [List.length_cons] at htl
      have hle : 1 ≤ (bs (b :: t)).size := by omega
      have h0' : 0 < (t.length : Int) + 1 := by omega
      have HQ := Lib.hid hcase
      clear hb hcase
      rcases HQ.out with rfl | rfl
      all_goals
        go_wp2_with fail
        go_roundg (gk - 1)
        case measure => have := HK.out; simp at this; omega
        case rel => exact ⟨t, rfl, by have := HK.out; simp at this; omega, by omega, HE.out, rfl⟩
    · have HD2 : Hid (trimL s = trimR r) := Lib.hid (by
        unfold trimL
        rw [HD.out]
        cases r with
        | nil => rfl
        | cons b t =>
          have : ¬ blankB b = true := fun e => hb ⟨b, t, rfl, e⟩
          rw [List.dropWhile_cons_of_neg this])
      have hcase : r = [] ∨ ∃ b t, r = b :: t ∧ b.toNat ≠ 32 ∧ b.toNat ≠ 9 := by
        cases r with
        | nil => exact .inl rfl
        | cons b t =>
          refine .inr ⟨b, t, rfl, ?_, ?_⟩
          · intro e; exact hb ⟨b, t, rfl, by rw [UInt8.toNat_inj.1 (show b.toNat = (32 : UInt8).toNat from e)]; rfl⟩
          · intro e; exact hb ⟨b, t, rfl, by rw [UInt8.toNat_inj.1 (show b.toNat = (9 : UInt8).toNat from e)]; rfl⟩
      have HQ := Lib.hid hcase
      clear hb hcase HD HK
      rcases HQ.out with rfl | ⟨b, t, rfl, h1, h2⟩
      · have hT := bs_list []
        go_wp2_with fail
        go_loopg [0] s.length (fun k u wr => ∃ q : List UInt8, u = .string (bs q) ∧ q.length ≤ k ∧ q.length ≤ s.length ∧ trimL s = trimR q ∧ w = wr)
        case atStart => exact ⟨_, rfl, HR.out, HR.out, HD2.out, rfl⟩
        case round =>
          obtain ⟨q, rfl, hk, hqs, hd, rfl⟩ := hrel
          have HK := Lib.hid hk
          have HR := Lib.hid hqs
          have HD := Lib.hid hd
          clear hk hqs hd
          by_cases h0 : q = []
          · subst h0
            have hT := bs_list []
            go_wp2_with fail
            go_ret
            exact ⟨by rw [HD.out]; rfl, rfl⟩
          · obtain ⟨a, x, rfl⟩ := snoc_of q h0
            have hal := HR.out
            simp only [List.length_append, List.length_cons, List.length_nil] at hal
            have hT := bs_list (a ++ [x])
            have hsz : (bs (a ++ [x])).size = a.length + 1 := by rw [bs_size]; simp
            have hgx : ∀ h', (bs (a ++ [x]))[a.length]'h' = x := bs_get _ _ x (by simp)
            have he := bs_init a x
            have h0' : 0 < (a.length : Int) + 1 := by omega
            clear h0
            by_cases hb : blankB x = true
            · have HE := Lib.hid (show trimL s = trimR a by rw [HD.out, trimR_blank a x hb])
              have hcase : x = 32 ∨ x = 9 := by simpa [blankB] using hb
              have HQ2 := Lib.hid hcase
              clear hb hcase
              rcases HQ2.out with rfl | rfl
              all_goals
                go_wp2_with fail
                go_roundg (gk - 1)
                case measure => have := HK.out; simp at this; omega
                case rel => exact ⟨a, rfl, by have := HK.out; simp at this; omega, by omega, HE.out, rfl⟩
            · have HE := Lib.hid (show trimL s = a ++ [x] by rw [HD.out, trimR_word a x (by simpa using hb)])
              have h1 : x.toNat ≠ 32 := fun e => hb (by rw [UInt8.toNat_inj.1 (show x.toNat = (32 : UInt8).toNat from e)]; rfl)
              have h2 : x.toNat ≠ 9 := fun e => hb (by rw [UInt8.toNat_inj.1 (show x.toNat = (9 : UInt8).toNat from e)]; rfl)
              have e1 : ((x.toNat : Int) == 32) = false := beq_eq_false_iff_ne.2 (by omega)
              have e2 : ((x.toNat : Int) == 9) = false := beq_eq_false_iff_ne.2 (by omega)
              clear h1 h2 hb
              go_wp2_with fail
              go_ret
              exact ⟨by rw [HE.out]; rfl, rfl⟩
      · have hg0 : ∀ h', (bs (b :: t))[0]'h' = b := bs_get _ 0 b rfl
        have hsz : (bs (b :: t)).size = t.length + 1 := by rw [bs_size]; rfl
        have hT := bs_list (b :: t)
        have e1 : ((b.toNat : Int) == 32) = false := beq_eq_false_iff_ne.2 (by omega)
        have e2 : ((b.toNat : Int) == 9) = false := beq_eq_false_iff_ne.2 (by omega)
        have h0' : 0 < (t.length : Int) + 1 := by omega
        have hle : 1 ≤ (bs (b :: t)).size := by omega
        clear h1 h2
        go_wp2_with fail
        clear hg0 hsz hT e1 e2 h0' hle
        go_loopg [0] s.length (fun k u wr => ∃ q : List UInt8, u = .string (bs q) ∧ q.length ≤ k ∧ q.length ≤ s.length ∧ trimL s = trimR q ∧ w = wr)
        case atStart => exact ⟨_, rfl, HR.out, HR.out, HD2.out, rfl⟩
        case round =>
          obtain ⟨q, rfl, hk, hqs, hd, rfl⟩ := hrel
          have HK := Lib.hid hk
          have HR := Lib.hid hqs
          have HD := Lib.hid hd
          clear hk hqs hd
          by_cases h0 : q = []
          · subst h0
            have hT := bs_list []
            go_wp2_with fail
            go_ret
            exact ⟨by rw [HD.out]; rfl, rfl⟩
          · obtain ⟨a, x, rfl⟩ := snoc_of q h0
            have hal := HR.out
            simp only [List.length_append, List.length_cons, List.length_nil] at hal
            have hT := bs_list (a ++ [x])
            have hsz : (bs (a ++ [x])).size = a.length + 1 := by rw [bs_size]; simp
            have hgx : ∀ h', (bs (a ++ [x]))[a.length]'h' = x := bs_get _ _ x (by simp)
            have he := bs_init a x
            have h0' : 0 < (a.length : Int) + 1 := by omega
            clear h0
            by_cases hb : blankB x = true
            · have HE := Lib.hid (show trimL s = trimR a by rw [HD.out, trimR_blank a x hb])
              have hcase : x = 32 ∨ x = 9 := by simpa [blankB] using hb
              have HQ2 := Lib.hid hcase
              clear hb hcase
              rcases HQ2.out with rfl | rfl
              all_goals
                go_wp2_with fail
                go_roundg (gk - 1)
                case measure => have := HK.out; simp at this; omega
                case rel => exact ⟨a, rfl, by have := HK.out; simp at this; omega, by omega, HE.out, rfl⟩
            · have HE := Lib.hid (show trimL s = a ++ [x] by rw [HD.out, trimR_word a x (by simpa using hb)])
              have h1 : x.toNat ≠ 32 := fun e => hb (by rw [UInt8.toNat_inj.1 (show x.toNat = (32 : UInt8).toNat from e)]; rfl)
              have h2 : x.toNat ≠ 9 := fun e => hb (by rw [UInt8.toNat_inj.1 (show x.toNat = (9 : UInt8).toNat from e)]; rfl)
              have e1 : ((x.toNat : Int) == 32) = false := beq_eq_false_iff_ne.2 (by omega)
              have e2 : ((x.toNat : Int) == 9) = false := beq_eq_false_iff_ne.2 (by omega)
              clear h1 h2 hb
              go_wp2_with fail
              go_ret
              exact ⟨by rw [HE.out]; rfl, rfl⟩
end Go.Proofs.YtapjfcljbdlnkaaDoor
