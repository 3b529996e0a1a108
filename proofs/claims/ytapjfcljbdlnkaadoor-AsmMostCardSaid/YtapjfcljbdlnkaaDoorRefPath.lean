/- onionskinref29.Parse: names, an error. -/
import Derived.Test.YtapjfcljbdlnkaaDoorPath
namespace Go.Proofs.YtapjfcljbdlnkaaDoor
open Go Go.RowKit Go.Lib
set_option maxRecDepth 100000

/-- the parts from place f on, where place i has been reached -/
def partsFrom (s : List UInt8) (f i : Nat) : List (List UInt8) := if i ≤ s.length then cutAt 47 (s.drop f) else []
theorem parts_cut (s : List UInt8) (f i : Nat) (hf : f ≤ i) (hi : i ≤ s.length) (hno : 47 ∉ (s.drop f).take (i - f)) (hat : i = s.length ∨ s[i]? = some 47) :
    partsFrom s f i = (s.drop f).take (i - f) :: partsFrom s (i + 1) (i + 1) := by
  unfold partsFrom
  rw [if_pos hi]
  have hsp : s.drop f = (s.drop f).take (i - f) ++ s.drop i := by
    have h := (List.take_append_drop (i - f) (s.drop f)).symm
    rw [List.drop_drop, show f + (i - f) = i by omega] at h
    exact h
  rcases Nat.lt_or_ge i s.length with hlt | hge
  · have h47 : s[i]? = some 47 := by
      rcases hat with h | h
      · omega
      · exact h
    have hd : s.drop i = 47 :: s.drop (i + 1) := by
      rw [List.drop_eq_getElem_cons hlt]
      rw [List.getElem?_eq_getElem hlt] at h47
      rw [Option.some.inj h47]
    rw [if_pos (by omega)]
    conv => lhs; rw [hsp, hd]
    exact cutAt_app 47 _ _ hno
  · obtain rfl : i = s.length := by omega
    rw [if_neg (by omega)]
    have h0 : s.drop s.length = [] := List.drop_eq_nil_of_le (Nat.le_refl _)
    rw [h0, List.append_nil] at hsp
    have h9 := cutAt_none 47 _ hno
    rw [← hsp] at h9 ⊢
    exact h9
theorem no_next (s : List UInt8) (f i : Nat) (hf : f ≤ i) (x : UInt8) (hx : s[i]? = some x) (hne : x ≠ 47) (hno : 47 ∉ (s.drop f).take (i - f)) : 47 ∉ (s.drop f).take (i + 1 - f) := by
  have : (s.drop f).take (i + 1 - f) = (s.drop f).take (i - f) ++ [x] := by
    rw [show i + 1 - f = (i - f) + 1 by omega, List.take_add_one]
    rw [List.getElem?_drop, show f + (i - f) = i by omega, hx]; rfl
  rw [this]
  simp [hno, Ne.symm hne]
theorem bs_piece (s : List UInt8) (f i : Nat) : (bs s).extract f i = bs ((s.drop f).take (i - f)) := by
  apply bs_inj
  simp [bs]

set_option maxHeartbeats 6400000 in
theorem ref_path_slash (t : List UInt8) (ht : t.length ≤ 1000000) (w : World) :
    Calls Tryd.prog 20 #[.string (bs (47 :: t))] w (PathPost w (pathGo [] (cutAt 47 t))) := by
  obtain ⟨i0, hi0, hz0, hz1, hz2⟩ := info_parts str_info
  obtain ⟨s, hs⟩ : ∃ s, s = 47 :: t := ⟨_, rfl⟩
  have hT := bs_list s
  have hsz : (bs s).size = s.length := bs_size s
  have hsl : s.length = t.length + 1 := by rw [hs]; rfl
  have hg0 : ∀ h', (bs s)[0]'h' = 47 := bs_get s 0 47 (by rw [hs]; rfl)
  have hst : cutAt 47 t = partsFrom s 1 1 := by unfold partsFrom; rw [if_pos (by omega), hs]; rfl
  have h0 : ((s.length : Int) == 0) = false := beq_eq_false_iff_ne.2 (by omega)
  have h0' : 0 < s.length := by omega
  have hsm : s.length ≤ 1000001 := by omega
  rw [← hs, hst]
  clear hs hsl hst ht
  go_enter Tryd.func20, Tryd.ntmps20
  go_wp2_with fail
  go_loopg [4, 5, 6] s.length (fun k u v c wr => ∃ (i f : Nat) (out : List (List UInt8)), k + i = s.length + 1 ∧ 1 ≤ f ∧ f ≤ i ∧ c = .int .i64 (i : Int) ∧ v = .int .i64 (f : Int) ∧ 47 ∉ (s.drop f).take (i - f) ∧
    pathGo [] (partsFrom s 1 1) = pathGo out (partsFrom s f i) ∧ out.length ≤ 8 ∧ wr.ownsRow w.heap.size 9 1 u out.length (strs out) ∧ Below w.heap.size w wr)
  case atStart => exact ⟨1, 1, [], by omega, by omega, by omega, rfl, rfl, by simp, rfl, by simp, World.ownsRow_nil _ _ _ _, Below.refl _ _⟩
  case round =>
    obtain ⟨i, f, out, hk, hf1, hfi, rfl, rfl, hno, hgo, hlen, hrow, hB⟩ := hrel
    obtain ⟨ad, cap, rfl, hn63⟩ := own_len hrow
    have hk := Lib.hid hk
    have HN := Lib.hid hno
    have HG := Lib.hid hgo
    have HL := Lib.hid hlen
    have HO := Lib.hid hrow
    have HB := Lib.hid hB
    have hsW := hB.size
    have hi0' : (0 : Int) ≤ (i : Int) := by omega
    have wr1 : IntKind.i64.wrap ((i : Int) + 1) = (i : Int) + 1 := by rw [IntKind.wrap_i64]; have := hk.out; omega
    clear hno hgo hlen hrow hB
    by_cases hi : i ≤ s.length
    · have hi1 : (i : Int) ≤ (s.length : Int) := by omega
      by_cases hc : i < s.length ∧ s[i]? ≠ some 47
      · obtain ⟨hlt, hne⟩ := hc
        obtain ⟨x, hx⟩ : ∃ x, s[i]? = some x := ⟨s[i], List.getElem?_eq_getElem hlt⟩
        have hx47 : x ≠ 47 := fun e => hne (by rw [hx, e])
        have hxn : x.toNat ≠ 47 := fun e => hx47 (UInt8.toNat_inj.1 e)
        have hg := bs_get s i x hx
        have HX := Lib.hid (no_next s f i hfi x hx hx47 HN.out)
        have hlt1 : (i : Int) < (s.length : Int) := by omega
        have e1 : ((x.toNat : Int) != 47) = true := by simp; omega
        have e2 : ((x.toNat : Int) == 47) = false := by simp; omega
        have hP : Hid (partsFrom s f (i + 1) = partsFrom s f i) := Lib.hid (by unfold partsFrom; rw [if_pos hi, if_pos (by omega)])
        clear hne hx hx47 hxn
        go_wp2_with fail
        go_roundg (gk - 1)
        case measure => have := hk.out; omega
        case rel => exact ⟨i + 1, f, out, by have := hk.out; omega, hf1, by omega, by simp, rfl, HX.out, by rw [hP.out]; exact HG.out, HL.out, HO.out, HB.out⟩
      · have hat : i = s.length ∨ s[i]? = some 47 := by
          by_cases h1 : i < s.length
          · right
            by_cases h2 : s[i]? = some 47
            · exact h2
            · exact absurd ⟨h1, h2⟩ hc
          · left; omega
        have HP := Lib.hid (parts_cut s f i hfi hi HN.out hat)
        have HAT := Lib.hid hat
        obtain ⟨p, hp⟩ : ∃ p, p = (s.drop f).take (i - f) := ⟨_, rfl⟩
        have hpc : (bs s).extract f i = bs p := by rw [bs_piece, hp]
        have hpl : p.length ≤ 1000000 := by rw [hp]; simp; omega
        rw [← hp] at HP
        obtain ⟨ps, hps⟩ : ∃ ps, ps = partsFrom s (i + 1) (i + 1) := ⟨_, rfl⟩
        rw [← hps] at HP
        have HPS := Lib.hid hps
        have HG2 : Hid (pathGo [] (partsFrom s 1 1) = pathGo out (p :: ps)) := Lib.hid (by rw [HG.out, HP.out])
        clear hat hc hp HP HG hps
        have hTx := bs_list p
        have f1 : (f : Int) ≤ (i : Int) := by omega
        have f2 : (i : Int) ≤ ((bs s).size : Int) := by rw [hsz]; omega
        -- the guard 'i < len(s) && s[i] != '/'' is false
        have HFN : Hid ((¬ (i : Int) < (s.length : Int)) ∨ ((i : Int) < (s.length : Int) ∧ ∀ h', (bs s)[i]'h' = 47)) := Lib.hid (by
          rcases HAT.out with h | h
          · left; omega
          · right
            exact ⟨by have := (List.getElem?_eq_some_iff.1 h).1; omega, bs_get s i 47 h⟩)
        clear HAT
        by_cases hsk : p = [] ∨ p = [46]
        · rcases hsk with rfl | rfl
          · rcases HFN.out with h1 | ⟨h1, h2⟩
            all_goals
              go_wp2_with fail
              go_roundg (gk - 1)
              case measure => have := hk.out; omega
              case rel => exact ⟨i + 1, i + 1, out, by have := hk.out; omega, by omega, by omega, by simp, by simp, by simp, by rw [HG2.out, pathGo_skip _ _ _ (.inl rfl), HPS.out], HL.out, HO.out, HB.out⟩
          · rcases HFN.out with h1 | ⟨h1, h2⟩
            all_goals
              go_wp2_with fail
              go_roundg (gk - 1)
              case measure => have := hk.out; omega
              case rel => exact ⟨i + 1, i + 1, out, by have := hk.out; omega, by omega, by omega, by simp, by simp, by simp, by rw [HG2.out, pathGo_skip _ _ _ (.inr rfl), HPS.out], HL.out, HO.out, HB.out⟩
        · have HS2 := Lib.hid hsk
          have x0 : p.isEmpty = false := by cases p; exact absurd (.inl rfl) hsk; rfl
          have x1 : (p == [46]) = false := by simp; exact fun e => hsk (.inr e)
          clear hsk
          by_cases hu : p = [46, 46]
          · subst hu
            have HF := Lib.hid (own_form HO.out)
            have HR : Hid (pathGo [] (partsFrom s 1 1) = pathGo out.dropLast (partsFrom s (i + 1) (i + 1))) := Lib.hid (by rw [HG2.out, pathGo_up, HPS.out])
            by_cases hl0 : out.length = 0
            · have hout : out = [] := List.length_eq_zero_iff.1 hl0
              have l0 : ¬ 0 < (out.length : Int) := by omega
              have HO0 := Lib.hid hout
              clear hout hl0
              rcases HFN.out with h1 | ⟨h1, h2⟩
              all_goals
                go_wp2_with fail
                go_roundg (gk - 1)
                case measure => have := hk.out; omega
                case rel => exact ⟨i + 1, i + 1, out, by have := hk.out; omega, by omega, by omega, by simp, by simp, by simp, by rw [HR.out, HO0.out]; rfl, HL.out, HO.out, HB.out⟩
            · have l0 : 0 < (out.length : Int) := by omega
              rcases HF.out with ⟨rfl, rfl⟩ | ⟨g, rfl, hcap⟩
              · exfalso
                rcases HO.out.2 with ⟨_, h⟩ | ⟨_, _, _, h, _⟩
                · omega
                · cases h
              · have hl8 : out.length ≤ 8 := HL.out
                have hp3 : (out.length : Int) - 1 ≤ (cap : Int) := by omega
                have hp4 : wrap64 ((out.length : Int) - 1) = (out.length : Int) - 1 := by unfold wrap64; omega
                have hp6 : 0 ≤ (out.length : Int) - 1 := by omega
                have hsh : Hid (wr.ownsRow w.heap.size 9 1 (.slice (some ⟨g, 0, none⟩) (out.length - 1) cap) out.dropLast.length (strs out.dropLast)) := Lib.hid (by
                  have hsh := own_shrink HO.out (out.length - 1) (by omega)
                  have e1 : (strs out).take (out.length - 1) = strs out.dropLast := by unfold strs; rw [List.dropLast_eq_take, List.map_take]
                  have e2 : out.dropLast.length = out.length - 1 := by simp
                  rw [e1] at hsh
                  rw [e2]; exact hsh)
                have hdl : Hid (out.dropLast.length ≤ 8) := Lib.hid (by simp; omega)
                rcases HFN.out with h1 | ⟨h1, h2⟩
                all_goals
                  go_wp2_with fail
                  clear hp4
                  go_roundg (gk - 1)
                  case measure => have := hk.out; omega
                  case rel => exact ⟨i + 1, i + 1, out.dropLast, by have := hk.out; omega, by omega, by omega, by simp, by simp, by simp, HR.out, hdl.out, hsh.out, HB.out⟩
          · have HU := Lib.hid hu
            have x2 : (p == [46, 46]) = false := by simpa using hu
            clear hu
            have HNM := Lib.hid (fun w => ref_name p hpl w)
            cases hn : nameOK p with
            | false =>
              have HN2 := Lib.hid hn
              clear hn
              have HR : Hid (pathGo [] (partsFrom s 1 1) = ([], 18)) := Lib.hid (by rw [HG2.out, pathGo_bad _ _ _ HS2.out HU.out HN2.out])
              rcases HFN.out with h1 | ⟨h1, h2⟩
              all_goals
                go_wp2_with fail
                refine (HNM.out _).mono ?_
                rintro e w1 ⟨rfl, rfl⟩
                rw [HN2.out]
                go_wp2_with fail
                go_ret2
                unfold PathPost
                rw [HR.out]
                exact ⟨_, rfl, World.ownsRow_nil _ _ _ _, HB.out⟩
            | true =>
              have HN2 := Lib.hid hn
              clear hn
              by_cases hf : out.length = 8
              · have k8 : (8 : Int) ≤ (out.length : Int) := by omega
                have HR : Hid (pathGo [] (partsFrom s 1 1) = ([], 22)) := Lib.hid (by rw [HG2.out, pathGo_full _ _ _ HS2.out HU.out HN2.out hf])
                clear hf
                rcases HFN.out with h1 | ⟨h1, h2⟩
                all_goals
                  go_wp2_with fail
                  refine (HNM.out _).mono ?_
                  rintro e w1 ⟨rfl, rfl⟩
                  rw [HN2.out]
                  go_wp2_with fail
                  go_ret2
                  unfold PathPost
                  rw [HR.out]
                  exact ⟨_, rfl, World.ownsRow_nil _ _ _ _, HB.out⟩
              · have hl8 : out.length ≤ 8 := HL.out
                have k8 : ¬ (8 : Int) ≤ (out.length : Int) := by omega
                have HR : Hid (pathGo [] (partsFrom s 1 1) = pathGo (out ++ [p]) (partsFrom s (i + 1) (i + 1))) := Lib.hid (by rw [HG2.out, pathGo_name _ _ _ HS2.out HU.out HN2.out hf, HPS.out])
                have HL8 : Hid ((out ++ [p]).length ≤ 8) := Lib.hid (by simp; omega)
                clear hf
                have hbm : w.heap.size ≤ wr.heap.size := hsW
                rcases HFN.out with h1 | ⟨h1, h2⟩
                all_goals
                  rcases own_form HO.out with ⟨rfl, rfl⟩ | ⟨g, rfl, hcap⟩
                  · have hl0 : out.length = 0 := by
                      rcases HO.out.2 with ⟨_, h⟩ | ⟨_, _, _, h, _⟩
                      · exact h
                      · cases h
                    have hout := Lib.hid (List.length_eq_zero_iff.1 hl0)
                    rw [hl0] at HO ⊢
                    clear hl0
                    go_wp2_with fail
                    refine (HNM.out _).mono ?_
                    rintro e w1 ⟨rfl, rfl⟩
                    rw [HN2.out]
                    go_wp2_with (first | (at_builtin; refine wpList_append_own_none rfl _ _ 30 rfl w.heap.size 9 i0 1 Tryd.underlying30 hi0 (.slice none 0 0) 0 [] rfl (World.ownsRow_nil _ _ _ _) rfl ?_) | (at_builtin; refine wpList_append_lies _ rfl _ _ 30 rfl w.heap.size 9 i0 (.string ⟨#[]⟩) 1 16 Tryd.underlying30 hi0 hz0 hz1 hz2 rfl (by decide) (.slice none 0 0) 0 [] rfl (World.ownsRow_nil _ _ _ _) ⟨wr.heap.size, 0, none⟩ 1 1 [.string (bs p)] rfl rfl (cell_one_new _ _ _) (by simp [Value.oneCell']) (by omega) (by unfold maxLen; omega) (by omega) (by simp; omega) (wr.heap.size + 1) (by simp) ?_))
                    intro g1 cap1 w2 hown1 hgrow hat hlt1
                    have H1 := Lib.hid (And.intro hown1 hgrow)
                    clear hown1 hgrow hat hlt1
                    go_wp2_with fail
                    obtain ⟨hown1, hgrow⟩ := H1.out
                    have hb1 : Below w.heap.size w w2 := (HB.out.alloc hbm _).grown hgrow (by simp; omega) (fun k hk => by simp [Value.ownBlock] at hk)
                    have ho1 : w2.ownsRow w.heap.size 9 1 (.slice (some ⟨g1, 0, none⟩) 1 cap1) (out ++ [p]).length (strs (out ++ [p])) := by rw [hout.out]; exact hown1
                    go_roundg (gk - 1)
                    case measure => have := hk.out; omega
                    case rel => exact ⟨i + 1, i + 1, out ++ [p], by have := hk.out; omega, by omega, by omega, by simp, by simp, by simp, HR.out, HL8.out, ho1, hb1⟩
                  · by_cases hl0 : out.length = 0
                    · have hout := Lib.hid (List.length_eq_zero_iff.1 hl0)
                      rw [hl0] at HO ⊢
                      clear hl0
                      go_wp2_with fail
                      refine (HNM.out _).mono ?_
                      rintro e w1 ⟨rfl, rfl⟩
                      rw [HN2.out]
                      go_wp2_with (at_builtin; refine wpList_append_own _ rfl _ _ 30 rfl w.heap.size 9 i0 (.string ⟨#[]⟩) 1 16 Tryd.underlying30 hi0 hz0 hz1 hz2 rfl (by decide) (.slice none 0 0) 0 [] rfl (World.ownsRow_nil _ _ _ _) ⟨g, 0, none⟩ 0 cap [] rfl rfl (by simp) (by simp) (by unfold maxLen; omega) (by omega) (by omega) ?_)
                      intro v1 w1 hown1 hgrow hnil
                      subst hnil
                      have hb1 : Below w.heap.size w w1 := HB.out.grown hgrow hbm (fun k hk => by simp [Value.ownBlock] at hk)
                      have HB1 := Lib.hid hb1
                      have hbm1 := hb1.size
                      clear hown1 hgrow hb1
                      go_wp2_with (at_builtin; refine wpList_append_lies _ rfl _ _ 30 rfl w.heap.size 9 i0 (.string ⟨#[]⟩) 1 16 Tryd.underlying30 hi0 hz0 hz1 hz2 rfl (by decide) (.slice none 0 0) 0 [] rfl (World.ownsRow_nil _ _ _ _) ⟨w1.heap.size, 0, none⟩ 1 1 [.string (bs p)] rfl rfl (cell_one_new _ _ _) (by simp [Value.oneCell']) (by omega) (by unfold maxLen; omega) (by omega) (by simp; omega) (w1.heap.size + 1) (by simp) ?_)
                      intro g1 cap1 w2 hown1 hgrow hat hlt1
                      have H1 := Lib.hid (And.intro hown1 hgrow)
                      clear hown1 hgrow hat hlt1
                      go_wp2_with fail
                      obtain ⟨hown1, hgrow⟩ := H1.out
                      have hb1 : Below w.heap.size w w2 := (HB1.out.alloc hbm1 _).grown hgrow (by simp; omega) (fun k hk => by simp [Value.ownBlock] at hk)
                      have ho1 : w2.ownsRow w.heap.size 9 1 (.slice (some ⟨g1, 0, none⟩) 1 cap1) (out ++ [p]).length (strs (out ++ [p])) := by rw [hout.out]; exact hown1
                      go_roundg (gk - 1)
                      case measure => have := hk.out; omega
                      case rel => exact ⟨i + 1, i + 1, out ++ [p], by have := hk.out; omega, by omega, by omega, by simp, by simp, by simp, HR.out, HL8.out, ho1, hb1⟩
                    · have hcells : Hid (∀ j u, (strs out)[j]? = some u → wr.cell? ((⟨g, 0, none⟩ : Addr).add j) = some u) := Lib.hid (HO.out.cells rfl)
                      have hones : Hid (∀ u ∈ strs out, u.oneCell' = true) := Lib.hid (fun u hu => by unfold strs at hu; obtain ⟨x, _, rfl⟩ := List.mem_map.1 hu; rfl)
                      have hsl2 := strs_len out
                      have HSL := Lib.hid hsl2
                      clear hsl2
                      go_wp2_with fail
                      refine (HNM.out _).mono ?_
                      rintro e w1 ⟨rfl, rfl⟩
                      rw [HN2.out]
                      go_wp2_with (at_builtin; refine wpList_append_lies _ rfl _ _ 30 rfl w.heap.size 9 i0 (.string ⟨#[]⟩) 1 16 Tryd.underlying30 hi0 hz0 hz1 hz2 rfl (by decide) (.slice none 0 0) 0 [] rfl (World.ownsRow_nil _ _ _ _) ⟨g, 0, none⟩ out.length cap (strs out) rfl (by rw [HSL.out]; omega) hcells.out hones.out (by omega) (by unfold maxLen; omega) (by omega) (by omega) wr.heap.size (by simp) ?_)
                      intro g1 cap1 w1 hown1 hgrow hat hlt1
                      have hb1 : Below w.heap.size w w1 := HB.out.grown hgrow hbm (fun k hk => by simp [Value.ownBlock] at hk)
                      have HB1 := Lib.hid hb1
                      have HO1 := Lib.hid hown1
                      have hbm1 := hb1.size
                      clear hown1 hgrow hat hlt1 hb1
                      go_wp2_with (at_builtin; refine wpList_append_lies _ rfl _ _ 30 rfl w.heap.size 9 i0 (.string ⟨#[]⟩) 1 16 Tryd.underlying30 hi0 hz0 hz1 hz2 rfl (by decide) (.slice (some ⟨g1, 0, none⟩) out.length cap1) out.length (strs out) rfl (HO1.out.alloc _) ⟨w1.heap.size, 0, none⟩ 1 1 [.string (bs p)] rfl rfl (cell_one_new _ _ _) (by simp [Value.oneCell']) (by omega) (by unfold maxLen; omega) (by omega) (by simp; omega) (w1.heap.size + 1) (by simp) ?_)
                      intro g2 cap2 w2 hown1 hgrow hat hlt1
                      have H1 := Lib.hid (And.intro hown1 hgrow)
                      clear hown1 hgrow hat hlt1
                      go_wp2_with fail
                      obtain ⟨hown1, hgrow⟩ := H1.out
                      have hb1 : Below w.heap.size w w2 := (HB1.out.alloc hbm1 _).grown hgrow (by simp; omega) (fun k hk => by have := (own_lt HO1.out k hk).1; omega)
                      have ho1 : w2.ownsRow w.heap.size 9 1 (.slice (some ⟨g2, 0, none⟩) (out.length + 1) cap2) (out ++ [p]).length (strs (out ++ [p])) := by rw [strs_snoc]; simpa using hown1
                      go_roundg (gk - 1)
                      case measure => have := hk.out; omega
                      case rel => exact ⟨i + 1, i + 1, out ++ [p], by have := hk.out; omega, by omega, by omega, by simp, by simp, by simp, HR.out, HL8.out, ho1, hb1⟩
    · have hi1 : ¬ (i : Int) ≤ (s.length : Int) := by omega
      have HE : Hid (partsFrom s f i = []) := Lib.hid (by unfold partsFrom; rw [if_neg hi])
      go_wp2_with fail
      go_ret2
      unfold PathPost
      rw [HG.out, HE.out]
      exact ⟨_, rfl, HO.out, HB.out⟩
end Go.Proofs.YtapjfcljbdlnkaaDoor
