/- onionskinref40.Parse: a line's rows, an error. -/
import Derived.Test.YtapjfcljbdlnkaaDoorRefTrim
namespace Go.Proofs.YtapjfcljbdlnkaaDoor
open Go Go.RowKit Go.Lib
set_option maxRecDepth 100000

/-- rows of strings, each in a row of its own -/
def RowsAt (w : World) (B : Nat) (vs : List Value) (rows : List (List (List UInt8))) : Prop :=
  ∀ (i : Nat) (row : List (List UInt8)), rows[i]? = some row → ∃ u : Value, vs[i]? = some u ∧ w.ownsRow B 9 1 u row.length (strs row)
theorem RowsAt.on {w w' : World} {B : Nat} {vs : List Value} {rows : List (List (List UInt8))} (h : RowsAt w B vs rows) (hb : Below w.heap.size w w') : RowsAt w' B vs rows := fun i row hr => by
  obtain ⟨u, h1, h2⟩ := h i row hr
  exact ⟨u, h1, own_on h2 hb⟩
theorem RowsAt.weak {w : World} {B B' : Nat} {vs : List Value} {rows : List (List (List UInt8))} (h : RowsAt w B vs rows) (hB : B' ≤ B) : RowsAt w B' vs rows := fun i row hr => by
  obtain ⟨u, h1, h2⟩ := h i row hr
  exact ⟨u, h1, own_weak h2 hB⟩
theorem own_ne {w : World} {B B' : Nat} {e e' : TypeId} {size size' n n' : Nat} {v v' : Value} {xs xs' : List Value} (h : w.ownsRow B e size v n xs) (h' : w.ownsRow B' e' size' v' n' xs') (hne : e ≠ e') :
    ∀ k, v.ownBlock = some k → v'.ownBlock ≠ some k := by
  intro k hk hk'
  rcases h.2 with ⟨rfl, _⟩ | ⟨g, cap, cur, rfl, _, h3, _⟩
  · simp [Value.ownBlock] at hk
  · rcases h'.2 with ⟨rfl, _⟩ | ⟨g', cap', cur', rfl, _, h3', _⟩
    · simp [Value.ownBlock] at hk'
    · simp only [Value.ownBlock, Option.some.injEq] at hk hk'
      subst hk hk'
      rw [h3] at h3'
      cases h3'
      exact hne rfl
/-- the outer row grows: the rows in it stand -/
theorem RowsAt.grown {w w1 : World} {B Bo : Nat} {e : TypeId} {n : Nat} {v u : Value} {tmp : Obj} {vs : List Value} {rows : List (List (List UInt8))} {row : List (List UInt8)} (h : RowsAt w B vs rows) (hv : vs.length = rows.length)
    (ho : w.ownsRow Bo e 1 v n vs) (hne : e ≠ 9) (hg : (w.alloc tmp).grownBy w1 v.ownBlock) (hu : w.ownsRow B 9 1 u row.length (strs row)) : RowsAt w1 B (vs ++ [u]) (rows ++ [row]) := by
  have mv : ∀ {u : Value} {row : List (List UInt8)}, w.ownsRow B 9 1 u row.length (strs row) → w1.ownsRow B 9 1 u row.length (strs row) := fun hr =>
    own_move hr (Nat.le_refl _) fun k hk => (hg.block k (by have := (own_lt hr k hk).2; simp; omega) (fun e' => own_ne hr ho (Ne.symm hne) k hk e'.symm)).trans (Below.heap_alloc w tmp k (own_lt hr k hk).2)
  intro i r hr
  rcases Nat.lt_or_ge i rows.length with hlt | hge
  · rw [List.getElem?_append_left hlt] at hr
    obtain ⟨u', h1, h2⟩ := h i r hr
    exact ⟨u', by rw [List.getElem?_append_left (by omega)]; exact h1, mv h2⟩
  · have hi : i = rows.length := by
      have := (List.getElem?_eq_some_iff.1 hr).1
      simp at this; omega
    subst hi
    rw [List.getElem?_append_right (by omega)] at hr
    simp at hr
    subst hr
    exact ⟨u, by rw [List.getElem?_append_right (by omega), hv]; simp, mv hu⟩
/-- rows and an error are handed back -/
def ShellPost (eo : TypeId) (w : World) (r : List (List (List UInt8)) × Int) (e : Ending) (w' : World) : Prop :=
  ∃ v vs, e = .returned (.tuple #[v, .int .i64 r.2]) ∧ w'.ownsRow w.heap.size eo 1 v r.1.length vs ∧ RowsAt w' w.heap.size vs r.1 ∧ Below w.heap.size w w'
theorem shellGo_skip (out : List (List (List UInt8))) (p : List UInt8) (ps : List (List UInt8)) (h : p.all blankB = true) : shellGo out (p :: ps) = shellGo out ps := by
  simp only [shellGo, if_pos h]
theorem shellGo_bad (out : List (List (List UInt8))) (p : List UInt8) (ps : List (List UInt8)) (e : Int) (h : ¬ p.all blankB = true) (hr : rowGo [] (cutAt 124 p) = .error e) : shellGo out (p :: ps) = ([], e) := by
  simp only [shellGo, if_neg h, hr]
theorem shellGo_big (out : List (List (List UInt8))) (p : List UInt8) (ps : List (List UInt8)) (row : List (List UInt8)) (h : ¬ p.all blankB = true) (hr : rowGo [] (cutAt 124 p) = .ok row) (hb : 3 < row.length ∨ out.length = 4) : shellGo out (p :: ps) = ([], 22) := by
  simp only [shellGo, if_neg h, hr, if_pos hb]
theorem shellGo_row (out : List (List (List UInt8))) (p : List UInt8) (ps : List (List UInt8)) (row : List (List UInt8)) (h : ¬ p.all blankB = true) (hr : rowGo [] (cutAt 124 p) = .ok row) (hb : ¬ (3 < row.length ∨ out.length = 4)) : shellGo out (p :: ps) = shellGo (out ++ [row]) ps := by
  simp only [shellGo, if_neg h, hr, if_neg hb]
theorem rowGo_none (row : List (List UInt8)) (x : List UInt8) (ws : List (List UInt8)) (h : wordOf x = none) : rowGo row (x :: ws) = .error 19 := by
  simp only [rowGo, h]
theorem rowGo_bad (row : List (List UInt8)) (x t : List UInt8) (ws : List (List UInt8)) (h : wordOf x = some t) (hb : (pathP t).2 ≠ 0 ∨ 60 < t.length) : rowGo row (x :: ws) = .error 18 := by
  simp only [rowGo, h, if_pos hb]
theorem rowGo_word (row : List (List UInt8)) (x t : List UInt8) (ws : List (List UInt8)) (h : wordOf x = some t) (hb : ¬ ((pathP t).2 ≠ 0 ∨ 60 < t.length)) : rowGo row (x :: ws) = rowGo (row ++ [t]) ws := by
  simp only [rowGo, h, if_neg hb]
theorem wordOf_blank (x : List UInt8) (h : trimL x = []) : wordOf x = none := by unfold wordOf; rw [if_pos (.inl h)]
theorem wordOf_two (x : List UInt8) (h : (trimL x).any blankB = true) : wordOf x = none := by unfold wordOf; rw [if_pos (.inr h)]
theorem wordOf_one (x : List UInt8) (h : trimL x ≠ []) (h2 : (trimL x).any blankB = false) : wordOf x = some (trimL x) := by
  unfold wordOf; rw [if_neg]; rintro (e | e)
  · exact h e
  · rw [h2] at e; cases e
theorem row_info : (Tryd.prog.info? 30).map (fun i => (i.zero, i.size, i.bytes)) = some (some (.slice none 0 0), 1, 24) := by kernel_rfl
theorem trimL_len (l : List UInt8) : (trimL l).length ≤ l.length := by
  obtain ⟨pre, h1, _⟩ := drop_split l
  obtain ⟨post, h3, _⟩ := trimR_split (l.dropWhile blankB)
  have e1 := congrArg List.length h1
  have e3 := congrArg List.length h3
  have : (trimL l).length = (trimR (l.dropWhile blankB)).length := rfl
  simp at e1 e3; omega

set_option maxHeartbeats 12800000 in
theorem ref_shell (s : List UInt8) (hsm : s.length ≤ 1000) (w : World) :
    Calls Tryd.prog 6 #[.string (bs s)] w (ShellPost 30 w (shellP s)) := by
  obtain ⟨i0, hi0, hz0, hz1, hz2⟩ := info_parts str_info
  obtain ⟨i1, hi1, hy0, hy1, hy2⟩ := info_parts row_info
  go_enter Tryd.func6, Tryd.ntmps6
  go_wp2_with fail
  refine (ref_cut 59 s (by omega) _).mono ?_
  rintro e w1 ⟨v5, rfl, hown5, hb5⟩
  obtain ⟨P, hP⟩ : ∃ P, P = cutAt 59 s := ⟨_, rfl⟩
  have hPlen : P.length ≤ 1001 := by rw [hP, cutAt_count]; have : s.count 59 ≤ s.length := List.count_le_length; omega
  have hP0 : 0 < P.length := by rw [hP, cutAt_count]; omega
  have hPp : ∀ p ∈ P, p.length ≤ 1000 := fun p hp => by rw [hP] at hp; have := cutAt_len 59 s p hp; omega
  have HS : Hid (shellP s = shellGo [] P) := Lib.hid (by rw [hP]; rfl)
  rw [← hP] at hown5
  obtain ⟨g5, cap5, rfl, -, hcell5⟩ := own_cell hown5 hP0
  have HC5 := Lib.hid hcell5
  have HB5 := Lib.hid hb5
  have HPP := Lib.hid hPp
  have hz1' := hb5.size
  clear hown5 hb5 hP hPp hcell5
  go_wp2_with fail
  go_loopg [4, 6] P.length (fun k u c wr => ∃ (i : Nat) (out : List (List (List UInt8))) (vs : List Value), k + i = P.length ∧ c = .int .i64 (i : Int) ∧ shellGo [] P = shellGo out (P.drop i) ∧ out.length ≤ 4 ∧
    wr.ownsRow w1.heap.size 30 1 u out.length vs ∧ RowsAt wr w1.heap.size vs out ∧ Below w1.heap.size w1 wr)
  case atStart => exact ⟨0, [], [], by omega, rfl, rfl, by simp, World.ownsRow_nil _ _ _ _, (fun i row h => by simp at h), Below.refl _ _⟩
  case round =>
    obtain ⟨i, out, vs, hk, rfl, hgo, hlen, hrow, hrows, hB⟩ := hrel
    obtain ⟨wo, rfl⟩ : ∃ wo : World, wo = wr := ⟨_, rfl⟩
    obtain ⟨ad, cap, rfl, hn63⟩ := own_len hrow
    have hk := Lib.hid hk
    have HG := Lib.hid hgo
    have HL := Lib.hid hlen
    have HO := Lib.hid hrow
    have HR := Lib.hid hrows
    have HB := Lib.hid hB
    have hsW := hB.size
    have hi0' : (0 : Int) ≤ (i : Int) := by omega
    have wr1 : IntKind.i64.wrap ((i : Int) + 1) = (i : Int) + 1 := by rw [IntKind.wrap_i64]; have := hk.out; omega
    clear hgo hlen hrow hrows hB
    by_cases hi : i < P.length
    · have hi1' : (i : Int) < (P.length : Int) := by omega
      obtain ⟨p, hp⟩ : ∃ p, P[i]? = some p := ⟨P[i], List.getElem?_eq_getElem hi⟩
      have hpl : p.length ≤ 1000 := HPP.out p (List.mem_of_getElem? hp)
      have c5 := HC5.out i (.string (bs p)) (by unfold strs; rw [List.getElem?_map, hp]; rfl)
      have d5 := (HB.out.cell (World.block_lt_of_cell? _ _ c5)).trans c5
      have HD : Hid (P.drop i = p :: P.drop (i + 1)) := Lib.hid (by
        rw [List.drop_eq_getElem_cons hi]
        rw [List.getElem?_eq_getElem hi] at hp
        rw [Option.some.inj hp])
      have HTR := Lib.hid (fun w => ref_trim p (by omega) w)
      have hT := bs_list (trimL p)
      have HA := Lib.hid (trimL_nil p)
      clear hp c5
      by_cases hbl : trimL p = []
      · have HBL := Lib.hid hbl
        have e0 : (trimL p).isEmpty = true := by rw [hbl]; rfl
        clear hbl
        go_wp2_with fail
        refine (HTR.out _).mono ?_
        rintro e w2 ⟨rfl, rfl⟩
        go_wp2_with fail
        go_roundg (gk - 1)
        case measure => have := hk.out; omega
        case rel => exact ⟨i + 1, out, vs, by have := hk.out; omega, by simp, by rw [HG.out, HD.out, shellGo_skip _ _ _ (HA.out.1 HBL.out)], HL.out, HO.out, HR.out, HB.out⟩
      · have HBL : Hid (¬ p.all blankB = true) := Lib.hid (fun e => hbl (HA.out.2 e))
        have e0 : (trimL p).isEmpty = false := by cases h : trimL p; exact absurd h hbl; rfl
        clear hbl
        go_wp2_with fail
        refine (HTR.out _).mono ?_
        rintro e w2 ⟨rfl, rfl⟩
        go_wp2_with fail
        refine (ref_cut 124 p (by omega) _).mono ?_
        rintro e wA ⟨v8, rfl, hown8, hb8⟩
        obtain ⟨ws, hws⟩ : ∃ ws, ws = cutAt 124 p := ⟨_, rfl⟩
        have hwl : ws.length ≤ 1001 := by rw [hws, cutAt_count]; have : p.count 124 ≤ p.length := List.count_le_length; omega
        have hw0 : 0 < ws.length := by rw [hws, cutAt_count]; omega
        have hwp : ∀ q ∈ ws, q.length ≤ 1000 := fun q hq => by rw [hws] at hq; have := cutAt_len 124 p q hq; omega
        rw [← hws] at hown8
        have HWS := Lib.hid hws
        obtain ⟨g8, cap8, rfl, -, hcell8⟩ := own_cell hown8 hw0
        have HC8 := Lib.hid hcell8
        have HB8 := Lib.hid hb8
        have HWP := Lib.hid hwp
        have hzA := hb8.size
        obtain ⟨gk0, hgk⟩ : ∃ g, g = gk := ⟨_, rfl⟩
        have HGK := Lib.hid hgk
        clear hown8 hb8 hws hwp hcell8 hgk
        go_wp2_with fail
        go_loopg [7, 9] ws.length (fun k u c wr2 => ∃ (j : Nat) (row : List (List UInt8)), k + j = ws.length ∧ c = .int .i64 (j : Int) ∧ rowGo [] ws = rowGo row (ws.drop j) ∧ row.length ≤ j ∧
          wr2.ownsRow wA.heap.size 9 1 u row.length (strs row) ∧ Below wA.heap.size wA wr2)
        case atStart => exact ⟨0, [], by omega, rfl, rfl, by simp, World.ownsRow_nil _ _ _ _, Below.refl _ _⟩
        case round =>
          obtain ⟨j, row, hkj, rfl, hgoj, hrl, hrow2, hB2⟩ := hrel
          obtain ⟨wi, rfl⟩ : ∃ wi : World, wi = wr := ⟨_, rfl⟩
          obtain ⟨ad2, cap2, rfl, hn632⟩ := own_len hrow2
          have hkj := Lib.hid hkj
          have HGJ := Lib.hid hgoj
          have HRL := Lib.hid hrl
          have HO2 := Lib.hid hrow2
          have HB2 := Lib.hid hB2
          have hsW2 := hB2.size
          have hj0 : (0 : Int) ≤ (j : Int) := by omega
          have wj1 : IntKind.i64.wrap ((j : Int) + 1) = (j : Int) + 1 := by rw [IntKind.wrap_i64]; have := hkj.out; omega
          have HBO : Hid (Below w1.heap.size w1 wi) := Lib.hid (HB.out.trans ((HB8.out.trans (HB2.out.mono hzA)).mono hsW))
          clear hgoj hrl hrow2 hB2
          by_cases hj : j < ws.length
          · have hj1 : (j : Int) < (ws.length : Int) := by omega
            obtain ⟨q, hq⟩ : ∃ q, ws[j]? = some q := ⟨ws[j], List.getElem?_eq_getElem hj⟩
            have hql : q.length ≤ 1000 := HWP.out q (List.mem_of_getElem? hq)
            have c8 := HC8.out j (.string (bs q)) (by unfold strs; rw [List.getElem?_map, hq]; rfl)
            have d8 := (HB2.out.cell (World.block_lt_of_cell? _ _ c8)).trans c8
            have HDJ : Hid (ws.drop j = q :: ws.drop (j + 1)) := Lib.hid (by
              rw [List.drop_eq_getElem_cons hj]
              rw [List.getElem?_eq_getElem hj] at hq
              rw [Option.some.inj hq])
            have HTQ := Lib.hid (fun w => ref_trim q (by omega) w)
            have HTL := trimL_len q
            obtain ⟨t, ht⟩ : ∃ t, t = trimL q := ⟨_, rfl⟩
            have hTt := bs_list t
            have hszt : (bs t).size = t.length := bs_size t
            rw [← ht] at HTQ HTL
            have HT := Lib.hid ht
            clear hq c8 ht
            by_cases hb0 : t = []
            · have e1 : t.isEmpty = true := by rw [hb0]; rfl
              have HE : Hid (shellP s = ([], 19)) := Lib.hid (by rw [HS.out, HG.out, HD.out, shellGo_bad _ _ _ 19 HBL.out]; rw [← HWS.out, HGJ.out, HDJ.out]; exact rowGo_none _ _ _ (wordOf_blank _ (by rw [← HT.out]; exact hb0)))
              clear hb0
              go_wp2_with fail
              refine (HTQ.out _).mono ?_
              rintro e w2 ⟨rfl, rfl⟩
              go_wp2_with fail
              go_ret2
              unfold ShellPost
              rw [HE.out]
              exact ⟨_, [], rfl, World.ownsRow_nil _ _ _ _, (fun i row h => by simp at h), HB5.out.trans (HBO.out.mono hz1')⟩
            · have e1 : t.isEmpty = false := by cases t; exact absurd rfl hb0; rfl
              have HB0 := Lib.hid hb0
              have ht0 : 0 < t.length := List.length_pos_iff.2 hb0
              clear hb0
              go_wp2_with fail
              refine (HTQ.out _).mono ?_
              rintro e w2 ⟨rfl, rfl⟩
              obtain ⟨gk1, hgk1⟩ : ∃ g, g = gk := ⟨_, rfl⟩
              have HGK1 := Lib.hid hgk1
              clear hgk1
              go_wp2_with fail
              go_loopg [11] t.length (fun k c wr3 => ∃ m : Nat, k + m = t.length ∧ c = .int .i64 (m : Int) ∧ (t.take m).any blankB = false ∧ wr3 = wi)
              case atStart => exact ⟨0, by omega, rfl, by simp, rfl⟩
              case round =>
                obtain ⟨m, hkm, rfl, hno, rfl⟩ := hrel
                have hkm := Lib.hid hkm
                have HNO := Lib.hid hno
                have hm0 : (0 : Int) ≤ (m : Int) := by omega
                have wm1 : IntKind.i64.wrap ((m : Int) + 1) = (m : Int) + 1 := by rw [IntKind.wrap_i64]; have := hkm.out; omega
                clear hno
                by_cases hm : m < t.length
                · have hm1 : (m : Int) < (t.length : Int) := by omega
                  obtain ⟨x, hx⟩ : ∃ x, t[m]? = some x := ⟨t[m], List.getElem?_eq_getElem hm⟩
                  have hgx := bs_get t m x hx
                  have HX := Lib.hid hx
                  clear hx
                  by_cases hb : blankB x = true
                  · have HE : Hid (shellP s = ([], 19)) := Lib.hid (by
                      rw [HS.out, HG.out, HD.out, shellGo_bad _ _ _ 19 HBL.out]
                      rw [← HWS.out, HGJ.out, HDJ.out]
                      exact rowGo_none _ _ _ (wordOf_two _ (by rw [← HT.out]; exact List.any_eq_true.2 ⟨x, List.mem_of_getElem? HX.out, hb⟩)))
                    have hcase : x = 32 ∨ x = 9 := by simpa [blankB] using hb
                    have HQ := Lib.hid hcase
                    clear hb hcase
                    rcases HQ.out with rfl | rfl
                    all_goals
                      go_wp2_with fail
                      go_ret2
                      unfold ShellPost
                      rw [HE.out]
                      exact ⟨_, [], rfl, World.ownsRow_nil _ _ _ _, (fun i row h => by simp at h), HB5.out.trans (HBO.out.mono hz1')⟩
                  · have HNX : Hid ((t.take (m + 1)).any blankB = false) := Lib.hid (by rw [List.take_add_one, HX.out, List.any_append, HNO.out]; simp; simpa using hb)
                    have h1 : x.toNat ≠ 32 := fun e => hb (by rw [UInt8.toNat_inj.1 (show x.toNat = (32 : UInt8).toNat from e)]; rfl)
                    have h2 : x.toNat ≠ 9 := fun e => hb (by rw [UInt8.toNat_inj.1 (show x.toNat = (9 : UInt8).toNat from e)]; rfl)
                    have e2 : ((x.toNat : Int) == 32) = false := beq_eq_false_iff_ne.2 (by omega)
                    have e3 : ((x.toNat : Int) == 9) = false := beq_eq_false_iff_ne.2 (by omega)
                    clear h1 h2 hb
                    go_wp2_with fail
                    go_roundg (gk - 1)
                    case measure => have := hkm.out; omega
                    case rel => exact ⟨m + 1, by have := hkm.out; omega, by simp, HNX.out, rfl⟩
                · have hm1 : ¬ (m : Int) < (t.length : Int) := by omega
                  have hml : m = t.length := by have := hkm.out; omega
                  have HW : Hid (wordOf q = some t) := Lib.hid (by
                    have h := HNO.out
                    rw [hml, List.take_length] at h
                    rw [HT.out] at h ⊢
                    exact wordOf_one q (by rw [← HT.out]; exact HB0.out) h)
                  clear hml
                  go_wp2_with fail
                  refine (ref_path_any t (by omega) _).mono ?_
                  rintro e w3 ⟨pv, rfl, hpv, hb3⟩
                  obtain ⟨padr, pcap, rfl, -⟩ := own_len hpv
                  have HB3 := Lib.hid hb3
                  have hz3 := hb3.size
                  obtain ⟨code, hcode⟩ : ∃ code, code = (pathP t).2 := ⟨_, rfl⟩
                  have HCO := Lib.hid hcode
                  rw [← hcode]
                  have HBE : Hid (Below w1.heap.size w1 w3) := Lib.hid (HBO.out.trans (hb3.mono HBO.out.size))
                  clear hb3 hpv hcode
                  by_cases hbad : code ≠ 0 ∨ 60 < t.length
                  · have HE : Hid (shellP s = ([], 18)) := Lib.hid (by
                      rw [HS.out, HG.out, HD.out, shellGo_bad _ _ _ 18 HBL.out]
                      rw [← HWS.out, HGJ.out, HDJ.out]
                      exact rowGo_bad _ _ _ _ HW.out (by rw [← HCO.out]; exact hbad))
                    have HQ : Hid ((code != 0) = true ∧ (code == 0) = false ∨ ((code != 0) = false ∧ (code == 0) = true ∧ 60 < (t.length : Int))) := Lib.hid (by
                      by_cases h0 : code = 0
                      · right
                        subst h0
                        exact ⟨rfl, rfl, by omega⟩
                      · left; exact ⟨by simpa using h0, by simpa using h0⟩)
                    clear hbad
                    rcases HQ.out with ⟨k1, k2⟩ | ⟨k1, k2, k3⟩
                    all_goals
                      go_wp2_with fail
                      go_ret2
                      unfold ShellPost
                      rw [HE.out]
                      exact ⟨_, [], rfl, World.ownsRow_nil _ _ _ _, (fun i row h => by simp at h), HB5.out.trans (HBE.out.mono hz1')⟩
                  · have h0 : code = 0 := by
                      by_cases h : code = 0
                      · exact h
                      · exact absurd (.inl h) hbad
                    have h60 : ¬ 60 < (t.length : Int) := by
                      have : ¬ 60 < t.length := fun h => hbad (.inr h)
                      omega
                    have HGN : Hid (rowGo [] ws = rowGo (row ++ [t]) (ws.drop (j + 1))) := Lib.hid (by
                      rw [HGJ.out, HDJ.out]
                      exact rowGo_word _ _ _ _ HW.out (by rw [← HCO.out]; exact hbad))
                    have HO3 := Lib.hid (own_on HO2.out HB3.out)
                    have hrl2 : row.length ≤ 1001 := by have := HRL.out; have := hkj.out; omega
                    clear hbad
                    subst h0
                    go_wp2_with (at_builtin; refine wpList_append_lies _ rfl _ _ 30 rfl wA.heap.size 9 i0 (.string ⟨#[]⟩) 1 16 Tryd.underlying30 hi0 hz0 hz1 hz2 rfl (by decide) (.slice ad2 row.length cap2) row.length (strs row) rfl (HO3.out.alloc _) ⟨w3.heap.size, 0, none⟩ 1 1 [.string (bs t)] rfl rfl (cell_one_new _ _ _) (by simp [Value.oneCell']) (by omega) (by unfold maxLen; omega) (by omega) (by simp; omega) (w3.heap.size + 1) (by simp) ?_)
                    intro g1 cap1 w4 hown1 hgrow hat hlt1
                    have hb4 : Below wA.heap.size wA w4 := ((HB2.out.trans (HB3.out.mono hsW2)).alloc (by omega) _).grown hgrow (by simp; omega) (fun k hk => (own_lt HO3.out k hk).1)
                    have ho4 : w4.ownsRow wA.heap.size 9 1 (.slice (some ⟨g1, 0, none⟩) (row.length + 1) cap1) (row ++ [t]).length (strs (row ++ [t])) := by rw [strs_snoc]; simpa using hown1
                    have H4 := Lib.hid (And.intro hb4 ho4)
                    clear hown1 hgrow hat hlt1 hb4 ho4
                    go_wp2_with fail
                    go_roundg (gk1 - 1)
                    case measure => have := hkj.out; have := HGK1.out; omega
                    case rel => exact ⟨j + 1, row ++ [t], by have := hkj.out; have := HGK1.out; omega, by simp, HGN.out, by have := HRL.out; simp; omega, H4.out.2, H4.out.1⟩
          · have hj1 : ¬ (j : Int) < (ws.length : Int) := by omega
            have HRW : Hid (rowGo [] (cutAt 124 p) = .ok row) := Lib.hid (by rw [← HWS.out, HGJ.out, List.drop_eq_nil_of_le (by omega)]; rfl)
            have hrl2 : row.length ≤ 1001 := by have := HRL.out; have := hkj.out; omega
            by_cases hbig : 3 < row.length ∨ out.length = 4
            · have HE : Hid (shellP s = ([], 22)) := Lib.hid (by rw [HS.out, HG.out, HD.out, shellGo_big _ _ _ row HBL.out HRW.out hbig])
              have HQ : Hid (3 < (row.length : Int) ∨ (¬ 3 < (row.length : Int) ∧ 4 ≤ (out.length : Int))) := Lib.hid (by omega)
              clear hbig
              rcases HQ.out with k1 | ⟨k1, k2⟩
              all_goals
                go_wp2_with fail
                go_ret2
                unfold ShellPost
                rw [HE.out]
                exact ⟨_, [], rfl, World.ownsRow_nil _ _ _ _, (fun i row h => by simp at h), HB5.out.trans (HBO.out.mono hz1')⟩
            · have HGN : Hid (shellGo [] P = shellGo (out ++ [row]) (P.drop (i + 1))) := Lib.hid (by rw [HG.out, HD.out, shellGo_row _ _ _ row HBL.out HRW.out hbig])
              have k1 : ¬ 3 < (row.length : Int) := by omega
              have k2 : ¬ 4 ≤ (out.length : Int) := by have := HL.out; omega
              have hl4 : out.length ≤ 4 := HL.out
              have HBX : Hid (Below wo.heap.size wo wi) := Lib.hid (HB8.out.trans (HB2.out.mono hzA))
              have HO3 := Lib.hid (own_on HO.out HBX.out)
              have HR3 := Lib.hid (HR.out.on HBX.out)
              have hzi := HBX.out.size
              clear hbig
              go_wp2_with (at_builtin; refine wpList_append_lies _ rfl _ _ 26 rfl w1.heap.size 30 i1 (.slice none 0 0) 1 24 Tryd.underlying26 hi1 hy0 hy1 hy2 rfl (by decide) (.slice ad out.length cap) out.length vs rfl (HO3.out.alloc _) ⟨wi.heap.size, 0, none⟩ 1 1 [.slice ad2 row.length cap2] rfl rfl (cell_one_new _ _ _) (by simp [Value.oneCell']) (by omega) (by unfold maxLen; omega) (by omega) (by simp; omega) (wi.heap.size + 1) (by simp) ?_)
              intro g1 cap1 w4 hown1 hgrow hat hlt1
              have hvl : vs.length = out.length := by have := HO3.out.1; omega
              have hb4 : Below w1.heap.size w1 w4 := (HBO.out.alloc (by omega) _).grown hgrow (by simp; omega) (fun k hk => (own_lt HO3.out k hk).1)
              have hr4 := HR3.out.grown hvl HO3.out (by decide) hgrow (own_weak HO2.out (by omega))
              have H4 := Lib.hid (And.intro hb4 (And.intro hown1 hr4))
              clear hown1 hgrow hat hlt1 hb4 hr4
              go_wp2_with fail
              go_roundg (gk0 - 1)
              case measure => have := hk.out; have := HGK.out; omega
              case rel => exact ⟨i + 1, out ++ [row], vs ++ [.slice ad2 row.length cap2], by have := hk.out; have := HGK.out; omega, by simp, HGN.out, by simp; omega, by simpa using H4.out.2.1, H4.out.2.2, H4.out.1⟩
    · have hi1' : ¬ (i : Int) < (P.length : Int) := by omega
      have HD : Hid (P.drop i = []) := Lib.hid (List.drop_eq_nil_of_le (by omega))
      go_wp2_with fail
      go_ret2
      unfold ShellPost
      rw [HS.out, HG.out, HD.out]
      exact ⟨_, vs, rfl, own_weak HO.out hz1', HR.out.weak hz1', HB5.out.trans (HB.out.mono hz1')⟩
end Go.Proofs.YtapjfcljbdlnkaaDoor
