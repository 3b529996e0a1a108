/- The walk of ShellParses. -/
import Derived.Test.YtapjfcljbdlnkaaDoorShAwake
import Derived.Test.YtapjfcljbdlnkaaDoorShellPrint
import Derived.Test.YtapjfcljbdlnkaaDoorRefShPrint
namespace Go.Proofs.YtapjfcljbdlnkaaDoor
open Go Go.RowKit Go.Lib
set_option maxRecDepth 100000

theorem bs_cut (s : List UInt8) (n : Nat) : (bs s).extract 0 n = bs (s.take n) := by
  apply bs_inj
  simp [bs]

/-- rows that stand in a world -/
structure Stand (w : World) (eo : TypeId) (v : Value) (rows : List (List (List UInt8))) : Prop where
  at_ : ∃ B vs, w.ownsRow B eo 1 v rows.length vs ∧ RowsAt w B vs rows
theorem Stand.on {w w' : World} {eo : TypeId} {v : Value} {rows : List (List (List UInt8))} (h : Stand w eo v rows) (hb : Below w.heap.size w w') : Stand w' eo v rows := by
  obtain ⟨B, vs, h1, h2⟩ := h.at_
  exact ⟨B, vs, own_on h1 hb, h2.on hb⟩
theorem Stand.row {w : World} {eo : TypeId} {v : Value} {rows : List (List (List UInt8))} (h : Stand w eo v rows) (i : Nat) (row : List (List UInt8)) (hr : rows[i]? = some row) :
    ∃ g cap u, v = .slice (some ⟨g, 0, none⟩) rows.length cap ∧ w.cell? ⟨g, i, none⟩ = some u ∧ SReads w u row := by
  obtain ⟨B, vs, h1, h2⟩ := h.at_
  obtain ⟨g, cap, hv, _, hc⟩ := own_cell h1 (by have := (List.getElem?_eq_some_iff.1 hr).1; omega)
  obtain ⟨u, a1, a2⟩ := h2 i row hr
  exact ⟨g, cap, u, hv, hc _ _ a1, SReads.own a2⟩
theorem Stand.len {w : World} {eo : TypeId} {v : Value} {rows : List (List (List UInt8))} (h : Stand w eo v rows) : ∃ ad cap, v = .slice ad rows.length cap := by
  obtain ⟨B, vs, h1, _⟩ := h.at_
  obtain ⟨ad, cap, hv, _⟩ := own_len h1
  exact ⟨ad, cap, hv⟩

set_option maxHeartbeats 3200000 in
theorem law_shell (s : List UInt8) (w : World) :
    Calls Tryd.prog 3 #[.string (bs s)] w fun e w' => e = .returned (.bool true) ∧ Below w.heap.size w w' := by
  have hsz : (bs s).size = s.length := bs_size s
  obtain ⟨t, ht⟩ : ∃ t, t = s.take 300 := ⟨_, rfl⟩
  have hext : (bs s).extract 0 300 = bs t := by rw [bs_cut, ht]
  have htl : t.length ≤ 300 := by rw [ht]; simp; omega
  have HT : Hid (¬ 300 < s.length → t = s) := Lib.hid (fun h => by rw [ht]; exact List.take_of_length_le (by omega))
  clear ht
  obtain ⟨rows, hrows⟩ : ∃ rows, rows = (shellP t).1 := ⟨_, rfl⟩
  obtain ⟨code, hcode⟩ : ∃ code, code = (shellP t).2 := ⟨_, rfl⟩
  have hok : RowsOK rows := by rw [hrows]; exact shellP_ok t
  have hrl := hok.len
  have HOK := Lib.hid hok
  have HP : Hid (∀ w, Calls Tryd.prog 5 #[.string (bs t)] w (ShellPost 31 w (rows, code))) := Lib.hid (fun w => by rw [hrows, hcode]; exact shell_parse t (by omega) w)
  have HR : Hid (∀ w, Calls Tryd.prog 6 #[.string (bs t)] w (ShellPost 30 w (rows, code))) := Lib.hid (fun w => by rw [hrows, hcode]; exact ref_shell t (by omega) w)
  have HP2 : Hid (∀ w, Calls Tryd.prog 5 #[.string (bs (printL rows))] w (ShellPost 31 w (rows, 0))) := Lib.hid (fun w => by
    have h := shell_parse (printL rows) (by have := printL_len rows hok; omega) w
    rw [shellP_print rows hok] at h
    exact h)
  have hwl : ∀ row ∈ rows, row.length < 4611686018427387904 := fun row hr => by have := (hok.rows row hr).len; omega
  have HWL := Lib.hid hwl
  clear hrows hcode hok hwl
  go_enter Tryd.func3, Tryd.ntmps3
  by_cases hc : 300 < s.length
  all_goals
    first
      | (have c1 : (300 : Int) < (s.length : Int) := by omega
         have c2 : (300 : Int) ≤ (s.length : Int) := by omega
         have c3 : 300 ≤ s.length := by omega
         clear hc HT)
      | (obtain rfl := HT.out hc
         have c1 : ¬ (300 : Int) < (t.length : Int) := by omega
         clear hc HT)
    go_wp2_with fail
    refine (HP.out _).mono ?_
    rintro e w1 ⟨v1, vs1, rfl, hown1, hrs1, hb1⟩
    have S1 := Lib.hid (Stand.mk (eo := 31) (v := v1) ⟨_, _, hown1, hrs1⟩)
    obtain ⟨ad1, cap1, rfl⟩ := S1.out.len
    have B1 := Lib.hid hb1
    have z1 := hb1.size
    clear hown1 hrs1 hb1
    go_wp2_with fail
    refine (HR.out _).mono ?_
    rintro e w2 ⟨v2, vs2, rfl, hown2, hrs2, hb2⟩
    have T1 := Lib.hid (Stand.mk (eo := 30) (v := v2) ⟨_, _, hown2, hrs2⟩)
    have S2 := Lib.hid (S1.out.on hb2)
    obtain ⟨ad2, cap2, rfl⟩ := T1.out.len
    have B2 := Lib.hid (B1.out.trans (hb2.mono z1))
    have z2 := B2.out.size
    clear hown2 hrs2 hb2
    go_wp2_with fail
    go_loopg [7] rows.length (fun k c wr => ∃ i : Nat, k + i = rows.length ∧ c = .int .i64 (i : Int) ∧ Below w2.heap.size w2 wr)
    case atStart => exact ⟨0, by omega, rfl, Below.refl _ _⟩
    case round =>
      obtain ⟨i, hk, rfl, hb⟩ := hrel
      have hk := Lib.hid hk
      have HB := Lib.hid hb
      have zr := hb.size
      have hi3 : (0 : Int) ≤ (i : Int) := by omega
      have wr1 : IntKind.i64.wrap ((i : Int) + 1) = (i : Int) + 1 := by rw [IntKind.wrap_i64]; have := hk.out; omega
      have S3 := Lib.hid (S2.out.on hb)
      have T2 := Lib.hid (T1.out.on hb)
      clear hb
      by_cases hi : i < rows.length
      · have hi1 : (i : Int) < (rows.length : Int) := by omega
        obtain ⟨row, hr⟩ : ∃ row, rows[i]? = some row := ⟨rows[i], List.getElem?_eq_getElem hi⟩
        obtain ⟨g1, cp1, u1, e1, d1, r1⟩ := S3.out.row i row hr
        obtain ⟨g2, cp2, u2, e2, d2, r2⟩ := T2.out.row i row hr
        obtain ⟨rfl, rfl⟩ : ad1 = some ⟨g1, 0, none⟩ ∧ cap1 = cp1 := by simpa using e1
        obtain ⟨rfl, rfl⟩ : ad2 = some ⟨g2, 0, none⟩ ∧ cap2 = cp2 := by simpa using e2
        have R1 := Lib.hid (r1.on (Below.refl _ _).drew)
        have R2 := Lib.hid (r2.on (Below.refl _ _).drew)
        have hrl2 := HWL.out row (List.mem_of_getElem? hr)
        clear hr e1 e2 r1 r2
        go_wp2_with fail
        refine region_still_tail 8 (by kernel_rfl) (by kernel_rfl) ?_
        simp only [List.take_succ_cons, List.take_zero, List.drop_succ_cons, List.drop_zero]
        repeat still_step
        refine wpStill_nil ?_
        go_wp2_with fail
        refine (same_strs u1 u2 row hrl2 wr.drew R1.out R2.out).mono ?_
        rintro e w3 ⟨rfl, hb3⟩
        have HB3 := Lib.hid (HB.out.drew.trans (hb3.mono zr))
        clear hb3
        go_wp2_with fail
        go_roundg (gk - 1)
        case measure => have := hk.out; omega
        case rel => exact ⟨i + 1, by have := hk.out; omega, by simp, HB3.out⟩
      · have hi1 : ¬ (i : Int) < (rows.length : Int) := by omega
        obtain ⟨Bx, vx, x1, x2⟩ := S3.out.at_
        have HPR := Lib.hid (shell_print _ Bx vx rows wr x1 x2 HOK.out)
        have B3 := Lib.hid (B2.out.trans (HB.out.mono z2))
        have z3 := B3.out.size
        clear x1 x2
        go_wp2_with fail
        refine HPR.out.mono ?_
        rintro e w4 ⟨rfl, hb4⟩
        have S4 := Lib.hid (S3.out.on hb4)
        have T4 := Lib.hid (T2.out.on hb4)
        have B4 := Lib.hid (B3.out.trans (hb4.mono z3))
        have z4 := B4.out.size
        clear hb4
        go_wp2_with fail
        refine (HP2.out _).mono ?_
        rintro e w5 ⟨v5, vs5, rfl, hown5, hrs5, hb5⟩
        have U5 := Lib.hid (Stand.mk (eo := 31) (v := v5) ⟨_, _, hown5, hrs5⟩)
        obtain ⟨ad5, cap5, rfl⟩ := U5.out.len
        have S5 := Lib.hid (S4.out.on hb5)
        have T5 := Lib.hid (T4.out.on hb5)
        have B5 := Lib.hid (B4.out.trans (hb5.mono z4))
        have z5 := B5.out.size
        obtain ⟨By, vy, y1, y2⟩ := T5.out.at_
        have HRP := Lib.hid (ref_sh_print _ By vy rows w5 y1 y2 HOK.out)
        clear hown5 hrs5 hb5 y1 y2
        go_wp2_with fail
        refine HRP.out.mono ?_
        rintro e w6 ⟨rfl, hb6⟩
        have S6 := Lib.hid (S5.out.on hb6)
        have U6 := Lib.hid (U5.out.on hb6)
        have B6 := Lib.hid (B5.out.trans (hb6.mono z5))
        have z6 := B6.out.size
        clear hb6
        go_wp2_with fail
        go_loopg [11] rows.length (fun k c wr2 => ∃ j : Nat, k + j = rows.length ∧ c = .int .i64 (j : Int) ∧ Below w6.heap.size w6 wr2)
        case atStart => exact ⟨0, by omega, rfl, Below.refl _ _⟩
        case round =>
          obtain ⟨j, hkj, rfl, hb⟩ := hrel
          obtain ⟨wi, rfl⟩ : ∃ wi : World, wi = wr := ⟨_, rfl⟩
          have hkj := Lib.hid hkj
          have HBj := Lib.hid hb
          have zj := hb.size
          have hj3 : (0 : Int) ≤ (j : Int) := by omega
          have wj1 : IntKind.i64.wrap ((j : Int) + 1) = (j : Int) + 1 := by rw [IntKind.wrap_i64]; have := hkj.out; omega
          have S7 := Lib.hid (S6.out.on hb)
          have U7 := Lib.hid (U6.out.on hb)
          clear hb
          by_cases hj : j < rows.length
          · have hj1 : (j : Int) < (rows.length : Int) := by omega
            obtain ⟨row, hr⟩ : ∃ row, rows[j]? = some row := ⟨rows[j], List.getElem?_eq_getElem hj⟩
            obtain ⟨g1, cp1, u1, e1, d1, r1⟩ := S7.out.row j row hr
            obtain ⟨g2, cp2, u2, e2, d2, r2⟩ := U7.out.row j row hr
            obtain ⟨rfl, rfl⟩ : ad1 = some ⟨g1, 0, none⟩ ∧ cap1 = cp1 := by simpa using e1
            obtain ⟨rfl, rfl⟩ : ad5 = some ⟨g2, 0, none⟩ ∧ cap5 = cp2 := by simpa using e2
            have R1 := Lib.hid (r1.on (Below.refl _ _).drew)
            have R2 := Lib.hid (r2.on (Below.refl _ _).drew)
            have hrl2 := HWL.out row (List.mem_of_getElem? hr)
            clear hr e1 e2 r1 r2
            go_wp2_with fail
            refine region_still_tail 8 (by kernel_rfl) (by kernel_rfl) ?_
            simp only [List.take_succ_cons, List.take_zero, List.drop_succ_cons, List.drop_zero]
            repeat still_step
            refine wpStill_nil ?_
            go_wp2_with fail
            refine (same_strs u2 u1 row hrl2 wi.drew R2.out R1.out).mono ?_
            rintro e w3 ⟨rfl, hb3⟩
            have HB3 := Lib.hid (HBj.out.drew.trans (hb3.mono zj))
            clear hb3
            go_wp2_with fail
            go_roundg (gk - 1)
            case measure => have := hkj.out; omega
            case rel => exact ⟨j + 1, by have := hkj.out; omega, by simp, HB3.out⟩
          · have hj1 : ¬ (j : Int) < (rows.length : Int) := by omega
            go_wp2_with fail
            refine (sh_awake _).mono ?_
            rintro e w9 ⟨rfl, hb9⟩
            have B9 := Lib.hid (B6.out.trans ((HBj.out.mono z6).trans (hb9.mono (by omega))))
            clear hb9
            go_wp2_with fail
            go_ret
            exact ⟨rfl, B9.out⟩
end Go.Proofs.YtapjfcljbdlnkaaDoor
