/- shell.Print: what rows are printed as. -/
import Derived.Test.YtapjfcljbdlnkaaDoorShellPrintL
import Derived.Test.YtapjfcljbdlnkaaDoorShellCalls
import Derived.Test.YtapjfcljbdlnkaaDoorShelf
namespace Go.Proofs.YtapjfcljbdlnkaaDoor
open Go Go.RowKit Go.Lib
set_option maxRecDepth 100000

theorem join_snoc (sep x : List UInt8) (xs : List (List UInt8)) (h : xs ≠ []) : Lib.join (xs ++ [x]) sep = Lib.join xs sep ++ sep ++ x := by
  cases xs with
  | nil => exact absurd rfl h
  | cons y ys => rw [List.cons_append, join_cons, join_cons]; simp [joinTail]
theorem map_bs (l : List (List UInt8)) : (l.map bs).map (·.data.toList) = l := by
  rw [List.map_map]
  conv => rhs; rw [← List.map_id l]
  apply List.map_congr_left
  intro x _; exact bs_data x
/-- strings.Join at strings of a row that is not empty -/
theorem join_own (v : Value) (B : Nat) (xs : List (List UInt8)) (sep : List UInt8) (w : World) (h : w.ownsRow B 9 1 v xs.length (strs xs)) (hx : xs ≠ []) (hn : xs.length ≤ 1000) (hl : (Lib.join xs sep).length ≤ 100000) :
    Calls Tryd.prog 21 #[v, .string (bs sep)] w fun e w' => e = .returned (.string (bs (Lib.join xs sep))) ∧ Below w.heap.size w w' := by
  have h0 : 0 < xs.length := List.length_pos_iff.2 hx
  obtain ⟨g, cap, rfl, hcap, hcell⟩ := own_cell h h0
  have hc0 : ∀ (j : Nat) x, (xs.map bs)[j]? = some x → w.cell? ⟨g, 0 + j, none⟩ = some (.string x) := fun j x hj => by
    rw [List.getElem?_map] at hj
    cases hj2 : xs[j]? with
    | none => rw [hj2] at hj; cases hj
    | some y =>
      rw [hj2] at hj; cases hj
      rw [Nat.zero_add]
      exact hcell j (.string (bs y)) (by unfold strs; rw [List.getElem?_map, hj2]; rfl)
  have hlt := (own_lt h g (by simp [Value.ownBlock])).2
  have := Tryd.strings_Join g 0 cap (xs.map bs) (bs sep) w hc0 hlt (by simp; omega) (by simpa using hcap) (by rw [map_bs, bs_data]; omega)
  rw [map_bs, bs_data, List.length_map] at this
  exact this

set_option maxHeartbeats 1600000 in
theorem shell_print (v : Value) (B : Nat) (vs : List Value) (rows : List (List (List UInt8))) (w : World) (hown : w.ownsRow B 31 1 v rows.length vs) (hrs : RowsAt w B vs rows) (hok : RowsOK rows) :
    Calls Tryd.prog 8 #[v] w fun e w' => e = .returned (.string (bs (printL rows))) ∧ Below w.heap.size w w' := by
  obtain ⟨i0, hi0, hz0, hz1, hz2⟩ := info_parts str_info
  obtain ⟨ad, cap, rfl, hn63⟩ := own_len hown
  have HO := Lib.hid hown
  have HR := Lib.hid hrs
  have HK := Lib.hid hok
  have h4 := hok.len
  clear hown hrs hok
  go_enter Tryd.func8, Tryd.ntmps8
  go_wp2_with fail
  go_loopg [3, 8] rows.length (fun k u c wr => ∃ i : Nat, k + i = rows.length ∧ c = .int .i64 (i : Int) ∧ wr.ownsRow w.heap.size 9 1 u ((rows.take i).map rowText).length (strs ((rows.take i).map rowText)) ∧ Below w.heap.size w wr)
  case atStart => exact ⟨0, by omega, rfl, World.ownsRow_nil _ _ _ _, Below.refl _ _⟩
  case round =>
    obtain ⟨i, hk, rfl, hrow, hb⟩ := hrel
    have hk := Lib.hid hk
    have hml : ((rows.take i).map rowText).length = i := by rw [List.length_map, List.length_take]; have := hk.out; omega
    rw [hml] at hrow
    obtain ⟨ad2, cap2, rfl, hn632⟩ := own_len hrow
    have HW := Lib.hid hrow
    have HB := Lib.hid hb
    have hsW := hb.size
    have hi3 : (0 : Int) ≤ (i : Int) := by omega
    have wr1 : IntKind.i64.wrap ((i : Int) + 1) = (i : Int) + 1 := by rw [IntKind.wrap_i64]; have := hk.out; omega
    clear hrow hb
    by_cases hi : i < rows.length
    · have hi1 : (i : Int) < (rows.length : Int) := by omega
      obtain ⟨row, hr⟩ : ∃ row, rows[i]? = some row := ⟨rows[i], List.getElem?_eq_getElem hi⟩
      obtain ⟨u, hu1, hu2⟩ := HR.out i row hr
      obtain ⟨g, cap', hsl, _, hcell⟩ := own_cell HO.out (by omega)
      obtain ⟨rfl, rfl⟩ : ad = some ⟨g, 0, none⟩ ∧ cap = cap' := by simpa using hsl
      have c1 := hcell _ _ hu1
      have d1 := (HB.out.cell (World.block_lt_of_cell? _ _ c1)).trans c1
      have hu3 := own_on hu2 HB.out
      have hrok := HK.out.rows row (List.mem_of_getElem? hr)
      have hrl := hrok.len
      have HJ := Lib.hid (join_own u B row [32, 124, 32] wr hu3 hrok.ne (by omega) (by have := rowText_len row hrok; unfold rowText at this; omega))
      have HS : Hid ((rows.take (i + 1)).map rowText = (rows.take i).map rowText ++ [rowText row]) := Lib.hid (by rw [List.take_add_one, hr]; simp)
      obtain ⟨uad, ucap, rfl, -⟩ := own_len hu2
      clear hcell hsl c1 hu1 hu2 hu3 hr hrok
      go_wp2_with fail
      refine HJ.out.mono ?_
      rintro e w1 ⟨rfl, hb1⟩
      have HB1 := Lib.hid hb1
      have hz1' := hb1.size
      have HW1 := Lib.hid (own_on HW.out hb1)
      obtain ⟨tx, htx⟩ : ∃ tx, tx = rowText row := ⟨_, rfl⟩
      have htx2 : Lib.join row [32, 124, 32] = tx := by rw [htx]; rfl
      rw [← htx] at HS
      rw [htx2]
      clear hb1 htx htx2 HJ
      go_wp2_with (at_builtin; refine wpList_append_lies _ rfl _ _ 30 rfl w.heap.size 9 i0 (.string ⟨#[]⟩) 1 16 Tryd.underlying30 hi0 hz0 hz1 hz2 rfl (by decide) (.slice ad2 i cap2) i (strs ((rows.take i).map rowText)) rfl (HW1.out.alloc _) ⟨w1.heap.size, 0, none⟩ 1 1 [.string (bs tx)] rfl rfl (cell_one_new _ _ _) (by simp [Value.oneCell']) (by omega) (by unfold maxLen; omega) (by omega) (by simp; omega) (w1.heap.size + 1) (by simp) ?_)
      intro g1 cap1 w4 hown1 hgrow hat hlt1
      have hb4 : Below w.heap.size w w4 := ((HB.out.trans (HB1.out.mono hsW)).alloc (by omega) _).grown hgrow (by simp; omega) (fun k hk => (own_lt HW1.out k hk).1)
      have ho4 : w4.ownsRow w.heap.size 9 1 (.slice (some ⟨g1, 0, none⟩) (i + 1) cap1) ((rows.take (i + 1)).map rowText).length (strs ((rows.take (i + 1)).map rowText)) := by rw [HS.out, (show ((rows.take i).map rowText ++ [tx]).length = i + 1 by rw [List.length_append, hml]; rfl), strs_snoc, List.map_take]; exact hown1
      have H4 := Lib.hid (And.intro hb4 ho4)
      clear hown1 hgrow hat hlt1 hb4 ho4
      go_wp2_with fail
      go_roundg (gk - 1)
      case measure => have := hk.out; omega
      case rel => exact ⟨i + 1, by have := hk.out; omega, by simp, H4.out.2, H4.out.1⟩
    · have hi1 : ¬ (i : Int) < (rows.length : Int) := by omega
      have hil : i = rows.length := by have := hk.out; omega
      have HP : Hid (Lib.join ((rows.take i).map rowText) [59, 32] = printL rows) := Lib.hid (by rw [hil, List.take_length]; rfl)
      have hi4 : i ≤ 4 := by omega
      clear hil
      by_cases h0 : i = 0
      · have HE : Hid (printL rows = []) := Lib.hid (by rw [← HP.out, h0]; rfl)
        have HJ := Lib.hid (show ∀ w, Calls Tryd.prog 21 #[.slice ad2 i cap2, .string ⟨#[59, 32]⟩] w fun e w' => e = .returned (.string ⟨#[]⟩) ∧ w' = w from fun w => by rw [h0]; exact Tryd.strings_Join_none ad2 cap2 ⟨#[59, 32]⟩ w)
        clear h0
        go_wp2_with fail
        refine (HJ.out _).mono ?_
        rintro e w1 ⟨rfl, rfl⟩
        go_wp2_with fail
        go_ret
        rw [HE.out]
        exact ⟨rfl, HB.out⟩
      · have hne : (rows.take i).map rowText ≠ [] := by
          intro e
          have := congrArg List.length e
          rw [hml] at this
          exact h0 (by simpa using this)
        have HJ := Lib.hid (join_own (.slice ad2 i cap2) w.heap.size ((rows.take i).map rowText) [59, 32] wr (by rw [hml]; exact HW.out) hne (by rw [hml]; omega) (by rw [HP.out]; have := printL_len rows HK.out; omega))
        clear hne
        go_wp2_with fail
        refine HJ.out.mono ?_
        rintro e w1 ⟨rfl, hb1⟩
        have HB1 := Lib.hid hb1
        rw [HP.out]
        clear hb1
        go_wp2_with fail
        go_ret
        exact ⟨rfl, HB.out.trans (HB1.out.mono hsW)⟩
end Go.Proofs.YtapjfcljbdlnkaaDoor
