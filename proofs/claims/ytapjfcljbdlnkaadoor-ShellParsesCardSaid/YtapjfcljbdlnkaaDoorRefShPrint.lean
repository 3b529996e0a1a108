/- onionskinref40.Print: the same text. -/
import Derived.Test.YtapjfcljbdlnkaaDoorShellPrintL
import Derived.Test.YtapjfcljbdlnkaaDoorShelf
namespace Go.Proofs.YtapjfcljbdlnkaaDoor
open Go Go.RowKit Go.Lib
set_option maxRecDepth 100000

theorem join_snoc2 (sep x : List UInt8) (xs : List (List UInt8)) (h : xs ≠ []) : Lib.join (xs ++ [x]) sep = Lib.join xs sep ++ sep ++ x := by
  cases xs with
  | nil => exact absurd rfl h
  | cons y ys => rw [List.cons_append, join_cons, join_cons]; simp [joinTail]
/-- what stands ahead of the next piece -/
def ahead (sep : List UInt8) (xs : List (List UInt8)) : List UInt8 := if xs = [] then [] else Lib.join xs sep ++ sep
theorem ahead_snoc (sep x : List UInt8) (xs : List (List UInt8)) : Lib.join (xs ++ [x]) sep = ahead sep xs ++ x := by
  unfold ahead
  split
  · rename_i h; subst h; simp [join_one]
  · rename_i h; exact join_snoc2 sep x xs h
theorem bs_app (a b : List UInt8) : bs a ++ bs b = bs (a ++ b) := by
  apply bs_inj
  simp [bs_data, ByteArray.data_append]

set_option maxHeartbeats 6400000 in
theorem ref_sh_print (v : Value) (B : Nat) (vs : List Value) (rows : List (List (List UInt8))) (w : World) (hown : w.ownsRow B 30 1 v rows.length vs) (hrs : RowsAt w B vs rows) (hok : RowsOK rows) :
    Calls Tryd.prog 9 #[v] w fun e w' => e = .returned (.string (bs (printL rows))) ∧ Below w.heap.size w w' := by
  obtain ⟨ad, cap, rfl, hn63⟩ := own_len hown
  have HO := Lib.hid hown
  have HR := Lib.hid hrs
  have HK := Lib.hid hok
  have h4 := hok.len
  clear hown hrs hok
  go_enter Tryd.func9, Tryd.ntmps9
  go_wp2_with fail
  go_loopg [3, 4] rows.length (fun k s c wr => ∃ i : Nat, k + i = rows.length ∧ c = .int .i64 (i : Int) ∧ s = .string (bs (printL (rows.take i))) ∧ (printL (rows.take i)).length ≤ 764 ∧ Below w.heap.size w wr)
  case atStart => exact ⟨0, by omega, rfl, rfl, by simp [printL, join_nil], Below.refl _ _⟩
  case round =>
    obtain ⟨i, hk, rfl, rfl, hpl, hb⟩ := hrel
    have hk := Lib.hid hk
    have HB := Lib.hid hb
    have hi3 : (0 : Int) ≤ (i : Int) := by omega
    have wr1 : IntKind.i64.wrap ((i : Int) + 1) = (i : Int) + 1 := by rw [IntKind.wrap_i64]; have := hk.out; omega
    clear hb
    by_cases hi : i < rows.length
    · have hi1 : (i : Int) < (rows.length : Int) := by omega
      obtain ⟨row, hr⟩ : ∃ row, rows[i]? = some row := ⟨rows[i], List.getElem?_eq_getElem hi⟩
      obtain ⟨u, hu1, hu2⟩ := HR.out i row hr
      obtain ⟨g, cap', hsl, _, hcell⟩ := own_cell HO.out (by omega)
      obtain ⟨rfl, rfl⟩ : ad = some ⟨g, 0, none⟩ ∧ cap = cap' := by simpa using hsl
      have c1 := hcell _ _ hu1
      have d1 := (HB.out.cell (World.block_lt_of_cell? _ _ c1)).trans c1
      have hrok := HK.out.rows row (List.mem_of_getElem? hr)
      have hrl := hrok.len
      have hr0 : 0 < row.length := List.length_pos_iff.2 hrok.ne
      obtain ⟨ug, ucap, rfl, -, hucell⟩ := own_cell hu2 hr0
      have HUC := Lib.hid hucell
      have HRO := Lib.hid hrok
      obtain ⟨P, hP⟩ : ∃ P, P = printL (rows.take i) := ⟨_, rfl⟩
      have hl189 : ∀ k, (Lib.join (row.take k) [32, 124, 32]).length ≤ 189 := fun k => by
        have := join_le 60 [32, 124, 32] (row.take k) fun x hx => (hrok.words x (List.mem_of_mem_take hx)).short
        simp at this; omega
      have h189 := Lib.hid hl189
      obtain ⟨A, hA⟩ : ∃ A, A = ahead [59, 32] ((rows.take i).map rowText) := ⟨_, rfl⟩
      have HS : Hid (printL (rows.take (i + 1)) = A ++ rowText row) := Lib.hid (by
        rw [hA]; unfold printL
        rw [List.take_add_one, hr, List.map_append]
        exact ahead_snoc _ _ _)
      have HQ : Hid ((¬ (0 : Int) < (i : Int) ∧ P = A) ∨ ((0 : Int) < (i : Int) ∧ A = P ++ [59, 32])) := Lib.hid (by
        rw [hP, hA]
        by_cases h0 : i = 0
        · left; subst h0; exact ⟨by simp, rfl⟩
        · right
          refine ⟨by omega, ?_⟩
          unfold ahead
          rw [if_neg]
          · rfl
          · intro e
            have := congrArg List.length e
            rw [List.length_map, List.length_take, List.length_nil] at this; omega)
      have HLL : Hid ((printL (rows.take (i + 1))).length ≤ 764) := Lib.hid (printL_len _ ⟨by rw [List.length_take]; omega, fun r hr => HK.out.rows r (List.mem_of_mem_take hr)⟩)
      have hszP : (bs P).size = P.length := bs_size P
      rw [← hP] at hpl ⊢
      have hszA : A.length ≤ 764 := by
        have := congrArg List.length HS.out
        have h2 := HLL.out
        rw [List.length_append] at this; omega
      obtain ⟨gk0, hgk⟩ : ∃ g, g = gk := ⟨_, rfl⟩
      have HGK := Lib.hid hgk
      clear hcell hsl c1 hu1 hu2 hr hrok hl189 hP hA hucell hgk
      rcases HQ.out with ⟨h0, hPA⟩ | ⟨h0, hPA⟩
      all_goals
        have HPA := Lib.hid hPA
        clear hPA
        go_wp2_with fail
        go_loopg [3, 5] row.length (fun k s c wr2 => ∃ j : Nat, k + j = row.length ∧ c = .int .i64 (j : Int) ∧ s = .string (bs (A ++ Lib.join (row.take j) [32, 124, 32])) ∧ Below wr.heap.size wr wr2)
        case atStart => exact ⟨0, by omega, rfl, by first | (rw [HPA.out, List.take_zero, join_nil, List.append_nil]; done) | (rw [HPA.out, List.take_zero, join_nil, List.append_nil, ← bs_app]; rfl), Below.refl _ _⟩
        case round =>
          obtain ⟨j, hkj, rfl, rfl, hb2⟩ := hrel
          have hkj := Lib.hid hkj
          have HB2 := Lib.hid hb2
          have e1 := (hb2.cell (World.block_lt_of_cell? _ _ d1)).trans d1
          have hj3 : (0 : Int) ≤ (j : Int) := by omega
          have wj : IntKind.i64.wrap ((j : Int) + 1) = (j : Int) + 1 := by rw [IntKind.wrap_i64]; have := hkj.out; omega
          clear hb2
          by_cases hj : j < row.length
          · have hj1 : (j : Int) < (row.length : Int) := by omega
            obtain ⟨x, hx⟩ : ∃ x, row[j]? = some x := ⟨row[j], List.getElem?_eq_getElem hj⟩
            have c2 := HUC.out j (.string (bs x)) (by unfold strs; rw [List.getElem?_map, hx]; rfl)
            have d2 := (HB.out.cell (World.block_lt_of_cell? _ _ c2)).trans c2
            have f2 := (HB2.out.cell (World.block_lt_of_cell? _ _ d2)).trans d2
            have hxl := (HRO.out.words x (List.mem_of_getElem? hx)).short
            have hszx : (bs x).size = x.length := bs_size x
            obtain ⟨J, hJ⟩ : ∃ J, J = Lib.join (row.take j) [32, 124, 32] := ⟨_, rfl⟩
            have hJl := h189.out j
            have HX : Hid (Lib.join (row.take (j + 1)) [32, 124, 32] = ahead [32, 124, 32] (row.take j) ++ x) := Lib.hid (by rw [List.take_add_one, hx]; exact ahead_snoc _ _ _)
            have HQ2 : Hid ((¬ (0 : Int) < (j : Int) ∧ J ++ x = Lib.join (row.take (j + 1)) [32, 124, 32]) ∨ ((0 : Int) < (j : Int) ∧ J ++ [32, 124, 32] ++ x = Lib.join (row.take (j + 1)) [32, 124, 32])) := Lib.hid (by
              rw [HX.out, hJ]
              unfold ahead
              by_cases h0 : j = 0
              · left; subst h0; exact ⟨by simp, rfl⟩
              · right
                refine ⟨by omega, ?_⟩
                rw [if_neg]
                intro e
                have := congrArg List.length e
                rw [List.length_take, List.length_nil] at this; omega)
            rw [← hJ] at hJl ⊢
            have hszJ : (bs (A ++ J)).size = A.length + J.length := by rw [bs_size, List.length_append]
            clear hx c2 d2 hJ
            rcases HQ2.out with ⟨p1, p2⟩ | ⟨p1, p2⟩
            all_goals
              have HP2 := Lib.hid p2
              clear p2
              go_wp2_with fail
              all_goals try (exfalso; simp at *; omega)
              go_roundg (gk - 1)
              case measure => have := hkj.out; omega
              case rel =>
                refine ⟨j + 1, by have := hkj.out; omega, by simp, ?_, HB2.out⟩
                rw [← HP2.out]
                apply congrArg
                apply bs_inj
                simp [bs_data, ByteArray.data_append]
          · have hj1 : ¬ (j : Int) < (row.length : Int) := by omega
            have hjl : j = row.length := by have := hkj.out; omega
            have HJL : Hid (A ++ Lib.join (row.take j) [32, 124, 32] = printL (rows.take (i + 1))) := Lib.hid (by rw [hjl, List.take_length, HS.out]; rfl)
            clear hjl
            go_wp2_with fail
            go_roundg (gk0 - 1)
            case measure => have := hk.out; have := HGK.out; omega
            case rel => exact ⟨i + 1, by have := hk.out; have := HGK.out; omega, by simp, by rw [HJL.out], HLL.out, HB.out.trans (HB2.out.mono HB.out.size)⟩
    · have hi1 : ¬ (i : Int) < (rows.length : Int) := by omega
      have hil : i = rows.length := by have := hk.out; omega
      subst hil
      rw [List.take_length]
      go_wp2_with fail
      go_ret
      exact ⟨rfl, HB.out⟩
end Go.Proofs.YtapjfcljbdlnkaaDoor
