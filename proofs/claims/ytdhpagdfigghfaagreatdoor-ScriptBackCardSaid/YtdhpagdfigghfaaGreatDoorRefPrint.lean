/- onionskinref43.Print: the text of steps. -/
import Derived.Test.YtdhpagdfigghfaaGreatDoorRight
import Derived.Test.YtdhpagdfigghfaaGreatDoorDigits
import Derived.Test.YtdhpagdfigghfaaGreatDoorLawMost
namespace Go.Proofs.YtdhpagdfigghfaaGreatDoor
open Go.RowKit Go.Lib
set_option maxRecDepth 100000

/-- a step's numeral is the library's -/
def Ln.Num : Ln → Prop
  | .trn n l => l = Lib.itoa (n : Int) ∧ n ≤ 4096
  | .typ l => l.length ≤ 64
  | .shw => True
def textOf (ss : List Ln) : List UInt8 := joined 10 (ss.map Ln.text)
theorem joined_app (c : UInt8) : ∀ a b : List (List UInt8), joined c (a ++ b) = joined c a ++ joined c b
  | [], _ => rfl
  | l :: a, b => by simp only [List.cons_append, joined, joined_app c a b]; simp
theorem textOf_snoc (ss : List Ln) (x : Ln) : textOf (ss ++ [x]) = textOf ss ++ (x.text ++ [10]) := by
  unfold textOf; rw [List.map_append, joined_app]; rfl
theorem Ln.Num.len {x : Ln} (h : x.Num) : x.text.length ≤ 150 := by
  cases x with
  | shw => decide
  | trn n l =>
    have h1 : (Lib.itoa (n : Int)).length ≤ 21 := by
      have := dig_len n (by have := h.2; omega)
      unfold Lib.itoa; split
      · simp; omega
      · simp; omega
    have := h.1; subst this; simp [Ln.text]; omega
  | typ l => have h : l.length ≤ 64 := h; simp [Ln.text, hexL_len]; omega
theorem textOf_len : ∀ (ss : List Ln), (∀ x ∈ ss, x.Num) → (textOf ss).length ≤ 151 * ss.length
  | [], _ => by simp [textOf, joined]
  | x :: ss, h => by
    have ih := textOf_len ss fun y hy => h y (by simp [hy])
    have h1 := (h x (by simp)).len
    unfold textOf at ih ⊢
    simp only [List.map_cons, joined, List.length_append, List.length_cons]
    omega

theorem hexL_snoc : ∀ (l : List UInt8) (x : UInt8), hexL (l ++ (some x).toList) = hexL l ++ [hd (x.toNat / 16), hd (x.toNat % 16)]
  | [], _ => rfl
  | y :: l, x => by have := hexL_snoc l x; simp only [List.cons_append, hexL, this]
theorem hex_piece : ∀ k, k < 16 → ({ data := #[48, 49, 50, 51, 52, 53, 54, 55, 56, 57, 97, 98, 99, 100, 101, 102] } : ByteArray).extract k (k + 1) = bs [hd k] := by
  intro k hk
  apply bs_inj
  rw [bs_data]
  have : ∀ k, k < 16 → (({ data := #[48, 49, 50, 51, 52, 53, 54, 55, 56, 57, 97, 98, 99, 100, 101, 102] } : ByteArray).extract k (k + 1)).data.toList = [hd k] := by decide
  exact this k hk

set_option maxHeartbeats 6400000 in
theorem ref_print (v : Value) (B : Nat) (cs : List Value) (ss : List Ln) (w : World) (hown : w.ownsRow B 50 3 v ss.length cs) (hc : CellsAt w cs ss) (hn : ss.length ≤ 30) (hok : ∀ x ∈ ss, x.Num) :
    Calls Tryz.prog 14 #[v] w fun e w' => e = .returned (.string (bs (textOf ss))) ∧ Below w.heap.size w w' := by
  obtain ⟨ad, cap, rfl, hn63⟩ := own_len hown
  have HO := Lib.hid hown
  have HC := Lib.hid hc
  have hlen := textOf_len ss hok
  clear hown hc
  go_enter Tryz.func14, Tryz.ntmps14
  go_wp2_with fail
  go_loopg [3, 4] ss.length (fun k s u wr => ∃ i : Nat, k + i = ss.length ∧ s = .string (bs (textOf (ss.take i))) ∧ u = .int .i64 (i : Int) ∧ Below w.heap.size w wr)
  case atStart => exact ⟨0, by simp, rfl, rfl, Below.refl _ _⟩
  case round =>
    obtain ⟨i, hk, rfl, rfl, hb⟩ := hrel
    have hk := Lib.hid hk
    have HB := Lib.hid hb
    clear hb
    by_cases hi : i < ss.length
    · have hi1 : (i : Int) < (ss.length : Int) := by omega
      have hi3 : (0 : Int) ≤ (i : Int) := by omega
      obtain ⟨x, hx⟩ : ∃ x, ss[i]? = some x := ⟨ss[i], List.getElem?_eq_getElem (by omega)⟩
      obtain ⟨g, cap', hsl, _, hcell⟩ := own_cell HO.out (by omega)
      obtain ⟨rfl, rfl⟩ : ad = some ⟨g, 0, none⟩ ∧ cap = cap' := by simpa using hsl
      obtain ⟨y, a1, a2, a3, a4⟩ := HC.out i x hx
      have b1 := hcell _ _ a1
      have b2 := hcell _ _ a2
      have b3 := hcell _ _ a3
      have d1 := (HB.out.cell (World.block_lt_of_cell? _ _ b1)).trans b1
      have d2 := (HB.out.cell (World.block_lt_of_cell? _ _ b2)).trans b2
      have d3 := (HB.out.cell (World.block_lt_of_cell? _ _ b3)).trans b3
      have wr1 : IntKind.i64.wrap ((i : Int) + 1) = (i : Int) + 1 := by rw [IntKind.wrap_i64]; omega
      have hl2 := textOf_len (ss.take i) fun z hz => hok z (List.mem_of_mem_take hz)
      have hsz : (bs (textOf (ss.take i))).size = (textOf (ss.take i)).length := bs_size _
      have hl3 : (textOf (ss.take i)).length ≤ 5000 := by
        have : (ss.take i).length ≤ 30 := by simp; omega
        omega
      have hxn := hok x (List.mem_of_getElem? hx)
      have hsn : textOf (ss.take (i + 1)) = textOf (ss.take i) ++ (x.text ++ [10]) := by rw [List.take_add_one, hx]; exact textOf_snoc _ _
      have HR := Lib.hid a4
      have HS := Lib.hid hsn
      have hx := Lib.hid hx
      rw [Nat.mul_comm] at d1 d2 d3
      clear hl2 hsn a1 a2 a3 a4 b1 b2 b3 hcell hsl
      cases x with
      | shw =>
        simp only [Ln.kind, Ln.num] at d1 d2
        go_wp2_with fail
        go_roundg (gk - 1)
        case measure => have := hk.out; omega
        case rel =>
          refine ⟨i + 1, by have := hk.out; omega, ?_, by simp, HB.out⟩
          rw [HS.out, ← bs_append]; rfl
      | trn n l =>
        simp only [Ln.kind, Ln.num] at d1 d2
        have hdl : (Lib.itoa (n : Int)).length ≤ 21 := by
          have := dig_len n (by have := hxn.2; omega)
          unfold Lib.itoa; split
          · simp; omega
          · simp; omega
        have hds : (⟨(Lib.itoa (n : Int)).toArray⟩ : ByteArray).size = (Lib.itoa (n : Int)).length := by simp [ByteArray.size]
        have HD := Lib.hid (fun w => digits_any (n : Int) (by omega) (by have := hxn.2; omega) w)
        obtain ⟨hxl, -⟩ := hxn
        go_wp2_with fail
        refine (HD.out _).mono ?_
        rintro e w1 ⟨rfl, rfl⟩
        go_wp2_with fail
        all_goals try (exfalso; omega)
        go_roundg (gk - 1)
        case measure => have := hk.out; omega
        case rel =>
          refine ⟨i + 1, by have := hk.out; omega, ?_, by simp, HB.out⟩
          rw [HS.out, Ln.text, hxl]
          simp only [← bs_append]
          apply congrArg
          apply bs_inj
          simp [bs_data, ByteArray.data_append]
      | typ l =>
        simp only [Ln.kind, Ln.num] at d1 d2
        have hl64 : l.length ≤ 64 := hxn
        have hbs : ∀ l : List UInt8, (bs l).size = l.length := bs_size
        have hhl : ∀ l : List UInt8, (hexL l).length = 2 * l.length := hexL_len
        obtain ⟨yb, yo, yc, _, hyv, hyr⟩ := HR.out
        obtain ⟨ad2, cp2, rfl, had⟩ : ∃ ad cp, y = .slice ad l.length cp ∧ (l ≠ [] → ad = some ⟨yb, yo, none⟩) := by
          rcases hyv with h | ⟨⟨ad0, c0, h⟩, h2⟩
          · exact ⟨_, _, h, fun _ => rfl⟩
          · have h2 : l = [] := h2
            subst h2; exact ⟨ad0, c0, h, fun e => absurd rfl e⟩
        obtain ⟨gk0, hgk⟩ : ∃ g, g = gk := ⟨_, rfl⟩
        have HG := Lib.hid hgk
        clear hgk
        have HY := Lib.hid hyr
        have HAD := Lib.hid had
        clear hyv hyr had
        go_wp2_with fail
        go_loopg [3, 5] l.length (fun k s u wr2 => ∃ j : Nat, k + j = l.length ∧ s = .string (bs (textOf (ss.take i) ++ ([116, 121, 112, 101, 32] ++ hexL (l.take j)))) ∧ u = .int .i64 (j : Int) ∧ Below wr.heap.size wr wr2)
        case atStart => exact ⟨0, by simp, by simp only [List.take_zero, hexL, List.append_nil]; rw [← bs_append]; rfl, rfl, Below.refl _ _⟩
        case round =>
          obtain ⟨j, hkj, rfl, rfl, hb2⟩ := hrel
          have hkj := Lib.hid hkj
          have HB2 := Lib.hid hb2
          have e1 := (hb2.cell (World.block_lt_of_cell? _ _ d1)).trans d1
          have e3 := (hb2.cell (World.block_lt_of_cell? _ _ d3)).trans d3
          clear hb2
          by_cases hj : j < l.length
          · have hj1 : (j : Int) < (l.length : Int) := by omega
            have hj3 : (0 : Int) ≤ (j : Int) := by omega
            have hne : l ≠ [] := by intro e; subst e; simp at hj
            obtain rfl := HAD.out hne
            obtain ⟨x, hxj⟩ : ∃ x, l[j]? = some x := ⟨l[j], List.getElem?_eq_getElem hj⟩
            have q1 := HY.out j x hxj
            have q2 := (HB.out.cell (World.block_lt_of_cell? _ _ q1)).trans q1
            have q3 := (HB2.out.cell (World.block_lt_of_cell? _ _ q2)).trans q2
            have wj : IntKind.i64.wrap ((j : Int) + 1) = (j : Int) + 1 := by rw [IntKind.wrap_i64]; omega
            have hx256 : x.toNat < 256 := x.toNat_lt
            clear q1 q2
            obtain ⟨p, hp⟩ : ∃ p, p = x.toNat / 16 := ⟨_, rfl⟩
            obtain ⟨q, hq⟩ : ∃ q, q = x.toNat % 16 := ⟨_, rfl⟩
            have z1 : Int.tdiv (x.toNat : Int) 16 = (p : Int) := by rw [hp]; rfl
            have z2 : Int.tmod (x.toNat : Int) 16 = (q : Int) := by rw [hq]; rfl
            have z3 : (x.toNat : Int) / 16 = (p : Int) := by omega
            have z4 : (x.toNat : Int) % 16 = (q : Int) := by omega
            have z5 : IntKind.i64.wrap (p : Int) = (p : Int) := by rw [IntKind.wrap_i64]; omega
            have z6 : IntKind.i64.wrap (q : Int) = (q : Int) := by rw [IntKind.wrap_i64]; omega
            have z7 : IntKind.i64.wrap ((p : Int) + 1) = (p : Int) + 1 := by rw [IntKind.wrap_i64]; omega
            have z8 : IntKind.i64.wrap ((q : Int) + 1) = (q : Int) + 1 := by rw [IntKind.wrap_i64]; omega
            have y1 : (p : Int) + 1 ≤ 16 := by omega
            have y2 : (q : Int) + 1 ≤ 16 := by omega
            have y3 : (0 : Int) ≤ (p : Int) := by omega
            have y4 : (0 : Int) ≤ (q : Int) := by omega
            have y5 : (0 : Int) ≤ (p : Int) + 1 := by omega
            have y6 : (0 : Int) ≤ (q : Int) + 1 := by omega
            have v0 : (p : Int) ≤ (p : Int) + 1 := by omega
            have v9 : (q : Int) ≤ (q : Int) + 1 := by omega
            have m1 : ¬ 9223372036854775807 < (textOf (List.take i ss)).length + (2 * min j l.length + 1 + 1 + 1 + 1 + 1) + 1 := by omega
            have m2 : ¬ 9223372036854775807 < (textOf (List.take i ss)).length + (2 * min j l.length + 1 + 1 + 1 + 1 + 1) + 1 + 1 := by omega
            have v1 : p ≤ 15 := by omega
            have v2 : q ≤ 15 := by omega
            have v3 : p < 16 := by omega
            have v4 : q < 16 := by omega
            have v5 : p + 1 ≤ 16 := by omega
            have v6 : q + 1 ≤ 16 := by omega
            have v7 : (p : Int) ≤ 15 := by omega
            have v8 : (q : Int) ≤ 15 := by omega
            have y7 := hex_piece p (by omega)
            have y8 := hex_piece q (by omega)
            have hpq := Lib.hid (And.intro hp hq)
            clear hp hq
            go_wp2_with fail
            refine region_still_tail 15 (by kernel_rfl) (by kernel_rfl) ?_
            simp only [List.take_succ_cons, List.take_zero, List.drop_succ_cons, List.drop_zero]
            repeat still_step
            refine wpStill_nil ?_
            go_wp2_with fail
            all_goals try (exfalso; simp at *; omega)
            go_roundg (gk - 1)
            case measure => have := hkj.out; omega
            case rel =>
              refine ⟨j + 1, by have := hkj.out; omega, ?_, by simp, HB2.out.drew⟩
              have e9 : hexL (l.take (j + 1)) = hexL (l.take j) ++ [hd p, hd q] := by
                rw [List.take_add_one, hxj, hpq.out.1, hpq.out.2, hexL_snoc]
              rw [e9]
              apply congrArg
              apply bs_inj
              simp [bs_data, ByteArray.data_append]
          · have hj1 : ¬ (j : Int) < (l.length : Int) := by omega
            go_wp2_with fail
            go_roundg (gk0 - 1)
            case measure => have := hk.out; have := HG.out; omega
            case rel =>
              have hjl : j = l.length := by have := hkj.out; omega
              refine ⟨i + 1, by have := hk.out; have := HG.out; omega, ?_, by simp, HB.out.trans (HB2.out.mono HB.out.size)⟩
              rw [HS.out, Ln.text, hjl, List.take_length]
              apply congrArg
              apply bs_inj
              simp [bs_data, ByteArray.data_append]
    · have hi1 : ¬ (i : Int) < (ss.length : Int) := by omega
      have hil : i = ss.length := by have := hk.out; omega
      subst hil
      rw [List.take_length]
      go_wp2_with fail
      go_ret
      exact ⟨rfl, HB.out⟩

end Go.Proofs.YtdhpagdfigghfaaGreatDoor
