/- script.Print: the text of steps. -/
import Derived.Test.YtdhpagdfigghfaaGreatDoorRefPrint
import Derived.Test.YtdhpagdfigghfaaGreatDoorBuilder
namespace Go.Proofs.YtdhpagdfigghfaaGreatDoor
open Go.RowKit Go.Lib
set_option maxRecDepth 100000

theorem write_string_b (B b : Nat) (l : List UInt8) (s : ByteArray) (w : World) (h : Bld B b l w) (hlen : l.length < 1000000) (hlen2 : s.size < 1000000) (hBw : B ≤ w.heap.size) :
    Calls Tryz.prog 24 #[.pointer (some ⟨b, 0, none⟩), .string s] w fun e w' => (∃ n : Nat, e = .returned (.tuple #[.int .i64 n, .nilIface])) ∧ Bld B b (l ++ s.data.toList) w' ∧ Below B w w' := by
  have h1 := write_string B b l s.data.toList w h hlen (by rw [← Lib.size_eq]; exact hlen2) hBw
  have e : (⟨s.data.toList.toArray⟩ : ByteArray) = s := by cases s; simp
  rw [e] at h1
  refine h1.mono ?_
  rintro e w' ⟨rfl, h2, h3, _⟩
  exact ⟨⟨_, rfl⟩, h2, h3⟩

theorem own_moveF {w w' : World} {B : Nat} {e : TypeId} {size : Nat} {v : Value} {n : Nat} {xs : List Value} (h : w.ownsRowF B e size v n xs) (hk : ∀ k, k < w.heap.size → w'.heap[k]? = w.heap[k]?) : w'.ownsRowF B e size v n xs := by
  refine ⟨h.1, ?_⟩
  rcases h.2 with h0 | ⟨g, cap, cur, fz, h1, h2, h3, h4⟩
  · exact .inl h0
  · exact .inr ⟨g, cap, cur, fz, h1, h2, (hk g (Array.getElem?_eq_some_iff.1 h3).1).trans h3, h4⟩

theorem Bld.on {B b : Nat} {l : List UInt8} {w w' : World} (h : Bld B b l w) (hb : Below w.heap.size w w') : Bld B b l w' := by
  have mv : ∀ p, Lib.BuilderAtF 70 5 B b p (Lib.byteCells l) w → Lib.BuilderAtF 70 5 B b p (Lib.byteCells l) w' := by
    intro p h
    obtain ⟨h1, v, h2, h3, h4⟩ := h
    have hlt : b < w.heap.size := (Array.getElem?_eq_some_iff.1 h2).1
    exact ⟨h1, v, (hb.block b hlt).trans h2, own_moveF h3 fun k hk => hb.block k hk, h4⟩
  rcases h with h | h
  · exact .inl (mv _ h)
  · exact .inr (mv _ h)

theorem hd_at (k : Nat) (hk : k < 16) {h : k < ({ data := #[48, 49, 50, 51, 52, 53, 54, 55, 56, 57, 97, 98, 99, 100, 101, 102] } : ByteArray).size} : ({ data := #[48, 49, 50, 51, 52, 53, 54, 55, 56, 57, 97, 98, 99, 100, 101, 102] } : ByteArray)[k]'h = hd k := by
  have : ∀ k, k < 16 → ([48, 49, 50, 51, 52, 53, 54, 55, 56, 57, 97, 98, 99, 100, 101, 102] : List UInt8)[k]? = some (hd k) := by decide
  exact (List.getElem?_eq_some_iff.1 (this k hk)).2
theorem and_fifteen (x : UInt8) : bits .and .u8 (x.toNat : Int) 15 = ((x.toNat % 16 : Nat) : Int) := by
  have : ∀ x : Fin 256, bits .and .u8 (x.val : Int) 15 = ((x.val % 16 : Nat) : Int) := by decide +kernel
  exact this ⟨x.toNat, x.toNat_lt⟩
theorem Bld.lt {B b : Nat} {l : List UInt8} {w : World} (h : Bld B b l w) : b < w.heap.size := by
  rcases h with ⟨_, v, h2, _⟩ | ⟨_, v, h2, _⟩
  · exact (Array.getElem?_eq_some_iff.1 h2).1
  · exact (Array.getElem?_eq_some_iff.1 h2).1

set_option maxHeartbeats 6400000 in
theorem print_out (v : Value) (B : Nat) (cs : List Value) (ss : List Ln) (w : World) (hown : w.ownsRow B 51 3 v ss.length cs) (hc : CellsAt w cs ss) (hn : ss.length ≤ 30) (hok : ∀ x ∈ ss, x.Num ∧ x.Ok w) :
    Calls Tryz.prog 13 #[v] w fun e w' => e = .returned (.string (bs (textOf ss))) ∧ Below w.heap.size w w' := by
  obtain ⟨ad, cap, rfl, hn63⟩ := own_len hown
  have HO := Lib.hid hown
  have HC := Lib.hid hc
  have HK := Lib.hid hok
  clear hown hc hok
  go_enter Tryz.func13, Tryz.ntmps13
  go_wp2_with fail
  go_loopg [10] ss.length (fun k u wr => ∃ i : Nat, k + i = ss.length ∧ u = .int .i64 (i : Int) ∧ Bld w.heap.size w.heap.size (textOf (ss.take i)) wr ∧ Below w.heap.size w wr)
  case atStart =>
    refine ⟨0, by simp, rfl, .inl ⟨Nat.le_refl _, .slice none 0 0, heap_alloc_new w _, World.ownsRowF_of (World.ownsRow_nil _ _ _ _), by simp [Value.ownBlock]⟩, (Below.refl _ _).alloc (Nat.le_refl _) _⟩
  case round =>
    obtain ⟨i, hk, rfl, hbl, hb⟩ := hrel
    have hk := Lib.hid hk
    have HB := Lib.hid hb
    have HL := Lib.hid hbl
    clear hb hbl
    by_cases hi : i < ss.length
    · have hi1 : (i : Int) < (ss.length : Int) := by omega
      have hi3 : (0 : Int) ≤ (i : Int) := by omega
      obtain ⟨x, hx⟩ : ∃ x, ss[i]? = some x := ⟨ss[i], List.getElem?_eq_getElem (by omega)⟩
      obtain ⟨g, cap', hsl, _, hcell⟩ := own_cell HO.out (by omega)
      obtain ⟨rfl, rfl⟩ : ad = some ⟨g, 0, none⟩ ∧ cap = cap' := by simpa using hsl
      obtain ⟨y, a1, a2, a3, a4⟩ := HC.out i x hx
      have b1 := hcell _ _ a1
      have b2 := hcell _ _ a2
      have b3 := hcell _ _ a3
      have d1 := (HB.out.cell (World.block_lt_of_cell? _ _ b1)).trans b1
      have d2 := (HB.out.cell (World.block_lt_of_cell? _ _ b2)).trans b2
      have d3 := (HB.out.cell (World.block_lt_of_cell? _ _ b3)).trans b3
      have wr1 : IntKind.i64.wrap ((i : Int) + 1) = (i : Int) + 1 := by rw [IntKind.wrap_i64]; omega
      have hl2 := textOf_len (ss.take i) fun z hz => (HK.out z (List.mem_of_mem_take hz)).1
      have hl3 : (textOf (ss.take i)).length ≤ 5000 := by
        have : (ss.take i).length ≤ 30 := by simp; omega
        omega
      have hxn := HK.out x (List.mem_of_getElem? hx)
      have hsn : textOf (ss.take (i + 1)) = textOf (ss.take i) ++ (x.text ++ [10]) := by rw [List.take_add_one, hx]; exact textOf_snoc _ _
      have HR := Lib.hid a4
      have HS := Lib.hid hsn
      rw [Nat.mul_comm] at d1 d2 d3
      clear hl2 hsn a1 a2 a3 a4 b1 b2 b3 hcell hsl hx
      obtain ⟨yb, yo, yc, _, hyv, hyr⟩ := HR.out
      obtain ⟨ad2, cp2, rfl, had⟩ : ∃ ad cp, y = .slice ad x.bytes.length cp ∧ (x.bytes ≠ [] → ad = some ⟨yb, yo, none⟩) := by
        rcases hyv with h | ⟨⟨ad0, c0, h⟩, h2⟩
        · exact ⟨_, _, h, fun _ => rfl⟩
        · exact ⟨ad0, c0, by rw [h, h2]; rfl, fun e => absurd h2 e⟩
      have HY := Lib.hid hyr
      have HAD := Lib.hid had
      clear hyv hyr had
      have hbw : Below wr.heap.size wr (wr.alloc (.cells #[.int .i64 x.kind, .int .i64 x.num, .slice ad2 x.bytes.length cp2] 51)) := (Below.refl _ _).alloc (Nat.le_refl _) _
      have HL1 := Lib.hid (HL.out.on hbw)
      have HBW := Lib.hid (HB.out.trans (hbw.mono HB.out.size))
      have HX := Lib.hid hxn
      clear hxn hbw
      cases x with
      | shw =>
        simp only [Ln.kind, Ln.num, Ln.bytes, List.length_nil] at d1 d2 d3 HL1 HBW
        go_wp2_with fail
        refine (write_string w.heap.size w.heap.size (textOf (ss.take i)) [115, 104, 111, 119, 10] _ HL1.out (by omega) (by decide) (HBW.out.size)).mono ?_
        rintro e w1 ⟨rfl, hbl1, hb1, _⟩
        have HN := Lib.hid (And.intro hbl1 hb1)
        clear hbl1 hb1
        go_wp2_with fail
        go_roundg (gk - 1)
        case measure => have := hk.out; omega
        case rel =>
          refine ⟨i + 1, by have := hk.out; omega, by simp, ?_, HBW.out.trans HN.out.2⟩
          rw [HS.out]; exact HN.out.1
      | trn n l =>
        simp only [Ln.kind, Ln.num, Ln.bytes, List.length_nil] at d1 d2 d3 HL1 HBW
        have hdl : l.length ≤ 145 := by have := HX.out.1.len; simp [Ln.text] at this; omega
        have hbs : ∀ l : List UInt8, (bs l).size = l.length := bs_size
        have HI := Lib.hid HX.out.2.2.2.2.2
        go_wp2_with fail
        refine (HI.out _ HBW.out).mono ?_
        rintro e w1 ⟨rfl, hb1⟩
        have HL2 := Lib.hid (HL1.out.on hb1)
        have HB2 := Lib.hid (HBW.out.trans (hb1.mono HBW.out.size))
        clear hb1
        go_wp2_with fail
        all_goals try (exfalso; omega)
        refine (write_string_b w.heap.size w.heap.size (textOf (ss.take i)) _ _ HL2.out (by omega) (by simp [ByteArray.size_append, hbs]; first | omega | (simp [ByteArray.size]; omega)) (HB2.out.size)).mono ?_
        rintro e w2 ⟨hv2, hbl1, hb1⟩
        obtain ⟨nn, rfl⟩ := hv2
        have HN := Lib.hid (And.intro hbl1 hb1)
        clear hbl1 hb1
        go_wp2_with fail
        go_roundg (gk - 1)
        case measure => have := hk.out; omega
        case rel =>
          refine ⟨i + 1, by have := hk.out; omega, by simp, ?_, HB2.out.trans HN.out.2⟩
          rw [HS.out]
          have h := HN.out.1
          simpa [Ln.text, ByteArray.data_append, bs_data] using h
      | typ l =>
        simp only [Ln.kind, Ln.num, Ln.bytes] at d1 d2 d3 HL1 HBW HY HAD
        have hl64 : l.length ≤ 64 := HX.out.1
        obtain ⟨gk0, hgk⟩ : ∃ g, g = gk := ⟨_, rfl⟩
        have HG := Lib.hid hgk
        clear hgk
        go_wp2_with fail
        refine (write_string w.heap.size w.heap.size (textOf (ss.take i)) [116, 121, 112, 101, 32] _ HL1.out (by omega) (by decide) (HBW.out.size)).mono ?_
        rintro e w1 ⟨rfl, hbl1, hb1, hk1⟩
        have HN := Lib.hid (And.intro hbl1 (HBW.out.trans hb1))
        have hx1 := hk1 wr.heap.size _ (heap_alloc_new wr (.cells #[.int .i64 1, .int .i64 0, .slice ad2 l.length cp2] 51)) (by have := HL.out.lt; intro e; have e := Option.some.inj e; omega) (by intro c fz h; cases h)
        have hx2 := cell_of_row w1 wr.heap.size 2 _ _ _ hx1
        clear hbl1 hb1 hk1 hx1
        go_wp2_with fail
        go_loopg [30] l.length (fun k u wr2 => ∃ j : Nat, k + j = l.length ∧ u = .int .i64 (j : Int) ∧ Bld w.heap.size w.heap.size (textOf (ss.take i) ++ ([116, 121, 112, 101, 32] ++ hexL (l.take j))) wr2 ∧ Below w.heap.size w wr2)
        case atStart => exact ⟨0, by simp, rfl, by simpa [hexL] using HN.out.1, HN.out.2⟩
        case round =>
          obtain ⟨j, hkj, rfl, hbl2, hb2⟩ := hrel
          have hkj := Lib.hid hkj
          have HL2 := Lib.hid hbl2
          have HB2 := Lib.hid hb2
          clear hbl2 hb2
          by_cases hj : j < l.length
          · have hj1 : (j : Int) < (l.length : Int) := by omega
            have hj3 : (0 : Int) ≤ (j : Int) := by omega
            have hne : l ≠ [] := by intro e; subst e; simp at hj
            obtain rfl := HAD.out hne
            obtain ⟨x, hxj⟩ : ∃ x, l[j]? = some x := ⟨l[j], List.getElem?_eq_getElem hj⟩
            have q1 := HY.out j x hxj
            have q3 := (HB2.out.cell (World.block_lt_of_cell? _ _ q1)).trans q1
            have wj : IntKind.i64.wrap ((j : Int) + 1) = (j : Int) + 1 := by rw [IntKind.wrap_i64]; omega
            have hx256 : x.toNat < 256 := x.toNat_lt
            clear q1
            have y1 : ∀ h, ({ data := #[48, 49, 50, 51, 52, 53, 54, 55, 56, 57, 97, 98, 99, 100, 101, 102] } : ByteArray)[x.toNat / 16]'h = hd (x.toNat / 16) := fun h => hd_at _ (by omega)
            have y2 : ∀ h, ({ data := #[48, 49, 50, 51, 52, 53, 54, 55, 56, 57, 97, 98, 99, 100, 101, 102] } : ByteArray)[x.toNat % 16]'h = hd (x.toNat % 16) := fun h => hd_at _ (by omega)
            have y3 : bits .and .u8 (x.toNat : Int) 15 = ((x.toNat % 16 : Nat) : Int) := and_fifteen x
            have hj9 : (hexL (l.take j)).length ≤ 128 := by rw [hexL_len]; simp; omega
            go_wp2_with fail
            refine (write_byte w.heap.size w.heap.size _ (hd (x.toNat / 16)) _ HL2.out (by simp; omega) HB2.out.size).mono ?_
            rintro e w3 ⟨rfl, hbl3, hb3, _⟩
            have HL3 := Lib.hid hbl3
            have HB3 := Lib.hid (HB2.out.trans hb3)
            clear hbl3 hb3
            go_wp2_with fail
            refine (write_byte w.heap.size w.heap.size _ (hd (x.toNat % 16)) _ HL3.out (by simp; omega) HB3.out.size).mono ?_
            rintro e w4 ⟨rfl, hbl4, hb4, _⟩
            have HL4 := Lib.hid hbl4
            have HB4 := Lib.hid (HB3.out.trans hb4)
            clear hbl4 hb4
            go_wp2_with fail
            go_roundg (gk - 1)
            case measure => have := hkj.out; omega
            case rel =>
              refine ⟨j + 1, by have := hkj.out; omega, by simp, ?_, HB4.out⟩
              have e9 : hexL (l.take (j + 1)) = hexL (l.take j) ++ [hd (x.toNat / 16), hd (x.toNat % 16)] := by
                rw [List.take_add_one, hxj, hexL_snoc]
              rw [e9]
              simpa using HL4.out
          · have hj1 : ¬ (j : Int) < (l.length : Int) := by omega
            have hjl : j = l.length := by have := hkj.out; omega
            subst hjl
            go_wp2_with fail
            refine (write_byte w.heap.size w.heap.size _ 10 _ HL2.out (by have := hexL_len (l.take l.length); simp at this ⊢; omega) HB2.out.size).mono ?_
            rintro e w3 ⟨rfl, hbl3, hb3, _⟩
            have HL3 := Lib.hid hbl3
            have HB3 := Lib.hid (HB2.out.trans hb3)
            clear hbl3 hb3
            go_wp2_with fail
            go_roundg (gk0 - 1)
            case measure => have := hk.out; have := HG.out; omega
            case rel =>
              refine ⟨i + 1, by have := hk.out; have := HG.out; omega, by simp, ?_, HB3.out⟩
              rw [HS.out]
              have h := HL3.out
              rw [List.take_length] at h
              simpa [Ln.text] using h
    · have hi1 : ¬ (i : Int) < (ss.length : Int) := by omega
      have hil : i = ss.length := by have := hk.out; omega
      subst hil
      rw [List.take_length] at HL
      go_wp2_with fail
      refine (string_of w.heap.size w.heap.size (textOf ss) _ HL.out HB.out.size).mono ?_
      rintro e w3 ⟨rfl, hb3⟩
      have HB3 := Lib.hid (HB.out.trans hb3)
      clear hb3
      go_wp2_with fail
      go_ret
      exact ⟨rfl, HB3.out⟩

end Go.Proofs.YtdhpagdfigghfaaGreatDoor
