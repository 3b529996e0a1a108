/- The walk of ScriptBack. -/
import Derived.Test.YtdhpagdfigghfaaGreatDoorNumeral
import Derived.Deep.RegionHeld3
namespace Go.Proofs.YtdhpagdfigghfaaGreatDoor
open Go.RowKit Go.Lib
set_option maxRecDepth 100000

theorem stepsOf_some (ss : List Ln) : stepsOf (ss.map some) = ss := by
  unfold stepsOf; rw [List.filterMap_map]; simp
theorem text_lines (ss : List Ln) (h : ss ≠ []) (hc : ∀ x ∈ ss, x.Clean) : cutAt 10 (Lib.trimSuffix (textOf ss) [10]) = (ss.map some).map lineText := by
  unfold textOf
  rw [trim_joined _ (by simpa using h), cutAt_trim _ _ (by simpa using h)]
  · rw [List.map_map]; rfl
  · intro l hl
    obtain ⟨x, hx, rfl⟩ := List.mem_map.1 hl
    exact x.text_clean (hc x hx)

/-- what was printed is parsed -/
theorem parse_text (ss : List Ln) (m : Int) (w : World) (hm : w.cell? ⟨0, 0, none⟩ = some (.int .i64 m)) (hn : ss.length ≤ 30) (hok : ∀ x ∈ ss, x.Num ∧ x.Ok w ∧ x.Clean) :
    Calls Tryz.prog 6 #[.string (bs (textOf ss))] w fun e w' => POk w ss e w' := by
  by_cases h : ss = []
  · subst h
    have := parse_lines [none] (textOf []) m w (by decide) hm (by decide) (fun x hx => by simp at hx) (by decide) 1 (by decide) (by decide) (.inl rfl)
    exact this
  · have hl := textOf_len ss fun x hx => (hok x hx).1
    have := parse_lines (ss.map some) (textOf ss) m w (by omega) hm (text_lines ss h fun x hx => (hok x hx).2.2) (fun x hx => by
      simp at hx; exact ⟨(hok x hx).2.1, (hok x hx).2.2⟩) (by simp; omega) ss.length (by simp) (by rw [List.take_of_length_le (by simp), stepsOf_some]; omega) (.inl (by simp))
    rw [stepsOf_some] at this
    simpa using this

theorem cellsAt_of_steps {w : World} {B : Nat} {row : Option Nat} {xs : List Value} {ss : List Ln} (h : StepsAt w B row xs ss) : CellsAt w xs ss := by
  intro i x hx
  obtain ⟨y, h1, h2, h3, h4, _⟩ := h i x hx
  exact ⟨y, h1, h2, h3, bytes_reads h4⟩

theorem step_info : (Tryz.prog.info? 51).map (fun i => (i.zero, i.size, i.bytes)) = some (some (.agg #[.int .i64 0, .int .i64 0, .slice none 0 0]), 3, 40) := by kernel_rfl

theorem cell0_on {w w' : World} {v : Value} (h : w.cell? ⟨0, 0, none⟩ = some v) (hb : Below w.heap.size w w') : w'.cell? ⟨0, 0, none⟩ = some v :=
  (hb.cell (World.block_lt_of_cell? _ _ h)).trans h

set_option maxHeartbeats 6400000 in
theorem law_back (v : Value) (xs : List In3) (m : Int) (w : World) (hv : ArgAt w v xs) (hm : w.cell? ⟨0, 0, none⟩ = some (.int .i64 m)) (ht : Tab w) :
    Calls Tryz.prog 5 #[v] w fun e w' => e = .returned (.bool true) ∧ Below w.heap.size w w' := by
  have HR := Lib.hid (right_any v xs w hv)
  have HM := Lib.hid hm
  have HT := Lib.hid ht
  obtain ⟨i0, hi0, hz0, hz1, hz2⟩ := info_parts step_info
  clear hv hm ht
  go_enter Tryz.func5, Tryz.ntmps5
  go_wp2_with fail
  refine HR.out.mono ?_
  rintro e w1 ⟨u, cs, rfl, hown, hcs, hb⟩
  obtain ⟨ss, hss⟩ : ∃ ss, ss = (xs.take 30).map In3.ln := ⟨_, rfl⟩
  have hsl : (xs.take 30).length = ss.length := by rw [hss]; simp
  have hs30 : ss.length ≤ 30 := by rw [← hsl]; simp; omega
  have hln : ∀ x ∈ ss, ∃ y : In3, x = y.ln := fun x hx => by
    rw [hss] at hx
    obtain ⟨y, _, rfl⟩ := List.mem_map.1 hx
    exact ⟨y, rfl⟩
  rw [← hss] at hcs
  rw [hsl] at hown
  clear hss hsl
  obtain ⟨ad, cap, rfl, hn63⟩ := own_len hown
  have HO := Lib.hid hown
  have HC := Lib.hid hcs
  have HB := Lib.hid hb
  have HL := Lib.hid hln
  clear hown hcs hb hln
  go_wp2_with fail
  go_loopg [3, 4] ss.length (fun k s c wr => ∃ (i : Nat) (ds : List Value), k + i = ss.length ∧ c = .int .i64 (i : Int) ∧ wr.ownsRow w1.heap.size 51 3 s i ds ∧ CellsAt w1 ds (ss.take i) ∧ Below w1.heap.size w1 wr)
  case atStart => exact ⟨0, [], by simp, rfl, World.ownsRow_nil _ _ _ _, (fun i x h => by simp at h), Below.refl _ _⟩
  case round =>
    obtain ⟨i, ds, hk, rfl, hown2, hcs2, hb2⟩ := hrel
    have hk := Lib.hid hk
    have HO2 := Lib.hid hown2
    have HC2 := Lib.hid hcs2
    have HB2 := Lib.hid hb2
    clear hown2 hcs2 hb2
    by_cases hi : i < ss.length
    · have hi1 : (i : Int) < (ss.length : Int) := by omega
      have hi3 : (0 : Int) ≤ (i : Int) := by omega
      obtain ⟨x, hx⟩ : ∃ x, ss[i]? = some x := ⟨ss[i], List.getElem?_eq_getElem (by omega)⟩
      obtain ⟨g, cap', hsl, _, hcell⟩ := own_cell HO.out (by omega)
      obtain ⟨rfl, rfl⟩ : ad = some ⟨g, 0, none⟩ ∧ cap = cap' := by simpa using hsl
      obtain ⟨y, a1, a2, a3, a4⟩ := HC.out i x hx
      have b1 := hcell _ _ a1
      have b2 := hcell _ _ a2
      have b3 := hcell _ _ a3
      have d1 := (HB2.out.cell (World.block_lt_of_cell? _ _ b1)).trans b1
      have d2 := (HB2.out.cell (World.block_lt_of_cell? _ _ b2)).trans b2
      have d3 := (HB2.out.cell (World.block_lt_of_cell? _ _ b3)).trans b3
      have wr1 : IntKind.i64.wrap ((i : Int) + 1) = (i : Int) + 1 := by rw [IntKind.wrap_i64]; omega
      have HRd := Lib.hid a4
      obtain ⟨yad, yn, ycap, rfl⟩ : ∃ ad n cap, y = .slice ad n cap := by obtain ⟨_, _, _, _, hv, _⟩ := a4; rcases hv with h | ⟨⟨_, _, h⟩, _⟩ <;> exact ⟨_, _, _, h⟩
      have hx := Lib.hid hx
      have hglt : g < w1.heap.size := World.block_lt_of_cell? _ _ b1
      have lg : g < wr.heap.size := World.block_lt_of_cell? _ _ d1
      have ag : u3.ownBlock ≠ some g := fun e => by have := (own_lt HO2.out _ e).1; omega
      rw [Nat.mul_comm] at d1 d2 d3
      clear a1 a2 a3 a4 b1 b2 b3 hcell hsl
      go_wp2_with fail
      go_region_held3 (fun w' => w'.cell? ⟨g, i * 3, none⟩ = some (.int .i64 x.kind) ∧ w'.cell? ⟨g, i * 3 + 1, none⟩ = some (.int .i64 x.num) ∧ w'.cell? ⟨g, i * 3 + 2, none⟩ = some (.slice yad yn ycap))
        (first
          | go_keep
          | (go_split_ands
             refine ⟨?_, ?_, ?_⟩
             · (rw [hgrow.cell_far _ (by simp; omega) (Ne.symm ag)]; assumption)
             · (rw [hgrow.cell_far _ (by simp; omega) (Ne.symm ag)]; assumption)
             · (rw [hgrow.cell_far _ (by simp; omega) (Ne.symm ag)]; assumption)))
        ((refine step_append_lies _ (by rfl) _ _ _ (by rfl) w1.heap.size 51 i0 _ 3 40 Tryz.underlying26 hi0 hz0 hz1 hz2 rfl (by omega) u3 i ds (by rfl) ((HO2.out.alloc _).drew) ⟨wr.heap.size, 0, none⟩ 1 1 [.int .i64 x.kind, .int .i64 x.num, .slice yad yn ycap] (by rfl) (by rfl) (World.news_of_block (cs := #[.int .i64 x.kind, .int .i64 x.num, .slice yad yn ycap]) (t := 51) (fr := (0, 0)) (heap_alloc_new wr _)) (ones3 _ _ _ (by rfl)) (by omega) (by simp [maxLen]; omega) (by omega) (by have := HB2.out.size; simp; omega) (wr.heap.size + 1) (by simp) ?_; intro g1 cap1 w2 hown1 hgrow hat hlt1))
      have H1 := Lib.hid (And.intro hown1 hgrow)
      clear hown1 hgrow hat hlt1
      go_wp2_with fail
      obtain ⟨hown1, hgrow⟩ := H1.out
      have hbw : Below wr.heap.size wr (wr.alloc (.cells #[.int .i64 x.kind, .int .i64 x.num, .slice yad yn ycap] 51)).drew := ((Below.refl _ _).alloc (Nat.le_refl _) _).drew
      have hb1 : Below w1.heap.size w1 w2 := (HB2.out.trans (hbw.mono HB2.out.size)).grown hgrow (by have := HB2.out.size; have := hbw.size; omega) (fun k hk => (own_lt HO2.out k hk).1)
      go_roundg (gk - 1)
      case measure => have := hk.out; omega
      case rel =>
        have hxl : ds.length = 3 * (ss.take i).length := by rw [HO2.out.1]; simp; omega
        refine ⟨i + 1, _, by have := hk.out; omega, by simp, hown1, ?_, hb1⟩
        have hln : ss.take (i + 1) = ss.take i ++ [x] := by rw [List.take_add_one, hx.out]; rfl
        rw [hln]
        exact HC2.out.snoc hxl x _ HRd.out
    · have hi1 : ¬ (i : Int) < (ss.length : Int) := by omega
      have hil : i = ss.length := by have := hk.out; omega
      subst hil
      rw [List.take_length] at HC2
      obtain ⟨ad2, cap2, rfl, -⟩ := own_len HO2.out
      have HK : Hid (∀ x ∈ ss, ∀ w', Below w.heap.size w w' → x.Num ∧ x.Ok w' ∧ x.Clean) := Lib.hid fun x hx w' hb => by
        obtain ⟨y, rfl⟩ := HL.out x hx
        exact ln_ok y w' (HT.out.on hb)
      have FAR : Hid (∀ w' : World, Below w1.heap.size w1 w' → Below w.heap.size w w') := Lib.hid fun _ h => HB.out.trans (h.mono HB.out.size)
      go_wp2_with fail
      refine (print_out _ _ _ ss _ HO2.out (HC2.out.on HB2.out) hs30 fun x hx => ⟨(HK.out x hx _ (FAR.out _ HB2.out)).1, (HK.out x hx _ (FAR.out _ HB2.out)).2.1⟩).mono ?_
      rintro e w2 ⟨rfl, hb2⟩
      have B2 := Lib.hid (HB2.out.trans (hb2.mono HB2.out.size))
      clear hb2
      go_wp2_with fail
      refine (parse_text ss m _ (cell0_on HM.out (FAR.out _ B2.out)) hs30 fun x hx => HK.out x hx _ (FAR.out _ B2.out)).mono ?_
      rintro e w3 ⟨stp, ys, rfl, hown3, hst3, hb3⟩
      have B3 := Lib.hid (B2.out.trans (hb3.mono B2.out.size))
      have HO3 := Lib.hid hown3
      have HS3 := Lib.hid (cellsAt_of_steps hst3)
      obtain ⟨ad3, cap3, rfl, -⟩ := own_len hown3
      clear hown3 hst3 hb3
      go_wp2_with fail
      have hba : Below w3.heap.size w3 (w3.alloc (.cells #[.int .i64 0, .int .i64 16, .slice (some ⟨w2.heap.size + 3, 0, none⟩) 1 1, .slice none 0 0, .int .i64 80, .slice ad3 ss.length cap3] 28)) := (Below.refl _ _).alloc (Nat.le_refl _) _
      have B4 := Lib.hid (B3.out.trans (hba.mono B3.out.size))
      have HA4 := Lib.hid hba
      clear hba
      refine (ref_print _ w.heap.size cs ss _ (own_move HO.out (Nat.le_refl _) fun k e => B4.out.block k (own_lt HO.out k e).2) (HC.out.on B4.out) hs30 fun x hx => (HK.out x hx _ (FAR.out _ B4.out)).1).mono ?_
      rintro e w5 ⟨rfl, hb5⟩
      have B5 := Lib.hid (B4.out.trans (hb5.mono B4.out.size))
      have A5 := Lib.hid (HA4.out.trans (hb5.mono HA4.out.size))
      have k5 := hb5.cell (p := ⟨w3.heap.size, 5, none⟩) (by simp)
      have k6 : (w3.alloc (.cells #[.int .i64 0, .int .i64 16, .slice (some ⟨w2.heap.size + 3, 0, none⟩) 1 1, .slice none 0 0, .int .i64 80, .slice ad3 ss.length cap3] 28)).cell? ⟨w3.heap.size, 5, none⟩ = some (.slice ad3 ss.length cap3) := by go_simp
      rw [k6] at k5
      clear hb5 k6
      go_wp2_with fail
      refine (steps_same _ _ (w2.heap.size + 4) w.heap.size ys cs ss _ (own_move HO3.out (Nat.le_refl _) fun k e => A5.out.block k (own_lt HO3.out k e).2) (HS3.out.on A5.out) (own_move HO.out (Nat.le_refl _) fun k e => B5.out.block k (own_lt HO.out k e).2) (HC.out.on B5.out) hs30 fun x hx => (HK.out x hx _ (FAR.out _ B5.out)).1).mono ?_
      rintro e w6 ⟨rfl, hb6⟩
      have B6 := Lib.hid (B5.out.trans (hb6.mono B5.out.size))
      clear hb6 k5
      go_wp2_with fail
      refine (awake_true m _ (cell0_on HM.out (FAR.out _ B6.out))).mono ?_
      rintro e w7 ⟨rfl, hb7⟩
      have B7 := Lib.hid (B6.out.trans (hb7.mono B6.out.size))
      clear hb7
      go_wp2_with fail
      go_ret
      exact ⟨rfl, FAR.out _ B7.out⟩

end Go.Proofs.YtdhpagdfigghfaaGreatDoor
