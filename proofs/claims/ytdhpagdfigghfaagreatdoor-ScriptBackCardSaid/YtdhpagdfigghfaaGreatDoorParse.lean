/- script.Parse at lines that are steps. -/
import Derived.Test.YtdhpagdfigghfaaGreatDoorReader
namespace Go.Proofs.YtdhpagdfigghfaaGreatDoor
open Go.RowKit Go.Lib
set_option maxRecDepth 100000

def Ln.text : Ln → List UInt8
  | .shw => [115, 104, 111, 119]
  | .trn _ l => [116, 117, 114, 110] ++ 32 :: l
  | .typ l => [116, 121, 112, 101] ++ 32 :: hexL l
def Ln.Clean : Ln → Prop
  | .trn _ l => 32 ∉ l ∧ 10 ∉ l
  | _ => True
theorem hd_ne (k : Nat) (hk : k < 16) : hd k ≠ 32 ∧ hd k ≠ 10 := by
  have : ∀ k, k < 16 → hd k ≠ 32 ∧ hd k ≠ 10 := by decide
  exact this k hk
theorem hexL_clean : ∀ l, 32 ∉ hexL l ∧ 10 ∉ hexL l
  | [] => by simp [hexL]
  | x :: l => by
    have h1 := hd_ne (x.toNat / 16) (by have := x.toNat_lt; omega)
    have h2 := hd_ne (x.toNat % 16) (by omega)
    have h3 := hexL_clean l
    simp only [hexL, List.mem_cons, not_or]
    exact ⟨⟨h1.1.symm, h2.1.symm, h3.1⟩, h1.2.symm, h2.2.symm, h3.2⟩
theorem Ln.cut (x : Ln) (h : x.Clean) : cutAt 32 x.text = x.parts := by
  cases x with
  | shw => rfl
  | trn n l =>
    simp only [Ln.text, Ln.parts]
    rw [cutAt_app 32 l [116, 117, 114, 110] (by decide), cutAt_none 32 l h.1]
  | typ l =>
    simp only [Ln.text, Ln.parts]
    rw [cutAt_app 32 _ [116, 121, 112, 101] (by decide), cutAt_none 32 _ (hexL_clean l).1]
theorem Ln.text_len (x : Ln) (w : World) (h : x.Ok w) : x.text.length < 4294967281 := by
  cases x with
  | shw => decide
  | trn n l => have := h.2.2.1; simp [Ln.text]; omega
  | typ l => have h : l.length ≤ 64 := h; simp [Ln.text, hexL_len]; omega
theorem Ln.text_ne (x : Ln) : x.text ≠ [] := by cases x <;> simp [Ln.text]
theorem Ln.text_clean (x : Ln) (h : x.Clean) : 10 ∉ x.text := by
  cases x with
  | shw => decide
  | trn n l => simp [Ln.text]; exact h.2
  | typ l => simp [Ln.text]; exact (hexL_clean l).2

def lineText : Option Ln → List UInt8
  | none => []
  | some x => x.text

theorem split_at (c : UInt8) (t : List UInt8) (m : Int) (w : World) (hs : t.length < 4294967281) (hm : w.cell? ⟨0, 0, none⟩ = some (.int .i64 m)) :
    Calls Tryz.prog 15 #[.string (bs t), .string ⟨#[c]⟩] w fun e w' => e = .returned (.slice (some ⟨w.heap.size, 0, none⟩) (cutAt c t).length (cutAt c t).length) ∧
      w' = w.alloc (.cells ((cutAt c t).map fun l => Value.string (bs l)).toArray 9) := by
  refine (Tryz.strings_Split (bs t) ⟨#[c]⟩ m w (by rw [bs_size]; exact hs) hm (Nat.le_refl 1)).mono ?_
  rintro e w' ⟨rfl, rfl⟩
  rw [countB_cut, splitB_cut, List.map_map]
  exact ⟨rfl, rfl⟩

theorem trim_at (t : List UInt8) (w : World) (hs : t.length < 4294967281) :
    Calls Tryz.prog 16 #[.string (bs t), .string ⟨#[10]⟩] w fun e w' => e = .returned (.string (bs (Lib.trimSuffix t [10]))) ∧ w' = w := by
  refine (Tryz.strings_TrimSuffix (bs t) ⟨#[10]⟩ w (by rw [bs_size]; omega)).mono ?_
  rintro e w' ⟨rfl, rfl⟩
  exact ⟨by rw [bs_data]; rfl, rfl⟩

theorem trim_len (t : List UInt8) (hs : t.length < 4294967281) : (Lib.trimSuffix t [10]).length < 4294967281 := by
  unfold Lib.trimSuffix
  split
  · simp; omega
  · exact hs

/-- what Parse answers -/
def POk (w : World) (done : List Ln) (e : Ending) (w' : World) : Prop := ∃ stp xs, e = .returned (.tuple #[.agg #[.int .i64 0, .int .i64 16, .slice (some ⟨w.heap.size + 3, 0, none⟩) 1 1, .slice none 0 0, .int .i64 80, stp], .int .i64 0, .int .i64 0]) ∧
  w'.ownsRow (w.heap.size + 4) 51 3 stp done.length xs ∧ StepsAt w' (w.heap.size + 4) stp.ownBlock xs done ∧ Below w.heap.size w w'
def PBig (w : World) (M : Nat) (e : Ending) (w' : World) : Prop := e = .returned (.tuple #[.agg #[.int .i64 0, .int .i64 0, .slice none 0 0, .slice none 0 0, .int .i64 0, .slice none 0 0], .int .i64 (M + 1), .int .i64 22]) ∧ Below w.heap.size w w'

theorem results_three {P : Program} {fn : Func} {p u v : Tmp} {ty : TypeId} (h : fn.results = #[.cell p ty, .tmp u, .tmp v]) (tmps : Array Value) (w : World) (g : Nat) (t : TypeId) (cs : Array Value) (fr : Nat × Nat) (d : TypeDesc)
    (hp : tmps.getD p undef = .pointer (some ⟨g, 0, none⟩)) (hg : w.heap[g]? = some (.cells cs t fr))
    (hu : P.underlying ty = some d) (hd : (match d with | .struct _ | .array _ _ => true | _ => false) = true) (hi : (P.info? ty).map (·.size) = some cs.size) :
    (results fn tmps).run P w = .ok (.tuple #[.agg cs, tmps.getD u undef, tmps.getD v undef]) w := by
  have hp' : tmps[p]?.getD undef = .pointer (some ⟨g, 0, none⟩) := by simpa using hp
  simp [results, h, hp', asAddr, run_loadVar_row w g t ty cs fr d hg hu hd hi]

/-- six cells of a block set, one behind the other -/
def set6 (w : World) (B : Nat) (v0 v1 v2 v3 v4 v5 : Value) : World :=
  (((((w.setCell ⟨B, 0, none⟩ v0).setCell ⟨B, 1, none⟩ v1).setCell ⟨B, 2, none⟩ v2).setCell ⟨B, 3, none⟩ v3).setCell ⟨B, 4, none⟩ v4).setCell ⟨B, 5, none⟩ v5
theorem set6_other (w : World) (B : Nat) (v0 v1 v2 v3 v4 v5 : Value) (k : Nat) (hk : k ≠ B) : (set6 w B v0 v1 v2 v3 v4 v5).heap[k]? = w.heap[k]? := by
  unfold set6
  rw [heap_setCell_other _ _ _ _ hk, heap_setCell_other _ _ _ _ hk, heap_setCell_other _ _ _ _ hk, heap_setCell_other _ _ _ _ hk, heap_setCell_other _ _ _ _ hk, heap_setCell_other _ _ _ _ hk]
theorem set6_same (w : World) (B : Nat) (v0 v1 v2 v3 v4 v5 : Value) (t : TypeId) (c0 c1 c2 c3 c4 c5 : Value) (h : w.heap[B]? = some (.cells #[c0, c1, c2, c3, c4, c5] t (0, 0))) : (set6 w B v0 v1 v2 v3 v4 v5).heap[B]? = some (.cells #[v0, v1, v2, v3, v4, v5] t (0, 0)) := by
  unfold set6
  have h0 := heap_setCell_same _ B 0 _ _ v0 h
  have h1 := heap_setCell_same _ B 1 _ _ v1 h0
  have h2 := heap_setCell_same _ B 2 _ _ v2 h1
  have h3 := heap_setCell_same _ B 3 _ _ v3 h2
  have h4 := heap_setCell_same _ B 4 _ _ v4 h3
  exact heap_setCell_same _ B 5 _ _ v5 h4
theorem set6_below {w wr : World} {B : Nat} {v0 v1 v2 v3 v4 v5 : Value} (h : Below B w wr) : Below B w (set6 wr B v0 v1 v2 v3 v4 v5) :=
  (((((h.setCell (Nat.le_refl _) _).setCell (Nat.le_refl _) _).setCell (Nat.le_refl _) _).setCell (Nat.le_refl _) _).setCell (Nat.le_refl _) _).setCell (Nat.le_refl _) _

theorem PS.at {w wr : World} {ls : List (List UInt8)} {done : List Ln} {a : Int} (h : PS w ls done a wr) (a' : Int) : PS w ls done a' (wr.setCell ⟨w.heap.size + 2, 7, none⟩ (.int .i64 a')) := by
  obtain ⟨h1, h2, h3, h4, stp, xs, h5, h6, h7⟩ := h
  refine ⟨h1.setCell (by simp) _, by simpa using h2, ?_, ?_, stp, xs, heap_setCell_same wr _ 7 _ _ _ h5, ownsRow_setCell_other h6 ?_ _, ?_⟩
  · rw [heap_setCell_other _ _ _ _ (by simp)]; exact h3
  · rw [heap_setCell_other _ _ _ _ (by simp)]; exact h4
  · intro e; have := (own_lt h6 _ e).1; simp at this
  · exact h7.move fun k hk _ _ => heap_setCell_other _ _ _ _ (by simp; omega)

theorem PS.cell6 {w wr : World} {ls : List (List UInt8)} {done : List Ln} {a : Int} (h : PS w ls done a wr) : wr.cell? ⟨w.heap.size + 2, 6, none⟩ = some (.slice (some ⟨w.heap.size + 1, 0, none⟩) ls.length ls.length) := by
  obtain ⟨_, _, h5, _⟩ := h.steps; exact h5.cell 6
theorem PS.cell7 {w wr : World} {ls : List (List UInt8)} {done : List Ln} {a : Int} (h : PS w ls done a wr) : wr.cell? ⟨w.heap.size + 2, 7, none⟩ = some (.int .i64 a) := by
  obtain ⟨_, _, h5, _⟩ := h.steps; exact h5.cell 7
theorem PS.line {w wr : World} {ls : List (List UInt8)} {done : List Ln} {a : Int} (h : PS w ls done a wr) {i : Nat} {l : List UInt8} (hl : ls[i]? = some l) : wr.cell? ⟨w.heap.size + 1, i, none⟩ = some (.string (bs l)) := by
  rw [cell_of_row wr _ i _ _ _ h.lines, List.getElem?_toArray, List.getElem?_map, hl]; rfl

def stepsOf (ls : List (Option Ln)) : List Ln := ls.filterMap id
theorem stepsOf_next_none {lines : List (Option Ln)} {i : Nat} (h : lines[i]? = some none) : stepsOf (lines.take (i + 1)) = stepsOf (lines.take i) := by
  unfold stepsOf
  rw [List.take_add_one, h]; simp
theorem stepsOf_next_some {lines : List (Option Ln)} {i : Nat} {x : Ln} (h : lines[i]? = some (some x)) : stepsOf (lines.take (i + 1)) = stepsOf (lines.take i) ++ [x] := by
  unfold stepsOf
  rw [List.take_add_one, h]; simp
theorem stepsOf_mono {lines : List (Option Ln)} {i j : Nat} (h : i ≤ j) : (stepsOf (lines.take i)).length ≤ (stepsOf (lines.take j)).length := by
  unfold stepsOf
  obtain ⟨d, rfl⟩ : ∃ d, j = i + d := ⟨j - i, by omega⟩
  rw [List.take_add]; simp
theorem isEmpty_bs (l : List UInt8) : (bs l).toList.isEmpty = l.isEmpty := by
  rw [Lib.toList_data, bs_data]

set_option maxHeartbeats 3200000 in
theorem parse_lines (lines : List (Option Ln)) (str : List UInt8) (m : Int) (w : World) (hs : str.length < 4294967281) (hm : w.cell? ⟨0, 0, none⟩ = some (.int .i64 m))
    (hcut : cutAt 10 (Lib.trimSuffix str [10]) = lines.map lineText) (hok : ∀ x, some x ∈ lines → x.Ok w ∧ x.Clean) (hl63 : lines.length < 4294967290)
    (M : Nat) (hM : M ≤ lines.length) (hcount : (stepsOf (lines.take M)).length ≤ 1000) (hend : M = lines.length ∨ ((∃ x, lines[M]? = some (some x)) ∧ (stepsOf (lines.take M)).length = 1000)) :
    Calls Tryz.prog 6 #[.string (bs str)] w fun e w' => if M = lines.length then POk w (stepsOf lines) e w' else PBig w M e w' := by
  have HT := Lib.hid (fun w => trim_at str w hs)
  have HS := Lib.hid (fun w h => split_at 10 (Lib.trimSuffix str [10]) m w (trim_len str hs) h)
  rw [hcut] at HS
  have HM := Lib.hid hm
  have hm0 := World.block_lt_of_cell? w _ hm
  have hlm : (lines.map lineText).length = lines.length := by simp
  have HE := Lib.hid hend
  clear hend hcut
  go_enter Tryz.func6, Tryz.ntmps6
  go_wp2_with fail
  refine (HT.out _).mono ?_
  rintro e w1 ⟨rfl, rfl⟩
  go_wp2_with fail
  refine (HS.out _ ?_).mono ?_
  · go_simp
  rintro e w1 ⟨rfl, rfl⟩
  go_wp2_with fail
  go_loopg [] M (fun k wr => ∃ i : Nat, k + i = M ∧ PS w (lines.map lineText) (stepsOf (lines.take i)) i wr)
  case atStart => 
    refine ⟨0, by simp, ?_⟩
    refine ⟨?_, by simp, ?_, ?_, .slice none 0 0, [], ?_, World.ownsRow_nil _ _ _ _, ?_⟩
    · exact ((((Below.refl _ w).alloc (Nat.le_refl _) _).alloc (by simp only [World.size_alloc]; omega) _).alloc (by simp only [World.size_alloc]; omega) _).alloc (by simp only [World.size_alloc]; omega) _
    · rw [Below.heap_alloc _ _ _ (by simp only [World.size_alloc]; omega), Below.heap_alloc _ _ _ (by simp only [World.size_alloc]; omega), Below.heap_alloc _ _ _ (by simp only [World.size_alloc]; omega)]
      exact heap_alloc_new w _
    · rw [Below.heap_alloc _ _ _ (by simp only [World.size_alloc]; omega), Below.heap_alloc _ _ _ (by simp only [World.size_alloc]; omega)]
      simpa using heap_alloc_new (w.alloc _) _
    · unfold RdAt
      rw [Below.heap_alloc _ _ _ (by simp only [World.size_alloc]; omega)]
      simpa using heap_alloc_new ((w.alloc _).alloc _) _
    · intro i x h
      simp [stepsOf] at h
  case round =>
    obtain ⟨i, hk, hps⟩ := hrel
    have HP := Lib.hid hps
    obtain ⟨hB, hz, hR, hL, stp, xs, hrd, hown, hst⟩ := hps
    have c0 := hrd.cell 0
    have c1 := hrd.cell 1
    have c2 := hrd.cell 2
    have c3 := hrd.cell 3
    have c4 := hrd.cell 4
    have c5 := hrd.cell 5
    have c6 := hrd.cell 6
    have c7 := hrd.cell 7
    have r0 := cell_of_row wr w.heap.size 0 _ _ _ hR
    have r1 := cell_of_row wr w.heap.size 1 _ _ _ hR
    have r2 := cell_of_row wr w.heap.size 2 _ _ _ hR
    have r3 := cell_of_row wr w.heap.size 3 _ _ _ hR
    have r4 := cell_of_row wr w.heap.size 4 _ _ _ hR
    have r5 := cell_of_row wr w.heap.size 5 _ _ _ hR
    have f0 := frozen_of_row wr w.heap.size 0 _ _ hR
    have f1 := frozen_of_row wr w.heap.size 1 _ _ hR
    have f2 := frozen_of_row wr w.heap.size 2 _ _ hR
    have f3 := frozen_of_row wr w.heap.size 3 _ _ hR
    have f4 := frozen_of_row wr w.heap.size 4 _ _ hR
    have f5 := frozen_of_row wr w.heap.size 5 _ _ hR
    have hrd7 := hrd.frozen 7
    obtain ⟨ad, cap, rfl, hn63⟩ := own_len hown
    simp only [List.getElem?_toArray, List.getElem?_cons_succ, List.getElem?_cons_zero] at c0 c1 c2 c3 c4 c5 c6 c7 r0 r1 r2 r3 r4 r5
    clear hB hz hR hL hrd hown hst
    have hk := Lib.hid hk
    by_cases hi : i < lines.length
    · have hi1 : (i : Int) < (lines.length : Int) := by omega
      have hi0 : (0 : Int) ≤ (i : Int) := by omega
      obtain ⟨x, hx⟩ : ∃ x, lines[i]? = some x := ⟨lines[i], List.getElem?_eq_getElem hi⟩
      have l1 := cell_of_row wr (w.heap.size + 1) i _ _ _ HP.out.lines
      have hx1 : (lines.map lineText)[i]? = some (lineText x) := by rw [List.getElem?_map, hx]; rfl
      rw [List.getElem?_toArray, List.getElem?_map, hx1] at l1
      simp only [Option.map_some] at l1
      have hx := Lib.hid hx
      clear hx1
      go_wp2_with fail
      refine region_still_tail 9 (by kernel_rfl) (by kernel_rfl) ?_
      simp only [List.take_succ_cons, List.take_zero, List.drop_succ_cons, List.drop_zero]
      repeat still_step
      refine wpStill_nil ?_
      go_wp2_with fail
      refine region_still_tail 10 (by kernel_rfl) (by kernel_rfl) ?_
      simp only [List.take_succ_cons, List.take_zero, List.drop_succ_cons, List.drop_zero]
      repeat still_step
      refine wpStill_nil ?_
      clear r0 r1 r2 r3 r4 r5 f0 f1 f2 f3 f4 f5 c0 c1 c2 c3 c4 c5
      have f7 := hrd7
      go_wp2_with fail
      refine (split_at 32 (lineText x) m _ ?_ ?_).mono ?_
      · cases hxx : x with
        | none => exact (by decide : (0 : Nat) < 4294967281)
        | some y =>
          have := hx.out
          rw [hxx] at this
          exact y.text_len w (hok y (List.mem_of_getElem? this)).1
      · show wr.cell? _ = _
        rw [HP.out.below.cell hm0]
        exact HM.out
      rintro e w1 ⟨rfl, hw1⟩
      have hb1 : Below wr.heap.size wr w1 := by rw [hw1]; exact (((Below.refl _ wr).drew.drew).alloc (Nat.le_refl _) _)
      have hp1 : w1.heap[wr.heap.size]? = some (.cells ((cutAt 32 (lineText x)).map fun l => Value.string (bs l)).toArray 9 (0, 0)) := by rw [hw1]; exact heap_alloc_new wr.drew.drew _
      have HP1 := Lib.hid (HP.out.on hb1)
      have HC1 := Lib.hid hp1
      have hz1 := HP1.out.size
      have d6 := (hb1.cell (World.block_lt_of_cell? _ _ c6)).trans c6
      have d7 := (hb1.cell (World.block_lt_of_cell? _ _ c7)).trans c7
      have e7 := (hb1.frozen (World.block_lt_of_cell? _ _ c7)).trans f7
      have m1 := (hb1.cell (World.block_lt_of_cell? _ _ l1)).trans l1
      clear hw1 hb1 hp1
      go_wp2_with fail
      have hp2 : PS w (lines.map lineText) (stepsOf (lines.take i)) ((i : Int) + 1) (w1.setCell ⟨w.heap.size + 1 + 1, 7, none⟩ (.int .i64 ((i : Int) + 1))) := HP1.out.at _
      have hc2 : (w1.setCell ⟨w.heap.size + 1 + 1, 7, none⟩ (.int .i64 ((i : Int) + 1))).heap[wr.heap.size]? = some (.cells ((cutAt 32 (lineText x)).map fun l => Value.string (bs l)).toArray 9 (0, 0)) := by
        rw [heap_setCell_other _ _ _ _ (by have := HP.out.size; simp; omega)]; exact HC1.out
      go_name_world W2 hW2
      rw [hW2] at hp2 hc2
      have HP2 := Lib.hid hp2
      have HC2 := Lib.hid hc2
      have g6 := hp2.cell6
      have g7 := hp2.cell7
      have g8 := hp2.line (i := i) (l := lineText x) (by rw [List.getElem?_map, hx.out]; rfl)
      have wrp : IntKind.i64.wrap ((i : Int) + 1 - 1) = (i : Int) := by rw [IntKind.wrap_i64]; omega
      have wri : IntKind.i64.wrap (i : Int) = (i : Int) := by rw [IntKind.wrap_i64]; omega
      clear hp2 hc2 hW2 d6 d7 e7 m1 c6 c7 l1 HP1 HC1
      refine region_still_tail 11 (by kernel_rfl) (by kernel_rfl) ?_
      simp only [List.take_succ_cons, List.take_zero, List.drop_succ_cons, List.drop_zero]
      repeat still_step
      refine wpStill_nil ?_
      have hem := isEmpty_bs (lineText x)
      clear g6 g7 g8 wrp wri
      cases x with
      | none =>
        have hiM : i < M := by
          rcases HE.out with h | ⟨⟨y, h⟩, _⟩
          · omega
          · rcases Nat.lt_or_ge i M with h1 | h1
            · exact h1
            · exfalso
              have : i = M := by have := hk.out; omega
              subst this
              rw [hx.out] at h
              cases h
        replace hem : (bs (lineText none)).toList.isEmpty = true := hem
        go_wp2_with fail
        go_roundg (gk - 1)
        case measure => have := hk.out; omega
        case rel =>
          refine ⟨i + 1, by have := hk.out; omega, ?_⟩
          rw [stepsOf_next_none hx.out]
          exact_mod_cast HP2.out.on ((Below.refl _ _).drew)
      | some x =>
        replace hem : (bs (lineText (some x))).toList.isEmpty = false := by rw [hem]; simpa [lineText] using x.text_ne
        have hxo := hok x (List.mem_of_getElem? hx.out)
        have hct : (cutAt 32 (lineText (some x))).length = x.parts.length := by rw [lineText, x.cut hxo.2]
        have hpc : ∀ j p, x.parts[j]? = some p → W2.drew.cell? ⟨wr.heap.size, j, none⟩ = some (.string (bs p)) := by
          intro j p hp
          have h := HC2.out
          rw [lineText, x.cut hxo.2] at h
          show W2.cell? _ = _
          rw [cell_of_row W2 _ j _ _ _ h, List.getElem?_toArray, List.getElem?_map, hp]; rfl
        have hpc := Lib.hid hpc
        have hxo := Lib.hid hxo
        go_wp2_with fail
        by_cases hiM : i < M
        · have hlt : (stepsOf (lines.take i)).length < 1000 := by
            have := stepsOf_next_some hx.out
            have h2 := stepsOf_mono (lines := lines) (show i + 1 ≤ M by omega)
            rw [this] at h2
            simp at h2; omega
          refine (line_ps x (HP2.out.on ((Below.refl _ _).drew)) hxo.out.1 0 _ (.inl ⟨rfl, hlt, rfl⟩) wr.heap.size x.parts.length hpc.out).mono ?_
          rintro e w3 ⟨d, rfl, rfl, hp3⟩
          have HP3 := Lib.hid hp3
          clear hp3
          go_wp2_with fail
          go_roundg (gk - 1)
          case measure => have := hk.out; omega
          case rel =>
            refine ⟨i + 1, by have := hk.out; omega, ?_⟩
            rw [stepsOf_next_some hx.out]
            exact_mod_cast HP3.out
        · have hiM : i = M := by have := hk.out; omega
          have hfull : (stepsOf (lines.take i)).length = 1000 := by
            rcases HE.out with h | ⟨_, h⟩
            · omega
            · rw [hiM]; exact h
          refine (line_ps x (HP2.out.on ((Below.refl _ _).drew)) hxo.out.1 22 _ (.inr ⟨rfl, hfull, rfl⟩) wr.heap.size x.parts.length hpc.out).mono ?_
          rintro e w3 ⟨d, rfl, rfl, hp3⟩
          have HP3 := Lib.hid hp3
          have q7 := hp3.cell7
          clear hp3
          have hR3 := HP3.out.res
          have r0 := cell_of_row w3 w.heap.size 0 _ _ _ hR3
          have r1 := cell_of_row w3 w.heap.size 1 _ _ _ hR3
          have r2 := cell_of_row w3 w.heap.size 2 _ _ _ hR3
          have r3 := cell_of_row w3 w.heap.size 3 _ _ _ hR3
          have r4 := cell_of_row w3 w.heap.size 4 _ _ _ hR3
          have r5 := cell_of_row w3 w.heap.size 5 _ _ _ hR3
          have f0 := frozen_of_row w3 w.heap.size 0 _ _ hR3
          have f1 := frozen_of_row w3 w.heap.size 1 _ _ hR3
          have f2 := frozen_of_row w3 w.heap.size 2 _ _ hR3
          have f3 := frozen_of_row w3 w.heap.size 3 _ _ hR3
          have f4 := frozen_of_row w3 w.heap.size 4 _ _ hR3
          have f5 := frozen_of_row w3 w.heap.size 5 _ _ hR3
          simp only [List.getElem?_toArray, List.getElem?_cons_succ, List.getElem?_cons_zero] at r0 r1 r2 r3 r4 r5
          clear hR3
          go_wp2_with fail
          go_region
          go_wp2_with fail
          have hb4 := set6_below (v0 := .int .i64 0) (v1 := .int .i64 0) (v2 := .slice none 0 0) (v3 := .slice none 0 0) (v4 := .int .i64 0) (v5 := .slice none 0 0) HP3.out.below
          have hr4 := set6_same w3 w.heap.size (.int .i64 0) (.int .i64 0) (.slice none 0 0) (.slice none 0 0) (.int .i64 0) (.slice none 0 0) _ _ _ _ _ _ _ HP3.out.res
          unfold set6 at hr4 hb4
          generalize ((((((w3.setCell ⟨w.heap.size, 0, none⟩ (.int .i64 0)).setCell ⟨w.heap.size, 1, none⟩ (.int .i64 0)).setCell ⟨w.heap.size, 2, none⟩ (.slice none 0 0)).setCell ⟨w.heap.size, 3, none⟩ (.slice none 0 0)).setCell ⟨w.heap.size, 4, none⟩ (.int .i64 0)).setCell ⟨w.heap.size, 5, none⟩ (.slice none 0 0)) = W4 at hr4 hb4 ⊢
          refine bodyPost_ret (results_three Tryz.results6 _ _ w.heap.size 28 _ (0, 0) _ ?hp hr4 Tryz.underlying28 rfl ?hi) ?hr ?hq
          case hp => rfl
          case hi => kernel_rfl
          case hr => rfl
          case hq => exact ⟨rfl, hb4.drew⟩
    · have hi1 : ¬ (i : Int) < (lines.length : Int) := by omega
      go_wp2_with fail
      refine region_still_tail 9 (by kernel_rfl) (by kernel_rfl) ?_
      simp only [List.take_succ_cons, List.take_zero, List.drop_succ_cons, List.drop_zero]
      repeat still_step
      refine wpStill_nil ?_
      go_wp2_with fail
      have hil : i = lines.length := by have := hk.out; omega
      subst hil
      obtain ⟨hB, hz, hR, hL, stp, xs, hrd, hown, hst⟩ := HP.out
      have c5' := hrd.cell 5
      simp only [List.getElem?_toArray, List.getElem?_cons_succ, List.getElem?_cons_zero] at c5'
      obtain rfl : stp = .slice ad (stepsOf (List.take lines.length lines)).length cap := by rw [c5'] at c5; exact Option.some.inj c5
      rw [List.take_length] at hown hst ⊢
      clear c0 c1 c2 c3 c4 c5 c6 c7 r0 r1 r2 r3 r4 r5 f0 f1 f2 f3 f4 f5 c5' hrd7
      have hr4 := set6_same wr w.heap.size (.int .i64 0) (.int .i64 16) (.slice (some ⟨w.heap.size + 3, 0, none⟩) 1 1) (.slice none 0 0) (.int .i64 80) (.slice ad (stepsOf lines).length cap) _ _ _ _ _ _ _ hR
      have hb4 := set6_below (v0 := .int .i64 0) (v1 := .int .i64 16) (v2 := .slice (some ⟨w.heap.size + 3, 0, none⟩) 1 1) (v3 := .slice none 0 0) (v4 := .int .i64 80) (v5 := .slice ad (stepsOf lines).length cap) hB
      have ho4 := set6_other wr w.heap.size (.int .i64 0) (.int .i64 16) (.slice (some ⟨w.heap.size + 3, 0, none⟩) 1 1) (.slice none 0 0) (.int .i64 80) (.slice ad (stepsOf lines).length cap)
      unfold set6 at hr4 hb4 ho4
      generalize ((((((wr.setCell ⟨w.heap.size, 0, none⟩ (.int .i64 0)).setCell ⟨w.heap.size, 1, none⟩ (.int .i64 16)).setCell ⟨w.heap.size, 2, none⟩ (.slice (some ⟨w.heap.size + 3, 0, none⟩) 1 1)).setCell ⟨w.heap.size, 3, none⟩ (.slice none 0 0)).setCell ⟨w.heap.size, 4, none⟩ (.int .i64 80)).setCell ⟨w.heap.size, 5, none⟩ (.slice ad (stepsOf lines).length cap)) = W4 at hr4 hb4 ho4 ⊢
      refine bodyPost_ret (results_three Tryz.results6 _ _ w.heap.size 28 _ (0, 0) _ ?hp hr4 Tryz.underlying28 rfl ?hi) ?hr ?hq
      case hp => rfl
      case hi => kernel_rfl
      case hr => rfl
      case hq =>
        refine ⟨_, xs, rfl, ?_, ?_, hb4.drew⟩
        · exact own_move hown (Nat.le_refl _) fun k e => ho4 k (by have := (own_lt hown k e).1; omega)
        · exact hst.move fun k h1 _ _ => ho4 k (by omega)

end Go.Proofs.YtdhpagdfigghfaaGreatDoor
