/- path.Parse: names, an error. -/
import Derived.Test.YtapjfcljbdlnkaaDoorPathL
import Derived.Deep.AppendLies
import Derived.Maps.AppendAt
import Derived.RangeFuncBox
namespace Go.Proofs.YtapjfcljbdlnkaaDoor
open Go Go.RowKit Go.Lib
attribute [local go_sem] Oper.semAt_some
set_option maxRecDepth 100000

theorem SplK.trans {B1 B2 B3 : Nat} {A B C : World} (h : SplK B1 B2 B3 A B) (k : SplK B1 B2 B3 B C) : SplK B1 B2 B3 A C :=
  ⟨k.1.trans h.1, k.2.1.trans h.2.1, k.2.2.trans h.2.2⟩
theorem SplK.putObj {B1 B2 B3 : Nat} (W : World) (l : Nat) (o : Obj) (h1 : B1 < l) (h2 : B2 < l) (h3 : B3 < l) : SplK B1 B2 B3 W (W.putObj l o) :=
  ⟨World.putObj_heap_other (by omega), World.putObj_heap_other (by omega), World.putObj_heap_other (by omega)⟩
theorem SplT.other {B : Nat} {W W' : World} (h : SplT B W W') {l : Nat} (hl : l ≠ B) : W'.heap[l]? = W.heap[l]? := by
  rcases h with rfl | ⟨v, rfl⟩
  · rfl
  · exact heap_setCell_other _ _ _ _ hl
theorem SplT.below {B n0 : Nat} {w W W' : World} (h : SplT B W W') (hb : Below n0 w W) (hB : n0 ≤ B) : Below n0 w W' := by
  rcases h with rfl | ⟨v, rfl⟩
  · exact hb
  · exact hb.setCell hB _

set_option maxHeartbeats 3200000 in
theorem path_slash (t : List UInt8) (ht : t.length ≤ 1000000) (w : World) :
    Calls Tryd.prog 17 #[.string (bs (47 :: t))] w (PathPost w (pathGo [] (cutAt 47 t))) := by
  refine (callsIn_wide (n := 9)).1 ?_
  obtain ⟨i0, hi0, hz0, hz1, hz2⟩ := info_parts str_info
  refine callsIn_of_wp_marks Tryd.func17 rfl trivial ?_ rfl
  simp only [Tryd.ntmps17, List.size_toArray, List.length_cons, List.length_nil, Nat.reduceAdd, Nat.reduceSub, Array.replicate_succ, Array.replicate_zero, List.push_toArray, List.append_toArray, List.nil_append, List.cons_append]
  have hT := bs_list (47 :: t)
  have hsz : (bs (47 :: t)).size = t.length + 1 := by rw [bs_size]; rfl
  have hd : (bs (47 :: t)).extract 1 (bs (47 :: t)).size = bs t := bs_drop [] t 47
  have HS := Lib.hid hsz
  have hle : 1 ≤ (bs (47 :: t)).size := by omega
  clear hsz
  gi_wp2
  refine wide_call (Tryd.strings_HasPrefix (bs (47 :: t)) ⟨#[47]⟩ _) ?_
  rintro e w1 ⟨rfl, rfl⟩
  have hp : Lib.hasPrefix (bs (47 :: t)).data.toList (⟨#[47]⟩ : ByteArray).data.toList = true := by simp [bs_data, Lib.hasPrefix]
  rw [hp]
  gi_wp2
  refine wide_call (split_seq 47 t _) ?_
  rintro e w1 ⟨rfl, rfl⟩
  gi_wp2
  obtain ⟨H, hH⟩ : ∃ H, w.heap.size = H := ⟨_, rfl⟩
  have hcells := split_cells 47 t (((w.alloc (.cells #[.slice none 0 0] 30)).alloc (.cells #[.int .i64 0] 23)).alloc (.cells #[.slice none 0 0] 30))
  simp only [World.size_alloc] at hcells
  have b2 := (((((Boxed.new w 30 (.slice none 0 0)).alloc (.cells #[.int .i64 0] 23)).alloc (.cells #[.slice none 0 0] 30)).alloc (.cells #[.string (bs t)] 9)).alloc (.cells #[.string ⟨#[47]⟩] 9)).alloc (.cells #[.int .i64 0] 3)
  have b3 := ((((Boxed.new (w.alloc (.cells #[.slice none 0 0] 30)) 23 (.int .i64 0)).alloc (.cells #[.slice none 0 0] 30)).alloc (.cells #[.string (bs t)] 9)).alloc (.cells #[.string ⟨#[47]⟩] 9)).alloc (.cells #[.int .i64 0] 3)
  have b4 := (((Boxed.new ((w.alloc (.cells #[.slice none 0 0] 30)).alloc (.cells #[.int .i64 0] 23)) 30 (.slice none 0 0)).alloc (.cells #[.string (bs t)] 9)).alloc (.cells #[.string ⟨#[47]⟩] 9)).alloc (.cells #[.int .i64 0] 3)
  simp only [World.size_alloc] at b2 b3 b4
  have hB0 : Below w.heap.size w ((((((w.alloc (.cells #[.slice none 0 0] 30)).alloc (.cells #[.int .i64 0] 23)).alloc (.cells #[.slice none 0 0] 30)).alloc (.cells #[.string (bs t)] 9)).alloc (.cells #[.string ⟨#[47]⟩] 9)).alloc (.cells #[.int .i64 0] 3)) :=
    ((((((Below.refl _ w).alloc (Nat.le_refl _) _).alloc (by simp) _).alloc (by simp; omega) _).alloc (by simp; omega) _).alloc (by simp; omega) _).alloc (by simp; omega) _
  have hsz0 : ((((((w.alloc (.cells #[.slice none 0 0] 30)).alloc (.cells #[.int .i64 0] 23)).alloc (.cells #[.slice none 0 0] 30)).alloc (.cells #[.string (bs t)] 9)).alloc (.cells #[.string ⟨#[47]⟩] 9)).alloc (.cells #[.int .i64 0] 3)).heap.size = w.heap.size + 6 := by simp
  obtain ⟨W0, hW0⟩ : ∃ W0, ((((((w.alloc (.cells #[.slice none 0 0] 30)).alloc (.cells #[.int .i64 0] 23)).alloc (.cells #[.slice none 0 0] 30)).alloc (.cells #[.string (bs t)] 9)).alloc (.cells #[.string ⟨#[47]⟩] 9)).alloc (.cells #[.int .i64 0] 3)) = W0 := ⟨_, rfl⟩
  rw [hW0] at hcells b2 b3 b4 hB0 hsz0 ⊢
  rw [hH] at hcells b2 b3 b4 hsz0 ⊢
  have HW := Lib.hid hH
  have HB0 := Lib.hid hB0
  have HC := Lib.hid hcells
  clear hH hB0 hcells hW0
  have hsz : w.heap.size ≤ H := Nat.le_of_eq HW.out
  refine range_outer (n := 9) rfl (by decide) (gf := 50) (lb := #[.pointer (some ⟨H + 1 + 1 + 1 + 1, 0, none⟩), .pointer (some ⟨H + 1 + 1 + 1, 0, none⟩), .pointer (some ⟨H + 1 + 1 + 1 + 2, 0, none⟩)]) rfl trivial (enters_of Tryd.func50 (by kernel_rfl) rfl)
    (split_iter 8 47 t (by omega) (H + 1 + 1 + 1 + 1) (H + 1 + 1 + 1) (H + 1 + 1 + 1 + 2) (by omega) (by omega)) (fun _ => rfl) (fun h k => h.trans k) (fun W l r r' hl _ => SplK.putObj W l _ (by omega) (by omega) (by omega)) (fun W W' l h hl _ => h.other (by omega))
    (fun pre W => (((∃ out, (pathGo [] (cutAt 47 t) = pathGo out ((cutAt 47 t).drop pre.length) ∧ out.length ≤ 8) ∧ ∃ v, Boxed W (H + 1 + 1) 30 v ∧ W.ownsRow (H + 6) 9 1 v out.length (strs out)) ∧ Boxed W H 30 (.slice none 0 0)) ∧ Boxed W (H + 1) 23 (.int .i64 0)) ∧ Below H W0 W)
    (fun c pre W => (((c = .ret ∧ ∃ code, pathGo [] (cutAt 47 t) = ([], code) ∧ Boxed W (H + 1) 23 (.int .i64 code)) ∧ Boxed W H 30 (.slice none 0 0))) ∧ Below H W0 W)
    ?hIT (OwnFrom.and (OwnFrom.and (OwnFrom.and (ownFrom_ex fun out => OwnFrom.and (ownFrom_pure _ _) (ownFrom_row _ _ _ _ _ _ _)) (ownFrom_box _ _ _)) (ownFrom_box _ _ _)) (ownFrom_below (by omega) (by omega)))
    (fun c => OwnFrom.and (OwnFrom.and (OwnFrom.and (ownFrom_pure _ _) (ownFrom_ex fun code => OwnFrom.and (ownFrom_pure _ _) (ownFrom_box _ _ _))) (ownFrom_box _ _ _)) (ownFrom_below (by omega) (by omega)))
    (fun x a₁ _ => a₁ = { tmps := #[.string (bs (47 :: t)), undef, .pointer (some ⟨H, 0, none⟩), .pointer (some ⟨H + 1, 0, none⟩), .pointer (some ⟨H + 1 + 1, 0, none⟩), .string (bs x), .string (bs (47 :: t)), .bool true, .bool false, .string (bs (47 :: t)), .string (bs t), .func (.func 50) #[] #[.pointer (some ⟨H + 1 + 1 + 1 + 1, 0, none⟩), .pointer (some ⟨H + 1 + 1 + 1, 0, none⟩), .pointer (some ⟨H + 1 + 1 + 1 + 2, 0, none⟩)], .string (bs x), undef, undef, undef, undef, undef, undef, undef, undef, undef, undef, undef, undef, undef, undef, undef, undef, undef, undef, undef, undef, undef, undef, undef, undef, undef, undef, undef, undef, undef], defers := [] })
    (fun _ _ _ _ _ _ hs _ _ => hs) ?hG ?h0 ?assign ?body ?done ?stop
  case hIT =>
    rintro pre W W' ⟨⟨⟨⟨out, hp, v, hv, hrow⟩, hb2⟩, hb3⟩, hB⟩ ht
    rcases ht with rfl | ⟨u, rfl⟩
    · exact ⟨⟨⟨⟨out, hp, v, hv, hrow⟩, hb2⟩, hb3⟩, hB⟩
    · exact ⟨⟨⟨⟨out, hp, v, hv.other (by omega) _, ownsRow_setCell_other hrow (fun e => by have := (own_lt hrow _ e).1; simp at this; omega) _⟩, hb2.other (by omega) _⟩, hb3.other (by omega) _⟩, hB.setCell (by simp; omega) _⟩
  case hG =>
    intro W hb
    exact HC.out W (hb.mono (by omega))
  case h0 => exact ⟨⟨⟨⟨[], ⟨rfl, by simp⟩, _, b4, World.ownsRow_nil _ _ _ _⟩, b2⟩, b3⟩, Below.refl _ _⟩
  case assign =>
    intro l pre x W K hi _ _ hK
    gi_wp2
    exact hK _ _ (KeepsFrom.refl _ _) ⟨rfl, rfl, rfl⟩ hi rfl
  case body =>
    rintro l pre x a₁ W hx hl ⟨r, hr⟩ ⟨⟨⟨⟨out, ⟨hgo, hlen⟩, v, hv, hrow⟩, hb2⟩, hb3⟩, hB⟩ rfl
    obtain ⟨ps, hps⟩ : ∃ ps, cutAt 47 t = pre ++ x :: ps := by
      obtain ⟨q, hq⟩ := hx
      exact ⟨q, by rw [← hq]; simp⟩
    have hdrop : (cutAt 47 t).drop pre.length = x :: ps := by rw [hps]; simp
    have hdrop' : (cutAt 47 t).drop (pre ++ [x]).length = ps := by rw [hps]; simp
    rw [hdrop] at hgo
    have hxl : x.length ≤ 1000000 := Nat.le_trans (cutAt_len 47 t x (by rw [hps]; simp)) ht
    obtain ⟨ad, cap, rfl, hn63⟩ := own_len hrow
    have hTx := bs_list x
    have c4 := hv.cell
    have f4 := hv.frozen
    have c2 := hb2.cell
    have f2 := hb2.frozen
    have c3 := hb3.cell
    have f3 := hb3.frozen
    have HG := Lib.hid hgo
    have HL := Lib.hid hlen
    have HV := Lib.hid hv
    have HO := Lib.hid hrow
    have H2 := Lib.hid hb2
    have H3 := Lib.hid hb3
    have HB := Lib.hid hB
    have HD := Lib.hid hdrop'
    have hsW := hB.size
    clear hx hps hdrop hgo hlen hv hrow hb2 hb3 hB hdrop'
    by_cases hs : x = [] ∨ x = [46]
    · rcases hs with rfl | rfl
      · gi_wp2
        exact ⟨KeepsFrom.refl _ _, ⟨rfl, rfl, rfl⟩, ⟨⟨⟨out, ⟨by rw [HD.out, HG.out, pathGo_skip _ _ _ (.inl rfl)], HL.out⟩, _, HV.out, HO.out⟩, H2.out⟩, H3.out⟩, HB.out⟩
      · gi_wp2
        exact ⟨KeepsFrom.refl _ _, ⟨rfl, rfl, rfl⟩, ⟨⟨⟨out, ⟨by rw [HD.out, HG.out, pathGo_skip _ _ _ (.inr rfl)], HL.out⟩, _, HV.out, HO.out⟩, H2.out⟩, H3.out⟩, HB.out⟩
    · have HS2 := Lib.hid hs
      have x0 : x.isEmpty = false := by cases x; exact absurd (.inl rfl) hs; rfl
      have x1 : (x == [46]) = false := by simp; exact fun e => hs (.inr e)
      clear hs
      by_cases hu : x = [46, 46]
      · subst hu
        have HF := Lib.hid (own_form HO.out)
        by_cases h0 : out = []
        · subst h0
          rcases HF.out with ⟨rfl, rfl⟩ | ⟨g, rfl, hcap⟩
          · gi_wp2
            exact ⟨(KeepsOthers.setCell _ _ _).from _, ⟨heap_setCell_other _ _ _ _ (by simp <;> omega), heap_setCell_other _ _ _ _ (by simp <;> omega), heap_setCell_other _ _ _ _ (by simp <;> omega)⟩,
              ⟨⟨⟨[], ⟨by rw [HD.out, HG.out, pathGo_up]; rfl, by simp⟩, _, HV.out.set _, ownsRow_setCell_other HO.out (by simp [Value.ownBlock]) _⟩, H2.out.other (by omega) _⟩, H3.out.other (by omega) _⟩, HB.out.setCell (by simp <;> omega) _⟩
          · gi_wp2
            exact ⟨(KeepsOthers.setCell _ _ _).from _, ⟨heap_setCell_other _ _ _ _ (by simp <;> omega), heap_setCell_other _ _ _ _ (by simp <;> omega), heap_setCell_other _ _ _ _ (by simp <;> omega)⟩,
              ⟨⟨⟨[], ⟨by rw [HD.out, HG.out, pathGo_up]; rfl, by simp⟩, _, HV.out.set _, ownsRow_setCell_other HO.out (by have := (own_lt HO.out g rfl).1; simp [Value.ownBlock]; omega) _⟩, H2.out.other (by omega) _⟩, H3.out.other (by omega) _⟩, HB.out.setCell (by simp <;> omega) _⟩
        · have hl0 : 0 < out.length := List.length_pos_iff.2 h0
          rcases HF.out with ⟨rfl, rfl⟩ | ⟨g, rfl, hcap⟩
          · exfalso
            have := HO.out.2
            rcases this with ⟨_, h⟩ | ⟨_, _, _, h, _⟩
            · omega
            · cases h
          · have hp1 : 0 ≤ (out.length : Int) - 1 := by omega
            have hp2 : (0 : Int) < (out.length : Int) := by omega
            have hp3 : (out.length : Int) - 1 ≤ (cap : Int) := by omega
            have hl8 : out.length ≤ 8 := HL.out
            have hp4 : wrap64 ((out.length : Int) - 1) = (out.length : Int) - 1 := by unfold wrap64; omega
            have hp5 : max ((out.length : Int) - 1) 0 = (out.length : Int) - 1 := by omega
            gi_wp2
            clear hp4 hp5
            have hsh := own_shrink HO.out (out.length - 1) (by omega)
            have e1 : (strs out).take (out.length - 1) = strs out.dropLast := by unfold strs; rw [List.dropLast_eq_take, List.map_take]
            have e2 : out.dropLast.length = out.length - 1 := by simp
            rw [e1] at hsh
            have hg6 := (own_lt HO.out g rfl).1
            exact ⟨(KeepsOthers.setCell _ _ _).from _, ⟨heap_setCell_other _ _ _ _ (by simp <;> omega), heap_setCell_other _ _ _ _ (by simp <;> omega), heap_setCell_other _ _ _ _ (by simp <;> omega)⟩,
              ⟨⟨⟨out.dropLast, ⟨by rw [HD.out, HG.out, pathGo_up], by omega⟩, _, HV.out.set _, by rw [e2]; exact ownsRow_setCell_other hsh (by simp [Value.ownBlock]; omega) _⟩, H2.out.other (by omega) _⟩, H3.out.other (by omega) _⟩, HB.out.setCell (by simp <;> omega) _⟩
      · have HU := Lib.hid hu
        have x2 : (x == [46, 46]) = false := by simpa using hu
        clear hu
        cases hn : nameOK x with
        | false =>
          have HN := Lib.hid hn
          clear hn
          gi_wp2
          refine round_call (name_ok x hxl _) ?_
          rintro e w1 ⟨rfl, rfl⟩
          rw [HN.out]
          gi_wp2
          exact ⟨((KeepsOthers.setCell _ _ _).trans (KeepsOthers.setCell _ _ _)).from _, ⟨⟨rfl, 18, by rw [HG.out, pathGo_bad _ _ _ HS2.out HU.out HN.out], (H3.out.other (by omega) _).set _⟩, (H2.out.set _).other (by omega) _⟩, (HB.out.setCell (by simp <;> omega) _).setCell (by simp <;> omega) _⟩
        | true =>
          have HN := Lib.hid hn
          clear hn
          gi_wp2
          refine round_call (name_ok x hxl _) ?_
          rintro e w1 ⟨rfl, rfl⟩
          rw [HN.out]
          by_cases hf : out.length = 8
          · have k8 : ((out.length : Int) == 8) = true := by simp; omega
            have HF := Lib.hid hf
            clear hf
            gi_wp2
            exact ⟨((KeepsOthers.setCell _ _ _).trans (KeepsOthers.setCell _ _ _)).from _, ⟨⟨rfl, 22, by rw [HG.out, pathGo_full _ _ _ HS2.out HU.out HN.out HF.out], (H3.out.other (by omega) _).set _⟩, (H2.out.set _).other (by omega) _⟩, (HB.out.setCell (by simp <;> omega) _).setCell (by simp <;> omega) _⟩
          · have k8 : ((out.length : Int) == 8) = false := by simp; omega
            have HF := Lib.hid hf
            clear hf
            have hl8 : out.length ≤ 8 := HL.out
            gi_wp2_with (gi_at_builtin; refine wpListIn_append_own _ rfl _ _ 30 rfl (H + 6) 9 i0 (.string ⟨#[]⟩) 1 16 Tryd.underlying30 hi0 hz0 hz1 hz2 rfl (by decide) _ _ _ rfl (HO.out.alloc _) ⟨W.heap.size, 0, none⟩ 1 1 [.string (bs x)] rfl rfl (cell_one_new _ _ _) (by simp [Value.oneCell']) (by unfold maxLen; omega) (by omega) (by simp; omega) ?_; intro v' w1 hown' hgrow _; obtain ⟨g', cap', rfl⟩ := ownsRow_succ hown'; obtain ⟨q1, q2, q3, q4, q5, q6⟩ := boxed_append HV.out (by decide) HO.out (n₀ := H) (by omega) (by omega) (by omega) (by omega) hown' hgrow; have hc1 := q1.cell; have hf1 := q1.frozen; have Q := Lib.hid (And.intro q2 (And.intro q3 (And.intro q4 (And.intro q5 q6)))); clear hown' hgrow q1 q2 q3 q4 q5 q6)
            obtain ⟨q2, q3, q4, q5, q6⟩ := Q.out
            exact ⟨q4.from _, ⟨q6 _ (by omega) (by omega), q6 _ (by omega) (by omega), q6 _ (by omega) (by omega)⟩,
              ⟨⟨⟨out ++ [x], ⟨by rw [HD.out, HG.out, pathGo_name _ _ _ HS2.out HU.out HN.out HF.out], by have := HF.out; simp; omega⟩, _, q2, by rw [strs_snoc]; simpa using q3⟩, (q6 H (by omega) (by omega)).trans H2.out⟩, (q6 (H + 1) (by omega) (by omega)).trans H3.out⟩, HB.out.trans q5⟩
  case done =>
    rintro D W hD ⟨⟨⟨⟨out, ⟨hgo, hlen⟩, v, hv, hrow⟩, hb2⟩, hb3⟩, hB⟩ hK
    obtain ⟨ad, cap, rfl, hn63⟩ := own_len hrow
    have c4 := hv.cell
    have f4 := hv.frozen
    have c2 := hb2.cell
    have f2 := hb2.frozen
    have c3 := hb3.cell
    have f3 := hb3.frozen
    rw [List.drop_of_length_le (Nat.le_refl _)] at hgo
    have HG := Lib.hid hgo
    have HR := Lib.hid hrow
    have H2 := Lib.hid hb2
    have H3 := Lib.hid hb3
    have HB := Lib.hid hB
    have HK := Lib.hid hK
    clear hgo hlen hv hrow hb2 hb3 hB hK
    gi_wp2
    have hB1 : Below H W0 ((W.setCell ⟨H, 0, none⟩ (.slice ad out.length cap)).setCell ⟨H + 1, 0, none⟩ (.int .i64 0)) := (HB.out.setCell (by simp) _).setCell (by simp) _
    have hR1 : ((W.setCell ⟨H, 0, none⟩ (.slice ad out.length cap)).setCell ⟨H + 1, 0, none⟩ (.int .i64 0)).ownsRow (H + 6) 9 1 (.slice ad out.length cap) out.length (strs out) :=
      ownsRow_setCell_other (ownsRow_setCell_other HR.out (fun e => by have := (own_lt HR.out _ e).1; simp at this <;> omega) _) (fun e => by have := (own_lt HR.out _ e).1; simp at this <;> omega) _
    have hb2' := (H2.out.set (.slice ad out.length cap)).other (B' := H + 1) (by omega) (.int .i64 0)
    have hb3' := (H3.out.other (B' := H) (by omega) (.slice ad out.length cap)).set (.int .i64 0)
    have hK' := ((KeepsOthers.setCell W ⟨H, 0, none⟩ (.slice ad out.length cap)).trans (KeepsOthers.setCell _ ⟨H + 1, 0, none⟩ (.int .i64 0))).same D _ HK.out rfl
    refine ⟨by simp, .inl ⟨_, _, rfl, run_takeDeferred hK', ?_⟩⟩
    have p2 := hb2'.kept (grownBy_putObj' _ D (.deferred none)) (by intro e; cases e; omega)
    have p3 := hb3'.kept (grownBy_putObj' _ D (.deferred none)) (by intro e; cases e; omega)
    have d2 := p2.cell
    have d3 := p3.cell
    refine ⟨.tuple #[.slice ad out.length cap, .int .i64 0], ?_, .slice ad out.length cap, by rw [HG.out]; rfl, ?_, ?_⟩
    · simp [results, Tryd.results17, go_sem, d2, d3]
    · rw [HG.out]; exact own_weak (ownsRow_putObj hR1 _ hK' rfl) (by omega)
    · exact HB0.out.trans (Below.trans (hB1.mono (by omega)) (belowK_b (w := W0) (n₀ := w.heap.size) (by omega) _ D _ _ hD hK' rfl rfl))
  case stop =>
    rintro D c pre W hD ⟨⟨⟨rfl, code, hgo, hb3⟩, hb2⟩, hB⟩ hK
    have HG := Lib.hid hgo
    clear hgo
    gi_wp2
    refine ⟨by simp, .inl ⟨_, _, rfl, run_takeDeferred hK, ?_⟩⟩
    have d2 := (hb2.kept (grownBy_putObj' _ D (.deferred none)) (by intro e; cases e; omega)).cell
    have d3 := (hb3.kept (grownBy_putObj' _ D (.deferred none)) (by intro e; cases e; omega)).cell
    refine ⟨.tuple #[.slice none 0 0, .int .i64 code], ?_, .slice none 0 0, by rw [HG.out], ?_, ?_⟩
    · simp [results, Tryd.results17, go_sem, d2, d3]
    · rw [HG.out]; exact World.ownsRow_nil _ _ _ _
    · exact HB0.out.trans (Below.trans (hB.mono (by omega)) (belowK_b (w := W0) (n₀ := w.heap.size) (by omega) _ D _ _ hD hK rfl rfl))
theorem pathP_other (s : List UInt8) (h : ∀ t, s ≠ 47 :: t) : pathP s = ([], 1) := by
  unfold pathP
  split
  · exact absurd rfl (h _)
  · rfl
set_option maxHeartbeats 1600000 in
theorem path_other (s : List UInt8) (h : ∀ t, s ≠ 47 :: t) (w : World) :
    Calls Tryd.prog 17 #[.string (bs s)] w (PathPost w (pathP s)) := by
  rw [pathP_other s h]
  have hp : Lib.hasPrefix (bs s).data.toList (⟨#[47]⟩ : ByteArray).data.toList = false := by
    rw [bs_data]
    cases s with
    | nil => rfl
    | cons b t =>
      by_cases e : b = 47
      · subst e; exact absurd rfl (h t)
      · have e2 : (47 == b) = false := by simpa using Ne.symm e
        simp [Lib.hasPrefix, List.isPrefixOf, e2]
  have HP := Lib.hid hp
  clear hp h
  go_enter Tryd.func17, Tryd.ntmps17
  go_wp2_with fail
  refine (Tryd.strings_HasPrefix (bs s) ⟨#[47]⟩ _).mono ?_
  rintro e w1 ⟨rfl, rfl⟩
  rw [HP.out]
  go_wp2_with fail
  exact bodyPost_ret (v := .tuple #[.slice none 0 0, .int .i64 1]) (by simp [results, Tryd.results17, go_sem]) rfl ⟨.slice none 0 0, rfl, World.ownsRow_nil _ _ _ _, ((Below.refl _ w).alloc (Nat.le_refl _) _).alloc (by simp) _⟩
/-- path.Parse -/
theorem path_any (s : List UInt8) (hs : s.length ≤ 1000000) (w : World) :
    Calls Tryd.prog 17 #[.string (bs s)] w (PathPost w (pathP s)) := by
  by_cases h : ∃ t, s = 47 :: t
  · obtain ⟨t, rfl⟩ := h
    exact path_slash t (by simp at hs; omega) w
  · exact path_other s (fun t e => h ⟨t, e⟩) w
end Go.Proofs.YtapjfcljbdlnkaaDoor
