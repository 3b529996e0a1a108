/- shell.Parse: a line's rows, an error. -/
import Derived.Test.YtapjfcljbdlnkaaDoorShellCalls
import Derived.RegionIn
namespace Go.Proofs.YtapjfcljbdlnkaaDoor
open Go Go.RowKit Go.Lib
attribute [local go_sem] Oper.semAt_some
set_option maxRecDepth 100000

theorem RowsAt.kept {w w' : World} {B : Nat} {vs : List Value} {rows : List (List (List UInt8))} (h : RowsAt w B vs rows) (hk : ∀ k, B ≤ k → k < w.heap.size → (∃ cs, w.heap[k]? = some (.cells cs 9 (0, 0))) → w'.heap[k]? = w.heap[k]?) : RowsAt w' B vs rows := fun i row hr => by
  obtain ⟨u, h1, h2⟩ := h i row hr
  refine ⟨u, h1, own_move h2 (Nat.le_refl _) fun k e => hk k (own_lt h2 k e).1 (own_lt h2 k e).2 ?_⟩
  rcases h2.2 with ⟨rfl, _⟩ | ⟨g, cap, cur, rfl, _, h3, _⟩
  · simp [Value.ownBlock] at e
  · simp only [Value.ownBlock, Option.some.injEq] at e
    subst e
    exact ⟨cur, h3⟩
theorem ownFrom_rows {β : Type} {B : Nat} (n₀ b : Nat) (t e : TypeId) (k : β → Nat) (f : β → List (List (List UInt8))) (vs : List Value) : OwnFrom B (fun s W => ∃ v, Boxed W b t v ∧ W.ownsRow n₀ e 1 v (k s) vs ∧ RowsAt W n₀ vs (f s)) := fun s X Y row ⟨v, hv, hr, hrs⟩ hg hrow => by
  obtain ⟨v', h1, h2, h3⟩ := holdsRow_own n₀ b t e 1 k (fun _ => vs) (fun _ v' => v' = v) s X Y row ⟨v, hv, hr, rfl⟩ hg (fun r e => (hrow r e).2)
  subst h3
  refine ⟨v', h1, h2, hrs.kept fun q hq hlt ⟨cs, hc⟩ => hg.block q hlt fun e' => ?_⟩
  obtain ⟨_, o, ho, hn⟩ := hrow q e'.symm
  rw [hc] at ho
  cases ho
  cases hn
theorem keeps_below {W W' : World} (h : Below W.heap.size W W') : KeepsOthers W W' := ⟨h.size, fun k _ hk _ => (h.block k (Array.getElem?_eq_some_iff.1 hk).1).trans hk⟩
theorem below_splK {W W' : World} {B1 B2 B3 n0 : Nat} (h : Below n0 W W') (h1 : B1 < n0) (h2 : B2 < n0) (h3 : B3 < n0) : SplK B1 B2 B3 W W' := ⟨h.block _ h1, h.block _ h2, h.block _ h3⟩
theorem rrow_info : (Tryd.prog.info? 31).map (fun i => (i.zero, i.size, i.bytes)) = some (some (.slice none 0 0), 1, 24) := by kernel_rfl

set_option maxHeartbeats 12800000 in
theorem shell_parse (s : List UInt8) (hsm : s.length ≤ 1000) (w : World) :
    Calls Tryd.prog 5 #[.string (bs s)] w (ShellPost 31 w (shellP s)) := by
  refine (callsIn_wide (n := 19)).1 ?_
  obtain ⟨i0, hi0, hz0, hz1, hz2⟩ := info_parts str_info
  obtain ⟨i1, hi1, hy0, hy1, hy2⟩ := info_parts rrow_info
  refine callsIn_of_wp_marks Tryd.func5 rfl trivial ?_ rfl
  simp only [Tryd.ntmps5, List.size_toArray, List.length_cons, List.length_nil, Nat.reduceAdd, Nat.reduceSub, Array.replicate_succ, Array.replicate_zero, List.push_toArray, List.append_toArray, List.nil_append, List.cons_append]
  obtain ⟨P, hP⟩ : ∃ P, P = cutAt 59 s := ⟨_, rfl⟩
  have hPp : ∀ p ∈ P, p.length ≤ 1000 := fun p hp => by rw [hP] at hp; have := cutAt_len 59 s p hp; omega
  have HS : Hid (shellP s = shellGo [] P) := Lib.hid (by rw [hP]; rfl)
  have HIT : Hid (IterOK Fence.wide 18 Tryd.prog 50 #[.pointer (some ⟨w.heap.size + 1 + 1 + 1 + 1, 0, none⟩), .pointer (some ⟨w.heap.size + 1 + 1 + 1, 0, none⟩), .pointer (some ⟨w.heap.size + 1 + 1 + 1 + 2, 0, none⟩)] (fun l : List UInt8 => #[.string (bs l)]) (SplT (w.heap.size + 1 + 1 + 1)) (SplK (w.heap.size + 1 + 1 + 1 + 1) (w.heap.size + 1 + 1 + 1) (w.heap.size + 1 + 1 + 1 + 2)) (SplG (w.heap.size + 1 + 1 + 1 + 1) (w.heap.size + 1 + 1 + 1) (w.heap.size + 1 + 1 + 1 + 2) 59 s) P) :=
    Lib.hid (by rw [hP]; exact split_iter 18 59 s (by omega) _ _ _ (by omega) (by omega))
  have HPP := Lib.hid hPp
  clear hP hPp
  gi_wp2
  refine wide_call (split_seq 59 s _) ?_
  rintro e w1 ⟨rfl, rfl⟩
  gi_wp2
  have hcells := split_cells 59 s (((w.alloc (.cells #[.slice none 0 0] 22)).alloc (.cells #[.int .i64 0] 23)).alloc (.cells #[.slice none 0 0] 22))
  simp only [World.size_alloc] at hcells
  have b2 := (((((Boxed.new w 22 (.slice none 0 0)).alloc (.cells #[.int .i64 0] 23)).alloc (.cells #[.slice none 0 0] 22)).alloc (.cells #[.string (bs s)] 9)).alloc (.cells #[.string ⟨#[59]⟩] 9)).alloc (.cells #[.int .i64 0] 3)
  have b3 := ((((Boxed.new (w.alloc (.cells #[.slice none 0 0] 22)) 23 (.int .i64 0)).alloc (.cells #[.slice none 0 0] 22)).alloc (.cells #[.string (bs s)] 9)).alloc (.cells #[.string ⟨#[59]⟩] 9)).alloc (.cells #[.int .i64 0] 3)
  have b4 := (((Boxed.new ((w.alloc (.cells #[.slice none 0 0] 22)).alloc (.cells #[.int .i64 0] 23)) 22 (.slice none 0 0)).alloc (.cells #[.string (bs s)] 9)).alloc (.cells #[.string ⟨#[59]⟩] 9)).alloc (.cells #[.int .i64 0] 3)
  simp only [World.size_alloc] at b2 b3 b4
  have hB0 : Below w.heap.size w ((((((w.alloc (.cells #[.slice none 0 0] 22)).alloc (.cells #[.int .i64 0] 23)).alloc (.cells #[.slice none 0 0] 22)).alloc (.cells #[.string (bs s)] 9)).alloc (.cells #[.string ⟨#[59]⟩] 9)).alloc (.cells #[.int .i64 0] 3)) :=
    ((((((Below.refl _ w).alloc (Nat.le_refl _) _).alloc (by simp) _).alloc (by simp; omega) _).alloc (by simp; omega) _).alloc (by simp; omega) _).alloc (by simp; omega) _
  have hsz0 : ((((((w.alloc (.cells #[.slice none 0 0] 22)).alloc (.cells #[.int .i64 0] 23)).alloc (.cells #[.slice none 0 0] 22)).alloc (.cells #[.string (bs s)] 9)).alloc (.cells #[.string ⟨#[59]⟩] 9)).alloc (.cells #[.int .i64 0] 3)).heap.size = w.heap.size + 6 := by simp
  obtain ⟨W0, hW0⟩ : ∃ W0, ((((((w.alloc (.cells #[.slice none 0 0] 22)).alloc (.cells #[.int .i64 0] 23)).alloc (.cells #[.slice none 0 0] 22)).alloc (.cells #[.string (bs s)] 9)).alloc (.cells #[.string ⟨#[59]⟩] 9)).alloc (.cells #[.int .i64 0] 3)) = W0 := ⟨_, rfl⟩
  obtain ⟨H, hH⟩ : ∃ H, w.heap.size = H := ⟨_, rfl⟩
  rw [hW0] at hcells b2 b3 b4 hB0 hsz0 ⊢
  rw [hH] at hcells b2 b3 b4 hsz0 HIT ⊢
  have HW := Lib.hid hH
  have HB0 := Lib.hid hB0
  have HC := Lib.hid hcells
  clear hH hB0 hcells hW0
  have hsz : w.heap.size ≤ H := Nat.le_of_eq HW.out
  have h6 : W0.heap.size ≤ H + 6 := Nat.le_of_eq hsz0
  have h6' : H + 6 ≤ W0.heap.size := Nat.le_of_eq hsz0.symm
  clear hsz0
  refine range_outer (n := 19) rfl (by decide) (gf := 50) (lb := #[.pointer (some ⟨H + 1 + 1 + 1 + 1, 0, none⟩), .pointer (some ⟨H + 1 + 1 + 1, 0, none⟩), .pointer (some ⟨H + 1 + 1 + 1 + 2, 0, none⟩)]) rfl trivial (enters_of Tryd.func50 (by kernel_rfl) rfl)
    HIT.out (fun _ => rfl) (fun h k => h.trans k) (fun W l r r' hl _ => SplK.putObj W l _ (by omega) (by omega) (by omega)) (fun W W' l h hl _ => h.other (by omega))
    (fun pre W => (((∃ x : List (List (List UInt8)) × List Value, (shellGo [] P = shellGo x.1 (P.drop pre.length) ∧ x.1.length ≤ 4) ∧ ∃ v, Boxed W (H + 1 + 1) 22 v ∧ W.ownsRow (H + 6) 31 1 v x.1.length x.2 ∧ RowsAt W (H + 6) x.2 x.1) ∧ Boxed W H 22 (.slice none 0 0)) ∧ Boxed W (H + 1) 23 (.int .i64 0)) ∧ Below H W0 W)
    (fun c pre W => (((c = .ret ∧ ∃ code, shellGo [] P = ([], code) ∧ Boxed W (H + 1) 23 (.int .i64 code)) ∧ Boxed W H 22 (.slice none 0 0))) ∧ Below H W0 W)
    ?hIT (OwnFrom.and (OwnFrom.and (OwnFrom.and (ownFrom_ex fun x => OwnFrom.and (ownFrom_pure _ _) (ownFrom_rows _ _ _ _ _ _ _)) (ownFrom_box _ _ _)) (ownFrom_box _ _ _)) (ownFrom_below (by omega) (by omega)))
    (fun c => OwnFrom.and (OwnFrom.and (OwnFrom.and (ownFrom_pure _ _) (ownFrom_ex fun code => OwnFrom.and (ownFrom_pure _ _) (ownFrom_box _ _ _))) (ownFrom_box _ _ _)) (ownFrom_below (by omega) (by omega)))
    (fun x a₁ _ => a₁ = { tmps := #[.string (bs s), undef, .pointer (some ⟨H, 0, none⟩), .pointer (some ⟨H + 1, 0, none⟩), .pointer (some ⟨H + 1 + 1, 0, none⟩), .string (bs x), undef, undef, undef, undef, undef, .string (bs s), .func (.func 50) #[] #[.pointer (some ⟨H + 1 + 1 + 1 + 1, 0, none⟩), .pointer (some ⟨H + 1 + 1 + 1, 0, none⟩), .pointer (some ⟨H + 1 + 1 + 1 + 2, 0, none⟩)], .string (bs x), undef, undef, undef, undef, undef, undef, undef, undef, undef, undef, undef, undef, undef, undef, undef, undef, undef, undef, undef, undef, undef, undef, undef, undef, undef, undef, undef, undef, undef, undef, undef, undef, undef, undef, undef, undef, undef, undef, undef, undef, undef, undef, undef, undef, undef, undef], defers := [] })
    (fun _ _ _ _ _ _ hs _ _ => hs) ?hG ?h0 ?assign ?body ?done ?stop
  case hIT =>
    rintro pre W W' ⟨⟨⟨⟨⟨out, vs⟩, hp, v, hv, hrow, hrs⟩, hb2⟩, hb3⟩, hB⟩ ht
    rcases ht with rfl | ⟨u, rfl⟩
    · exact ⟨⟨⟨⟨⟨out, vs⟩, hp, v, hv, hrow, hrs⟩, hb2⟩, hb3⟩, hB⟩
    · exact ⟨⟨⟨⟨⟨out, vs⟩, hp, v, hv.other (by omega) _, ownsRow_setCell_other hrow (fun e => by have := (own_lt hrow _ e).1; simp at this; omega) _, hrs.kept fun k hk _ _ => heap_setCell_other _ _ _ _ (by simp; omega)⟩, hb2.other (by omega) _⟩, hb3.other (by omega) _⟩, hB.setCell (by simp; omega) _⟩
  case hG =>
    intro W hb
    exact HC.out W (hb.mono (by omega))
  case h0 => exact ⟨⟨⟨⟨⟨[], []⟩, ⟨rfl, by simp⟩, _, b4, World.ownsRow_nil _ _ _ _, fun i row h => by simp at h⟩, b2⟩, b3⟩, Below.refl _ _⟩
  case assign =>
    intro l pre x W K hi _ _ hK
    gi_wp2
    exact hK _ _ (KeepsFrom.refl _ _) ⟨rfl, rfl, rfl⟩ hi rfl
  case body =>
    rintro l pre p a₁ W hx hl ⟨r, hr⟩ ⟨⟨⟨⟨⟨out, vs⟩, ⟨hgo, hlen⟩, v, hv, hrow, hrs⟩, hb2⟩, hb3⟩, hB⟩ rfl
    obtain ⟨ps, hps⟩ : ∃ ps, P = pre ++ p :: ps := by
      obtain ⟨q, hq⟩ := hx
      exact ⟨q, by rw [← hq]; simp⟩
    have hdrop : P.drop pre.length = p :: ps := by rw [hps]; simp
    have hdrop' : P.drop (pre ++ [p]).length = ps := by rw [hps]; simp
    simp only at hgo hlen hrow hrs
    rw [hdrop] at hgo
    have hpl : p.length ≤ 1000 := HPP.out p (by rw [hps]; simp)
    obtain ⟨ad, cap, rfl, hn63⟩ := own_len hrow
    have HG := Lib.hid hgo
    have HL := Lib.hid hlen
    have HV := Lib.hid hv
    have HO := Lib.hid hrow
    have HRS := Lib.hid hrs
    have H2 := Lib.hid hb2
    have H3 := Lib.hid hb3
    have HB := Lib.hid hB
    have HD := Lib.hid hdrop'
    have HR := Lib.hid hr
    have hr0 := hr
    have hsW := hB.size
    clear hx hps hdrop hgo hlen hv hrow hrs hb2 hb3 hB hdrop' hr
    have HB1 : Hid (∀ w', Below W.heap.size W w' → Below H W0 w') := Lib.hid fun w' h => HB.out.trans (h.mono (by omega))
    gi_wp2
    refine round_call (trim_blank p (by omega) _) ?_
    rintro e w1 ⟨⟨q, rfl, hq⟩, hbt⟩
    have hTq := bs_list q
    have HBT := Lib.hid hbt
    have HQ := Lib.hid hq
    have hzT := hbt.size
    have hr1 := (hbt.block l (Array.getElem?_eq_some_iff.1 hr0).1).trans hr0
    clear hbt hq
    by_cases hq0 : q = []
    · have e0 : q.isEmpty = true := by rw [hq0]; rfl
      have HBL := Lib.hid (HQ.out.1 hq0)
      clear hq0
      gi_wp2
      exact ⟨(keeps_below HBT.out).from _, below_splK HBT.out (by omega) (by omega) (by omega), ⟨⟨⟨⟨(out, vs), ⟨by rw [HD.out, HG.out, shellGo_skip _ _ _ HBL.out], HL.out⟩, _, (HBT.out.block _ (by omega)).trans HV.out, own_on HO.out HBT.out, HRS.out.on HBT.out⟩, (HBT.out.block _ (by omega)).trans H2.out⟩, (HBT.out.block _ (by omega)).trans H3.out⟩, HB1.out _ HBT.out⟩⟩
    · have e0 : q.isEmpty = false := by cases q; exact absurd rfl hq0; rfl
      have HBL : Hid (¬ p.all blankB = true) := Lib.hid (fun e => hq0 (HQ.out.2 e))
      clear hq0
      gi_wp2
      refine round_call (split_seq 124 p _) ?_
      rintro e w2 ⟨rfl, rfl⟩
      gi_wp2
      have hcells2 := split_cells 124 p (w1.alloc (.cells #[.slice none 0 0] 31))
      simp only [World.size_alloc] at hcells2
      have bR := (((Boxed.new w1 31 (.slice none 0 0)).alloc (.cells #[.string (bs p)] 9)).alloc (.cells #[.string ⟨#[124]⟩] 9)).alloc (.cells #[.int .i64 0] 3)
      have hB1' : Below w1.heap.size w1 ((((w1.alloc (.cells #[.slice none 0 0] 31)).alloc (.cells #[.string (bs p)] 9)).alloc (.cells #[.string ⟨#[124]⟩] 9)).alloc (.cells #[.int .i64 0] 3)) :=
        ((((Below.refl _ w1).alloc (Nat.le_refl _) _).alloc (by simp) _).alloc (by simp; omega) _).alloc (by simp; omega) _
      have hsz1 : ((((w1.alloc (.cells #[.slice none 0 0] 31)).alloc (.cells #[.string (bs p)] 9)).alloc (.cells #[.string ⟨#[124]⟩] 9)).alloc (.cells #[.int .i64 0] 3)).heap.size = w1.heap.size + 4 := by simp
      obtain ⟨W1, hW1⟩ : ∃ W1, ((((w1.alloc (.cells #[.slice none 0 0] 31)).alloc (.cells #[.string (bs p)] 9)).alloc (.cells #[.string ⟨#[124]⟩] 9)).alloc (.cells #[.int .i64 0] 3)) = W1 := ⟨_, rfl⟩
      obtain ⟨K, hK⟩ : ∃ K, w1.heap.size = K := ⟨_, rfl⟩
      rw [hW1] at hcells2 bR hB1' hsz1 ⊢
      rw [hK] at hcells2 bR hsz1 hzT ⊢
      have HBW : Hid (Below W.heap.size W W1) := Lib.hid (HBT.out.trans (hB1'.mono (by rw [hK]; omega)))
      have hr2 : W1.heap[l]? = some (.loop r) := (HBW.out.block l (Array.getElem?_eq_some_iff.1 HR.out).1).trans HR.out
      have HC2 := Lib.hid hcells2
      have HHK := Lib.hid hK
      clear hB1' hcells2 hW1 hK hr0 hr1
      obtain ⟨ws, hws⟩ : ∃ ws, ws = cutAt 124 p := ⟨_, rfl⟩
      have HWP : Hid (∀ q ∈ ws, q.length ≤ 1000) := Lib.hid fun q hq => by rw [hws] at hq; have := cutAt_len 124 p q hq; omega
      have hwl : ws.length ≤ 1001 := by rw [hws, cutAt_count]; have : p.count 124 ≤ p.length := List.count_le_length; omega
      have HWL := Lib.hid hwl
      have HI2 : Hid (IterOK Fence.wide 16 Tryd.prog 50 #[.pointer (some ⟨K + 1 + 1, 0, none⟩), .pointer (some ⟨K + 1, 0, none⟩), .pointer (some ⟨K + 1 + 2, 0, none⟩)] (fun l : List UInt8 => #[.string (bs l)]) (SplT (K + 1)) (SplK (K + 1 + 1) (K + 1) (K + 1 + 2)) (SplG (K + 1 + 1) (K + 1) (K + 1 + 2) 124 p) ws) :=
        Lib.hid (by rw [hws]; exact split_iter 16 124 p (by omega) _ _ _ (by omega) (by omega))
      have HWS := Lib.hid hws
      clear hws hwl
      -- what lay ahead of the part, in any world in which nothing below K has turned
      have HF : Hid (∀ W', Below K W1 W' → (W'.ownsRow (H + 6) 31 1 (.slice ad out.length cap) out.length vs ∧ RowsAt W' (H + 6) vs out ∧ Boxed W' (H + 1 + 1) 22 (.slice ad out.length cap) ∧ Boxed W' H 22 (.slice none 0 0) ∧ Boxed W' (H + 1) 23 (.int .i64 0) ∧ Below W.heap.size W W')) := Lib.hid fun W' h => by
        have hb : Below W.heap.size W W' := HBW.out.trans (h.mono hzT)
        exact ⟨own_on HO.out hb, HRS.out.on hb, (hb.block _ (by omega)).trans HV.out, (hb.block _ (by omega)).trans H2.out, (hb.block _ (by omega)).trans H3.out, hb⟩
      refine range_inner (n := 17) (l₀ := l) (r₀ := r) rfl hr2 (by decide) (gf := 50) (lb := #[.pointer (some ⟨K + 1 + 1, 0, none⟩), .pointer (some ⟨K + 1, 0, none⟩), .pointer (some ⟨K + 1 + 2, 0, none⟩)]) rfl trivial (enters_of Tryd.func50 (by kernel_rfl) rfl)
        (HI2.out.inRound l) (fun _ => rfl) (fun h k => h.trans k) (fun W' l' r1 r' hl' _ => SplK.putObj W' l' _ (by omega) (by omega) (by omega)) (fun W' W'' l' h hl' _ => h.other (by omega))
        (fun pre2 W2 => (∃ row : List (List UInt8), (rowGo [] ws = rowGo row (ws.drop pre2.length) ∧ row.length ≤ pre2.length) ∧ ∃ v, Boxed W2 K 31 v ∧ W2.ownsRow (K + 4) 9 1 v row.length (strs row)) ∧ Below K W1 W2 ∧ KeepsFrom W0.heap.size W1 W2)
        (fun c pre2 W2 => ((c = .ret ∧ ∃ code, rowGo [] ws = .error code ∧ Boxed W2 (H + 1) 23 (.int .i64 code)) ∧ Boxed W2 H 22 (.slice none 0 0)) ∧ Below H W1 W2 ∧ KeepsFrom W0.heap.size W1 W2)
        ?hIT2 (OwnFrom.and (ownFrom_ex fun row => OwnFrom.and (ownFrom_pure _ _) (ownFrom_row _ _ _ _ _ _ _)) (OwnFrom.and (ownFrom_below (by omega) (by omega)) (ownFrom_keepsFrom (by omega))))
        (fun c => OwnFrom.and (OwnFrom.and (OwnFrom.and (ownFrom_pure _ _) (ownFrom_ex fun code => OwnFrom.and (ownFrom_pure _ _) (ownFrom_box _ _ _))) (ownFrom_box _ _ _)) (OwnFrom.and (ownFrom_below (by omega) (by omega)) (ownFrom_keepsFrom (by omega))))
        (fun y a₂ _ => a₂ = { tmps := #[.string (bs s), undef, .pointer (some ⟨H, 0, none⟩), .pointer (some ⟨H + 1, 0, none⟩), .pointer (some ⟨H + 1 + 1, 0, none⟩), .string (bs p), .pointer (some ⟨K, 0, none⟩), .string (bs y), undef, undef, undef, .string (bs s), .func (.func 50) #[] #[.pointer (some ⟨H + 1 + 1 + 1 + 1, 0, none⟩), .pointer (some ⟨H + 1 + 1 + 1, 0, none⟩), .pointer (some ⟨H + 1 + 1 + 1 + 2, 0, none⟩)], .string (bs p), .string (bs p), .string (bs q), .bool false, .string (bs p), .func (.func 50) #[] #[.pointer (some ⟨K + 1 + 1, 0, none⟩), .pointer (some ⟨K + 1, 0, none⟩), .pointer (some ⟨K + 1 + 2, 0, none⟩)], .string (bs y), undef, undef, undef, undef, undef, undef, undef, undef, undef, undef, undef, undef, undef, undef, undef, undef, undef, undef, undef, undef, undef, undef, undef, undef, undef, undef, undef, undef, undef, undef, undef, undef, undef, undef, undef, undef, undef, undef, undef, undef], defers := [] })
        (fun _ _ _ _ _ _ hs _ _ => hs) ?hG2 ?h02 ?assign2 ?body2 ?done2 ?stop2
      case hIT2 =>
        rintro pre2 W2 W2' ⟨⟨row, hp, v, hv, hrow⟩, hB, hKF⟩ ht
        rcases ht with rfl | ⟨x, rfl⟩
        · exact ⟨⟨row, hp, v, hv, hrow⟩, hB, hKF⟩
        · exact ⟨⟨row, hp, v, hv.other (by omega) _, ownsRow_setCell_other hrow (fun e => by have := (own_lt hrow _ e).1; simp at this <;> omega) _⟩, hB.setCell (by simp) _, hKF.trans ((KeepsOthers.setCell _ _ _).from _)⟩
      case hG2 =>
        intro W2 hb
        exact HC2.out W2 (hb.mono (by omega))
      case h02 => exact ⟨⟨[], ⟨rfl, by simp⟩, _, bR, World.ownsRow_nil _ _ _ _⟩, Below.refl _ _, KeepsFrom.refl _ _⟩
      case assign2 =>
        intro l2 pre2 y W2 K2 hi _ _ hK
        gi_wp2
        exact hK _ _ (KeepsFrom.refl _ _) ⟨rfl, rfl, rfl⟩ hi rfl
      case body2 =>
        rintro l2 pre2 y a₂ W2 hy hl2 - ⟨⟨row, ⟨hgo, hrl⟩, v, hv, hrow⟩, hB2, hKF⟩ rfl
        obtain ⟨ps2, hps⟩ : ∃ ps2, ws = pre2 ++ y :: ps2 := by
          obtain ⟨q2, hq⟩ := hy
          exact ⟨q2, by rw [← hq]; simp⟩
        have hdrop : ws.drop pre2.length = y :: ps2 := by rw [hps]; simp
        have hdrop' : ws.drop (pre2 ++ [y]).length = ps2 := by rw [hps]; simp
        have hpl2 : pre2.length ≤ 1000 := by have := HWL.out; rw [hps] at this; simp at this; omega
        rw [hdrop] at hgo
        have hyl : y.length ≤ 1000 := HWP.out y (by rw [hps]; simp)
        obtain ⟨ad2, cap2, rfl, hn632⟩ := own_len hrow
        obtain ⟨f1, f2, f3, f4, f5, f6⟩ := HF.out W2 hB2
        have HGJ := Lib.hid hgo
        have HRL := Lib.hid hrl
        have HV2 := Lib.hid hv
        have HO2 := Lib.hid hrow
        have HB2 := Lib.hid hB2
        have HKF := Lib.hid hKF
        have HDJ := Lib.hid hdrop'
        have HH := Lib.hid f4
        have HH1 := Lib.hid f5
        have hsW2 := hB2.size
        clear hy hps hdrop hdrop' hgo hrl hv hrow hB2 hKF f1 f2 f3 f4 f5 f6
        gi_wp2
        refine round_call (fields_blank y (by omega) _) ?_
        rintro e W3 ⟨g, rfl, hown3, hb3⟩
        have HB3 := Lib.hid hb3
        have hz3 := hb3.size
        have r2 := (hb3.block H (by omega)).trans HH.out
        have r3 := (hb3.block (H + 1) (by omega)).trans HH1.out
        have c2 := Boxed.cell (W := W3) r2
        have v2 := Boxed.frozen (W := W3) r2
        have c3 := Boxed.cell (W := W3) r3
        have v3 := Boxed.frozen (W := W3) r3
        have R2 : Hid (Boxed W3 H 22 (.slice none 0 0)) := Lib.hid r2
        have R3 : Hid (Boxed W3 (H + 1) 23 (.int .i64 0)) := Lib.hid r3
        clear hb3 r2 r3
        cases hw : wordOf y with
        | none =>
          have hn1 := fields_none y hw
          have HE : Hid (rowGo [] ws = .error 19) := Lib.hid (by rw [HGJ.out]; exact rowGo_none _ _ _ hw)
          obtain ⟨n, hn⟩ : ∃ n, n = (fieldsB blankB y).length := ⟨_, rfl⟩
          rw [← hn] at hn1 ⊢
          have k1 : ((n : Int) != 1) = true := by rw [bne_iff_ne]; omega
          have k2 : ((n : Int) == 1) = false := beq_eq_false_iff_ne.2 (by omega)
          clear hown3 hn1 hn hw
          gi_wp2
          have ks : KeepsOthers W3 ((W3.setCell ⟨H, 0, none⟩ (.slice none 0 0)).setCell ⟨H + 1, 0, none⟩ (.int .i64 19)) := (KeepsOthers.setCell _ _ _).trans (KeepsOthers.setCell _ _ _)
          have kb := (keeps_below HB3.out).trans ks
          exact ⟨kb.from _, ⟨⟨rfl, 19, HE.out, (R3.out.other (by omega) _).set _⟩, (R2.out.set _).other (by omega) _⟩, (((HB2.out.mono (by omega)).trans (HB3.out.mono (by omega))).setCell (by simp <;> omega) _).setCell (by simp <;> omega) _, HKF.out.trans (kb.from _)⟩
        | some t =>
          have hf := fields_word y t hw
          have HW2 := Lib.hid hw
          rw [hf] at hown3 ⊢
          simp only [List.length_cons, List.length_nil, Nat.zero_add] at hown3 ⊢
          obtain ⟨g', cap', hsl, -, hcell⟩ := own_cell hown3 (by decide)
          obtain ⟨rfl, rfl⟩ : g = g' ∧ 1 = cap' := by simpa using hsl
          have x0 := hcell 0 (.string (bs t)) rfl
          have htl : t.length ≤ 1000 := by
            have := trimL_len y
            unfold wordOf at hw
            split at hw
            · cases hw
            · cases hw; omega
          clear hown3 hf hcell hsl hw
          gi_wp2
          refine round_call (path_any t (by omega) _) ?_
          rintro e W4 ⟨pv, rfl, hpv, hb4⟩
          obtain ⟨padr, pcap, rfl, -⟩ := own_len hpv
          have hz4 := hb4.size
          have x1 := (hb4.cell (World.block_lt_of_cell? _ _ x0)).trans x0
          have r2 := (hb4.block H (by omega)).trans R2.out
          have r3 := (hb4.block (H + 1) (by omega)).trans R3.out
          have d2 := Boxed.cell (W := W4) r2
          have e2 := Boxed.frozen (W := W4) r2
          have d3 := Boxed.cell (W := W4) r3
          have e3 := Boxed.frozen (W := W4) r3
          have Q2 : Hid (Boxed W4 H 22 (.slice none 0 0)) := Lib.hid r2
          have Q3 : Hid (Boxed W4 (H + 1) 23 (.int .i64 0)) := Lib.hid r3
          have HB4 : Hid (Below W2.heap.size W2 W4) := Lib.hid (HB3.out.trans (hb4.mono hz3))
          obtain ⟨code, hcode⟩ : ∃ code, code = (pathP t).2 := ⟨_, rfl⟩
          have HCO := Lib.hid hcode
          have hszt : (bs t).size = t.length := bs_size t
          rw [← hcode]
          clear hb4 hpv hcode r2 r3 x0 c2 v2 c3 v3
          by_cases hbad : code ≠ 0 ∨ 60 < t.length
          · have HE : Hid (rowGo [] ws = .error 18) := Lib.hid (by rw [HGJ.out]; exact rowGo_bad _ _ _ _ HW2.out (by rw [← HCO.out]; exact hbad))
            have HQ3 : Hid ((code != 0) = true ∧ (code == 0) = false ∨ ((code != 0) = false ∧ (code == 0) = true ∧ 60 < (t.length : Int))) := Lib.hid (by
              by_cases h0 : code = 0
              · right
                subst h0
                exact ⟨rfl, rfl, by omega⟩
              · left; exact ⟨by simpa using h0, by simpa using h0⟩)
            clear hbad
            rcases HQ3.out with ⟨k1, k2⟩ | ⟨k1, k2, k3⟩
            all_goals
              gi_wp2
              have ks : KeepsOthers W4 ((W4.setCell ⟨H, 0, none⟩ (.slice none 0 0)).setCell ⟨H + 1, 0, none⟩ (.int .i64 18)) := (KeepsOthers.setCell _ _ _).trans (KeepsOthers.setCell _ _ _)
              have kb := (keeps_below HB4.out).trans ks
              exact ⟨kb.from _, ⟨⟨rfl, 18, HE.out, (Q3.out.other (by omega) _).set _⟩, (Q2.out.set _).other (by omega) _⟩, (((HB2.out.mono (by omega)).trans (HB4.out.mono (by omega))).setCell (by simp <;> omega) _).setCell (by simp <;> omega) _, HKF.out.trans (kb.from _)⟩
          · have h0 : code = 0 := by
              by_cases h : code = 0
              · exact h
              · exact absurd (.inl h) hbad
            have h60 : ¬ 60 < (t.length : Int) := by
              have : ¬ 60 < t.length := fun h => hbad (.inr h)
              omega
            have HGN : Hid (rowGo [] ws = rowGo (row ++ [t]) ps2) := Lib.hid (by rw [HGJ.out]; exact rowGo_word _ _ _ _ HW2.out (by rw [← HCO.out]; exact hbad))
            have rK := (HB4.out.block K (by omega)).trans HV2.out
            have dK := Boxed.cell (W := W4) rK
            have eK := Boxed.frozen (W := W4) rK
            have HO4 := Lib.hid (own_on HO2.out HB4.out)
            have HVK : Hid (Boxed W4 K 31 (.slice ad2 row.length cap2)) := Lib.hid rK
            clear hbad rK
            subst h0
            have hrl2 : row.length ≤ 1000 := by have := HRL.out; omega
            gi_wp2
            refine wpIn_region_any (by kernel_rfl) ?_
            change wpAnyIn _ _ _ _ _ _ _ _ _ (World.drew _)
            have hgo4 : ∀ (v' : Value) (w5 : World), w5.ownsRow (K + 4) 9 1 v' (row.length + 1) (strs row ++ [.string (bs t)]) → ((W4.alloc (.cells #[.string (bs t)] 9)).drew).grownBy w5 (Value.slice ad2 row.length cap2).ownBlock →
                ∃ g2 c2, v' = .slice (some ⟨g2, 0, none⟩) (row.length + 1) c2 ∧ w5.cell? ⟨K, 0, none⟩ = some (.slice ad2 row.length cap2) ∧ w5.frozen? ⟨K, 0, none⟩ = false ∧
                  (KeepsOthers W4 (w5.setCell ⟨K, 0, none⟩ v') ∧ Below K W4 (w5.setCell ⟨K, 0, none⟩ v') ∧ (∀ k, k < K + 4 → k ≠ K → (w5.setCell ⟨K, 0, none⟩ v').heap[k]? = W4.heap[k]?) ∧ Boxed (w5.setCell ⟨K, 0, none⟩ v') K 31 v' ∧
                    (w5.setCell ⟨K, 0, none⟩ v').ownsRow (K + 4) 9 1 v' (row ++ [t]).length (strs (row ++ [t]))) := fun v' w5 o1 o2 => by
              obtain ⟨g2, c2, rfl⟩ := ownsRow_succ o1
              obtain ⟨q1, q2, q3, q4, q5, q6⟩ := boxed_append (W := W4.drew) (n₀ := K) HVK.out (by decide) HO4.out (by simp; omega) (Nat.le_refl _) (by omega) (by simp; omega) o1 o2
              exact ⟨g2, c2, rfl, q1.cell, q1.frozen, ⟨q4.size, q4.same⟩, (Below.refl K W4).drew.trans q5, q6, q2, by rw [strs_snoc]; simpa using q3⟩
            have HGO := Lib.hid hgo4
            have hKlt : K < W4.heap.size := by omega
            have hKne : K ≠ W4.heap.size := by omega
            have hKne' : W4.heap.size ≠ K := by omega
            clear hgo4
            repeat' (first
              | (refine wpAnyIn_ready (rs := [0, 1]) (by decide +kernel) (by simp) (AllReadyIn.cons rfl (fun KK hKK => ?_) (AllReadyIn.cons rfl (fun KK hKK => ?_) AllReadyIn.nil)))
              | (refine wpAnyIn_ready (rs := [0, 2]) (by decide +kernel) (by simp) (AllReadyIn.cons rfl (fun KK hKK => ?_) (AllReadyIn.cons rfl (fun KK hKK => ?_) AllReadyIn.nil)))
              | (refine wpAnyIn_ready (rs := [0, 3]) (by decide +kernel) (by simp) (AllReadyIn.cons rfl (fun KK hKK => ?_) (AllReadyIn.cons rfl (fun KK hKK => ?_) AllReadyIn.nil)))
              | (refine wpAnyIn_ready (rs := [0, 4]) (by decide +kernel) (by simp) (AllReadyIn.cons rfl (fun KK hKK => ?_) (AllReadyIn.cons rfl (fun KK hKK => ?_) AllReadyIn.nil)))
              | (refine wpAnyIn_ready (rs := [0]) (by decide +kernel) (by simp) (AllReadyIn.cons rfl (fun KK hKK => ?_) AllReadyIn.nil))
              | (refine wpAnyIn_ready (rs := [1]) (by decide +kernel) (by simp) (AllReadyIn.cons rfl (fun KK hKK => ?_) AllReadyIn.nil))
              | (refine wpAnyIn_ready (rs := [2]) (by decide +kernel) (by simp) (AllReadyIn.cons rfl (fun KK hKK => ?_) AllReadyIn.nil))
              | (refine wpAnyIn_ready (rs := [3]) (by decide +kernel) (by simp) (AllReadyIn.cons rfl (fun KK hKK => ?_) AllReadyIn.nil))
              | (refine wpAnyIn_ready (rs := [4]) (by decide +kernel) (by simp) (AllReadyIn.cons rfl (fun KK hKK => ?_) AllReadyIn.nil))
              | (refine wpAnyIn_ready (rs := [5]) (by decide +kernel) (by simp) (AllReadyIn.cons rfl (fun KK hKK => ?_) AllReadyIn.nil))
              | (refine wpAnyIn_ready (rs := [6]) (by decide +kernel) (by simp) (AllReadyIn.cons rfl (fun KK hKK => ?_) AllReadyIn.nil))
              | (refine wpAnyIn_done (by decide +kernel) ?_ _
                 obtain ⟨z1, z2, z3, z4, z5⟩ := HZ.out
                 have kb := (keeps_below HB4.out).trans z1
                 exact ⟨kb.from _, ⟨(z3 _ (by omega) (by omega)).trans (HB4.out.block _ (by omega)), (z3 _ (by omega) (by omega)).trans (HB4.out.block _ (by omega)), (z3 _ (by omega) (by omega)).trans (HB4.out.block _ (by omega))⟩,
                   ⟨row ++ [t], ⟨by rw [HDJ.out]; exact HGN.out, by have := HRL.out; simp; omega⟩, _, z4, z5⟩, HB2.out.trans ((HB4.out.mono (by omega)).trans z2), HKF.out.trans (kb.from _)⟩)
              | (refine stepIn_append_own _ (by rfl) _ _ 31 (by rfl) (K + 4) 9 i0 (.string ⟨#[]⟩) 1 16 Tryd.underlying31 hi0 hz0 hz1 hz2 rfl (by decide) (.slice ad2 row.length cap2) row.length (strs row) (by rfl) ((HO4.out.alloc _).drew) ⟨W4.heap.size, 0, none⟩ 1 1 [.string (bs t)] (by rfl) (by rfl) (fun j u h => cell_one_new W4 _ _ j u h) (by simp [Value.oneCell']) (by unfold maxLen; omega) (by omega) (by simp; omega) ?_
                 intro v5 w5 o1 o2
                 obtain ⟨g2, c2, rfl, m1, m2, mz⟩ := HGO.out v5 w5 o1 o2
                 have HZ := Lib.hid mz
                 clear o1 o2 mz
                 refine hKK _ _ ?_
                 clear hKK KK)
              | (go_simp; refine hKK _ _ ?_; clear hKK KK))
      case done2 =>
        rintro W2 ⟨⟨row, ⟨hgo, hrl⟩, v, hv, hrow⟩, hB2, hKF⟩
        obtain ⟨ad2, cap2, rfl, hn632⟩ := own_len hrow
        obtain ⟨f1, f2, f3, f4, f5, f6⟩ := HF.out W2 hB2
        rw [List.drop_eq_nil_of_le (Nat.le_refl _)] at hgo
        have HRW : Hid (rowGo [] (cutAt 124 p) = .ok row) := Lib.hid (by rw [← HWS.out, hgo]; rfl)
        have hrl2 : row.length ≤ 1001 := by have := HWL.out; omega
        have hl4 : out.length ≤ 4 := HL.out
        have c4 := f3.cell
        have z4 := f3.frozen
        have c2 := f4.cell
        have z2 := f4.frozen
        have c3 := f5.cell
        have z3 := f5.frozen
        have cK := hv.cell
        have F1 := Lib.hid f1
        have F2 := Lib.hid f2
        have F3 := Lib.hid f3
        have F4 := Lib.hid f4
        have F5 := Lib.hid f5
        have F6 := Lib.hid f6
        have HO2 := Lib.hid hrow
        have hsW2 := hB2.size
        have HB2 := Lib.hid hB2
        have HKF := Lib.hid hKF
        clear hgo hrl hv hrow hB2 hKF f1 f2 f3 f4 f5 f6
        by_cases hbig : 3 < row.length ∨ out.length = 4
        · have HE : Hid (shellGo [] P = ([], 22)) := Lib.hid (by rw [HG.out]; exact shellGo_big _ _ _ row HBL.out HRW.out hbig)
          have HQ5 : Hid (3 < (row.length : Int) ∨ (¬ 3 < (row.length : Int) ∧ ((out.length : Int) == 4) = true)) := Lib.hid (by
            by_cases h : 3 < row.length
            · left; omega
            · right; exact ⟨by omega, beq_iff_eq.2 (by omega)⟩)
          clear hbig
          rcases HQ5.out with k1 | ⟨k1, k2⟩
          all_goals
            gi_wp2
            have ks : KeepsOthers W2 ((W2.setCell ⟨H, 0, none⟩ (.slice none 0 0)).setCell ⟨H + 1, 0, none⟩ (.int .i64 22)) := (KeepsOthers.setCell _ _ _).trans (KeepsOthers.setCell _ _ _)
            exact ⟨(((keeps_below HBW.out).from _).trans HKF.out).trans (ks.from _), ⟨⟨rfl, 22, HE.out, (F5.out.other (by omega) _).set _⟩, (F4.out.set _).other (by omega) _⟩, ((HB.out.trans (F6.out.mono (by omega))).setCell (by simp <;> omega) _).setCell (by simp <;> omega) _⟩
        · have HGN : Hid (shellGo [] P = shellGo (out ++ [row]) ps) := Lib.hid (by rw [HG.out]; exact shellGo_row _ _ _ row HBL.out HRW.out hbig)
          have k1 : ¬ 3 < (row.length : Int) := by omega
          have k2 : ((out.length : Int) == 4) = false := beq_eq_false_iff_ne.2 (by omega)
          have hlt4 : out.length < 4 := by omega
          clear hbig
          gi_wp2_with (gi_at_builtin; refine wpListIn_append_own _ rfl _ _ 22 rfl (H + 6) 31 i1 (.slice none 0 0) 1 24 Tryd.underlying22 hi1 hy0 hy1 hy2 rfl (by decide) _ _ _ rfl (F1.out.alloc _) ⟨W2.heap.size, 0, none⟩ 1 1 [.slice ad2 row.length cap2] rfl rfl (cell_one_new _ _ _) (by simp [Value.oneCell']) (by unfold maxLen; omega) (by omega) (by simp; omega) ?_; intro v' w5 hown' hgrow _; obtain ⟨g', cap', rfl⟩ := ownsRow_succ hown'; have hrs5 := F2.out.grown (by have := F1.out.1; omega) F1.out (by decide) hgrow (own_weak HO2.out (by omega)); obtain ⟨q1, q2, q3, q4, q5, q6⟩ := boxed_append F3.out (by decide) F1.out (n₀ := H) (by omega) (by omega) (by omega) (by omega) hown' hgrow; have hc1 := q1.cell; have hf1 := q1.frozen; have Q := Lib.hid (And.intro q2 (And.intro q3 (And.intro q4 (And.intro q5 (And.intro q6 hrs5))))); clear hown' hgrow q1 q2 q3 q4 q5 q6 hrs5)
          obtain ⟨q2, q3, q4, q5, q6, q7⟩ := Q.out
          exact ⟨(((keeps_below HBW.out).from _).trans HKF.out).trans (q4.from _), ⟨(q6 _ (by omega) (by omega)).trans (F6.out.block _ (by omega)), (q6 _ (by omega) (by omega)).trans (F6.out.block _ (by omega)), (q6 _ (by omega) (by omega)).trans (F6.out.block _ (by omega))⟩,
            ⟨⟨⟨⟨out ++ [row], ⟨by rw [HD.out]; exact HGN.out, by simp; omega⟩, vs ++ [.slice ad2 row.length cap2], _, q2, by simpa using q3, q7.kept fun k hk _ _ => heap_setCell_other _ _ _ _ (by simp; omega)⟩, (q6 H (by omega) (by omega)).trans F4.out⟩, (q6 (H + 1) (by omega) (by omega)).trans F5.out⟩, (HB.out.trans (F6.out.mono (by omega))).trans q5⟩⟩
      case stop2 =>
        rintro c pre2 W2 ⟨⟨⟨rfl, code, hgo, hb3⟩, hb2⟩, hB2, hKF⟩
        have HE : Hid (shellGo [] P = ([], code)) := Lib.hid (by rw [HG.out]; exact shellGo_bad _ _ _ code HBL.out (by rw [← HWS.out]; exact hgo))
        have HQ4 := Lib.hid (And.intro hb3 (And.intro hb2 (And.intro hB2 hKF)))
        clear hgo hb3 hb2 hB2 hKF
        gi_wp2
        obtain ⟨q1, q2, q3, q4⟩ := HQ4.out
        exact ⟨((keeps_below HBW.out).from _).trans q4, ⟨⟨rfl, code, HE.out, q1⟩, q2⟩, HB.out.trans ((HBW.out.mono (by omega)).trans q3)⟩
  case done =>
    rintro D W hD ⟨⟨⟨⟨⟨out, vs⟩, ⟨hgo, hlen⟩, v, hv, hrow, hrs⟩, hb2⟩, hb3⟩, hB⟩ hK
    simp only at hgo hlen hrow hrs
    obtain ⟨ad, cap, rfl, hn63⟩ := own_len hrow
    have c4 := hv.cell
    have f4 := hv.frozen
    have c2 := hb2.cell
    have f2 := hb2.frozen
    have c3 := hb3.cell
    have f3 := hb3.frozen
    rw [List.drop_eq_nil_of_le (Nat.le_refl _)] at hgo
    have HG := Lib.hid hgo
    have HR := Lib.hid hrow
    have HRS := Lib.hid hrs
    have H2 := Lib.hid hb2
    have H3 := Lib.hid hb3
    have HB := Lib.hid hB
    have HK := Lib.hid hK
    clear hgo hlen hv hrow hrs hb2 hb3 hB hK
    gi_wp2
    have hB1 : Below H W0 ((W.setCell ⟨H, 0, none⟩ (.slice ad out.length cap)).setCell ⟨H + 1, 0, none⟩ (.int .i64 0)) := (HB.out.setCell (by simp) _).setCell (by simp) _
    have hR1 : ((W.setCell ⟨H, 0, none⟩ (.slice ad out.length cap)).setCell ⟨H + 1, 0, none⟩ (.int .i64 0)).ownsRow (H + 6) 31 1 (.slice ad out.length cap) out.length vs :=
      ownsRow_setCell_other (ownsRow_setCell_other HR.out (fun e => by have := (own_lt HR.out _ e).1; simp at this <;> omega) _) (fun e => by have := (own_lt HR.out _ e).1; simp at this <;> omega) _
    have hRS1 : RowsAt ((W.setCell ⟨H, 0, none⟩ (.slice ad out.length cap)).setCell ⟨H + 1, 0, none⟩ (.int .i64 0)) (H + 6) vs out :=
      HRS.out.kept fun k hk _ _ => (heap_setCell_other _ _ _ _ (by simp; omega)).trans (heap_setCell_other _ _ _ _ (by simp; omega))
    have hb2' := (H2.out.set (.slice ad out.length cap)).other (B' := H + 1) (by omega) (.int .i64 0)
    have hb3' := (H3.out.other (B' := H) (by omega) (.slice ad out.length cap)).set (.int .i64 0)
    have hK' := ((KeepsOthers.setCell W ⟨H, 0, none⟩ (.slice ad out.length cap)).trans (KeepsOthers.setCell _ ⟨H + 1, 0, none⟩ (.int .i64 0))).same D _ HK.out rfl
    refine ⟨by simp, .inl ⟨_, _, rfl, run_takeDeferred hK', ?_⟩⟩
    have p2 := hb2'.kept (grownBy_putObj' _ D (.deferred none)) (by intro e; cases e; omega)
    have p3 := hb3'.kept (grownBy_putObj' _ D (.deferred none)) (by intro e; cases e; omega)
    have d2 := p2.cell
    have d3 := p3.cell
    refine ⟨.tuple #[.slice ad out.length cap, .int .i64 0], ?_, .slice ad out.length cap, vs, by rw [HS.out, HG.out]; rfl, ?_, ?_, ?_⟩
    · simp [results, Tryd.results5, go_sem, d2, d3]
    · rw [HS.out, HG.out]; exact own_weak (ownsRow_putObj hR1 _ hK' rfl) (by omega)
    · rw [HS.out, HG.out]
      exact (hRS1.kept fun k hk hlt ⟨cs, hc⟩ => World.putObj_heap_other (fun e => by subst e; rw [hK'] at hc; cases hc)).weak (by omega)
    · exact HB0.out.trans (Below.trans (hB1.mono (by omega)) (belowK_b (w := W0) (n₀ := w.heap.size) (by omega) _ D _ _ hD hK' rfl rfl))
  case stop =>
    rintro D c pre W hD ⟨⟨⟨rfl, code, hgo, hb3⟩, hb2⟩, hB⟩ hK
    have HG := Lib.hid hgo
    clear hgo
    gi_wp2
    refine ⟨by simp, .inl ⟨_, _, rfl, run_takeDeferred hK, ?_⟩⟩
    have d2 := (hb2.kept (grownBy_putObj' _ D (.deferred none)) (by intro e; cases e; omega)).cell
    have d3 := (hb3.kept (grownBy_putObj' _ D (.deferred none)) (by intro e; cases e; omega)).cell
    refine ⟨.tuple #[.slice none 0 0, .int .i64 code], ?_, .slice none 0 0, [], by rw [HS.out, HG.out], ?_, ?_, ?_⟩
    · simp [results, Tryd.results5, go_sem, d2, d3]
    · rw [HS.out, HG.out]; exact World.ownsRow_nil _ _ _ _
    · rw [HS.out, HG.out]; exact fun i row h => by simp at h
    · exact HB0.out.trans (Below.trans (hB.mono (by omega)) (belowK_b (w := W0) (n₀ := w.heap.size) (by omega) _ D _ _ hD hK rfl rfl))
end Go.Proofs.YtapjfcljbdlnkaaDoor
