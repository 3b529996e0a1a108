/- disk.Read: what was written last. -/
import Derived.Test.YtonmppchbdffcaaGreatDiskIt
import Derived.Test.YtonmppchbdffcaaGreatWideRegion
import Derived.StillTactics
import Derived.Laws.CopyOwn
namespace Go.Proofs.YtonmppchbdffcaaGreat
open Go Go.RowKit Go.Lib
attribute [local go_sem] Oper.semAt_some
attribute [local go_sem ↓] exec_load_data semAt_load_data semAt_load_write exec_store_data semAt_store_data semAt_store_write
set_option maxRecDepth 100000

/-- what waits last for a block -/
def lastW (W : List (Nat × Dat)) (b : Nat) : Option Dat := ((List.range W.length).reverse.find? fun i => (wAt W i).1 == b).map fun i => (wAt W i).2
/-- what a block holds -/
def readD (L : List Dat) (W : List (Nat × Dat)) (b : Nat) : Dat := (lastW W b).getD (L.getD b zeroD)
theorem results_cc {P : Program} {fn : Func} {p q : Tmp} {ty tb : TypeId} (h : fn.results = #[.cell p ty, .cell q tb]) (tmps : Array Value) (w : World) (g g2 : Nat) (t : TypeId) (cs : Array Value) (fr : Nat × Nat) (d : TypeDesc) (v : Value)
    (hp : tmps.getD p undef = .pointer (some ⟨g, 0, none⟩)) (hg : w.heap[g]? = some (.cells cs t fr))
    (hu : P.underlying ty = some d) (hd : (match d with | .struct _ | .array _ _ => true | _ => false) = true) (hi : (P.info? ty).map (·.size) = some cs.size)
    (hq : tmps.getD q undef = .pointer (some ⟨g2, 0, none⟩)) (hb : P.underlying tb = some .bool) (hv : w.cell? ⟨g2, 0, none⟩ = some v) :
    (results fn tmps).run P w = .ok (.tuple #[.agg cs, v]) w := by
  have hp' : tmps[p]?.getD undef = .pointer (some ⟨g, 0, none⟩) := by simpa using hp
  have hq' : tmps[q]?.getD undef = .pointer (some ⟨g2, 0, none⟩) := by simpa using hq
  have h1 := run_loadVar_row w g t ty cs fr d hg hu hd hi
  have h2 : (loadVar tb ⟨g2, 0, none⟩).run P w = .ok v w := by
    simp [go_sem, loadVar, isAgg, run_underlying hb, hv]
  simp [results, h, hp', hq', asAddr, h1, h2]

theorem ownFrom_blk {β : Type} (B k : Nat) (cs : β → Array Value) (t : TypeId) (fr : Nat × Nat) : OwnFrom B (fun s W => W.heap[k]? = some (.cells (cs s) t fr)) := fun s X Y row hs hg hrow =>
  (hg.block k (Array.getElem?_eq_some_iff.1 hs).1 (fun e => by
    obtain ⟨_, o, ho, hc⟩ := hrow k e.symm
    rw [hs] at ho
    cases ho
    cases hc)).trans hs
theorem back_fn (ad : Option Addr) (n cap : Nat) (w : World) :
    Calls Tryz.prog 44 #[.slice ad n cap] w fun e w' => e = .returned (.func (.func 59) #[] #[.pointer (some ⟨w.heap.size, 0, none⟩)]) ∧ w' = w.alloc (.cells #[.slice ad n cap] 60) := by
  go_enter Tryz.func44, Tryz.ntmps44
  go_wp2_with fail
  go_ret
  exact ⟨rfl, rfl⟩
theorem row_at {w : World} {B : Nat} {ad : Option Addr} {cap : Nat} {W : List (Nat × Dat)} (h : w.ownsRow B 78 65 (.slice ad W.length cap) W.length (waiC W)) (hz : ∀ x ∈ W, x.2.length = 64) (i : Nat) (x : Nat × Dat) (hx : W[i]? = some x) :
    ∃ g, ad = some ⟨g, 0, none⟩ ∧ w.rangeAt g (i * 65) (wC x) := by
  obtain ⟨g, cap', hsl, _, hc⟩ := own_cell h (by have := (List.getElem?_eq_some_iff.1 hx).1; omega)
  obtain ⟨rfl, rfl⟩ : ad = some ⟨g, 0, none⟩ ∧ cap = cap' := by simpa using hsl
  exact ⟨g, rfl, fun j v hv => hc _ v (flat_at wC 65 W i x j v (fun y hy => by rw [wC_len, hz y hy]) hx hv)⟩
theorem las_at {w : World} {B : Nat} {ad : Option Addr} {cap : Nat} {L : List Dat} (h : w.ownsRow B 34 64 (.slice ad L.length cap) L.length (lasC L)) (hz : ∀ x ∈ L, x.length = 64) (i : Nat) (x : Dat) (hx : L[i]? = some x) :
    ∃ g, ad = some ⟨g, 0, none⟩ ∧ w.rangeAt g (i * 64) (dC x) := by
  obtain ⟨g, cap', hsl, _, hc⟩ := own_cell h (by have := (List.getElem?_eq_some_iff.1 hx).1; omega)
  obtain ⟨rfl, rfl⟩ : ad = some ⟨g, 0, none⟩ ∧ cap = cap' := by simpa using hsl
  exact ⟨g, rfl, fun j v hv => hc _ v (flat_at dC 64 L i x j v (fun y hy => by rw [dC_len, hz y hy]) hx hv)⟩
theorem last_hit {W : List (Nat × Dat)} {b : Nat} {pre : List Nat} {i : Nat} (hp : pre ++ [i] <+: (List.range W.length).reverse) (hn : ∀ j ∈ pre, (wAt W j).1 ≠ b) (hi : (wAt W i).1 = b) : lastW W b = some (wAt W i).2 := by
  obtain ⟨r, hr⟩ := hp
  unfold lastW
  rw [← hr, List.append_assoc, List.find?_append, List.find?_eq_none.2 (fun j hj => by simpa using hn j hj)]
  simp [hi]
theorem last_none {W : List (Nat × Dat)} {b : Nat} (hn : ∀ j ∈ (List.range W.length).reverse, (wAt W j).1 ≠ b) : lastW W b = none := by
  unfold lastW
  rw [List.find?_eq_none.2 (fun j hj => by simpa using hn j hj)]; rfl
theorem below_putObj {n l : Nat} {w W : World} {o : Obj} (h : Below n w W) (hn : n ≤ l) : Below n w (W.putObj l o) :=
  ⟨h.os, h.tape, h.output, by simpa using h.size, fun k hk => (World.putObj_heap_other (by omega)).trans (h.block k hk)⟩
theorem letsOut_bodyM {F : Fence} {n : Nat} {P : Program} {fn : Func} {R : Ending → World → Prop} (hR : ∀ w, ¬ R .outgrown w) : ¬ LetsOut (bodyPostM F n P fn R) := fun ⟨_, w, e⟩ => hR w e
set_option maxHeartbeats 6400000 in
theorem disk_read (F : Nat → Prop) (D : Nat) (L : List Dat) (W : List (Nat × Dat)) (b : Nat) (hb : b < L.length) (hL : L.length ≤ 1000) (hW : W.length ≤ 1000000) (w : World) (h : DiskAt w F D L W) :
    Calls Tryz.prog 37 #[.pointer (some ⟨D, 0, none⟩), .int .i64 (b : Int)] w fun e w' => e = .returned (.tuple #[.agg (dC (readD L W b)).toArray, .bool true]) ∧ Below w.heap.size w w' := by
  have HD := Lib.hid (fun w' (hb : Below w.heap.size w w') => disk_len F D L W w' (h.below hb))
  have H := Lib.hid h
  obtain ⟨vl, vw, h1, h2, h3, h4, h5⟩ := h.mem
  obtain ⟨ad, cap0, rfl, hn63⟩ := own_len h3
  obtain ⟨adl, capl, rfl, hnl⟩ := own_len h2
  obtain ⟨c0, c1, f0, f1⟩ := DiskAt.cells h1
  have hlt := h.lt
  have k1 : ¬ (b : Int) < 0 := by omega
  have k2 : ¬ (L.length : Int) ≤ (b : Int) := by omega
  have k3 : (0 : Int) ≤ (b : Int) := by omega
  have k4 : decide ((b : Int) < 0) = false := decide_eq_false k1
  refine (callsIn_wide (n := 9)).1 ?_
  refine callsIn_of_wp_marks Tryz.func37 rfl trivial ?_ rfl
  simp only [Tryz.ntmps37, List.size_toArray, List.length_cons, List.length_nil, Nat.reduceAdd, Nat.reduceSub, Array.replicate_succ, Array.replicate_zero, List.push_toArray, List.append_toArray, List.nil_append, List.cons_append]
  have HM := Lib.hid (And.intro h1 (And.intro h2 h3))
  clear h h1 h2 h3 h4 h5
  gi_wp2
  obtain ⟨W0, hW0⟩ : ∃ W0, ((w.alloc (.cells #[.int .i64 (b : Int)] 3)).alloc (.cells z64 34)).alloc (.cells #[.bool false] 4) = W0 := ⟨_, rfl⟩
  have hb0 : W0.heap[w.heap.size]? = some (.cells #[.int .i64 (b : Int)] 3 (0, 0)) := by
    rw [← hW0]
    exact (Below.heap_alloc _ _ _ (by simp; omega)).trans (heap_alloc2_old _ _ _)
  have hb1 : W0.heap[w.heap.size + 1]? = some (.cells z64 34 (0, 0)) := by
    rw [← hW0]
    exact (Below.heap_alloc _ _ _ (by simp)).trans (heap_alloc2_new _ _ _)
  have hb2 : W0.heap[w.heap.size + 1 + 1]? = some (.cells #[.bool false] 4 (0, 0)) := by
    rw [← hW0]
    have := heap_alloc_new ((w.alloc (.cells #[.int .i64 (b : Int)] 3)).alloc (.cells z64 34)) (.cells #[.bool false] 4)
    simpa using this
  have hbl : Below w.heap.size w W0 := by
    rw [← hW0]
    exact (((Below.refl _ _).alloc (Nat.le_refl _) _).alloc (by simp) _).alloc (by simp; omega) _
  have hsz : W0.heap.size = w.heap.size + 3 := by rw [← hW0]; simp
  simp only [z64, List.reduceReplicate] at hW0
  rw [hW0]
  clear hW0
  obtain ⟨V, hV⟩ : ∃ V, V = w.heap.size := ⟨_, rfl⟩
  rw [← hV] at hb0 hb1 hb2 hbl hsz hlt ⊢
  have hDW : W0.heap[D]? = w.heap[D]? := hbl.block D hlt
  have c0' : W0.cell? ⟨D, 0, none⟩ = some (.slice adl L.length capl) := (World.cell?_of_block (a := ⟨D, 0, none⟩) hDW).trans c0
  have c1' : W0.cell? ⟨D, 1, none⟩ = some (.slice ad W.length cap0) := (World.cell?_of_block (a := ⟨D, 1, none⟩) hDW).trans c1
  have e0 := cell_of_row W0 V 0 _ _ _ hb0
  simp only [List.getElem?_toArray, List.getElem?_cons_zero] at e0
  have HBL := Lib.hid (And.intro hb0 (And.intro hb1 (And.intro hb2 (And.intro hbl hsz))))
  have HV := Lib.hid hV
  have HLN := Lib.hid (HD.out W0.drew (by rw [← hV]; exact hbl.drew))
  clear hb0 hb1 hb2 hbl hsz hDW c0 c1 f0 f1 hV HD
  refine outer_still (by kernel_rfl) (letsOut_then (letsOut_then (letsOut_bodyM fun w e => by cases e.1))) (by kernel_rfl) (by kernel_rfl) ?_
  still_step
  still_step
  still_step
  still_step
  still_step
  still_call HLN.out
  still_step
  still_step
  refine wpStill_nil ?_
  gi_wp2
  refine wide_call (back_fn _ _ _ _) ?_
  rintro e w1 ⟨rfl, rfl⟩
  gi_wp2
  obtain ⟨G, hG⟩ : ∃ G, G = W0.heap.size := ⟨_, rfl⟩
  obtain ⟨W1, hW1⟩ : ∃ W1, (W0.alloc (.cells #[.slice ad W.length cap0] 60)).drew = W1 := ⟨_, rfl⟩
  have hsz1 : W1.heap.size = G + 1 := by rw [← hW1, hG]; simp
  have hGV : V + 3 ≤ G := by rw [hG]; exact Nat.le_of_eq HBL.out.2.2.2.2.symm
  have hbx : W1.heap[G]? = some (.cells #[.slice ad W.length cap0] 60 (0, 0)) := by rw [← hW1, hG]; exact heap_alloc_new _ _
  have hb01 : Below G W0 W1 := by rw [← hW1, hG]; exact ((Below.refl _ _).alloc (Nat.le_refl _) _).drew
  rw [← hG, hW1]
  have HQ := Lib.hid (And.intro hb01 (And.intro hbx hG))
  clear hW1 hG hbx hb01 HLN
  have hz65 : ∀ x ∈ W, x.2.length = 64 := fun x hx => (H.out.wz x hx).1
  have hgV : ∀ g, ad = some ⟨g, 0, none⟩ → g < V := fun g e => by
    have := (own_lt HM.out.2.2 g (by rw [e]; rfl)).2
    rw [HV.out]; exact this
  have HZ := Lib.hid hz65
  have HGV := Lib.hid hgV
  refine range_outer (n := 9) rfl (by decide) (gf := 59) (lb := #[.pointer (some ⟨G, 0, none⟩)]) rfl trivial (enters_of Tryz.func59 (by kernel_rfl) rfl)
    (back_iter 8 G ad cap0 W hz65 hW) (fun _ => rfl) (fun h k => ⟨k.1.trans h.1, fun g e => (k.2 g e).trans (h.2 g e)⟩) (fun Wd l r r' hl _ => ⟨World.putObj_heap_other (by omega), fun g e => World.putObj_heap_other (by have := HGV.out g e; omega)⟩) (fun Wd W' l h _ _ => by rw [h])
    (fun pre Wd => (∀ j ∈ pre, (wAt W j).1 ≠ b) ∧ Below (G + 1) W1 Wd)
    (fun c pre Wd => (((c = .ret ∧ lastW W b = some (readD L W b)) ∧ Wd.heap[V + 1]? = some (.cells (dC (readD L W b)).toArray 34 (0, 0))) ∧ Wd.heap[V + 1 + 1]? = some (.cells #[.bool true] 4 (0, 0))) ∧ Below V w Wd)
    (fun s Wd W' hs ht => by rw [ht]; exact hs) (OwnFrom.and (ownFrom_pure _ _) (ownFrom_below (by omega) (by omega)))
    (fun c => OwnFrom.and (OwnFrom.and (OwnFrom.and (ownFrom_pure _ _) (ownFrom_blk _ _ _ _ _)) (ownFrom_blk _ _ _ _ _)) (ownFrom_below (by rw [HV.out]; exact Nat.le_refl _) (by omega)))
    (fun x a₁ Wd => ∃ R, (a₁ = { tmps := #[.pointer (some ⟨D, 0, none⟩), .int .i64 (b : Int), undef, .pointer (some ⟨V, 0, none⟩), .pointer (some ⟨V + 1, 0, none⟩), .pointer (some ⟨V + 1 + 1, 0, none⟩), undef, .pointer (some ⟨R, 0, none⟩), .int .i64 (b : Int), .bool false, .bool false, .int .i64 (b : Int), .pointer (some ⟨D, 0, none⟩), .int .i64 (L.length : Int), .bool false, .bool false, undef, .pointer (some ⟨D, 0, none⟩), .pointer (some ⟨D, 0, none⟩), .pointer (some ⟨D, 1, none⟩), .slice ad W.length cap0, .func (.func 59) #[] #[.pointer (some ⟨G, 0, none⟩)], .int .i64 (x : Int), .agg (wC (wAt W x)).toArray, undef, undef, undef, undef, undef, undef, undef, undef, undef, undef, undef, undef, undef], defers := [] } ∧ G + 1 ≤ R) ∧ Wd.heap[R]? = some (.cells (wC (wAt W x)).toArray 78 (0, 0)))
    (fun x a' => ownFrom_ex fun R => OwnFrom.and (ownFrom_pure _ _) (ownFrom_blk _ _ _ _ _)) ?hG ⟨(fun j hj => (by cases hj)), Below.refl _ _⟩ ?assign ?body ?done ?stop
  case hG =>
    intro Wd hb
    rw [hsz1] at hb
    refine ⟨(hb.block G (by omega)).trans HQ.out.2.1, fun i x hx => ?_⟩
    obtain ⟨g, hg, hr⟩ := row_at HM.out.2.2 HZ.out i x hx
    have hgl := HGV.out g hg
    refine ⟨g, hg, fun j v hv => ?_⟩
    have e1 : Wd.heap[g]? = w.heap[g]? := (hb.block g (by omega)).trans ((HQ.out.1.block g (by omega)).trans (HBL.out.2.2.2.1.block g hgl))
    exact (World.cell?_of_block (a := ⟨g, i * 65 + j, none⟩) e1).trans (hr j v hv)
  case assign =>
    intro l pre x Wd K hi hl hlt hK
    have hwl : (wC (wAt W x)).length = 65 := by
      rw [wC_len]
      have : (wAt W x).2.length = 64 := by
        unfold wAt
        rw [List.getD_eq_getElem?_getD]
        cases h : W[x]? with
        | none => rfl
        | some y => exact HZ.out y (List.mem_of_getElem? h)
      omega
    have hag := agg_ok hwl (wC_one (wAt W x))
    have hal := all_oneCell_toArray (wC_one (wAt W x))
    generalize wC (wAt W x) = cs at hag hal hwl hK ⊢
    have hzc : (Array.size Tryz.zeroCells78) = 65 := by decide
    have hth := there_row (n := 65) (heap_alloc_last Wd (.cells Tryz.zeroCells78 78)) hzc
    have hpt := putAt_new 78 write_size Wd 78 Tryz.zeroCells78 cs.toArray hzc (by simpa using hwl) hal
    have HK := Lib.hid hK
    have HI := Lib.hid hi
    clear hK hi hzc hal hwl
    gi_wp2
    refine HK.out _ _ ((KeepsFrom.refl _ _).trans (KeepsFrom.of_grownBy (World.grownBy_alloc Wd _ none) (fun j e => by cases e))) ⟨Below.heap_alloc _ _ _ (by omega), fun g e => Below.heap_alloc _ _ _ (by have := HGV.out g e; omega)⟩ ⟨HI.out.1, HI.out.2.alloc (by omega) _⟩ ⟨Wd.heap.size, ⟨rfl, by omega⟩, heap_alloc_last _ _⟩
  case body =>
    rintro l pre x a₁ Wd hx hl hr ⟨hpre, hB⟩ ⟨R, ⟨rfl, hR⟩, hRb⟩
    have hV0 : ∀ k, k < G + 1 → Wd.heap[k]? = W1.heap[k]? := fun k hk => hB.block k hk
    have hW0 : ∀ k, k < G → Wd.heap[k]? = W0.heap[k]? := fun k hk => (hV0 k (by omega)).trans (HQ.out.1.block k hk)
    have g0 : Wd.heap[V]? = some (.cells #[.int .i64 (b : Int)] 3 (0, 0)) := (hW0 V (by omega)).trans HBL.out.1
    have g1 : Wd.heap[V + 1]? = some (.cells z64 34 (0, 0)) := (hW0 _ (by omega)).trans HBL.out.2.1
    have g2 : Wd.heap[V + 1 + 1]? = some (.cells #[.bool false] 4 (0, 0)) := (hW0 _ (by omega)).trans HBL.out.2.2.1
    have d0 := cell_of_row Wd V 0 _ _ _ g0
    simp only [List.getElem?_toArray, List.getElem?_cons_zero] at d0
    have hxl : (wAt W x).2.length = 64 := by
      unfold wAt
      rw [List.getD_eq_getElem?_getD]
      cases h : W[x]? with
      | none => rfl
      | some y => exact HZ.out y (List.mem_of_getElem? h)
    have r0 : Wd.cell? ⟨R, 0, none⟩ = some (.int .i64 ((wAt W x).1 : Int)) := by rw [cell_of_row Wd R 0 _ _ _ hRb]; rfl
    have hrg : Wd.rangeAt R 1 (dC (wAt W x).2) := fun j v hv => by
      rw [cell_of_row Wd R (1 + j) _ _ _ hRb, List.getElem?_toArray, Nat.add_comm]
      exact hv
    obtain ⟨hdo, hdk⟩ := dat_range hrg (by rw [dC_len, hxl] : (dC (wAt W x).2).length = 64)
    have HB := Lib.hid hB
    have HPRE := Lib.hid hpre
    have HXX := Lib.hid hx
    by_cases he : (wAt W x).1 = b
    · have k5 : (((wAt W x).1 : Int) == (b : Int)) = true := beq_iff_eq.2 (by omega)
      have hlw := last_hit hx hpre he
      have hrd : readD L W b = (wAt W x).2 := by unfold readD; rw [hlw]; rfl
      have hone := dC_one (wAt W x).2
      have hdl : (dC (wAt W x).2).length = 64 := by rw [dC_len, hxl]
      have hag := agg_ok hdl hone
      have hal := all_oneCell_toArray hone
      have hth := there_row (n := 64) g1 rfl
      have hpt := putAt_row 34 data_size Wd (V + 1) _ z64 (dC (wAt W x).2).toArray g1 rfl (by simpa using hdl) hal
      have hs1 := setRow_heap Wd (V + 1) _ (dC (wAt W x).2).toArray _ _ g1
      have hs2 := (setRow_other Wd (V + 1) (V + 1 + 1) (dC (wAt W x).2).toArray (by omega)).trans g2
      have c5 := cell_of_row _ (V + 1 + 1) 0 _ _ _ hs2
      have f5 := frozen_of_row _ (V + 1 + 1) 0 _ _ hs2
      simp only [List.getElem?_toArray, List.getElem?_cons_zero] at c5
      have HE := Lib.hid (And.intro hrd (And.intro hlw (And.intro hs1 hs2)))
      have HBW : Hid (Below V w (Wd.setRow (V + 1) (dC (wAt W x).2).toArray)) := Lib.hid (below_setRow ((HBL.out.2.2.2.1.trans (HQ.out.1.mono (by omega))).trans (hB.mono (by omega))) (by omega) _)
      clear hlw hrd hone hdl hal hs1 hs2 hrg g0 g1 g2 hV0 hW0 hB hpre hx hRb hxl he
      generalize (wAt W x).2 = dd at *
      gi_wp2
      refine ⟨⟨by simp, fun k o hB hk _ => ?_⟩, ⟨⟨⟨rfl, ?_⟩, ?_⟩, ?_⟩, HBW.out.setCell (by simp; omega) _⟩
      · rw [heap_setCell_other _ _ _ _ (by simp; omega), setRow_other _ _ _ _ (by omega)]; exact hk
      · rw [HE.out.1]; exact HE.out.2.1
      · rw [HE.out.1, heap_setCell_other _ _ _ _ (by simp)]; exact HE.out.2.2.1
      · exact heap_setCell_same _ _ 0 _ _ _ HE.out.2.2.2
    · have k5 : (((wAt W x).1 : Int) == (b : Int)) = false := beq_eq_false_iff_ne.2 (by omega)
      have HNE := Lib.hid he
      clear he hrg g0 g1 g2 hV0 hW0 hB hpre hx hRb hxl
      gi_wp2
      refine ⟨KeepsFrom.refl _ _, ⟨rfl, fun _ _ => rfl⟩, fun j hj => ?_, HB.out⟩
      rcases List.mem_append.1 hj with h | h
      · exact HPRE.out j h
      · rw [List.mem_singleton.1 h]; exact HNE.out
  case done =>
    rintro Z Wd0 hZ ⟨hpre, hB0⟩ hK0
    obtain ⟨Wd, hWd⟩ : ∃ Wd, Wd = Wd0.drew := ⟨_, rfl⟩
    have hB : Below (G + 1) W1 Wd := by rw [hWd]; exact hB0.drew
    have hK : Wd.heap[Z]? = some (.deferred (some [])) := by rw [hWd]; exact hK0
    have hV0 : ∀ k, k < G + 1 → Wd.heap[k]? = W1.heap[k]? := fun k hk => hB.block k hk
    have hW0 : ∀ k, k < G → Wd.heap[k]? = W0.heap[k]? := fun k hk => (hV0 k (by omega)).trans (HQ.out.1.block k hk)
    have hWw : ∀ k, k < V → Wd.heap[k]? = w.heap[k]? := fun k hk => (hW0 k (by omega)).trans (HBL.out.2.2.2.1.block k hk)
    have g0 : Wd.heap[V]? = some (.cells #[.int .i64 (b : Int)] 3 (0, 0)) := (hW0 V (by omega)).trans HBL.out.1
    have g1 : Wd.heap[V + 1]? = some (.cells z64 34 (0, 0)) := (hW0 _ (by omega)).trans HBL.out.2.1
    have g2 : Wd.heap[V + 1 + 1]? = some (.cells #[.bool false] 4 (0, 0)) := (hW0 _ (by omega)).trans HBL.out.2.2.1
    have d0 := cell_of_row Wd V 0 _ _ _ g0
    simp only [List.getElem?_toArray, List.getElem?_cons_zero] at d0
    have e0 := cell_of_row Wd D 0 _ _ _ ((hWw D hlt).trans HM.out.1)
    simp only [List.getElem?_toArray, List.getElem?_cons_zero] at e0
    have hx : L[b]? = some (L.getD b zeroD) := by rw [List.getD_eq_getElem?_getD, List.getElem?_eq_getElem hb]; rfl
    have hxl : (L.getD b zeroD).length = 64 := H.out.lz _ (List.mem_of_getElem? hx)
    have hrd : readD L W b = L.getD b zeroD := by unfold readD; rw [last_none hpre]; rfl
    obtain ⟨g, rfl, hr⟩ := las_at HM.out.2.1 H.out.lz b _ hx
    have hgl : g < V := by rw [HV.out]; exact (own_lt HM.out.2.1 g rfl).2
    have hr2 : Wd.rangeAt g (b * 64) (dC (L.getD b zeroD)) := fun j v hv => (World.cell?_of_block (a := ⟨g, b * 64 + j, none⟩) (hWw g hgl)).trans (hr j v hv)
    have hone := dC_one (L.getD b zeroD)
    have hdl : (dC (L.getD b zeroD)).length = 64 := by rw [dC_len, hxl]
    obtain ⟨hdo, hdk⟩ := dat_range hr2 hdl
    have hag := agg_ok hdl hone
    have hal := all_oneCell_toArray hone
    have hth := there_row (n := 64) g1 rfl
    have hpt := putAt_row 34 data_size Wd (V + 1) _ z64 (dC (L.getD b zeroD)).toArray g1 rfl (by simpa using hdl) hal
    have hs1 := setRow_heap Wd (V + 1) _ (dC (L.getD b zeroD)).toArray _ _ g1
    have hs2 := (setRow_other Wd (V + 1) (V + 1 + 1) (dC (L.getD b zeroD)).toArray (by omega)).trans g2
    have c5 := cell_of_row _ (V + 1 + 1) 0 _ _ _ hs2
    have f5 := frozen_of_row _ (V + 1 + 1) 0 _ _ hs2
    simp only [List.getElem?_toArray, List.getElem?_cons_zero] at c5
    have HE := Lib.hid (And.intro hrd (And.intro hs1 hs2))
    have HBW : Hid (Below V w (Wd.setRow (V + 1) (dC (L.getD b zeroD)).toArray)) := Lib.hid (below_setRow ((HBL.out.2.2.2.1.trans (HQ.out.1.mono (by omega))).trans (hB.mono (by omega))) (by omega) _)
    have HK := Lib.hid hK
    have e6 : b < L.length := hb
    have HDL := Lib.hid hdl
    clear hrd hone hdl hal hs1 hs2 g0 g1 g2 hV0 hW0 hB hpre hx hxl hK hr hr2 hWw hB0 hK0
    generalize L.getD b zeroD = dd at *
    gi_wp2
    refine outer_still_tail 7 (by kernel_rfl) (letsOut_then (letsOut_bodyM fun w e => by cases e.1)) (by kernel_rfl) (by kernel_rfl) ?_
    simp only [List.take_succ_cons, List.take_zero, List.drop_succ_cons, List.drop_zero]
    rw [← hWd]
    clear hWd
    repeat still_step
    refine wpStill_nil ?_
    go_wp2_with fail
    gi_wp2
    have hK' : ((Wd.setRow (V + 1) (dC dd).toArray).setCell ⟨V + 1 + 1, 0, none⟩ (.bool true)).heap[Z]? = some (.deferred (some [])) := by
      rw [heap_setCell_other _ _ _ _ (by simp; omega), setRow_other _ _ _ _ (by omega)]; exact HK.out
    refine ⟨by simp, .inl ⟨_, _, rfl, run_takeDeferred hK', ?_⟩⟩
    have p1 : (((Wd.setRow (V + 1) (dC dd).toArray).setCell ⟨V + 1 + 1, 0, none⟩ (.bool true)).putObj Z (.deferred none)).heap[V + 1]? = some (.cells (dC dd).toArray 34 (0, 0)) := by
      rw [World.putObj_heap_other (by omega), heap_setCell_other _ _ _ _ (by simp)]; exact HE.out.2.1
    have p2 : (((Wd.setRow (V + 1) (dC dd).toArray).setCell ⟨V + 1 + 1, 0, none⟩ (.bool true)).putObj Z (.deferred none)).heap[V + 1 + 1]? = some (.cells #[.bool true] 4 (0, 0)) := by
      rw [World.putObj_heap_other (by omega)]; exact heap_setCell_same _ _ 0 _ _ _ HE.out.2.2
    refine ⟨.tuple #[.agg (dC dd).toArray, .bool true], results_cc Tryz.results37 _ _ (V + 1) (V + 1 + 1) _ _ _ _ (.bool true) rfl p1 Tryz.underlying34 rfl ?_ rfl Tryz.underlying4 (by rw [cell_of_row _ _ 0 _ _ _ p2]; rfl), by rw [HE.out.1], ?_⟩
    · rw [data_size]; simp only [List.size_toArray]; rw [HDL.out]
    · rw [← HV.out]; exact below_putObj (HBW.out.setCell (by simp; omega) _) (by omega)
  case stop =>
    rintro Z c pre Wd hZ ⟨⟨⟨⟨rfl, hlw⟩, hb1⟩, hb2⟩, hB⟩ hK
    have hlen : (dC (readD L W b)).length = 64 := by
      rw [dC_len]
      unfold readD
      rw [hlw]
      have h := hlw
      unfold lastW at h
      obtain ⟨i, hi, he⟩ := Option.map_eq_some_iff.1 h
      rw [Option.getD_some, ← he]
      unfold wAt
      rw [List.getD_eq_getElem?_getD]
      cases hh : W[i]? with
      | none => rfl
      | some y => exact HZ.out y (List.mem_of_getElem? hh)
    gi_wp2
    refine ⟨by simp, .inl ⟨_, _, rfl, run_takeDeferred hK, ?_⟩⟩
    have p1 := (World.putObj_heap_other (w := Wd) (o := .deferred none) (show V + 1 ≠ Z by omega)).trans hb1
    have p2 := (World.putObj_heap_other (w := Wd) (o := .deferred none) (show V + 1 + 1 ≠ Z by omega)).trans hb2
    refine ⟨.tuple #[.agg (dC (readD L W b)).toArray, .bool true], results_cc Tryz.results37 _ _ (V + 1) (V + 1 + 1) _ _ _ _ (.bool true) rfl p1 Tryz.underlying34 rfl ?_ rfl Tryz.underlying4 (by rw [cell_of_row _ _ 0 _ _ _ p2]; rfl), rfl, ?_⟩
    · rw [data_size]; simp only [List.size_toArray]; rw [hlen]
    · rw [← HV.out]; exact below_putObj hB (by omega)
end Go.Proofs.YtonmppchbdffcaaGreat
