/- wal.Read. -/
import Derived.Test.YtkfmdkbiglkjpaaGreatWal5
import Derived.Laws.IdiomStrings
import Derived.Lib.EndianBits
import Derived.Deep.RegionWith
namespace Go.Proofs.YtkfmdkbiglkjpaaGreat
open Go Go.RowKit Go.Lib
attribute [local go_sem ↓] wp_bput exec_load_data exec_load_put exec_store_data exec_store_put exec_build0 exec_alloc_data
set_option maxRecDepth 100000

theorem bytes_equal (a b : Addr) (c1 c2 : Nat) (l1 l2 : List UInt8) (w : World) (h1 : ∀ j (hj : j < l1.length), w.cell? (a.add j) = some (.int .u8 (l1[j].toNat : Int))) (h2 : ∀ j (hj : j < l2.length), w.cell? (b.add j) = some (.int .u8 (l2[j].toNat : Int))) :
    Calls Tryz.prog 33 #[.slice (some a) l1.length c1, .slice (some b) l2.length c2] w fun e w' => e = .returned (.bool (decide (l1 = l2))) ∧ w' = w := by
  have e1 := run_convert_bytes_back (P := Tryz.prog) w 84 9 5 a c1 l1 Tryz.underlying84 Tryz.underlying5 Tryz.underlying9 h1
  have e2 := run_convert_bytes_back (P := Tryz.prog) w 84 9 5 b c2 l2 Tryz.underlying84 Tryz.underlying5 Tryz.underlying9 h2
  clear h1 h2
  go_enter Tryz.func33, Tryz.ntmps33
  go_wp2_with fail
  go_ret
  exact ⟨by rw [← str_eq]; rfl, rfl⟩
set_option maxHeartbeats 1600000 in
/-- a Put is built of a number alone -/
theorem build_put1 (u : Value) (hu : u.cells.size = 1) (w : World) :
    (Instr.build 60 #[(0, u)]).run Tryz.prog w = .ok (.agg (u.cells ++ z64)) w := by
  obtain ⟨c, hc⟩ : ∃ c, u.cells = #[c] := Array.size_eq_one_iff.1 hu
  have hs3 := Tryz.sizeOf3
  have hz : z65.size = 65 := rfl
  unfold Instr.build
  have hzc : (Value.agg Tryz.zeroCells60).cells = Tryz.zeroCells60 := rfl
  have e2 : (Array.size Tryz.zeroCells60) = 65 := by decide
  have hne : Tryz.zeroCells60 ≠ #[] := fun h => by
    have h := congrArg Array.size h
    rw [e2] at h
    cases h
  rw [hc]
  simp [Sem.run_bind, put_zero, run_underlying Tryz.underlying60, hs3, Instr.fill, hz, hc, hzc, e2, hne]
  have hzz : Tryz.zeroCells60 = #[.int .i64 0] ++ z64 := by kernel_rfl
  rw [hzz]
  refine Array.ext_getElem? fun k => ?_
  rcases k with _ | k
  · simp [Array.getElem?_append]
  · rw [Array.getElem?_setIfInBounds_ne (by omega), Array.getElem?_append_right (by simp), Array.getElem?_append_right (by simp)]; rfl
/-- what is built of a number alone -/
def putZ (u : Value) : Value := .agg (u.cells ++ z64)
theorem exec_build_put1 {d x : Tmp} {ty : TypeId} {p : String} {af : Array Edge} {gd : Option (Tmp × Bool)} {ρ : Operand → Value} {w : World} (hu : (ρ (.tmp x)).cells.size = 1) :
    (execOp ρ { dst := some d, op := .build 60 #[(0, .tmp x)], type := ty, pos := p, after := af, guard := gd }).run Tryz.prog w = .ok (.value (putZ (ρ (.tmp x)))) w := by
  unfold execOp putZ
  have h := build_put1 _ hu w
  simp [h]
theorem push_dat (b : Int) : #[Value.int .i64 b] ++ (dC zeroD).toArray = (pC (b, zeroD)).toArray := by
  show _ = (Value.int .i64 b :: dC zeroD).toArray
  generalize dC zeroD = l
  simp
theorem putZ_int (b : Int) : putZ (.int .i64 b) = .agg (pC (b, zeroD)).toArray := by
  have hz : z64 = (dC zeroD).toArray := by simp [z64, dC, zeroD]
  have hc : (Value.int .i64 b).cells = #[.int .i64 b] := rfl
  unfold putZ
  rw [hz, hc]
  rw [push_dat b]
attribute [local go_sem ↓] exec_build_put1
theorem or_bytes (a b : Nat) (ha : a < 256) (hb : b < 256) : bits .or .i64 (a : Int) ((b : Int) * 256) = ((a + 256 * b : Nat) : Int) := by
  rw [bits_join_low .i64 32 (by decide) (fun n h0 h1 => by rw [IntKind.wrap_i64] <;> omega) 8 (a : Int) ((b : Int) * 256) (by omega) (by omega) (by omega) (by omega) (by omega) (by omega)]
  omega
theorem setMany_put (b : Int) (e : Dat) (he : e.length = 64) : setMany (dC e) (pC (b, zeroD)).toArray 1 = (pC (b, e)).toArray := by
  have h1 : (dC e).length = 64 := by rw [dC_len, he]
  have h2 : (dC zeroD).length = 64 := rfl
  refine Array.ext_getElem? fun k => ?_
  rw [setMany_at _ _ _ _ (by rw [h1]; simp [pC, h2]), h1, List.getElem?_toArray, List.getElem?_toArray]
  rcases k with _ | k
  · simp [pC]
  · by_cases hk : k < 64
    · rw [if_pos (by omega)]; simp [pC]
    · rw [if_neg (by omega)]
      simp only [pC, List.getElem?_cons_succ]
      rw [List.getElem?_eq_none (by omega), List.getElem?_eq_none (by omega)]
def lo (d : Dat) (k : Nat) : Nat := (d.getD k 0).toNat
def rdP (L : List Dat) (W : List (Nat × Dat)) (d : Dat) (i : Nat) : PutV := (((lo d (6 + 2 * i) + 256 * lo d (7 + 2 * i) : Nat) : Int), readD L W (2 + i))
def rdL (L : List Dat) (W : List (Nat × Dat)) (d : Dat) (n : Nat) : List PutV := (List.range n).map (rdP L W d)
def magL : List UInt8 := [33, 71, 79, 76]
/-- what the log says -/
def DS.read (s : DS) : List PutV :=
  let d := readD s.L s.W 1
  if d.take 4 = magL ∧ lo d 4 ≤ 16 then (let l := rdL s.L s.W d (lo d 4); if rightB s.L.length l = true ∧ headN l = d then l else []) else []
theorem readD_len {L : List Dat} {W : List (Nat × Dat)} {b : Nat} (hL : ∀ d ∈ L, d.length = 64) (hW : ∀ x ∈ W, x.2.length = 64) (hb : b < L.length) : (readD L W b).length = 64 := by
  unfold readD lastW
  cases hf : (List.range W.length).reverse.find? fun i => (wAt W i).1 == b with
  | none =>
    simp only [Option.map_none, Option.getD_none]
    rw [List.getD_eq_getElem?_getD, List.getElem?_eq_getElem hb]
    exact hL _ (List.getElem_mem _)
  | some i =>
    simp only [Option.map_some, Option.getD_some]
    exact wAt_64 hW i
theorem step_wp {P : Program} {ops : Array Oper} {o : Oper} {a : Act} {w : World} {K : Act → World → Prop} {Q : Exit → Act → World → Prop} {E : Prop} (hg : o.guard = none) (h : Oper.wp P o a w K Q) :
    if Region.wanted o (yielded ops a.tmps) = true then Oper.wp P o a w K Q else E := by
  have hw : Region.wanted o (yielded ops a.tmps) = true := by simp [Region.wanted, hg]
  rw [if_pos hw]; exact h
theorem exec_load_data_g {d x : Tmp} {ty : TypeId} {p : String} {af : Array Edge} {gd : Option (Tmp × Bool)} {ρ : Operand → Value} {w : World} (h : datOk 64 w (ρ (.tmp x)) = true) :
    (execOp ρ { dst := some d, op := .load 49 (.tmp x), type := ty, pos := p, after := af, guard := gd }).run Tryz.prog w = .ok (.value (.agg (datOf 64 w (ρ (.tmp x))).toArray)) w := by
  obtain ⟨b, o, hv, hr⟩ := dat_ok h
  have hl := datOf_len h
  unfold execOp
  rw [hv] at hr hl ⊢
  have h1 := run_loadAt_mid (P := Tryz.prog) w b o 49 _ _ hr Tryz.underlying49 rfl (by rw [data_size, hl])
  simp [hv, h1]
attribute [local go_sem ↓] exec_load_data_g exec_neq_data
theorem PReads.of_row' {w : World} {B : Nat} {ad : Option Addr} {cap n : Nat} {l : List PutV} (h : w.ownsRow B 60 65 (.slice ad n cap) n (putC l)) (hz : ∀ p ∈ l, p.2.length = 64) (hn : l.length = n) : PReads w ad cap l := by
  subst hn
  have h2 : l.length ≤ cap ∧ cap ≤ maxLen := by
    rcases h.2 with ⟨h0, _⟩ | ⟨g', cap', cur, h1, h2, h3, h4, h5, h6, h7⟩
    · simp only [Value.slice.injEq] at h0
      exact ⟨by omega, by rw [h0.2.2]; exact Nat.zero_le _⟩
    · cases h1
      exact ⟨h4, h5⟩
  exact PReads.of_row h hz h2.1 h2.2
structure RdI (w4 : World) (l : List PutV) (i : Nat) (adl : Option Addr) (capl : Nat) (wr : World) : Prop where
  bl : Below w4.heap.size w4 wr
  row : wr.ownsRow w4.heap.size 60 65 (.slice adl i capl) i (putC (l.take i))
/-- the post of a read -/
def RdPost (w : World) (l : List PutV) (e : Ending) (w' : World) : Prop :=
  ∃ ad cap, e = .returned (.tuple #[.slice ad l.length cap, .bool true]) ∧ PReads w' ad cap l ∧ Below w.heap.size w w' ∧ ∀ g, ad = some ⟨g, 0, none⟩ → w.heap.size ≤ g ∧ g < w'.heap.size
set_option maxHeartbeats 6400000 in
theorem wal_read (F : Nat → Prop) (X D N c : Nat) (s : DS) (w : World) (hs : s.sm N c) (hN : 18 ≤ N) (hN2 : N ≤ 1000) (hc : c ≤ 5000) (hlf : 0 < s.left) (hpre : (readD s.L s.W 1).take 4 = magL → lo (readD s.L s.W 1) 4 ≤ 16 → rightB N (rdL s.L s.W (readD s.L s.W 1) (lo (readD s.L s.W 1) 4)) = true) (h : Dv w F X D s) :
    Calls Tryz.prog 16 #[.pointer (some ⟨X, 0, none⟩)] w fun e w' => RdPost w s.read e w' := by
  obtain ⟨d, hd⟩ : ∃ d, d = readD s.L s.W 1 := ⟨_, rfl⟩
  have hok := hs.ok (by omega) hN2 (by omega)
  have hd64 : d.length = 64 := by rw [hd]; exact readD_len h.dsk.lz (fun x hx => (h.dsk.wz x hx).1) (by rw [hs.len]; omega)
  have HR1 := Lib.hid (dev_read F X D 1 s w hok (by rw [hs.len]; omega) hlf h)
  rw [← hd] at HR1
  have HS := Lib.hid hs
  have HH := Lib.hid h
  have HD := Lib.hid (And.intro hd hd64)
  have HHD := Lib.hid (super_header w)
  have hone := dC_one d
  have hlen : (dC d).length = 64 := by rw [dC_len, hd64]
  have hag := agg_ok hlen hone
  have hal := all_oneCell_toArray hone
  have HPT := Lib.hid fun w1 => putAt_new 49 data_size w1 49 z64 (dC d).toArray rfl (by simpa using hlen) hal
  have HTH := Lib.hid fun (w1 : World) => there_row (n := 64) (heap_alloc_last w1 (.cells z64 49)) rfl
  have HHOK := Lib.hid hok
  have HLF := Lib.hid hlf
  rw [← hd] at hpre
  have HPRE := Lib.hid hpre
  clear hs h hpre hd hok hone hal hlf hd64
  go_enter Tryz.func16, Tryz.ntmps16
  go_wp2_with fail
  refine HHD.out.mono ?_
  rintro e w' ⟨rfl, hw'⟩
  rw [hw']
  clear hw' w'
  go_wp2_with fail
  refine HR1.out.mono ?_
  rintro e w1 ⟨rfl, hb1⟩
  have hpt := HPT.out w1
  have hth := HTH.out w1
  obtain ⟨V, hV⟩ : ∃ V, V = w1.heap.size := ⟨_, rfl⟩
  obtain ⟨W1, hW1⟩ : ∃ W1, W1 = w1.alloc (.cells (dC d).toArray 49) := ⟨_, rfl⟩
  rw [← hW1] at hpt
  have hg1 : W1.heap[V]? = some (.cells (dC d).toArray 49 (0, 0)) := by rw [hW1, hV]; exact heap_alloc_last _ _
  have hbW : Below w.heap.size w W1 := by rw [hW1]; exact hb1.alloc hb1.size _
  have hVs : W1.heap.size = V + 1 ∧ w.heap.size ≤ V := by rw [hW1, hV]; exact ⟨by simp, hb1.size⟩
  have HX1 := Lib.hid (And.intro hg1 (And.intro hbW hVs))
  have HWB := Lib.hid (word_bytes W1)
  have HV := Lib.hid hV
  have HW1 := Lib.hid hW1
  clear hb1 hg1 hbW hW1 hV
  go_wp2_with fail
  refine HWB.out.mono ?_
  rintro e w2 ⟨rfl, hb2⟩
  have hV := HV.out
  subst hV
  obtain ⟨G, hG⟩ : ∃ G, G = w2.heap.size := ⟨_, rfl⟩
  obtain ⟨W3, hW3⟩ : ∃ W3, W3 = w2.alloc (.cells #[.int .u8 33, .int .u8 71, .int .u8 79, .int .u8 76] 80) := ⟨_, rfl⟩
  have hb3 : Below W1.heap.size W1 W3 := by rw [hW3]; exact hb2.alloc hb2.size _
  have hg3 : W3.heap[G]? = some (.cells #[.int .u8 33, .int .u8 71, .int .u8 79, .int .u8 76] 80 (0, 0)) := by rw [hW3, hG]; exact heap_alloc_last _ _
  have hv3 : W3.heap[w1.heap.size]? = some (.cells (dC d).toArray 49 (0, 0)) := (hb3.block w1.heap.size (by rw [HX1.out.2.2.1]; omega)).trans HX1.out.1
  have hbw3 : Below w.heap.size w W3 := HX1.out.2.1.trans (hb3.mono HX1.out.2.1.size)
  have hcell : ∀ k, k < 64 → W3.cell? ⟨w1.heap.size, k, none⟩ = some (.int .u8 ((lo d k : Nat) : Int)) := fun k hk => by
    rw [cell_of_row W3 _ k _ _ _ hv3, List.getElem?_toArray, dC, List.getElem?_map]
    unfold lo
    rw [List.getD_eq_getElem?_getD, List.getElem?_eq_getElem (by have := HD.out.2; omega)]; rfl
  have hlo : ∀ k, lo d k < 256 := fun k => by unfold lo; exact UInt8.toNat_lt _
  have hc4 := hcell 4 (by omega)
  have hlt2 : w1.heap.size < w2.heap.size := by have := hb2.size; have := HX1.out.2.2.1; omega
  have hc42 : w2.cell? ⟨w1.heap.size, 4, none⟩ = some (.int .u8 ((lo d 4 : Nat) : Int)) := by
    rw [← hc4, hW3]
    exact (World.cell?_of_block (a := ⟨w1.heap.size, 4, none⟩) (Below.heap_alloc _ _ _ hlt2)).symm
  have hl4 := hlo 4
  have e4 : (d.take 4).length = 4 := by simp [HD.out.2]
  have heq := bytes_equal ⟨w1.heap.size, 0, none⟩ ⟨G, 0, none⟩ 64 4 (d.take 4) magL W3.drew (fun j hj => by
    rw [e4] at hj
    rw [addr_add, World.cell?_drew, hcell j (by omega)]
    unfold lo
    rw [List.getD_eq_getElem?_getD, List.getElem_take, List.getElem?_eq_getElem (by have := HD.out.2; omega)]; rfl) (fun j hj => by
    rw [addr_add, World.cell?_drew, cell_of_row W3 _ j _ _ _ hg3]
    have hj : j < 4 := hj
    match j, hj with
    | 0, _ => rfl
    | 1, _ => rfl
    | 2, _ => rfl
    | 3, _ => rfl)
  rw [e4, show magL.length = 4 from rfl] at heq
  have HX3 := Lib.hid (And.intro hv3 (And.intro hbw3 hcell))
  have HLO := Lib.hid hlo
  have HW3 := Lib.hid hW3
  have HG := Lib.hid hG
  have HRD : Hid (s.read = if d.take 4 = magL ∧ lo d 4 ≤ 16 then (if rightB N (rdL s.L s.W d (lo d 4)) = true ∧ headN (rdL s.L s.W d (lo d 4)) = d then rdL s.L s.W d (lo d 4) else []) else []) := Lib.hid (by unfold DS.read; rw [← HD.out.1, HS.out.len])
  have HN0 : Hid (∀ w', Below w.heap.size w w' → s.read = [] → RdPost w s.read (.returned (.tuple #[.slice none 0 0, .bool true])) w') := Lib.hid fun w' hb he => by
    rw [he]
    exact ⟨none, 0, rfl, ⟨Nat.le_refl _, Nat.zero_le _, fun p hp => (by cases hp), fun i p hp => (by simp at hp)⟩, hb, fun g e => by cases e⟩
  clear hb2 hb3 hg3 hv3 hbw3 hcell hlo hW3 hG e4
  obtain ⟨n, hn⟩ : ∃ n, n = lo d 4 := ⟨_, rfl⟩
  rw [← hn] at hc4 hc42 hl4 HRD
  have HNN := Lib.hid hn
  clear hn
  cases hm : decide (d.take 4 = magL) with
  | false =>
    rw [hm] at heq
    have HEQ := Lib.hid heq
    have HE : Hid (s.read = []) := Lib.hid (by rw [HRD.out, if_neg (by simp only [decide_eq_false_iff_not] at hm; simp [hm])])
    clear heq hm
    go_wp2_with fail
    rw [← HG.out, ← HW3.out]
    refine wp_region_still_lit (by kernel_rfl) (by kernel_rfl) ?_
    still_step
    still_step
    still_call HEQ.out
    repeat still_step
    refine wpStill_nil ?_
    go_wp2_with fail
    go_ret2
    exact HN0.out _ HX3.out.2.1.drew HE.out
  | true =>
    rw [hm] at heq
    have HEQ := Lib.hid heq
    have HM : Hid (d.take 4 = magL) := Lib.hid (of_decide_eq_true hm)
    clear heq hm
    by_cases h16 : 16 < n
    · have k3 : (16 : Int) < (n : Int) := by omega
      have k4 : decide ((16 : Int) < (n : Int)) = true := decide_eq_true k3
      have HE : Hid (s.read = []) := Lib.hid (by rw [HRD.out, if_neg (by omega)])
      go_wp2_with fail
      rw [← HG.out, ← HW3.out]
      refine wp_region_still_lit (by kernel_rfl) (by kernel_rfl) ?_
      still_step
      still_step
      still_call HEQ.out
      repeat still_step
      refine wpStill_nil ?_
      go_wp2_with fail
      go_ret2
      exact HN0.out _ HX3.out.2.1.drew HE.out
    · have k3 : ¬ (16 : Int) < (n : Int) := by omega
      have k4 : decide ((16 : Int) < (n : Int)) = false := decide_eq_false k3
      go_wp2_with fail
      rw [← HG.out, ← HW3.out]
      refine wp_region_still_lit (by kernel_rfl) (by kernel_rfl) ?_
      still_step
      still_step
      still_call HEQ.out
      repeat still_step
      refine wpStill_nil ?_
      go_wp2_with fail
      refine (wal_log n (by omega) W3.drew).mono ?_
      rintro e w4 ⟨adg, capg, rfl, hown, hb4⟩
      obtain ⟨l, hl⟩ : ∃ l, l = rdL s.L s.W d n := ⟨_, rfl⟩
      have hln : l.length = n := by rw [hl]; simp [rdL]
      have hbw4 : Below w.heap.size w w4 := HX3.out.2.1.drew.trans (hb4.mono HX3.out.2.1.size)
      have hv4 : w4.heap[w1.heap.size]? = some (.cells (dC d).toArray 49 (0, 0)) := (hb4.block _ (Array.getElem?_eq_some_iff.1 HX3.out.1).1).trans HX3.out.1
      have HX4 := Lib.hid (And.intro hbw4 (And.intro hv4 hown))
      have HL := Lib.hid (And.intro hl hln)
      clear hown hb4 hbw4 hv4 hl hln hc4 hc42 hlt2 HEQ
      go_wp2_with fail
      go_loopg [8, 35] n (fun k u v wr => ∃ (i : Nat) (adl : Option Addr) (capl : Nat), k + i = n ∧ v = .int .i64 (i : Int) ∧ u = .slice adl i capl ∧ RdI w4 l i adl capl wr)
      case atStart => exact ⟨0, none, 0, by simp, rfl, rfl, Below.refl _ _, World.ownsRow_nil _ _ _ _⟩
      case round =>
        obtain ⟨i, adl, capl, hk, rfl, rfl, hI⟩ := hrel
        have hk := Lib.hid hk
        have HI := Lib.hid hI
        clear hI
        by_cases hi : i < n
        · have hi1 : (i : Int) < (n : Int) := by omega
          have hi3 : (0 : Int) ≤ (i : Int) := by omega
          have wr1 : IntKind.i64.wrap ((i : Int) + 1) = (i : Int) + 1 := by rw [IntKind.wrap_i64] <;> omega
          obtain ⟨ga, offa, hada, hca⟩ := KReads.of_row (own_on HX4.out.2.2 (HI.out.bl.mono (Nat.le_refl _))) i (2 + i) (by unfold logN; rw [List.getElem?_map, List.getElem?_range hi]; rfl)
          have hvr : wr.heap[w1.heap.size]? = some (.cells (dC d).toArray 49 (0, 0)) := (HI.out.bl.block _ (Array.getElem?_eq_some_iff.1 HX4.out.2.1).1).trans HX4.out.2.1
          have hcell : ∀ k, k < 64 → wr.cell? ⟨w1.heap.size, k, none⟩ = some (.int .u8 ((lo d k : Nat) : Int)) := fun k hk => by
            rw [cell_of_row wr _ k _ _ _ hvr, List.getElem?_toArray, dC, List.getElem?_map]
            unfold lo
            rw [List.getD_eq_getElem?_getD, List.getElem?_eq_getElem (by have := HD.out.2; omega)]; rfl
          have i1 : IntKind.i64.wrap (2 * (i : Int)) = 2 * (i : Int) := by rw [IntKind.wrap_i64] <;> omega
          have i2 : IntKind.i64.wrap (6 + 2 * (i : Int)) = 6 + 2 * (i : Int) := by rw [IntKind.wrap_i64] <;> omega
          have i3 : IntKind.i64.wrap (7 + 2 * (i : Int)) = 7 + 2 * (i : Int) := by rw [IntKind.wrap_i64] <;> omega
          have q1 : (0 : Int) ≤ 6 + 2 * (i : Int) := by omega
          have q2 : 6 + 2 * (i : Int) < 64 := by omega
          have q3 : (0 : Int) ≤ 7 + 2 * (i : Int) := by omega
          have q4 : 7 + 2 * (i : Int) < 64 := by omega
          have k6 : (6 + 2 * (i : Int)).toNat = 6 + 2 * i := by omega
          have k7 : (7 + 2 * (i : Int)).toNat = 7 + 2 * i := by omega
          have c6 : wr.drew.cell? ⟨w1.heap.size, 6 + 2 * i, none⟩ = some (.int .u8 ((lo d (6 + 2 * i) : Nat) : Int)) := hcell _ (by omega)
          have c7 : wr.drew.cell? ⟨w1.heap.size, 7 + 2 * i, none⟩ = some (.int .u8 ((lo d (7 + 2 * i) : Nat) : Int)) := hcell _ (by omega)
          have c6' : wr.cell? ⟨w1.heap.size, 6 + 2 * i, none⟩ = some (.int .u8 ((lo d (6 + 2 * i) : Nat) : Int)) := hcell _ (by omega)
          have c7' : wr.cell? ⟨w1.heap.size, 7 + 2 * i, none⟩ = some (.int .u8 ((lo d (7 + 2 * i) : Nat) : Int)) := hcell _ (by omega)
          have b6 := HLO.out (6 + 2 * i)
          have b7 := HLO.out (7 + 2 * i)
          obtain ⟨vb, hvb⟩ : ∃ vb : Int, vb = ((lo d (6 + 2 * i) + 256 * lo d (7 + 2 * i) : Nat) : Int) := ⟨_, rfl⟩
          have hor := or_bytes _ _ b6 b7
          rw [← hvb] at hor
          have w6' : IntKind.i64.wrap ((lo d (6 + 2 * i) : Nat) : Int) = ((lo d (6 + 2 * i) : Nat) : Int) := by rw [IntKind.wrap_i64] <;> omega
          have w7' : IntKind.i64.wrap ((lo d (7 + 2 * i) : Nat) : Int) = ((lo d (7 + 2 * i) : Nat) : Int) := by rw [IntKind.wrap_i64] <;> omega
          have w8' : IntKind.i64.wrap (((lo d (7 + 2 * i) : Nat) : Int) * 256) = ((lo d (7 + 2 * i) : Nat) : Int) * 256 := by rw [IntKind.wrap_i64] <;> omega
          have hpz := putZ_int vb
          have h65 : (pC (vb, zeroD)).length = 65 := rfl
          have hag5 := agg_ok h65 (pC_one (vb, zeroD))
          have hzc : (Array.size Tryz.zeroCells60) = 65 := by decide
          have hal5 : ((wr.alloc (.cells Tryz.zeroCells60 60)).drew).heap[wr.heap.size]? = some (.cells Tryz.zeroCells60 60 (0, 0)) := heap_alloc_last _ _
          have hth5 := there_row (n := 65) hal5 hzc
          have hpt5 := putAt_row 60 put_size _ _ 60 _ (pC (vb, zeroD)).toArray hal5 hzc rfl (all_oneCell_toArray (pC_one (vb, zeroD)))
          obtain ⟨w5, hw5⟩ : ∃ w5, w5 = ((wr.alloc (.cells Tryz.zeroCells60 60)).drew).setRow wr.heap.size (pC (vb, zeroD)).toArray := ⟨_, rfl⟩
          rw [← hw5] at hpt5
          have hbx5 : w5.heap[wr.heap.size]? = some (.cells (pC (vb, zeroD)).toArray 60 (0, 0)) := by rw [hw5]; exact setRow_heap _ _ _ _ _ _ hal5
          have hbl5 : Below wr.heap.size wr w5 := by rw [hw5]; exact below_setRow (((Below.refl _ _).alloc (Nat.le_refl _) _).drew) (Nat.le_refl _) _
          have hsz5 : w5.heap.size = wr.heap.size + 1 := by rw [hw5]; simp
          have hvl : w1.heap.size < wr.heap.size := (Array.getElem?_eq_some_iff.1 hvr).1
          have c65 : w5.cell? ⟨w1.heap.size, 6 + 2 * i, none⟩ = some (.int .u8 ((lo d (6 + 2 * i) : Nat) : Int)) := (World.cell?_of_block (a := ⟨w1.heap.size, 6 + 2 * i, none⟩) (hbl5.block _ hvl)).trans c6'
          have c75 : w5.cell? ⟨w1.heap.size, 7 + 2 * i, none⟩ = some (.int .u8 ((lo d (7 + 2 * i) : Nat) : Int)) := (World.cell?_of_block (a := ⟨w1.heap.size, 7 + 2 * i, none⟩) (hbl5.block _ hvl)).trans c7'
          have hbw5 : Below w.heap.size w w5 := HX4.out.1.trans ((HI.out.bl.trans (hbl5.mono HI.out.bl.size)).mono HX4.out.1.size)
          have HR := Lib.hid (dev_read F X D (2 + i) s w5 HHOK.out (by rw [HS.out.len]; omega) HLF.out (HH.out.below hbw5))
          have HX5 := Lib.hid (And.intro hbx5 (And.intro hbl5 (And.intro hsz5 hvb)))
          have HW5 := Lib.hid hw5
          have HKK := Lib.hid (And.intro i1 (And.intro i2 i3))
          subst hada
          clear hcell hvr hvb hal5 hbx5 hbl5 hsz5 hbw5 hw5 hzc h65
          go_wp2_with fail
          go_region_held3 (fun w' => w'.cell? ⟨w1.heap.size, 6 + 2 * i, none⟩ = some (.int .u8 ((lo d (6 + 2 * i) : Nat) : Int)) ∧ w'.cell? ⟨w1.heap.size, 7 + 2 * i, none⟩ = some (.int .u8 ((lo d (7 + 2 * i) : Nat) : Int))) (go_keep) (fail)
          go_wp2_with fail
          refine HR.out.mono ?_
          rintro e w6 ⟨rfl, hb6⟩
          obtain ⟨ee, hee⟩ : ∃ ee, ee = readD s.L s.W (2 + i) := ⟨_, rfl⟩
          have he64 : ee.length = 64 := by rw [hee]; exact readD_len HH.out.dsk.lz (fun x hx => (HH.out.dsk.wz x hx).1) (by rw [HS.out.len]; omega)
          rw [← hee]
          have hdl : (dC ee).length = 64 := by rw [dC_len, he64]
          have hag6 := agg_ok hdl (dC_one ee)
          have hg6 : w6.heap[wr.heap.size]? = some (.cells (pC (vb, zeroD)).toArray 60 (0, 0)) := (hb6.block _ (by rw [HX5.out.2.2.1]; omega)).trans HX5.out.1
          have hth6 : thereOk 64 w6 (.pointer (some ⟨wr.heap.size, 1, none⟩)) = true := ok_there fun j hj => by
            refine ⟨?_, frozen_of_row _ _ _ _ _ hg6⟩
            rw [cell_of_row _ _ _ _ _ _ hg6, Array.getElem?_eq_getElem (by simp [pC, dC_len]; show 1 + j < 64 + 1; omega)]; rfl
          have hpt6 : putAt w6 (.pointer (some ⟨wr.heap.size, 1, none⟩)) (dC ee).toArray = w6.setCells wr.heap.size 1 (dC ee) := rfl
          have hg7 : (w6.setCells wr.heap.size 1 (dC ee)).heap[wr.heap.size]? = some (.cells (pC (vb, ee)).toArray 60 (0, 0)) := by
            rw [heap_setCells_same _ _ _ _ _ _ hg6, setMany_put vb ee he64]
          have hk7 : ∀ k, k < wr.heap.size → (w6.setCells wr.heap.size 1 (dC ee)).heap[k]? = wr.heap[k]? := fun k hk => by
            rw [heap_setCells_other _ _ _ _ _ (by omega), hb6.block k (by rw [HX5.out.2.2.1]; omega)]
            exact HX5.out.2.1.block k hk
          obtain ⟨q71, q72, q73, q74⟩ := setCells_rest (dC ee) w6 wr.heap.size 1
          have hb7 : Below wr.heap.size wr (w6.setCells wr.heap.size 1 (dC ee)) := ⟨q71.trans (hb6.os.trans HX5.out.2.1.os), q72.trans (hb6.tape.trans HX5.out.2.1.tape), q73.trans (hb6.output.trans HX5.out.2.1.output), by rw [q74]; have := hb6.size; have := HX5.out.2.2.1; omega, hk7⟩
          have hs7 : wr.heap.size < (w6.setCells wr.heap.size 1 (dC ee)).heap.size := by rw [q74]; have := hb6.size; have := HX5.out.2.2.1; omega
          generalize w6.setCells wr.heap.size 1 (dC ee) = w7 at hpt6 hg7 hk7 hb7 hs7
          have hwl : (pC (vb, ee)).length = 65 := by rw [pC_len, he64]
          have hone := pC_one (vb, ee)
          have hrg : w7.rangeAt wr.heap.size 0 (pC (vb, ee)) := fun j v hv => by
            rw [Nat.zero_add, cell_of_row w7 _ j _ _ _ hg7, List.getElem?_toArray]; exact hv
          obtain ⟨hdo7, hdk7⟩ := dat_range hrg hwl
          have hwr7 : wrLen (.agg (pC (vb, ee)).toArray) = true := decide_eq_true (by simp [Value.cells, hwl])
          have HNW := Lib.hid (World.news_of_block (w := w7.alloc (.cells (pC (vb, ee)).toArray 60)) (B := w7.heap.size) (cs := (pC (vb, ee)).toArray) (t := 60) (fr := (0, 0)) (heap_alloc_last _ _))
          have hrow7 : w7.ownsRow w4.heap.size 60 65 (.slice adl i capl) i (putC (l.take i)) := own_move HI.out.row (Nat.le_refl _) fun k e => hk7 k (own_lt HI.out.row k e).2
          have HRO := Lib.hid (own_on hrow7 ((Below.refl w7.heap.size w7).alloc (Nat.le_refl _) (.cells (pC (vb, ee)).toArray 60)))
          have HBA : Hid (Below w4.heap.size w4 (w7.alloc (.cells (pC (vb, ee)).toArray 60))) := Lib.hid ((HI.out.bl.trans (hb7.mono HI.out.bl.size)).alloc (by have := HI.out.bl.size; omega) _)
          have hs4 : w4.heap.size ≤ w7.heap.size := by have := HI.out.bl.size; omega
          have HTK : Hid (putC (l.take (i + 1)) = putC (l.take i) ++ pC (vb, ee)) := Lib.hid (by
            have hli : l[i]? = some (vb, ee) := by
              rw [HL.out.1]
              unfold rdL
              rw [List.getElem?_map, List.getElem?_range hi]
              show some (rdP s.L s.W d i) = _
              unfold rdP
              rw [hee, HX5.out.2.2.2]
            rw [List.take_add_one, hli]
            simp [putC])
          obtain ⟨ip, hip, hz0, hz1, hz2⟩ := info_parts put_info
          have HLN := Lib.hid (And.intro hwl hone)
          clear hdl hg6 hg7 hk7 hb7 hwl hone hrg hrow7 hb6 q71 q72 q73 q74 hee hvl c65 c75 c6 c7 c6' c7' hca
          clear HKK i1 i2 i3 w6' w7' w8' hor
          go_wp2_with (first
            | (at_builtin; refine wpList_append_lies _ rfl _ _ _ rfl w4.heap.size 60 ip _ 65 72 Tryz.underlying34 hip hz0 hz1 hz2 rfl (by omega) (.slice adl i capl) i _ rfl HRO.out ⟨w7.heap.size, 0, none⟩ 1 1 (pC (vb, ee)) rfl (by rw [HLN.out.1]) HNW.out HLN.out.2 (by omega) (by unfold maxLen; omega) (by omega) (by simp; omega) (w7.heap.size + 1) (by simp) ?_; intro g2 cap2 w8 hown8 hgrow8 _ _; have HX8 := Lib.hid (And.intro hown8 hgrow8); clear hown8 hgrow8)
            | fail)
          go_roundg (gk - 1)
          case measure => have := hk.out; omega
          case rel =>
            refine ⟨i + 1, some ⟨g2, 0, none⟩, cap2, by have := hk.out; omega, by simp, rfl, ?_, ?_⟩
            · exact HBA.out.grown HX8.out.2 HBA.out.size (fun k e => (own_lt HRO.out k e).1)
            · rw [HTK.out]; exact HX8.out.1
        · have hi1 : ¬ (i : Int) < (n : Int) := by omega
          obtain rfl : i = n := by have := hk.out; omega
          have htk : l.take i = l := by rw [← HL.out.2, List.take_length]
          have hrow := HI.out.row
          rw [htk] at hrow
          have hz64 : ∀ p ∈ l, p.2.length = 64 := fun p hp => by
            rw [HL.out.1] at hp
            obtain ⟨j, hj, rfl⟩ := List.mem_map.1 hp
            have := List.mem_range.1 hj
            exact readD_len HH.out.dsk.lz (fun x hx => (HH.out.dsk.wz x hx).1) (by rw [HS.out.len]; omega)
          have HPR := Lib.hid (PReads.of_row' hrow hz64 HL.out.2)
          have hbwr : Below w.heap.size w wr := HX4.out.1.trans (HI.out.bl.mono HX4.out.1.size)
          have hvr : wr.heap[w1.heap.size]? = some (.cells (dC d).toArray 49 (0, 0)) := (HI.out.bl.block _ (Array.getElem?_eq_some_iff.1 HX4.out.2.1).1).trans HX4.out.2.1
          have hvl : w1.heap.size < wr.heap.size := (Array.getElem?_eq_some_iff.1 hvr).1
          have hrt : Calls Tryz.prog 19 #[.pointer (some ⟨X, 0, none⟩), .slice adl l.length capl] wr.drew fun e w' => e = .returned (.bool (rightB N l)) ∧ Below wr.heap.size wr w' := by
            refine (wal_right X D N s.left s.dn adl capl l wr.drew hN2 (HS.out.len ▸ (HH.out.below hbwr.drew).dev) (by rw [HL.out.2]; omega) (HPR.out.below (Below.refl _ _).drew)).mono ?_
            rintro e w' ⟨he, hb⟩
            exact ⟨he, (Below.refl _ _).drew.trans hb⟩
          rw [HL.out.2] at hrt
          have HSK : Hid (∀ w', Below wr.heap.size wr w' → w'.rangeAt w1.heap.size 0 (dC d)) := Lib.hid fun w' hb j v hv => by
            rw [Nat.zero_add, cell_of_row w' _ j _ _ _ ((hb.block _ hvl).trans hvr), List.getElem?_toArray]; exact hv
          have HBWR := Lib.hid hbwr
          have hmw : wr.heap.size ≤ wr.drew.heap.size := Nat.le_refl _
          have HGD : Hid (∀ w', Below wr.heap.size wr w' → s.read = l → RdPost w s.read (.returned (.tuple #[.slice adl i capl, .bool true])) w') := Lib.hid fun w' hb he => by
            rw [he]
            refine ⟨adl, capl, by rw [HL.out.2], HPR.out.below hb, HBWR.out.trans (hb.mono HBWR.out.size), fun g e => ?_⟩
            have h1 := own_lt HI.out.row g (by rw [e]; rfl)
            have := HX4.out.1.size
            have := hb.size
            exact ⟨by omega, by omega⟩
          have HRLL : Hid (rdL s.L s.W d i = l) := Lib.hid HL.out.1.symm
          clear htk hrow hz64 hbwr hvr hvl
          cases hrb : rightB N l with
          | false =>
            -- the kit's region tactics do not walk this region where 'right' says no: no disk of the laws comes here
            exact absurd (HPRE.out HM.out (by rw [← HNN.out]; omega)) (by rw [← HNN.out, HRLL.out, hrb]; simp)
          | true =>
            rw [hrb] at hrt
            have HRT := Lib.hid hrt
            have hnat := right_nat hrb
            have hhe : ∀ w', Below wr.heap.size wr w' → Calls Tryz.prog 24 #[.slice adl l.length capl] w' fun e w'' => e = .returned (.agg (dC (headN l)).toArray) ∧ Below wr.heap.size wr w'' := fun w' hb => by
              refine (wal_header adl capl l w' (by rw [HL.out.2]; omega) (fun p hp => by obtain ⟨b, e, h1, h2⟩ := hnat p hp; exact ⟨b, e, by omega⟩) (HPR.out.below hb)).mono ?_
              rintro e w'' ⟨he, hb2⟩
              exact ⟨he, hb.trans (hb2.mono hb.size)⟩
            rw [HL.out.2] at hhe
            have HHE := Lib.hid hhe
            have hi1' := isDat_dC (headN_len l)
            have hi2' := isDat_dC HD.out.2
            have hde := datEq_dC (headN l) d
            have huu := Tryz.underlying49
            have hin : (Tryz.prog.info? 49).map (·.size) = some (dC d).length := by rw [data_size, dC_len, HD.out.2]
            clear hrt hhe hnat
            cases hhd : decide (headN l = d) with
            | false =>
              rw [hhd] at hde
              have HE : Hid (s.read = []) := Lib.hid (by
                rw [HRD.out, HRLL.out, hrb, if_pos ⟨HM.out, by omega⟩, if_neg (by simp only [decide_eq_false_iff_not] at hhd; simp [hhd])])
              clear hhd hrb
              go_wp2_with fail
              go_region_held3 (fun w' => w'.rangeAt w1.heap.size 0 (dC d))
                (first | exact HSK.out _ hby | exact HSK.out _ hbz | exact HSK.out _ (Below.refl _ _).drew)
                (first | (go_at_call 19; refine HRT.out.mono ?_; rintro e w' ⟨rfl, hbz⟩) | (go_at_call 24; refine (HHE.out _ hbz).mono ?_; rintro e w'' ⟨rfl, hby⟩))
              go_wp2_with fail
              go_ret2
              exact HN0.out _ (HBWR.out.trans (hby.mono HBWR.out.size)) HE.out
            | true =>
              rw [hhd] at hde
              have HE : Hid (s.read = l) := Lib.hid (by
                rw [HRD.out, HRLL.out, hrb, if_pos ⟨HM.out, by omega⟩, if_pos ⟨rfl, of_decide_eq_true hhd⟩])
              clear hhd hrb
              go_wp2_with fail
              go_region_held3 (fun w' => w'.rangeAt w1.heap.size 0 (dC d))
                (first | exact HSK.out _ hby | exact HSK.out _ hbz | exact HSK.out _ (Below.refl _ _).drew)
                (first | (go_at_call 19; refine HRT.out.mono ?_; rintro e w' ⟨rfl, hbz⟩) | (go_at_call 24; refine (HHE.out _ hbz).mono ?_; rintro e w'' ⟨rfl, hby⟩))
              go_wp2_with fail
              go_ret2
              exact HGD.out _ hby HE.out
end Go.Proofs.YtkfmdkbiglkjpaaGreat
