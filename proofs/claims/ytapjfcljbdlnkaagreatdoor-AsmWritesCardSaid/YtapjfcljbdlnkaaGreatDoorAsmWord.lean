/- (*asm.reader).word: a line's word. -/
import Derived.Test.YtapjfcljbdlnkaaGreatDoorAsmWordL
import Derived.Deep.RegionHeld3
import Derived.StillTailTactics
namespace Go.Proofs.YtapjfcljbdlnkaaGreatDoor
open Go Go.RowKit Go.Lib
set_option maxRecDepth 100000

theorem seq_mid_p {P : Program} {Q : Exit → Act → World → Prop} {a : Act} {w : World} {x y : Code} (M : Act → World → Prop) (h1 : x.wp P (Exit.then M Q) a w) (h2 : ∀ a w, M a w → y.wp P Q a w) : (Code.seq x y).wp P Q a w :=
  wp_seq (wp_mono h1 fun e a w h => by
    cases e with
    | normal => exact h2 a w h
    | _ => exact h)
def zget (a : Act) (i : Nat) : Value := a.tmps.toList.getD i undef
def ActIs (a : Act) (A : (Nat → Value) → Act) : Prop := ∃ z, a = A z
theorem mid_z {A : (Nat → Value) → Act} {a : Act} (h : a = A (zget a)) : ActIs a A := ⟨_, h⟩
theorem below_step {n : Nat} {w W W' : World} (h : Below n w W) (hn : n ≤ w.heap.size) (hb : Below W.heap.size W W') : Below n w W' := h.trans (hb.mono (Nat.le_trans hn h.size))

set_option maxHeartbeats 12800000 in
theorem word_any (b m lo here g off cap : Nat) (labs : List (List UInt8 × Nat)) (lines : List (List (List UInt8) × Nat)) (ps : List (List UInt8)) (w : World) (he : Errs w) (hr : RdAt w lo b m labs lines) (ht : TabS w b)
    (hp : PartsIn w lo (.slice (some ⟨g, off, none⟩) ps.length cap) ps) (hpl : ∀ p ∈ ps, p.length ≤ 100000) (hpn : ps.length ≤ 200000) (hlv : ∀ s v, look labs s = some v → v ≤ 200000) (hh : here ≤ 200000) :
    Calls Tryz.prog 13 #[.pointer (some ⟨b, 0, none⟩), .slice (some ⟨g, off, none⟩) ps.length cap, .int .i64 (here : Int)] w (WordPost b (wordP labs here ps) w) := by
  obtain ⟨p, rest0, rfl⟩ : ∃ p rest0, ps = p :: rest0 := by
    obtain ⟨_, _, _, _, _, _, hne, _⟩ := hp
    cases ps with
    | nil => exact absurd rfl hne
    | cons p l => exact ⟨p, l, rfl⟩
  obtain ⟨ps, hps⟩ : ∃ ps, ps = p :: rest0 := ⟨_, rfl⟩
  rw [← hps] at hp hpl hpn ⊢
  obtain ⟨g', off', cap', hsl, hc1, hc2, hne, hlo, hcs, hcell⟩ := hp
  obtain ⟨rfl, rfl, rfl⟩ : g = g' ∧ off = off' ∧ cap = cap' := by cases hsl; exact ⟨rfl, rfl, rfl⟩
  have d0 := hcell 0 p (by rw [hps]; rfl)
  simp only [Nat.add_zero] at d0
  have hpp : p.length ≤ 100000 := hpl p (by rw [hps]; simp)
  have hn2 : 1 ≤ ps.length := by rw [hps]; simp
  obtain ⟨N, hN⟩ : ∃ N, N = ps.length := ⟨_, rfl⟩
  rw [← hN] at hc1 hn2 hpn ⊢
  have hn1 : (1 : Int) ≤ (N : Int) := by omega
  have hn3 : 0 < N := by omega
  have hn4 : (0 : Int) < (N : Int) := by omega
  have HNN := Lib.hid hN
  have HE := Lib.hid he
  have HR := Lib.hid hr
  have HTB := Lib.hid ht
  have HC := Lib.hid hcell
  have HCS := Lib.hid hcs
  have HPS := Lib.hid hps
  have HPL := Lib.hid hpl
  have HLV := Lib.hid hlv
  have hTp := bs_list p
  have hsz := bs_size p
  have hbl := ht.lt
  clear he hr ht hcell hcs hpl hlv hsl hne hps hN
  go_enter Tryz.func13, Tryz.ntmps13
  refine seq_mid_p (fun a' w' => a' = { tmps := (.pointer (some ⟨b, 0, none⟩) :: .slice (some ⟨g, off, none⟩) N cap :: .int .i64 (here : Int) :: undef :: undef :: undef :: .int .u32 0 :: .bool false :: undef :: undef :: undef :: undef :: undef :: undef :: undef :: undef :: undef :: undef :: undef :: undef :: undef :: undef :: undef :: undef :: undef :: undef :: undef :: undef :: undef :: undef :: undef :: undef :: undef :: undef :: undef :: undef :: undef :: undef :: undef :: undef :: undef :: undef :: undef :: undef :: undef :: undef :: undef :: undef :: undef :: undef :: undef :: undef :: undef :: undef :: undef :: undef :: undef :: undef :: undef :: undef :: undef :: undef :: undef :: undef :: undef :: undef :: undef :: undef :: undef :: undef :: undef :: undef :: undef :: undef :: undef :: undef :: undef :: undef :: undef :: undef :: undef :: undef :: undef :: undef :: undef :: undef :: undef :: undef :: undef :: undef :: undef :: undef :: undef :: undef :: undef :: undef :: undef :: undef :: undef :: undef :: undef :: undef :: undef :: undef :: undef :: undef :: undef :: undef :: undef :: undef :: undef :: undef :: undef :: undef :: undef :: undef :: undef :: undef :: undef :: undef :: undef :: undef :: undef :: undef :: undef :: undef :: undef :: undef :: undef :: undef :: undef :: undef :: undef :: undef :: undef :: undef :: undef :: undef :: undef :: undef :: undef :: undef :: undef :: undef :: undef :: undef :: undef :: undef :: []).toArray, defers := [] } ∧ w' = w) ?_ ?_
  · go_wp2_with fail
    exact ⟨trivial, trivial⟩
  rintro a' w' ⟨rfl, hw'⟩
  rw [hw']
  clear hw' w'
  refine seq_mid_p (fun a' w' => ActIs a' (fun z => { tmps := (.pointer (some ⟨b, 0, none⟩) :: .slice (some ⟨g, off, none⟩) N cap :: .int .i64 (here : Int) :: undef :: undef :: undef :: .int .u32 0 :: .bool false :: undef :: undef :: undef :: undef :: undef :: undef :: undef :: undef :: undef :: undef :: (z 18) :: (z 19) :: (z 20) :: (z 21) :: (z 22) :: (z 23) :: (z 24) :: (z 25) :: (z 26) :: undef :: undef :: undef :: undef :: undef :: undef :: undef :: undef :: undef :: undef :: undef :: undef :: undef :: undef :: undef :: undef :: undef :: undef :: undef :: undef :: undef :: undef :: undef :: undef :: undef :: undef :: undef :: undef :: undef :: undef :: undef :: undef :: undef :: undef :: undef :: undef :: undef :: undef :: undef :: undef :: undef :: undef :: undef :: undef :: undef :: undef :: undef :: undef :: undef :: undef :: undef :: undef :: undef :: undef :: undef :: undef :: undef :: undef :: undef :: undef :: undef :: undef :: undef :: undef :: undef :: undef :: undef :: undef :: undef :: undef :: undef :: undef :: undef :: undef :: undef :: undef :: undef :: undef :: undef :: undef :: undef :: undef :: undef :: undef :: undef :: undef :: undef :: undef :: undef :: undef :: undef :: undef :: undef :: undef :: undef :: undef :: undef :: undef :: undef :: undef :: undef :: undef :: undef :: undef :: undef :: undef :: undef :: undef :: undef :: undef :: undef :: undef :: undef :: undef :: undef :: undef :: undef :: undef :: undef :: undef :: undef :: []).toArray, defers := [] }) ∧ w' = w ∧ wordP labs here ps = wordEnd labs here (opOf p) (regsGo (regsP (opOf p)) rest0).1 (regsGo (regsP (opOf p)) rest0).2) ?_ ?_
  · by_cases hw : p = wordName
    · have hnw : (p == [119, 111, 114, 100]) = true := by rw [hw]; rfl
      by_cases hl2 : N = 2
      · have k2 : ((N : Int) == 2) = true := beq_iff_eq.2 (by omega)
        have k3 : (1 : Int) < (N : Int) := by omega
        have k4 : 1 < N := by omega
        obtain ⟨x, hx⟩ : ∃ x, rest0 = [x] := by
          have := HPS.out
          rw [HNN.out, this] at hl2
          exact List.length_eq_one_iff.1 (by simpa using hl2)
        have d1 := HC.out 1 x (by rw [HPS.out, hx]; rfl)
        have HN := Lib.hid (number_any x (HPL.out x (by rw [HPS.out, hx]; simp)) w HE.out)
        have HW : Hid (wordP labs here ps = wordNum x) := Lib.hid (by rw [HPS.out, hx, hw]; simp [wordP])
        have HW2 : Hid (wordNum x = if (numP x).2 && (decide (0 ≤ (numP x).1) && decide ((numP x).1 < 4294967296)) then some (numP x).1 else none) := Lib.hid rfl
        rcases hnb : numP x with ⟨nv, nb⟩
        rw [hnb] at HN HW2
        simp only at HN HW2
        clear hw hl2 hx hnb
        have hq : (nb = false ∧ wordNum x = none) ∨ (nb = true ∧ ¬ 0 ≤ nv ∧ wordNum x = none) ∨ (nb = true ∧ 0 ≤ nv ∧ nv < 4294967296 ∧ wordNum x = some nv) ∨ (nb = true ∧ 0 ≤ nv ∧ ¬ nv < 4294967296 ∧ wordNum x = none) := by
          rw [HW2.out]
          cases nb
          · left; simp
          · right
            by_cases h0 : 0 ≤ nv
            · right
              by_cases h1 : nv < 4294967296
              · left; exact ⟨rfl, h0, h1, by rw [decide_eq_true h0, decide_eq_true h1]; rfl⟩
              · right; exact ⟨rfl, h0, h1, by rw [decide_eq_false h1]; simp⟩
            · left; exact ⟨rfl, h0, by rw [decide_eq_false h0]; simp⟩
        have HQ := Lib.hid hq
        clear hq HW2
        go_wp2_with fail
        refine HN.out.mono ?_
        rintro e w1 ⟨rfl, hb⟩
        have HB := Lib.hid hb
        clear hb
        rcases HQ.out with ⟨rfl, h⟩ | ⟨rfl, k5, h⟩ | ⟨rfl, k5, k6, h⟩ | ⟨rfl, k5, k6, h⟩
        all_goals
          have HH := Lib.hid h
          clear h
          go_wp2_with fail
          go_ret2
          rw [HW.out, HH.out]
          first
            | exact ⟨⟨_, rfl, fun y hy => by cases hy <;> rfl⟩, Step28.of_below HB.out hbl, HTB.out.on (HB.out.block _ hbl)⟩
            | (have k7 : decide (nv < 4294967296) = false := decide_eq_false (by omega)
               simp only [k7]
               exact ⟨⟨_, rfl, fun y hy => by cases hy⟩, Step28.of_below HB.out hbl, HTB.out.on (HB.out.block _ hbl)⟩)
      · have k2 : ((N : Int) == 2) = false := beq_eq_false_iff_ne.2 (by omega)
        have HW : Hid (wordP labs here ps = wordEnd labs here (opOf p) (regsGo (regsP (opOf p)) rest0).1 (regsGo (regsP (opOf p)) rest0).2) := Lib.hid (by
          rw [HPS.out]
          exact wordP_else _ _ (fun h => hl2 (by rw [HNN.out, HPS.out]; simp [h.2])))
        clear hw hl2
        go_wp2_with fail
        exact ⟨mid_z rfl, trivial, HW.out⟩
    · have hnw : (p == [119, 111, 114, 100]) = false := beq_eq_false_iff_ne.2 hw
      have HW : Hid (wordP labs here ps = wordEnd labs here (opOf p) (regsGo (regsP (opOf p)) rest0).1 (regsGo (regsP (opOf p)) rest0).2) := Lib.hid (by
        rw [HPS.out]
        exact wordP_else _ _ (fun h => hw h.1))
      clear hw
      go_wp2_with fail
      exact ⟨mid_z rfl, trivial, HW.out⟩
  rintro a' w' ⟨⟨z, rfl⟩, hw', hww⟩
  rw [hw']
  clear hw' w'
  have HWW := Lib.hid hww
  have HD0 : Hid (∀ W, Below w.heap.size w W → W.cell? ⟨g, off, none⟩ = some (.string (bs p)) ∧ Below w.heap.size w W) := Lib.hid fun W hb => ⟨(hb.cell (World.block_lt_of_cell? _ _ (HC.out 0 p (by rw [HPS.out]; rfl)))).trans d0, hb⟩
  clear hww
  refine seq_mid_p (fun a' w' => a' = { tmps := (.pointer (some ⟨b, 0, none⟩) :: .slice (some ⟨g, off, none⟩) N cap :: .int .i64 (here : Int) :: undef :: undef :: undef :: .int .u32 0 :: .bool false :: undef :: undef :: .int .i64 24 :: undef :: undef :: undef :: undef :: undef :: undef :: undef :: (z 18) :: (z 19) :: (z 20) :: (z 21) :: (z 22) :: (z 23) :: (z 24) :: (z 25) :: (z 26) :: undef :: undef :: undef :: undef :: undef :: undef :: undef :: undef :: undef :: undef :: undef :: undef :: undef :: undef :: undef :: undef :: undef :: undef :: undef :: undef :: undef :: undef :: undef :: undef :: undef :: undef :: undef :: undef :: undef :: undef :: undef :: undef :: undef :: undef :: undef :: undef :: undef :: undef :: undef :: undef :: undef :: undef :: undef :: undef :: undef :: undef :: undef :: undef :: undef :: undef :: undef :: undef :: undef :: undef :: undef :: undef :: undef :: undef :: undef :: undef :: undef :: undef :: undef :: undef :: undef :: undef :: undef :: undef :: undef :: undef :: undef :: undef :: undef :: undef :: undef :: undef :: undef :: undef :: undef :: undef :: undef :: undef :: undef :: undef :: undef :: undef :: undef :: undef :: undef :: undef :: undef :: undef :: undef :: undef :: undef :: undef :: undef :: undef :: undef :: undef :: undef :: undef :: undef :: undef :: undef :: undef :: undef :: undef :: undef :: undef :: undef :: undef :: undef :: undef :: undef :: undef :: undef :: undef :: undef :: undef :: undef :: []).toArray, defers := [] } ∧ w' = w) ?_ ?_
  · go_wp2_with fail
    exact ⟨trivial, trivial⟩
  rintro a' w' ⟨rfl, hw'⟩
  rw [hw']
  clear hw' w'
  refine seq_mid_p (fun a' W => ActIs a' (fun z => { tmps := (.pointer (some ⟨b, 0, none⟩) :: .slice (some ⟨g, off, none⟩) N cap :: .int .i64 (here : Int) :: undef :: undef :: undef :: .int .u32 0 :: .bool false :: undef :: undef :: .int .i64 (opOf p : Int) :: undef :: undef :: undef :: undef :: undef :: undef :: undef :: (z 18) :: (z 19) :: (z 20) :: (z 21) :: (z 22) :: (z 23) :: (z 24) :: (z 25) :: (z 26) :: undef :: undef :: undef :: undef :: undef :: undef :: undef :: undef :: undef :: undef :: undef :: undef :: undef :: undef :: undef :: undef :: undef :: undef :: (z 45) :: (z 46) :: (z 47) :: (z 48) :: (z 49) :: (z 50) :: (z 51) :: (z 52) :: (z 53) :: (z 54) :: (z 55) :: (z 56) :: undef :: undef :: undef :: undef :: undef :: undef :: undef :: undef :: undef :: undef :: undef :: undef :: undef :: undef :: undef :: undef :: undef :: undef :: undef :: undef :: undef :: undef :: undef :: undef :: undef :: undef :: undef :: undef :: undef :: undef :: undef :: undef :: undef :: undef :: undef :: undef :: undef :: undef :: undef :: undef :: undef :: undef :: undef :: undef :: undef :: undef :: undef :: undef :: undef :: undef :: undef :: undef :: undef :: undef :: undef :: undef :: undef :: undef :: undef :: undef :: undef :: undef :: undef :: undef :: undef :: undef :: undef :: undef :: undef :: undef :: undef :: undef :: undef :: undef :: undef :: undef :: undef :: undef :: undef :: undef :: undef :: undef :: undef :: undef :: undef :: undef :: undef :: undef :: undef :: undef :: undef :: []).toArray, defers := [] }) ∧ Below w.heap.size w W) ?_ ?_
  · go_wp2_with fail
    go_loopg [10] 24 (fun k c wr => c = .int .i64 (k : Int) ∧ k ≤ 24 ∧ opGo p k = opOf p ∧ Below w.heap.size w wr)
    case atStart => exact ⟨rfl, Nat.le_refl _, rfl, Below.refl _ _⟩
    case round =>
      obtain ⟨rfl, h24, hop, hb⟩ := hrel
      have HB := Lib.hid hb
      obtain ⟨dr, -⟩ := HD0.out _ hb
      clear hb
      cases gk with
      | zero =>
        have HOP : Hid (opOf p = 0) := Lib.hid (by rw [← hop]; rfl)
        clear hop
        go_wp2_with fail
        go_region
        go_wp2_with fail
        rw [HOP.out]
        exact ⟨mid_z rfl, HB.out.drew⟩
      | succ n =>
        have hNM := fun w => op_name (n + 1) (by omega) h24 w
        obtain ⟨nm, hnm⟩ : ∃ nm, nm = opAt (n + 1) := ⟨_, rfl⟩
        rw [← hnm] at hNM
        have HNM := Lib.hid hNM
        have hTn := bs_list nm
        have c1 : (0 : Int) < ((n + 1 : Nat) : Int) := by omega
        have wr2 : IntKind.i64.wrap (((n + 1 : Nat) : Int) - 1) = (n : Int) := by rw [IntKind.wrap_i64] <;> omega
        clear hNM
        by_cases hq : nm = p
        · have HOP : Hid (opOf p = n + 1) := Lib.hid (by rw [← hop]; unfold opGo; rw [if_pos (by rw [← hnm, hq])])
          have e1 : (nm == p) = true := by simpa using hq
          have e2 : (nm != p) = false := by simpa using hq
          clear hop hnm hq
          go_wp2_with fail
          go_region_held3 (fun w' => w'.cell? ⟨g, off, none⟩ = some (.string (bs p)) ∧ Below w.heap.size w w')
            (first | exact HD0.out _ HB.out.drew | (go_split_ands; exact HD0.out _ (below_step (by assumption) (Nat.le_refl _) hb)))
            (first | (go_at_call 21; refine (HNM.out _).mono ?_; rintro e w' ⟨rfl, hb⟩))
          go_split_ands
          rename Below w.heap.size w _ => hbw
          have HBW := Lib.hid hbw
          clear hbw
          go_wp2_with fail
          rw [HOP.out]
          exact ⟨mid_z rfl, HBW.out⟩
        · have HOP : Hid (opGo p n = opOf p) := Lib.hid (by rw [← hop]; conv => rhs; unfold opGo; rw [if_neg (fun e => hq (hnm.trans e))])
          have e1 : (nm == p) = false := by simpa using hq
          have e2 : (nm != p) = true := by simpa using hq
          clear hop hnm hq
          go_wp2_with fail
          go_region_held3 (fun w' => w'.cell? ⟨g, off, none⟩ = some (.string (bs p)) ∧ Below w.heap.size w w')
            (first | exact HD0.out _ HB.out.drew | (go_split_ands; exact HD0.out _ (below_step (by assumption) (Nat.le_refl _) hb)))
            (first | (go_at_call 21; refine (HNM.out _).mono ?_; rintro e w' ⟨rfl, hb⟩))
          go_split_ands
          rename Below w.heap.size w _ => hbw
          have HBW := Lib.hid hbw
          clear hbw
          go_wp2_with fail
          go_roundg n
          case measure => omega
          case rel => exact ⟨rfl, by omega, HOP.out, HBW.out⟩
  rintro a' W ⟨⟨z, rfl⟩, hbW⟩
  obtain ⟨op, hop⟩ : ∃ op, op = opOf p := ⟨_, rfl⟩
  have hop24 : op ≤ 24 := by rw [hop]; exact opGo_le p 24
  rw [← hop] at HWW ⊢
  have HBW := Lib.hid hbW
  have HZ := Lib.hid hbW.size
  clear hop hbW
  have hpin : PartsIn W lo (.slice (some ⟨g, off, none⟩) N cap) ps := by
    rw [HNN.out]
    obtain ⟨cs, hcs⟩ := HCS.out
    have hgl := (Array.getElem?_eq_some_iff.1 hcs).1
    rw [HNN.out] at hc1
    exact ⟨g, off, cap, rfl, hc1, hc2, by rw [HPS.out]; simp, hlo, ⟨cs, (HBW.out.block g hgl).trans hcs⟩, fun j x hx => (HBW.out.cell (World.block_lt_of_cell? _ _ (HC.out j x hx))).trans (HC.out j x hx)⟩
  refine seq_mid_p (fun a' w' => a' = { tmps := (.pointer (some ⟨b, 0, none⟩) :: .slice (some ⟨g, off, none⟩) N cap :: .int .i64 (here : Int) :: undef :: undef :: undef :: .int .u32 0 :: .bool false :: undef :: undef :: .int .i64 (op : Int) :: .slice none 0 0 :: undef :: undef :: undef :: undef :: undef :: undef :: (z 18) :: (z 19) :: (z 20) :: (z 21) :: (z 22) :: (z 23) :: (z 24) :: (z 25) :: (z 26) :: undef :: undef :: undef :: undef :: undef :: undef :: undef :: undef :: undef :: undef :: undef :: undef :: undef :: undef :: undef :: undef :: undef :: undef :: (z 45) :: (z 46) :: (z 47) :: (z 48) :: (z 49) :: (z 50) :: (z 51) :: (z 52) :: (z 53) :: (z 54) :: (z 55) :: (z 56) :: undef :: undef :: undef :: undef :: undef :: undef :: undef :: undef :: undef :: undef :: undef :: undef :: undef :: undef :: undef :: undef :: undef :: undef :: undef :: undef :: undef :: undef :: undef :: undef :: undef :: undef :: undef :: undef :: undef :: undef :: undef :: undef :: undef :: undef :: undef :: undef :: undef :: undef :: undef :: undef :: undef :: undef :: undef :: undef :: undef :: undef :: undef :: undef :: undef :: undef :: undef :: undef :: undef :: undef :: undef :: undef :: undef :: undef :: undef :: undef :: undef :: undef :: undef :: undef :: undef :: undef :: undef :: undef :: undef :: undef :: undef :: undef :: undef :: undef :: undef :: undef :: undef :: undef :: undef :: undef :: undef :: undef :: undef :: undef :: undef :: undef :: undef :: undef :: undef :: undef :: undef :: []).toArray, defers := [] } ∧ w' = W) ?_ ?_
  · go_wp2_with fail
    exact ⟨trivial, trivial⟩
  rintro a' w' ⟨rfl, hw'⟩
  rw [hw']
  clear hw' w'
  obtain ⟨B, hB⟩ : ∃ B, B = W.heap.size := ⟨_, rfl⟩
  obtain ⟨W1, hW1⟩ : ∃ W1, W1 = W.alloc (.cells #[.int .i64 (op : Int), .int .i64 0, .int .i64 0, .int .i64 0] 74) := ⟨_, rfl⟩
  refine seq_mid_p (fun a' w' => ActIs a' (fun z => { tmps := (.pointer (some ⟨b, 0, none⟩) :: .slice (some ⟨g, off, none⟩) N cap :: .int .i64 (here : Int) :: undef :: undef :: undef :: .int .u32 0 :: .bool false :: undef :: undef :: .int .i64 (op : Int) :: .slice none 0 0 :: .pointer (some ⟨B, 0, none⟩) :: undef :: undef :: undef :: undef :: undef :: (z 18) :: (z 19) :: (z 20) :: (z 21) :: (z 22) :: (z 23) :: (z 24) :: (z 25) :: (z 26) :: undef :: undef :: undef :: undef :: undef :: undef :: undef :: undef :: undef :: undef :: undef :: undef :: undef :: undef :: undef :: undef :: undef :: undef :: (z 45) :: (z 46) :: (z 47) :: (z 48) :: (z 49) :: (z 50) :: (z 51) :: (z 52) :: (z 53) :: (z 54) :: (z 55) :: (z 56) :: (z 57) :: (z 58) :: undef :: undef :: undef :: undef :: undef :: undef :: undef :: undef :: undef :: undef :: undef :: undef :: undef :: undef :: undef :: undef :: undef :: undef :: undef :: undef :: undef :: undef :: undef :: undef :: undef :: undef :: undef :: undef :: undef :: undef :: undef :: undef :: undef :: undef :: undef :: undef :: undef :: undef :: undef :: undef :: undef :: undef :: undef :: undef :: undef :: undef :: undef :: undef :: undef :: undef :: undef :: undef :: undef :: undef :: undef :: undef :: undef :: undef :: undef :: undef :: undef :: undef :: undef :: undef :: undef :: undef :: undef :: undef :: undef :: undef :: undef :: undef :: undef :: undef :: undef :: undef :: undef :: undef :: undef :: undef :: undef :: undef :: undef :: undef :: undef :: undef :: undef :: undef :: undef :: []).toArray, defers := [] }) ∧ w' = W1) ?_ ?_
  · rw [hB, hW1]
    go_wp2_with fail
    exact ⟨mid_z rfl, trivial⟩
  rintro a' w' ⟨⟨z, rfl⟩, hw'⟩
  rw [hw']
  clear hw' w'
  have hW1s : W1.heap.size = B + 1 := by rw [hW1, hB]; simp
  have hbW1 : Below W.heap.size W W1 := by rw [hW1]; exact (Below.refl _ _).alloc (Nat.le_refl _) _
  have hIN : W1.heap[B]? = some (.cells #[.int .i64 (op : Int), .int .i64 0, .int .i64 0, .int .i64 0] 74 (0, 0)) := by rw [hW1, hB]; exact heap_alloc_new _ _
  have hpin1 : PartsIn W1 lo (.slice (some ⟨g, off, none⟩) N cap) ps := hpin.kept fun k cs _ hk => hbW1.block k (Array.getElem?_eq_some_iff.1 hk).1
  have HBW1 : Hid (Below w.heap.size w W1) := Lib.hid (HBW.out.trans (hbW1.mono HZ.out))
  have HIN := Lib.hid hIN
  have HPIN := Lib.hid hpin1
  have HB1 := Lib.hid hB
  clear hW1 hbW1 hIN hpin hpin1 hB
  refine seq_mid_p (fun a' w' => ∃ (ad : Option Addr) (c : Nat), ActIs a' (fun z => { tmps := (.pointer (some ⟨b, 0, none⟩) :: .slice (some ⟨g, off, none⟩) N cap :: .int .i64 (here : Int) :: undef :: undef :: undef :: .int .u32 0 :: .bool false :: undef :: undef :: .int .i64 (op : Int) :: .slice none 0 0 :: .pointer (some ⟨B, 0, none⟩) :: .slice ad rest0.length c :: undef :: undef :: undef :: undef :: (z 18) :: (z 19) :: (z 20) :: (z 21) :: (z 22) :: (z 23) :: (z 24) :: (z 25) :: (z 26) :: undef :: undef :: undef :: undef :: undef :: undef :: undef :: undef :: undef :: undef :: undef :: undef :: undef :: undef :: undef :: undef :: undef :: undef :: (z 45) :: (z 46) :: (z 47) :: (z 48) :: (z 49) :: (z 50) :: (z 51) :: (z 52) :: (z 53) :: (z 54) :: (z 55) :: (z 56) :: (z 57) :: (z 58) :: (z 59) :: (z 60) :: undef :: undef :: undef :: undef :: undef :: undef :: undef :: undef :: undef :: undef :: undef :: undef :: undef :: undef :: undef :: undef :: undef :: undef :: undef :: undef :: undef :: undef :: undef :: undef :: undef :: undef :: undef :: undef :: undef :: undef :: undef :: undef :: undef :: undef :: undef :: undef :: undef :: undef :: undef :: undef :: undef :: undef :: undef :: undef :: undef :: undef :: undef :: undef :: undef :: undef :: undef :: undef :: undef :: undef :: undef :: undef :: undef :: undef :: undef :: undef :: undef :: undef :: undef :: undef :: undef :: undef :: undef :: undef :: undef :: undef :: undef :: undef :: undef :: undef :: undef :: undef :: undef :: undef :: undef :: undef :: undef :: undef :: undef :: undef :: undef :: undef :: undef :: []).toArray, defers := [] }) ∧ w' = W1 ∧ (rest0 ≠ [] → PartsIn W1 lo (.slice ad rest0.length c) rest0)) ?_ ?_
  · have hca : (N : Int) ≤ (cap : Int) := by omega
    have HPT : Hid (∀ (ad : Option Addr) (c : Nat), (cap = 1 ∧ True) ∨ (ad = some ⟨g, off + 1, none⟩ ∧ c = cap - 1) → rest0 ≠ [] → PartsIn W1 lo (.slice ad rest0.length c) rest0) := Lib.hid fun ad c h hne => by
      obtain ⟨g', off', cap', hsl, q1, q2, q3, q4, q5, q6⟩ := HPIN.out
      have hNl : N = rest0.length + 1 := by rw [HNN.out, HPS.out]; simp
      have hr0 : 0 < rest0.length := List.length_pos_iff.2 hne
      have hq1 : ps.length ≤ cap' := q1
      have hcc : cap = cap' := by cases hsl; rfl
      have hgg : g = g' ∧ off = off' := by cases hsl; exact ⟨rfl, rfl⟩
      have hpl' : ps.length = N := HNN.out.symm
      rcases h with ⟨h1, _⟩ | ⟨rfl, rfl⟩
      · omega
      · obtain ⟨rfl, rfl⟩ := hgg
        subst hcc
        refine ⟨g, off + 1, cap - 1, rfl, by omega, by omega, hne, q4, q5, fun j x hx => ?_⟩
        have := q6 (j + 1) x (by rw [HPS.out]; simpa using hx)
        rwa [show off + 1 + j = off + (j + 1) by omega]
    have HNL : Hid (N - 1 = rest0.length) := Lib.hid (by rw [HNN.out, HPS.out]; simp)
    go_wp2_with fail
    · rename_i h
      exact ⟨some ⟨g, off, none⟩, 0, mid_z (by rw [← HNL.out]; first | done | rfl), HPT.out _ _ (.inl ⟨h, trivial⟩)⟩
    · exact ⟨some ⟨g, off + 1, none⟩, cap - 1, mid_z (by rw [← HNL.out]; first | done | rfl), HPT.out _ _ (.inr ⟨rfl, rfl⟩)⟩
  rintro a' w' ⟨ad0, c0, ⟨z, rfl⟩, hw', hr0⟩
  rw [hw']
  clear hw' w'
  have HR0 := Lib.hid hr0
  have HPL2 : Hid (∀ x ∈ rest0, x.length ≤ 100000) := Lib.hid fun x hx => HPL.out x (by rw [HPS.out]; simp [hx])
  have hrl : rest0.length ≤ 200000 := by have := HNN.out; rw [HPS.out] at this; simp at this; omega
  have hrp := regsP_le op
  obtain ⟨nr, hnr⟩ : ∃ nr, nr = regsP op := ⟨_, rfl⟩
  have HRG := Lib.hid (fun w => registers_ok op hop24 w)
  rw [← hnr] at HRG hrp HWW
  have HNR := Lib.hid hnr
  have HW1S := Lib.hid hW1s
  obtain ⟨i1, hi1, hz0, hz1, hz2⟩ := info_parts int_info
  clear hr0 hnr hW1s
  refine seq_mid_p (fun a' w' => ∃ (regs : List Int) (rs : List (List UInt8)) (ad ad1 : Option Addr) (c c1 : Nat), ActIs a' (fun z => { tmps := (.pointer (some ⟨b, 0, none⟩) :: .slice (some ⟨g, off, none⟩) N cap :: .int .i64 (here : Int) :: undef :: undef :: undef :: .int .u32 0 :: .bool false :: undef :: undef :: .int .i64 (op : Int) :: .slice ad1 regs.length c1 :: .pointer (some ⟨B, 0, none⟩) :: .slice ad rs.length c :: (z 14) :: (z 15) :: undef :: undef :: (z 18) :: (z 19) :: (z 20) :: (z 21) :: (z 22) :: (z 23) :: (z 24) :: (z 25) :: (z 26) :: undef :: undef :: undef :: undef :: undef :: undef :: undef :: undef :: undef :: undef :: undef :: undef :: undef :: undef :: undef :: undef :: undef :: undef :: (z 45) :: (z 46) :: (z 47) :: (z 48) :: (z 49) :: (z 50) :: (z 51) :: (z 52) :: (z 53) :: (z 54) :: (z 55) :: (z 56) :: (z 57) :: (z 58) :: (z 59) :: (z 60) :: (z 61) :: (z 62) :: (z 63) :: (z 64) :: (z 65) :: (z 66) :: (z 67) :: (z 68) :: (z 69) :: (z 70) :: (z 71) :: (z 72) :: (z 73) :: (z 74) :: (z 75) :: (z 76) :: (z 77) :: (z 78) :: (z 79) :: (z 80) :: (z 81) :: (z 82) :: (z 83) :: (z 84) :: (z 85) :: undef :: undef :: undef :: undef :: undef :: undef :: undef :: undef :: undef :: undef :: undef :: undef :: undef :: undef :: undef :: undef :: undef :: undef :: undef :: undef :: undef :: undef :: undef :: undef :: undef :: undef :: undef :: undef :: undef :: undef :: undef :: undef :: undef :: undef :: undef :: undef :: undef :: undef :: undef :: undef :: undef :: undef :: undef :: undef :: undef :: undef :: undef :: undef :: undef :: undef :: undef :: undef :: undef :: undef :: undef :: undef :: undef :: undef :: undef :: undef :: undef :: undef :: []).toArray, defers := [] }) ∧ regsGo (nr) rest0 = (regs, rs) ∧ regs.length ≤ nr ∧ w'.ownsRow (B + 1) 3 1 (.slice ad1 regs.length c1) regs.length (ints regs) ∧ (rs ≠ [] → PartsIn w' lo (.slice ad rs.length c) rs) ∧ Below (B + 1) W1 w' ∧ (∀ x ∈ rs, x.length ≤ 100000)) ?_ ?_
  · go_wp2_with fail
    go_loopg [11, 13] rest0.length (fun k v11 v13 wr => ∃ (acc : List Int) (rs : List (List UInt8)) (ad ad1 : Option Addr) (c c1 : Nat), v11 = .slice ad1 acc.length c1 ∧ v13 = .slice ad rs.length c ∧ rs.length = k ∧ (∀ x ∈ rs, x.length ≤ 100000) ∧ acc.length ≤ nr ∧ regsGo nr rest0 = (acc ++ (regsGo (nr - acc.length) rs).1, (regsGo (nr - acc.length) rs).2) ∧
      wr.ownsRow (B + 1) 3 1 (.slice ad1 acc.length c1) acc.length (ints acc) ∧ (rs ≠ [] → PartsIn wr lo (.slice ad rs.length c) rs) ∧ Below (B + 1) W1 wr)
    case atStart => exact ⟨[], rest0, ad0, none, c0, 0, rfl, rfl, rfl, HPL2.out, Nat.zero_le _, by simp, World.ownsRow_nil _ _ _ _, HR0.out, Below.refl _ _⟩
    case round =>
      obtain ⟨acc, rs, ad, ad1, c, c1, rfl, rfl, rfl, hrx, hal, hgo, hrow, hpin, hbw⟩ := hrel
      have HGO := Lib.hid hgo
      have HRW := Lib.hid hrow
      have HPI := Lib.hid hpin
      have HBR := Lib.hid hbw
      have HRX := Lib.hid hrx
      clear hgo hrow hpin hbw hrx
      cases rs with
      | nil =>
        have HE1 : Hid (regsGo nr rest0 = (acc, [])) := Lib.hid (by
          rw [HGO.out]
          cases nr - acc.length <;> simp [regsGo])
        go_wp2_with fail
        exact ⟨acc, [], ad, ad1, c, c1, mid_z rfl, HE1.out, hal, HRW.out, fun h => absurd rfl h, HBR.out, fun y hy => (by cases hy)⟩
      | cons x rs =>
        have hp1 := HPI.out (by simp)
        obtain ⟨g1, off1, rfl⟩ : ∃ g1 off1, ad = some ⟨g1, off1, none⟩ := by
          obtain ⟨g', off', cap', hsl, _⟩ := hp1
          cases hsl
          exact ⟨_, _, rfl⟩
        obtain ⟨hn5, hn6, hn7, d5, htl⟩ := parts_tail hp1
        obtain ⟨n5, hn5'⟩ : ∃ n5, n5 = (x :: rs).length := ⟨_, rfl⟩
        have HN5 := Lib.hid hn5'
        rw [← hn5'] at hn6 ⊢
        have hn50 : n5 = rs.length + 1 := hn5'
        have k1 : (0 : Int) < (n5 : Int) := by omega
        have k2 : 0 < n5 := by omega
        have k3 : (1 : Int) ≤ (n5 : Int) := by omega
        have k4 : (n5 : Int) ≤ (c : Int) := by omega
        have HTL := Lib.hid htl
        have HP1 := Lib.hid hp1
        have hxl := HRX.out x (by simp)
        have HN50 := Lib.hid hn50
        clear hn5 hn5' htl hp1 hn7 hn50
        by_cases hlt : acc.length < nr
        · have k5 : (acc.length : Int) < (nr : Int) := by omega
          have hbwr : Below w.heap.size w wr := HBW1.out.trans (HBR.out.mono (by have := HBW1.out.size; have := HW1S.out; omega))
          have HX := Lib.hid (register_any x hxl wr (HE.out.on hbwr))
          rcases hrx : regP x with ⟨rn, rb⟩
          rw [hrx] at HX
          simp only at HX
          have HG2 : Hid (regsGo (nr - acc.length) (x :: rs) = if rb then (rn :: (regsGo (nr - (acc.length + 1)) rs).1, (regsGo (nr - (acc.length + 1)) rs).2) else ([], x :: rs)) := Lib.hid (by
            obtain ⟨q, hq⟩ : ∃ q, nr - acc.length = q + 1 := ⟨nr - acc.length - 1, by omega⟩
            rw [hq, show nr - (acc.length + 1) = q by omega, regsGo_cons, hrx])
          clear hrx hbwr
          cases rb with
          | false =>
            have HE1 : Hid (regsGo nr rest0 = (acc, x :: rs)) := Lib.hid (by rw [HGO.out, HG2.out]; simp)
            go_wp2_with fail
            refine (HRG.out _).mono ?_
            rintro e w2 ⟨rfl, rfl⟩
            go_wp2_with fail
            refine HX.out.mono ?_
            rintro e w3 ⟨rfl, hb3⟩
            have HB3 := Lib.hid hb3
            clear hb3
            go_wp2_with fail
            exact ⟨acc, x :: rs, some ⟨g1, off1, none⟩, ad1, c, c1, mid_z (by rw [← HN5.out]; first | done | rfl), HE1.out, hal, own_on HRW.out HB3.out, fun _ => HP1.out.kept fun k cs _ hk => HB3.out.block k (Array.getElem?_eq_some_iff.1 hk).1, HBR.out.trans (HB3.out.mono (by have := HBR.out.size; have := HW1S.out; omega)), HRX.out⟩
          | true =>
            have HE1 : Hid (regsGo nr rest0 = ((acc ++ [rn]) ++ (regsGo (nr - (acc ++ [rn]).length) rs).1, (regsGo (nr - (acc ++ [rn]).length) rs).2)) := Lib.hid (by rw [HGO.out, HG2.out]; simp)
            go_wp2_with fail
            refine (HRG.out _).mono ?_
            rintro e w2 ⟨rfl, rfl⟩
            go_wp2_with fail
            refine HX.out.mono ?_
            rintro e w3 ⟨rfl, hb3⟩
            have HB3 := Lib.hid hb3
            clear hb3
            go_wp2_with fail
            have hR3 := own_on HRW.out HB3.out
            have HR3 := Lib.hid hR3
            have hbs3 : B + 1 ≤ w3.heap.size := by have := HBR.out.size; have := HB3.out.size; have := HW1S.out; omega
            have HNews := Lib.hid (World.news_of_block (w := (w3.alloc (.cells #[.int .i64 rn] 3)).drew) (B := w3.heap.size) (cs := #[.int .i64 rn]) (t := 3) (fr := (0, 0)) (heap_alloc_new w3 _))
            have HO1 : Hid (∀ u ∈ [Value.int .i64 rn], u.oneCell' = true) := Lib.hid (by
              intro u hu
              simp only [List.mem_cons, List.not_mem_nil, or_false] at hu
              subst hu; rfl)
            have hal2 : acc.length ≤ 2 := by omega
            have HFI : Hid (∀ (g2 cap2 : Nat) (w5 : World), w5.ownsRow (B + 1) 3 1 (.slice (some ⟨g2, 0, none⟩) (acc.length + 1) cap2) (acc.length + 1) (ints acc ++ [.int .i64 rn]) → ((w3.alloc (.cells #[.int .i64 rn] 3)).drew).grownBy w5 (Value.slice ad1 acc.length c1).ownBlock → 
                w5.ownsRow (B + 1) 3 1 (.slice (some ⟨g2, 0, none⟩) (acc ++ [rn]).length cap2) (acc ++ [rn]).length (ints (acc ++ [rn])) ∧ Below (B + 1) W1 w5 ∧ (rs ≠ [] → PartsIn w5 lo (.slice (some ⟨g1, off1 + 1, none⟩) rs.length (c - 1)) rs)) := Lib.hid fun g2 cap2 w5 h1 h2 => by
              have hb5 : Below (B + 1) W1 w5 := ((HBR.out.trans (HB3.out.mono (by have := HBR.out.size; have := HW1S.out; omega))).trans (((Below.refl _ w3).alloc hbs3 _).drew)).grown h2 (by simp; omega) (fun k e => (own_lt HR3.out k e).1)
              refine ⟨by rw [ints_snoc]; simpa using h1, hb5, fun hne => (HTL.out hne).kept fun k cs _ hk => ?_⟩
              have hkl := (Array.getElem?_eq_some_iff.1 hk).1
              have h3k := HB3.out.block k hkl
              refine (h2.block k (by have := HB3.out.size; simp; omega) (fun e => ?_)).trans ((Below.heap_alloc w3 _ k (by have := HB3.out.size; omega)).trans h3k)
              rcases hR3.2 with ⟨h0, _⟩ | ⟨g', cap', cur, h5, _, h6, _⟩
              · rw [h0] at e; simp [Value.ownBlock] at e
              · rw [h5] at e
                simp only [Value.ownBlock, Option.some.injEq] at e
                subst e
                rw [h3k, hk] at h6
                cases h6
            clear hR3
            by_cases hc1' : c = 1
            · have hrs0 : rs = [] := List.length_eq_zero_iff.1 (by have := HN50.out; omega)
              have HN1 : Hid (n5 = 1) := Lib.hid (by have := HN50.out; rw [hrs0] at this; simpa using this)
              subst hrs0
              have hn51 := HN1.out
              subst hn51
              go_region_law ((refine step_append_lies _ (by rfl) _ _ 64 (by rfl) (B + 1) 3 i1 _ 1 8 Tryz.underlying64 hi1 hz0 hz1 hz2 rfl (by omega) (.slice ad1 acc.length c1) acc.length (ints acc) (by rfl) ((HR3.out.alloc _).drew) ⟨w3.heap.size, 0, none⟩ 1 1 [.int .i64 rn] (by rfl) (by rfl) HNews.out HO1.out (by omega) (by unfold maxLen; omega) (by omega) (by simp; omega) (w3.heap.size + 1) (by simp) ?_; intro g2 cap2 w5 hown5 hgrow5 _ _; have HX5 := Lib.hid (HFI.out g2 cap2 w5 hown5 hgrow5); clear hown5 hgrow5))
              have X5 := HX5.out
              clear HX5
              go_wp2_with fail
              go_roundg 0
              case measure => simp
              case rel => exact ⟨acc ++ [rn], [], some ⟨g1, off1, none⟩, some ⟨g2, 0, none⟩, 0, cap2, by simp, by rfl, rfl, fun y hy => (by cases hy), by simp; omega, HE1.out, X5.1, fun h => absurd rfl h, X5.2.1⟩
            · have HN1 : Hid (n5 - 1 = rs.length) := Lib.hid (by have := HN50.out; omega)
              go_region_law ((refine step_append_lies _ (by rfl) _ _ 64 (by rfl) (B + 1) 3 i1 _ 1 8 Tryz.underlying64 hi1 hz0 hz1 hz2 rfl (by omega) (.slice ad1 acc.length c1) acc.length (ints acc) (by rfl) ((HR3.out.alloc _).drew) ⟨w3.heap.size, 0, none⟩ 1 1 [.int .i64 rn] (by rfl) (by rfl) HNews.out HO1.out (by omega) (by unfold maxLen; omega) (by omega) (by simp; omega) (w3.heap.size + 1) (by simp) ?_; intro g2 cap2 w5 hown5 hgrow5 _ _; have HX5 := Lib.hid (HFI.out g2 cap2 w5 hown5 hgrow5); clear hown5 hgrow5))
              have X5 := HX5.out
              clear HX5
              go_wp2_with fail
              go_roundg rs.length
              case measure => simp
              case rel => exact ⟨acc ++ [rn], rs, some ⟨g1, off1 + 1, none⟩, some ⟨g2, 0, none⟩, c - 1, cap2, by simp, by rw [HN1.out], rfl, fun y hy => HRX.out y (by simp [hy]), by simp; omega, HE1.out, X5.1, X5.2.2, X5.2.1⟩
        · have k5 : ¬ (acc.length : Int) < (nr : Int) := by omega
          have HE1 : Hid (regsGo nr rest0 = (acc, x :: rs)) := Lib.hid (by
            rw [HGO.out, show nr - acc.length = 0 by omega]
            simp [regsGo])
          clear hlt
          go_wp2_with fail
          refine (HRG.out _).mono ?_
          rintro e w2 ⟨rfl, rfl⟩
          go_wp2_with fail
          exact ⟨acc, x :: rs, some ⟨g1, off1, none⟩, ad1, c, c1, mid_z (by rw [← HN5.out]; first | done | rfl), HE1.out, hal, HRW.out, fun _ => HP1.out, HBR.out, HRX.out⟩
  rintro a' w2 ⟨regs, rs, ad, ad1, c, c1, ⟨z, rfl⟩, hgo, hrn, hrow, hpin, hb2, hrsx⟩
  have HWE : Hid (wordP labs here ps = wordEnd labs here op regs rs) := Lib.hid (by rw [HWW.out, hgo])
  have HRW := Lib.hid hrow
  have HPI := Lib.hid hpin
  have HB2 := Lib.hid hb2
  have HRX := Lib.hid hrsx
  have hr2 : regs.length ≤ 2 := by omega
  clear hgo hrow hpin hb2 hrsx
  have hIN2 : w2.heap[B]? = some (.cells #[.int .i64 (op : Int), .int .i64 0, .int .i64 0, .int .i64 0] 74 (0, 0)) := (HB2.out.block B (by omega)).trans HIN.out
  have hbw2 : Below w.heap.size w w2 := HBW1.out.trans (HB2.out.mono (by have := HBW1.out.size; have := HW1S.out; omega))
  have HIN2 := Lib.hid hIN2
  have HBW2 := Lib.hid hbw2
  have hwB : w.heap.size ≤ B := by have := HZ.out; have := HB1.out; omega
  clear hIN2 hbw2
  refine seq_mid_p (fun a' w' => ∃ (n13 : Nat) (imm : Int), ActIs a' (fun z => { tmps := (.pointer (some ⟨b, 0, none⟩) :: .slice (some ⟨g, off, none⟩) N cap :: .int .i64 (here : Int) :: undef :: undef :: undef :: .int .u32 0 :: .bool false :: undef :: undef :: .int .i64 (op : Int) :: .slice ad1 regs.length c1 :: .pointer (some ⟨B, 0, none⟩) :: .slice ad n13 c :: (z 14) :: (z 15) :: (z 16) :: (z 17) :: (z 18) :: (z 19) :: (z 20) :: (z 21) :: (z 22) :: (z 23) :: (z 24) :: (z 25) :: (z 26) :: undef :: undef :: undef :: undef :: undef :: undef :: undef :: undef :: undef :: undef :: undef :: undef :: undef :: undef :: undef :: undef :: undef :: undef :: (z 45) :: (z 46) :: (z 47) :: (z 48) :: (z 49) :: (z 50) :: (z 51) :: (z 52) :: (z 53) :: (z 54) :: (z 55) :: (z 56) :: (z 57) :: (z 58) :: (z 59) :: (z 60) :: (z 61) :: (z 62) :: (z 63) :: (z 64) :: (z 65) :: (z 66) :: (z 67) :: (z 68) :: (z 69) :: (z 70) :: (z 71) :: (z 72) :: (z 73) :: (z 74) :: (z 75) :: (z 76) :: (z 77) :: (z 78) :: (z 79) :: (z 80) :: (z 81) :: (z 82) :: (z 83) :: (z 84) :: (z 85) :: (z 86) :: (z 87) :: (z 88) :: (z 89) :: (z 90) :: (z 91) :: (z 92) :: (z 93) :: (z 94) :: (z 95) :: (z 96) :: (z 97) :: (z 98) :: (z 99) :: (z 100) :: (z 101) :: (z 102) :: (z 103) :: (z 104) :: (z 105) :: (z 106) :: (z 107) :: (z 108) :: (z 109) :: (z 110) :: undef :: undef :: undef :: undef :: undef :: undef :: undef :: undef :: undef :: undef :: undef :: undef :: undef :: undef :: undef :: undef :: undef :: undef :: undef :: undef :: undef :: undef :: undef :: undef :: undef :: undef :: undef :: undef :: undef :: undef :: undef :: undef :: undef :: undef :: undef :: undef :: undef :: []).toArray, defers := [] }) ∧ Below B W1 w' ∧ w'.heap[B]? = some (.cells #[.int .i64 (op : Int), .int .i64 0, .int .i64 0, .int .i64 imm] 74 (0, 0)) ∧ w'.ownsRow (B + 1) 3 1 (.slice ad1 regs.length c1) regs.length (ints regs) ∧ wordP labs here ps = (if shapeP op regs.length n13 && validP op (regs.getD 0 0) (regs.getD 1 0) imm then some (encV op (regs.getD 0 0) (regs.getD 1 0) imm) else none)) ?_ ?_
  · cases rs with
    | nil =>
      go_wp2_with fail
      exact ⟨0, 0, mid_z rfl, HB2.out.mono (by omega), HIN2.out, HRW.out, HWE.out⟩
    | cons x rs =>
      cases rs with
      | cons y rs =>
        go_wp2_with fail
        exact ⟨rs.length + 1 + 1, 0, mid_z rfl, HB2.out.mono (by omega), HIN2.out, HRW.out, by rw [HWE.out, shapeP_big _ _ _ (by omega)]; rfl⟩
      | nil =>
        have hp1 := HPI.out (by simp)
        obtain ⟨g1, off1, rfl⟩ : ∃ g1 off1, ad = some ⟨g1, off1, none⟩ := by
          obtain ⟨g', off', cap', hsl, _⟩ := hp1
          cases hsl
          exact ⟨_, _, rfl⟩
        obtain ⟨-, -, -, d5, -⟩ := parts_tail hp1
        have hxl := HRX.out x (by simp)
        have HN := Lib.hid (number_any x hxl w2 (HE.out.on HBW2.out))
        have HJ := Lib.hid (fun w => jumps_ok op hop24 w)
        have HGL := Lib.hid (fun w3 (hb : Below w.heap.size w w3) => goal_any b m lo here labs lines x hxl w3 (HE.out.on hb) (HR.out.on hb) HLV.out hh)
        clear hp1
        go_wp2_with fail
        refine HN.out.mono ?_
        rintro e w3 ⟨rfl, hb3⟩
        have HB3 := Lib.hid hb3
        have hs3 := hb3.size
        have HBW3 : Hid (Below w.heap.size w w3) := Lib.hid (HBW2.out.trans (hb3.mono HBW2.out.size))
        have d6 := (hb3.cell (World.block_lt_of_cell? _ _ d5)).trans d5
        have hB2s : B < w2.heap.size := (Array.getElem?_eq_some_iff.1 HIN2.out).1
        have hIN3 := (hb3.block B hB2s).trans HIN2.out
        have hrow3 := own_on HRW.out hb3
        have hbB3 : Below B W1 w3 := (HB2.out.mono (by omega)).trans (hb3.mono (by omega))
        have HF3 := Lib.hid (And.intro hIN3 (And.intro hrow3 hbB3))
        clear hb3 hIN3 hrow3 hbB3 HN
        by_cases hj : 18 ≤ op ∧ op ≤ 22
        · have hjd : decide (18 ≤ op ∧ op ≤ 22) = true := decide_eq_true hj
          rw [hjd] at HJ
          rcases hgp : goalP labs x here with ⟨nv, nb⟩
          have HW1' : Hid (wordP labs here ps = if nb && (shapeP op regs.length 1 && validP op (regs.getD 0 0) (regs.getD 1 0) nv) then some (encV op (regs.getD 0 0) (regs.getD 1 0) nv) else none) := Lib.hid (HWE.out.trans (wordEnd_one labs here op regs x (nv, nb) (by rw [if_pos hj, hgp])))
          have HG3 := Lib.hid (HGL.out w3 HBW3.out)
          rw [hgp] at HG3
          simp only at HG3
          clear hj hjd hgp HGL
          go_wp2_with fail
          refine (HJ.out _).mono ?_
          rintro e w4 ⟨rfl, hw4⟩
          rw [hw4]
          clear hw4 w4
          go_wp2_with fail
          refine HG3.out.mono ?_
          rintro e w4 ⟨rfl, hb4⟩
          have HBE : Hid (Below w.heap.size w w4) := Lib.hid (HBW3.out.trans (hb4.mono HBW3.out.size))
          have HFE := Lib.hid (And.intro ((hb4.block B (by omega)).trans HF3.out.1) (And.intro (own_on HF3.out.2.1 hb4) (HF3.out.2.2.trans (hb4.mono (by omega)))))
          clear hb4 HG3
          cases nb with
          | false =>
            have HWN : Hid (wordP labs here ps = none) := Lib.hid (by rw [HW1'.out]; rfl)
            go_wp2_with fail
            go_ret2
            rw [HWN.out]
            exact ⟨⟨_, rfl, fun y hy => (by cases hy)⟩, Step28.of_below HBE.out hbl, HTB.out.on (HBE.out.block _ hbl)⟩
          | true =>
            have HWY : Hid (wordP labs here ps = if shapeP op regs.length 1 && validP op (regs.getD 0 0) (regs.getD 1 0) nv then some (encV op (regs.getD 0 0) (regs.getD 1 0) nv) else none) := Lib.hid (by rw [HW1'.out]; rfl)
            have cB3 := cell_of_row w4 B 3 _ _ _ HFE.out.1
            have fB3 := frozen_of_row w4 B 3 _ _ HFE.out.1
            simp only [List.getElem?_toArray, List.getElem?_cons_succ, List.getElem?_cons_zero] at cB3
            go_wp2_with fail
            exact ⟨1, nv, mid_z rfl, HFE.out.2.2.setCell (by simp) _, heap_setCell_same w4 B 3 _ _ _ HFE.out.1, ownsRow_setCell_other HFE.out.2.1 (fun e => by have := (own_lt HFE.out.2.1 _ e).1; simp at this <;> omega) _, HWY.out⟩
        · have hjd : decide (18 ≤ op ∧ op ≤ 22) = false := decide_eq_false hj
          rw [hjd] at HJ
          rcases hgp : numP x with ⟨nv, nb⟩
          have HW1' : Hid (wordP labs here ps = if nb && (shapeP op regs.length 1 && validP op (regs.getD 0 0) (regs.getD 1 0) nv) then some (encV op (regs.getD 0 0) (regs.getD 1 0) nv) else none) := Lib.hid (HWE.out.trans (wordEnd_one labs here op regs x (nv, nb) (by rw [if_neg hj, hgp])))
          have HBE := HBW3
          have HFE := HF3
          clear hj hjd HGL
          go_wp2_with fail
          refine (HJ.out _).mono ?_
          rintro e w4 ⟨rfl, hw4⟩
          rw [hw4]
          clear hw4 w4
          cases nb with
          | false =>
            have HWN : Hid (wordP labs here ps = none) := Lib.hid (by rw [HW1'.out]; rfl)
            go_wp2_with fail
            go_ret2
            rw [HWN.out]
            exact ⟨⟨_, rfl, fun y hy => (by cases hy)⟩, Step28.of_below HBE.out hbl, HTB.out.on (HBE.out.block _ hbl)⟩
          | true =>
            have HWY : Hid (wordP labs here ps = if shapeP op regs.length 1 && validP op (regs.getD 0 0) (regs.getD 1 0) nv then some (encV op (regs.getD 0 0) (regs.getD 1 0) nv) else none) := Lib.hid (by rw [HW1'.out]; rfl)
            have cB3 := cell_of_row w3 B 3 _ _ _ HFE.out.1
            have fB3 := frozen_of_row w3 B 3 _ _ HFE.out.1
            simp only [List.getElem?_toArray, List.getElem?_cons_succ, List.getElem?_cons_zero] at cB3
            go_wp2_with fail
            exact ⟨1, nv, mid_z rfl, HFE.out.2.2.setCell (by simp) _, heap_setCell_same w3 B 3 _ _ _ HFE.out.1, ownsRow_setCell_other HFE.out.2.1 (fun e => by have := (own_lt HFE.out.2.1 _ e).1; simp at this <;> omega) _, HWY.out⟩
  rintro a' w5 ⟨n13, imm, ⟨z, rfl⟩, hb5, hin5, hrow5, hww5⟩
  have hbw5 : Below w.heap.size w w5 := HBW1.out.trans ((hb5.mono hwB))
  have HB5 := Lib.hid hb5
  have HIN5 := Lib.hid hin5
  have HRW5 := Lib.hid hrow5
  have HW5 := Lib.hid hww5
  have HBW5 := Lib.hid hbw5
  have hB5s : B < w5.heap.size := (Array.getElem?_eq_some_iff.1 hin5).1
  have HTB5 := Lib.hid (HTB.out.on (hbw5.block _ hbl))
  clear hb5 hin5 hrow5 hww5 hbw5 HRW HPI HRX HWE
  refine seq_mid_p (fun a' w' => ActIs a' (fun z => { tmps := (.pointer (some ⟨b, 0, none⟩) :: .slice (some ⟨g, off, none⟩) N cap :: .int .i64 (here : Int) :: undef :: undef :: undef :: .int .u32 0 :: .bool false :: undef :: undef :: .int .i64 (op : Int) :: .slice ad1 regs.length c1 :: .pointer (some ⟨B, 0, none⟩) :: .slice ad n13 c :: (z 14) :: (z 15) :: (z 16) :: (z 17) :: (z 18) :: (z 19) :: (z 20) :: (z 21) :: (z 22) :: (z 23) :: (z 24) :: (z 25) :: (z 26) :: undef :: undef :: undef :: undef :: undef :: undef :: undef :: undef :: undef :: undef :: undef :: undef :: undef :: undef :: undef :: undef :: undef :: undef :: (z 45) :: (z 46) :: (z 47) :: (z 48) :: (z 49) :: (z 50) :: (z 51) :: (z 52) :: (z 53) :: (z 54) :: (z 55) :: (z 56) :: (z 57) :: (z 58) :: (z 59) :: (z 60) :: (z 61) :: (z 62) :: (z 63) :: (z 64) :: (z 65) :: (z 66) :: (z 67) :: (z 68) :: (z 69) :: (z 70) :: (z 71) :: (z 72) :: (z 73) :: (z 74) :: (z 75) :: (z 76) :: (z 77) :: (z 78) :: (z 79) :: (z 80) :: (z 81) :: (z 82) :: (z 83) :: (z 84) :: (z 85) :: (z 86) :: (z 87) :: (z 88) :: (z 89) :: (z 90) :: (z 91) :: (z 92) :: (z 93) :: (z 94) :: (z 95) :: (z 96) :: (z 97) :: (z 98) :: (z 99) :: (z 100) :: (z 101) :: (z 102) :: (z 103) :: (z 104) :: (z 105) :: (z 106) :: (z 107) :: (z 108) :: (z 109) :: (z 110) :: (z 111) :: (z 112) :: (z 113) :: (z 114) :: (z 115) :: (z 116) :: (z 117) :: (z 118) :: (z 119) :: (z 120) :: (z 121) :: (z 122) :: undef :: undef :: undef :: undef :: undef :: undef :: undef :: undef :: undef :: undef :: undef :: undef :: undef :: undef :: undef :: undef :: undef :: undef :: undef :: undef :: undef :: undef :: undef :: undef :: undef :: []).toArray, defers := [] }) ∧ w' = w5 ∧ shapeP op regs.length n13 = true) ?_ ?_
  · by_cases hn : 1 < n13
    · have HWN : Hid (wordP labs here ps = none) := Lib.hid (by rw [HW5.out, shapeP_big _ _ _ (by omega)]; rfl)
      have k1 : (1 : Int) < (n13 : Int) := by omega
      clear hn
      go_wp2_with fail
      go_ret2
      rw [HWN.out]
      exact ⟨⟨_, rfl, fun y hy => (by cases hy)⟩, Step28.of_below HBW5.out hbl, HTB5.out⟩
    · have k1 : ¬ (1 : Int) < (n13 : Int) := by omega
      have HSH := Lib.hid (fun w => shape_ok op regs.length n13 hop24 hr2 (by omega) w)
      clear hn
      go_wp2_with fail
      refine (HSH.out _).mono ?_
      rintro e w6 ⟨rfl, hw6⟩
      rw [hw6]
      clear hw6 w6 HSH
      cases hsh : shapeP op regs.length n13 with
      | false =>
        have HWN : Hid (wordP labs here ps = none) := Lib.hid (by rw [HW5.out, hsh]; rfl)
        clear hsh
        go_wp2_with fail
        go_ret2
        rw [HWN.out]
        exact ⟨⟨_, rfl, fun y hy => (by cases hy)⟩, Step28.of_below HBW5.out hbl, HTB5.out⟩
      | true =>
        go_wp2_with fail
        exact ⟨mid_z rfl, trivial, hsh⟩
  rintro a' w' ⟨⟨z, rfl⟩, hw', hsh⟩
  rw [hw']
  clear hw' w'
  have HW6 : Hid (wordP labs here ps = if validP op (regs.getD 0 0) (regs.getD 1 0) imm then some (encV op (regs.getD 0 0) (regs.getD 1 0) imm) else none) := Lib.hid (by rw [HW5.out, hsh]; simp)
  clear hsh
  refine seq_mid_p (fun a' w' => ActIs a' (fun z => { tmps := (.pointer (some ⟨b, 0, none⟩) :: .slice (some ⟨g, off, none⟩) N cap :: .int .i64 (here : Int) :: undef :: undef :: undef :: .int .u32 0 :: .bool false :: undef :: undef :: .int .i64 (op : Int) :: .slice ad1 regs.length c1 :: .pointer (some ⟨B, 0, none⟩) :: .slice ad n13 c :: (z 14) :: (z 15) :: (z 16) :: (z 17) :: (z 18) :: (z 19) :: (z 20) :: (z 21) :: (z 22) :: (z 23) :: (z 24) :: (z 25) :: (z 26) :: undef :: undef :: undef :: undef :: undef :: undef :: undef :: undef :: undef :: undef :: undef :: undef :: undef :: undef :: undef :: undef :: undef :: undef :: (z 45) :: (z 46) :: (z 47) :: (z 48) :: (z 49) :: (z 50) :: (z 51) :: (z 52) :: (z 53) :: (z 54) :: (z 55) :: (z 56) :: (z 57) :: (z 58) :: (z 59) :: (z 60) :: (z 61) :: (z 62) :: (z 63) :: (z 64) :: (z 65) :: (z 66) :: (z 67) :: (z 68) :: (z 69) :: (z 70) :: (z 71) :: (z 72) :: (z 73) :: (z 74) :: (z 75) :: (z 76) :: (z 77) :: (z 78) :: (z 79) :: (z 80) :: (z 81) :: (z 82) :: (z 83) :: (z 84) :: (z 85) :: (z 86) :: (z 87) :: (z 88) :: (z 89) :: (z 90) :: (z 91) :: (z 92) :: (z 93) :: (z 94) :: (z 95) :: (z 96) :: (z 97) :: (z 98) :: (z 99) :: (z 100) :: (z 101) :: (z 102) :: (z 103) :: (z 104) :: (z 105) :: (z 106) :: (z 107) :: (z 108) :: (z 109) :: (z 110) :: (z 111) :: (z 112) :: (z 113) :: (z 114) :: (z 115) :: (z 116) :: (z 117) :: (z 118) :: (z 119) :: (z 120) :: (z 121) :: (z 122) :: (z 123) :: (z 124) :: (z 125) :: (z 126) :: (z 127) :: (z 128) :: (z 129) :: (z 130) :: (z 131) :: (z 132) :: (z 133) :: (z 134) :: (z 135) :: (z 136) :: (z 137) :: (z 138) :: (z 139) :: (z 140) :: undef :: undef :: undef :: undef :: undef :: undef :: undef :: []).toArray, defers := [] }) ∧ Below B W1 w' ∧ w'.heap[B]? = some (.cells #[.int .i64 (op : Int), .int .i64 (regs.getD 0 0), .int .i64 (regs.getD 1 0), .int .i64 imm] 74 (0, 0))) ?_ ?_
  · rcases regs with _ | ⟨r1, _ | ⟨r2, _ | ⟨r3, rr⟩⟩⟩
    · go_wp2_with fail
      exact ⟨mid_z rfl, HB5.out, HIN5.out⟩
    · obtain ⟨gr, cr, hsl, -, hcr⟩ := own_cell HRW5.out (by simp)
      obtain ⟨rfl, rfl⟩ : ad1 = some ⟨gr, 0, none⟩ ∧ c1 = cr := by cases hsl; exact ⟨rfl, rfl⟩
      have r0 := hcr 0 (.int .i64 r1) rfl
      have cB1 := cell_of_row w5 B 1 _ _ _ HIN5.out
      have fB1 := frozen_of_row w5 B 1 _ _ HIN5.out
      simp only [List.getElem?_toArray, List.getElem?_cons_succ, List.getElem?_cons_zero] at cB1
      clear hcr hsl
      go_wp2_with fail
      exact ⟨mid_z rfl, HB5.out.setCell (by simp) _, heap_setCell_same w5 B 1 _ _ _ HIN5.out⟩
    · obtain ⟨gr, cr, hsl, -, hcr⟩ := own_cell HRW5.out (by simp)
      obtain ⟨rfl, rfl⟩ : ad1 = some ⟨gr, 0, none⟩ ∧ c1 = cr := by cases hsl; exact ⟨rfl, rfl⟩
      have r0 := hcr 0 (.int .i64 r1) rfl
      have r1' := hcr 1 (.int .i64 r2) rfl
      have hgB : gr ≠ B := fun e => by have := (own_lt HRW5.out gr rfl).1; omega
      have hgB2 : B ≠ gr := Ne.symm hgB
      have cB1 := cell_of_row w5 B 1 _ _ _ HIN5.out
      have fB1 := frozen_of_row w5 B 1 _ _ HIN5.out
      have cB2 := cell_of_row w5 B 2 _ _ _ HIN5.out
      have fB2 := frozen_of_row w5 B 2 _ _ HIN5.out
      simp only [List.getElem?_toArray, List.getElem?_cons_succ, List.getElem?_cons_zero] at cB1 cB2
      clear hcr hsl
      go_wp2_with fail
      go_region_held3 (fun w' => w'.cell? ⟨gr, 0, none⟩ = some (.int .i64 r1) ∧ w'.cell? ⟨gr, 1, none⟩ = some (.int .i64 r2)) (go_keep) (fail)
      go_wp2_with fail
      exact ⟨mid_z rfl, ((HB5.out.setCell (by simp) _).setCell (by simp) _).drew, heap_setCell_same (w5.setCell ⟨B, 1, none⟩ (.int .i64 r1)) B 2 _ _ _ (heap_setCell_same w5 B 1 _ _ _ HIN5.out)⟩
    · exact absurd hr2 (by simp)
  rintro a' w6 ⟨⟨z, rfl⟩, hb6, hin6⟩
  have hbw6 : Below w.heap.size w w6 := HBW1.out.trans (hb6.mono hwB)
  have HBW6 := Lib.hid hbw6
  have HENC := Lib.hid (fun w7 (hb : w7.heap[b]? = w.heap[b]?) => encode_any b op (regs.getD 0 0) (regs.getD 1 0) imm hop24 w7 (HTB.out.on hb))
  have e0 := cell_of_row w6 B 0 _ _ _ hin6
  have e1 := cell_of_row w6 B 1 _ _ _ hin6
  have e2 := cell_of_row w6 B 2 _ _ _ hin6
  have e3 := cell_of_row w6 B 3 _ _ _ hin6
  simp only [List.getElem?_toArray, List.getElem?_cons_succ, List.getElem?_cons_zero] at e0 e1 e2 e3
  obtain ⟨ra, hra⟩ : ∃ r, r = regs.getD 0 0 := ⟨_, rfl⟩
  obtain ⟨rb, hrb⟩ : ∃ r, r = regs.getD 1 0 := ⟨_, rfl⟩
  rw [← hra] at HENC e1 HW6
  rw [← hrb] at HENC e2 HW6
  have hb6b := hbw6.block b hbl
  have HB6 := Lib.hid hb6b
  have HKB : Hid (∀ w7, Step28 b (World.drew w6) w7 → w7.cell? ⟨B, 0, none⟩ = some (.int .i64 (op : Int)) ∧ w7.cell? ⟨B, 1, none⟩ = some (.int .i64 ra) ∧ w7.cell? ⟨B, 2, none⟩ = some (.int .i64 rb) ∧ w7.cell? ⟨B, 3, none⟩ = some (.int .i64 imm)) := Lib.hid fun w7 h => by
    have hk := h.but.block B (Array.getElem?_eq_some_iff.1 hin6).1 (by omega)
    exact ⟨(World.cell?_of_block (a := ⟨B, 0, none⟩) hk).trans e0, (World.cell?_of_block (a := ⟨B, 1, none⟩) hk).trans e1, (World.cell?_of_block (a := ⟨B, 2, none⟩) hk).trans e2, (World.cell?_of_block (a := ⟨B, 3, none⟩) hk).trans e3⟩
  clear hb6 hin6 hbw6 hra hrb hb6b
  go_wp2_with fail
  go_region_held3 (fun w' => w'.cell? ⟨B, 0, none⟩ = some (.int .i64 (op : Int)) ∧ w'.cell? ⟨B, 1, none⟩ = some (.int .i64 ra) ∧ w'.cell? ⟨B, 2, none⟩ = some (.int .i64 rb) ∧ w'.cell? ⟨B, 3, none⟩ = some (.int .i64 imm))
    (first | exact HKB.out _ hs7 | go_keep)
    (first | (go_at_call 40; refine (HENC.out (World.drew w6) HB6.out).mono ?_; rintro e w7 ⟨rfl, hs7, hf7⟩))
  have HS7 := Lib.hid hs7
  have HF7 := Lib.hid hf7
  clear hs7 hf7
  go_wp2_with fail
  go_ret2
  rw [HW6.out]
  refine ⟨⟨encR op ra rb imm, ?_, ?_⟩, (Step28.of_below HBW6.out.drew hbl).trans HS7.out, .inr HF7.out⟩
  · cases hv : validP op ra rb imm <;> rfl
  · intro x hx
    unfold encR
    cases hv : validP op ra rb imm
    · rw [hv] at hx; cases hx
    · rw [hv] at hx; cases hx; rfl
end Go.Proofs.YtapjfcljbdlnkaaGreatDoor

