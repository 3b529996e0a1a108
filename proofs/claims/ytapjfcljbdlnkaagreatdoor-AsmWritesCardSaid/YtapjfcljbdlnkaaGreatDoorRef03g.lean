/- onionskinref03.word: a line's word. -/
import Derived.Test.YtapjfcljbdlnkaaGreatDoorRef03f
namespace Go.Proofs.YtapjfcljbdlnkaaGreatDoor
open Go Go.RowKit Go.Lib
set_option maxRecDepth 100000

def regTake (has : Bool) (rest : List (List UInt8)) : Option (Int × List (List UInt8)) :=
  if has then (match rest with
    | [] => none
    | x :: r => if regR x < 0 then none else some (regR x, r)) else some (0, rest)
def goalR (labs : List (List UInt8 × Nat)) (here op : Nat) (x : List UInt8) : Int × Bool :=
  if !(numR x).2 && (decide (18 ≤ op) && (decide (op ≤ 22) && !plainR x)) then ((((look labs x).getD 0 : Nat) : Int) - (here : Int), (look labs x).isSome) else numR x
def immTake (labs : List (List UInt8 × Nat)) (here op : Nat) (has : Bool) (rest : List (List UInt8)) : Option (Int × List (List UInt8)) :=
  if has then (match rest with
    | [] => none
    | x :: r => if (goalR labs here op x).2 then some ((goalR labs here op x).1, r) else none) else some (0, rest)
def wordEndR (op : Nat) (a b n : Int) (rest : List (List UInt8)) : Option Int := if rest = [] then (if validP op a b n then some (encV op a b n) else none) else none
def wR3 (labs : List (List UInt8 × Nat)) (here op : Nat) (I : Bool) (a b : Int) (r : List (List UInt8)) : Option Int :=
  match immTake labs here op I r with
  | none => none
  | some x => wordEndR op a b x.1 x.2
def wR2 (labs : List (List UInt8 × Nat)) (here op : Nat) (B I : Bool) (a : Int) (r : List (List UInt8)) : Option Int :=
  match regTake B r with
  | none => none
  | some x => wR3 labs here op I a x.1 x.2
def wR1 (labs : List (List UInt8 × Nat)) (here op : Nat) (A B I : Bool) (r : List (List UInt8)) : Option Int :=
  match regTake A r with
  | none => none
  | some x => wR2 labs here op B I x.1 x.2
def wordNumR (x : List UInt8) : Option Int := if (numR x).2 && (decide (0 ≤ (numR x).1) && decide ((numR x).1 < 4294967296)) then some (numR x).1 else none
/-- a line's word, as the reference has it -/
def wordR (labs : List (List UInt8 × Nat)) (here : Nat) : List (List UInt8) → Option Int
  | [] => none
  | p :: rest =>
    if p = wordName then (if rest.length = 1 then wordNumR (rest.getD 0 []) else none)
    else if opOf p = 0 then none
    else wR1 labs here (opOf p) (hasA (opOf p)) (hasB (opOf p)) (hasI (opOf p)) rest
def WordPostR (r : Option Int) (w : World) (e : Ending) (w' : World) : Prop :=
  (∃ v, e = .returned (.tuple #[.int .u32 v, .bool r.isSome]) ∧ ∀ x, r = some x → v = x) ∧ Below w.heap.size w w'
theorem regTake_false (r : List (List UInt8)) : regTake false r = some (0, r) := rfl
theorem regTake_nil : regTake true [] = none := rfl
theorem regTake_neg {x : List UInt8} {r : List (List UInt8)} (h : regR x < 0) : regTake true (x :: r) = none := by simp [regTake, h]
theorem regTake_pos {x : List UInt8} {r : List (List UInt8)} (h : ¬ regR x < 0) : regTake true (x :: r) = some (regR x, r) := by simp only [regTake, if_true, if_neg h]
theorem drop_at_split {ps : List (List UInt8)} {k : Nat} (h : k < ps.length) : ∃ x, ps[k]? = some x ∧ ps.drop k = x :: ps.drop (k + 1) :=
  ⟨ps[k], List.getElem?_eq_getElem h, List.drop_eq_getElem_cons h⟩

set_option maxHeartbeats 12800000 in
theorem ref_word (here g off cap : Nat) (labs : List (List UInt8 × Nat)) (v : Value) (ps : List (List UInt8)) (w : World) (hne : ps ≠ []) (hc : ∀ j y, ps[j]? = some y → w.cell? ⟨g, off + j, none⟩ = some (.string (bs y)))
    (hpl : ∀ p ∈ ps, p.length ≤ 100000) (hpn : ps.length ≤ 200000) (hv : LabsAt w v labs) (hll : labs.length ≤ 200000) (hlv : ∀ s v, look labs s = some v → v ≤ 200000) (hh : here ≤ 200000) :
    Calls Tryz.prog 17 #[.slice (some ⟨g, off, none⟩) ps.length cap, .int .i64 (here : Int), v] w (WordPostR (wordR labs here ps) w) := by
  obtain ⟨p, rest0, rfl⟩ : ∃ p rest0, ps = p :: rest0 := by
    cases ps with
    | nil => exact absurd rfl hne
    | cons p l => exact ⟨p, l, rfl⟩
  obtain ⟨ps, hps⟩ : ∃ ps, ps = p :: rest0 := ⟨_, rfl⟩
  rw [← hps] at hc hpl hpn ⊢
  have d0 := hc 0 p (by rw [hps]; rfl)
  simp only [Nat.add_zero] at d0
  have hpp : p.length ≤ 100000 := hpl p (by rw [hps]; simp)
  have hn2 : 1 ≤ ps.length := by rw [hps]; simp
  obtain ⟨N, hN⟩ : ∃ N, N = ps.length := ⟨_, rfl⟩
  rw [← hN] at hn2 hpn ⊢
  have hn3 : 0 < N := by omega
  have hn4 : (0 : Int) < (N : Int) := by omega
  have HNN := Lib.hid hN
  have HC := Lib.hid hc
  have HC2 : Hid (∀ W, Below w.heap.size w W → ∀ j y, ps[j]? = some y → W.cell? ⟨g, off + j, none⟩ = some (.string (bs y))) := Lib.hid fun W hb j y hy => (hb.cell (World.block_lt_of_cell? _ _ (hc j y hy))).trans (hc j y hy)
  have HPS := Lib.hid hps
  have HPL := Lib.hid hpl
  have HLV := Lib.hid hlv
  have HV := Lib.hid hv
  have HL := Lib.hid hll
  have hTp := bs_list p
  clear hc hps hpl hlv hv hll hne hN
  go_enter Tryz.func17, Tryz.ntmps17
  refine seq_mid_p (fun a' w' => a' = { tmps := (.slice (some ⟨g, off, none⟩) N cap :: .int .i64 (here : Int) :: v :: undef :: undef :: undef :: .int .u32 0 :: .bool false :: undef :: undef :: undef :: undef :: undef :: undef :: undef :: undef :: undef :: undef :: undef :: undef :: undef :: undef :: undef :: undef :: undef :: undef :: undef :: undef :: undef :: undef :: undef :: undef :: undef :: undef :: undef :: undef :: undef :: undef :: undef :: undef :: undef :: undef :: undef :: undef :: undef :: undef :: undef :: undef :: undef :: undef :: undef :: undef :: undef :: undef :: undef :: undef :: undef :: undef :: undef :: undef :: undef :: undef :: undef :: undef :: undef :: undef :: undef :: undef :: undef :: undef :: undef :: undef :: undef :: undef :: undef :: undef :: undef :: undef :: undef :: undef :: undef :: undef :: undef :: undef :: undef :: undef :: undef :: undef :: undef :: undef :: undef :: undef :: undef :: undef :: undef :: undef :: undef :: undef :: undef :: undef :: undef :: undef :: undef :: undef :: undef :: undef :: undef :: undef :: undef :: undef :: undef :: undef :: undef :: undef :: undef :: undef :: undef :: undef :: undef :: undef :: undef :: undef :: undef :: undef :: undef :: undef :: undef :: undef :: undef :: undef :: undef :: undef :: undef :: undef :: undef :: undef :: undef :: undef :: undef :: undef :: undef :: undef :: undef :: undef :: undef :: undef :: undef :: undef :: undef :: undef :: undef :: undef :: undef :: undef :: undef :: undef :: undef :: undef :: undef :: undef :: undef :: []).toArray, defers := [] } ∧ w' = w) ?_ ?_
  · go_wp2_with fail
    exact ⟨trivial, trivial⟩
  rintro a' w' ⟨rfl, hw'⟩
  rw [hw']
  clear hw' w'
  refine seq_mid_p (fun a' w' => ActIs a' (fun z => { tmps := (.slice (some ⟨g, off, none⟩) N cap :: .int .i64 (here : Int) :: v :: undef :: undef :: undef :: .int .u32 0 :: .bool false :: undef :: undef :: undef :: undef :: undef :: undef :: undef :: undef :: undef :: undef :: undef :: undef :: undef :: (z 21) :: (z 22) :: (z 23) :: (z 24) :: undef :: undef :: undef :: undef :: undef :: undef :: undef :: undef :: undef :: undef :: undef :: undef :: undef :: undef :: undef :: undef :: undef :: undef :: undef :: undef :: undef :: undef :: undef :: undef :: undef :: undef :: undef :: undef :: undef :: undef :: undef :: undef :: undef :: undef :: undef :: undef :: undef :: undef :: undef :: undef :: undef :: undef :: undef :: undef :: undef :: undef :: undef :: undef :: undef :: undef :: undef :: undef :: undef :: undef :: undef :: undef :: undef :: undef :: undef :: undef :: undef :: undef :: undef :: undef :: undef :: undef :: undef :: undef :: undef :: undef :: undef :: undef :: undef :: undef :: undef :: undef :: undef :: undef :: undef :: undef :: undef :: undef :: undef :: undef :: undef :: undef :: undef :: undef :: undef :: undef :: undef :: undef :: undef :: undef :: undef :: undef :: undef :: undef :: undef :: undef :: undef :: undef :: undef :: undef :: undef :: undef :: undef :: undef :: undef :: undef :: undef :: undef :: undef :: undef :: undef :: undef :: undef :: undef :: undef :: undef :: undef :: undef :: undef :: undef :: undef :: undef :: undef :: undef :: undef :: undef :: undef :: undef :: undef :: undef :: undef :: undef :: []).toArray, defers := [] }) ∧ w' = w ∧ p ≠ wordName) ?_ ?_
  · by_cases hw : p = wordName
    · have hnw : (p == [119, 111, 114, 100]) = true := by rw [hw]; rfl
      by_cases hl2 : N = 2
      · have k2 : ((N : Int) == 2) = true := beq_iff_eq.2 (by omega)
        have k22 : ((N : Int) != 2) = false := by simp [bne, k2]
        have k3 : (1 : Int) < (N : Int) := by omega
        have k4 : 1 < N := by omega
        obtain ⟨x, hx⟩ : ∃ x, rest0 = [x] := by
          have := HPS.out
          rw [HNN.out, this] at hl2
          exact List.length_eq_one_iff.1 (by simpa using hl2)
        have d1 := HC.out 1 x (by rw [HPS.out, hx]; rfl)
        have HN := Lib.hid (ref_number x (by have := HPL.out x (by rw [HPS.out, hx]; simp); omega) w)
        have HW : Hid (wordR labs here ps = wordNumR x) := Lib.hid (by rw [HPS.out, hx, hw]; simp [wordR])
        have HW2 : Hid (wordNumR x = if (numR x).2 && (decide (0 ≤ (numR x).1) && decide ((numR x).1 < 4294967296)) then some (numR x).1 else none) := Lib.hid rfl
        rcases hnb : numR x with ⟨nv, nb⟩
        rw [hnb] at HN HW2
        simp only at HN HW2
        clear hw hl2 hx hnb
        have hq : (nb = false ∧ wordNumR x = none) ∨ (nb = true ∧ ¬ 0 ≤ nv ∧ wordNumR x = none) ∨ (nb = true ∧ 0 ≤ nv ∧ nv < 4294967296 ∧ wordNumR x = some nv) ∨ (nb = true ∧ 0 ≤ nv ∧ ¬ nv < 4294967296 ∧ wordNumR x = none) := by
          rw [HW2.out]
          cases nb
          · left; simp
          · right
            by_cases h0 : 0 ≤ nv
            · right
              by_cases h1 : nv < 4294967296
              · left; exact ⟨rfl, h0, h1, by rw [decide_eq_true h0, decide_eq_true h1]; rfl⟩
              · right; exact ⟨rfl, h0, h1, by rw [decide_eq_false h1]; simp⟩
            · left; exact ⟨rfl, h0, by rw [decide_eq_false h0]; simp⟩
        have HQ := Lib.hid hq
        clear hq HW2
        go_wp2_with fail
        refine HN.out.mono ?_
        rintro e w1 ⟨rfl, hw1⟩
        rw [hw1]
        clear hw1 w1
        rcases HQ.out with ⟨rfl, h⟩ | ⟨rfl, k5, h⟩ | ⟨rfl, k5, k6, h⟩ | ⟨rfl, k5, k6, h⟩
        all_goals
          have HH := Lib.hid h
          clear h
          go_wp2_with fail
          go_ret2
          rw [HW.out, HH.out]
          first
            | exact ⟨⟨_, rfl, fun y hy => (by cases hy <;> rfl)⟩, Below.refl _ _⟩
            | exact ⟨⟨_, rfl, fun y hy => (by cases hy; rfl)⟩, Below.refl _ _⟩
            | exact ⟨⟨_, rfl, fun y hy => (by cases hy; rw [IntKind.wrap_u32]; omega)⟩, Below.refl _ _⟩
            | (have k7 : decide (nv < 4294967296) = false := decide_eq_false (by omega)
               simp only [k7]
               exact ⟨⟨_, rfl, fun y hy => by cases hy⟩, Below.refl _ _⟩)
      · have k2 : ((N : Int) == 2) = false := beq_eq_false_iff_ne.2 (by omega)
        have k22 : ((N : Int) != 2) = true := by simp [bne, k2]
        have HN : Hid (wordR labs here ps = none) := Lib.hid (by
          have h1 : ¬ rest0.length = 1 := fun h => hl2 (by rw [HNN.out, HPS.out]; simp [h])
          rw [HPS.out]
          simp only [wordR, if_pos hw, if_neg h1])
        clear hw hl2
        go_wp2_with fail
        go_ret2
        rw [HN.out]
        exact ⟨⟨_, rfl, fun y hy => (by cases hy)⟩, Below.refl _ _⟩
    · have hnw : (p == [119, 111, 114, 100]) = false := beq_eq_false_iff_ne.2 hw
      have HW := Lib.hid hw
      clear hw
      go_wp2_with fail
      exact ⟨mid_z rfl, trivial, HW.out⟩
  rintro a' w' ⟨⟨z, rfl⟩, hw', hww⟩
  rw [hw']
  clear hw' w'
  have HWW := Lib.hid hww
  clear hww
  have HOPC := Lib.hid (fun w => ref_op p w)
  have hop24 : opOf p ≤ 24 := opGo_le p 24
  have HWR : Hid (opOf p ≠ 0 → wordR labs here ps = wR1 labs here (opOf p) (hasA (opOf p)) (hasB (opOf p)) (hasI (opOf p)) (ps.drop 1)) := Lib.hid (fun h => by
    rw [HPS.out]
    simp only [wordR, if_neg HWW.out, if_neg h, List.drop_succ_cons, List.drop_zero])
  have HWZ : Hid (opOf p = 0 → wordR labs here ps = none) := Lib.hid (fun h => by
    rw [HPS.out]
    simp only [wordR, if_neg HWW.out, if_pos h])
  generalize opOf p = op at HOPC hop24 HWR HWZ
  refine seq_mid_p (fun a' w' => ActIs a' (fun z => { tmps := (.slice (some ⟨g, off, none⟩) N cap :: .int .i64 (here : Int) :: v :: undef :: undef :: undef :: .int .u32 0 :: .bool false :: undef :: undef :: .int .i64 (op : Int) :: undef :: undef :: undef :: undef :: undef :: undef :: undef :: undef :: undef :: undef :: (z 21) :: (z 22) :: (z 23) :: (z 24) :: undef :: undef :: undef :: undef :: undef :: undef :: undef :: undef :: undef :: undef :: undef :: undef :: undef :: undef :: undef :: undef :: undef :: undef :: undef :: undef :: undef :: (z 46) :: (z 47) :: (z 48) :: (z 49) :: undef :: undef :: undef :: undef :: undef :: undef :: undef :: undef :: undef :: undef :: undef :: undef :: undef :: undef :: undef :: undef :: undef :: undef :: undef :: undef :: undef :: undef :: undef :: undef :: undef :: undef :: undef :: undef :: undef :: undef :: undef :: undef :: undef :: undef :: undef :: undef :: undef :: undef :: undef :: undef :: undef :: undef :: undef :: undef :: undef :: undef :: undef :: undef :: undef :: undef :: undef :: undef :: undef :: undef :: undef :: undef :: undef :: undef :: undef :: undef :: undef :: undef :: undef :: undef :: undef :: undef :: undef :: undef :: undef :: undef :: undef :: undef :: undef :: undef :: undef :: undef :: undef :: undef :: undef :: undef :: undef :: undef :: undef :: undef :: undef :: undef :: undef :: undef :: undef :: undef :: undef :: undef :: undef :: undef :: undef :: undef :: undef :: undef :: undef :: undef :: undef :: undef :: undef :: undef :: undef :: undef :: undef :: undef :: undef :: undef :: undef :: []).toArray, defers := [] }) ∧ Below w.heap.size w w') ?_ ?_
  · go_wp2_with fail
    refine (HOPC.out _).mono ?_
    rintro e w1 ⟨rfl, hb1⟩
    have HB1 := Lib.hid hb1
    clear hb1
    go_wp2_with fail
    exact ⟨mid_z rfl, HB1.out⟩
  rintro a' W0 ⟨⟨z, rfl⟩, hbW⟩
  have HBW := Lib.hid hbW
  have HZ := Lib.hid hbW.size
  clear hbW HOPC
  have HF := Lib.hid (fun w => ref_fields op hop24 w)
  have HENC := Lib.hid (fun a b n w => ref_encode op a b n hop24 w)
  generalize hasA op = A at HF HWR
  generalize hasB op = B at HF HWR
  generalize hasI op = I at HF HWR
  refine seq_mid_p (fun a' w' => ActIs a' (fun z => { tmps := (.slice (some ⟨g, off, none⟩) N cap :: .int .i64 (here : Int) :: v :: undef :: undef :: undef :: .int .u32 0 :: .bool false :: undef :: undef :: .int .i64 (op : Int) :: .bool A :: .bool B :: .bool I :: .bool (decide (1 ≤ op)) :: undef :: undef :: undef :: undef :: undef :: undef :: (z 21) :: (z 22) :: (z 23) :: (z 24) :: undef :: undef :: undef :: undef :: undef :: undef :: undef :: undef :: undef :: undef :: undef :: undef :: undef :: undef :: undef :: undef :: undef :: undef :: undef :: undef :: undef :: (z 46) :: (z 47) :: (z 48) :: (z 49) :: (z 50) :: (z 51) :: (z 52) :: (z 53) :: (z 54) :: (z 55) :: (z 56) :: undef :: undef :: undef :: undef :: undef :: undef :: undef :: undef :: undef :: undef :: undef :: undef :: undef :: undef :: undef :: undef :: undef :: undef :: undef :: undef :: undef :: undef :: undef :: undef :: undef :: undef :: undef :: undef :: undef :: undef :: undef :: undef :: undef :: undef :: undef :: undef :: undef :: undef :: undef :: undef :: undef :: undef :: undef :: undef :: undef :: undef :: undef :: undef :: undef :: undef :: undef :: undef :: undef :: undef :: undef :: undef :: undef :: undef :: undef :: undef :: undef :: undef :: undef :: undef :: undef :: undef :: undef :: undef :: undef :: undef :: undef :: undef :: undef :: undef :: undef :: undef :: undef :: undef :: undef :: undef :: undef :: undef :: undef :: undef :: undef :: undef :: undef :: undef :: undef :: undef :: undef :: undef :: undef :: undef :: undef :: undef :: undef :: undef :: undef :: undef :: undef :: undef :: undef :: undef :: []).toArray, defers := [] }) ∧ w' = W0) ?_ ?_
  · go_wp2_with fail
    refine (HF.out _).mono ?_
    rintro e w1 ⟨rfl, hw1⟩
    rw [hw1]
    clear hw1 w1
    go_wp2_with fail
    exact ⟨mid_z rfl, trivial⟩
  rintro a' w' ⟨⟨z, rfl⟩, hw'⟩
  rw [hw']
  clear hw' w' HF
  refine seq_mid_p (fun a' w' => ActIs a' (fun z => { tmps := (.slice (some ⟨g, off, none⟩) N cap :: .int .i64 (here : Int) :: v :: undef :: undef :: undef :: .int .u32 0 :: .bool false :: undef :: undef :: .int .i64 (op : Int) :: .bool A :: .bool B :: .bool I :: .bool true :: undef :: undef :: undef :: undef :: undef :: undef :: (z 21) :: (z 22) :: (z 23) :: (z 24) :: undef :: undef :: undef :: undef :: undef :: undef :: undef :: undef :: undef :: undef :: undef :: undef :: undef :: undef :: undef :: undef :: undef :: undef :: undef :: undef :: undef :: (z 46) :: (z 47) :: (z 48) :: (z 49) :: (z 50) :: (z 51) :: (z 52) :: (z 53) :: (z 54) :: (z 55) :: (z 56) :: (z 57) :: (z 58) :: undef :: undef :: undef :: undef :: undef :: undef :: undef :: undef :: undef :: undef :: undef :: undef :: undef :: undef :: undef :: undef :: undef :: undef :: undef :: undef :: undef :: undef :: undef :: undef :: undef :: undef :: undef :: undef :: undef :: undef :: undef :: undef :: undef :: undef :: undef :: undef :: undef :: undef :: undef :: undef :: undef :: undef :: undef :: undef :: undef :: undef :: undef :: undef :: undef :: undef :: undef :: undef :: undef :: undef :: undef :: undef :: undef :: undef :: undef :: undef :: undef :: undef :: undef :: undef :: undef :: undef :: undef :: undef :: undef :: undef :: undef :: undef :: undef :: undef :: undef :: undef :: undef :: undef :: undef :: undef :: undef :: undef :: undef :: undef :: undef :: undef :: undef :: undef :: undef :: undef :: undef :: undef :: undef :: undef :: undef :: undef :: undef :: undef :: undef :: undef :: undef :: undef :: []).toArray, defers := [] }) ∧ w' = W0 ∧ 1 ≤ op) ?_ ?_
  · by_cases h1 : 1 ≤ op
    · have e1 : decide (1 ≤ op) = true := decide_eq_true h1
      rw [e1]
      have H1 := Lib.hid h1
      clear h1 e1
      go_wp2_with fail
      exact ⟨mid_z rfl, trivial, H1.out⟩
    · have e1 : decide (1 ≤ op) = false := decide_eq_false h1
      rw [e1]
      have HN := Lib.hid (HWZ.out (by omega))
      clear h1 e1
      go_wp2_with fail
      go_ret2
      rw [HN.out]
      exact ⟨⟨_, rfl, fun y hy => (by cases hy)⟩, HBW.out⟩
  rintro a' w' ⟨⟨z, rfl⟩, hw', hop1⟩
  rw [hw']
  clear hw' w'
  have HW1 := Lib.hid (HWR.out (by omega))
  obtain ⟨b, hb0⟩ : ∃ b, b = W0.heap.size := ⟨_, rfl⟩
  obtain ⟨W1, hW1⟩ : ∃ W1, W1 = W0.alloc (.cells #[.int .i64 (op : Int), .int .i64 0, .int .i64 0, .int .i64 0] 87) := ⟨_, rfl⟩
  refine seq_mid_p (fun a' w' => ActIs a' (fun z => { tmps := (.slice (some ⟨g, off, none⟩) N cap :: .int .i64 (here : Int) :: v :: undef :: undef :: undef :: .int .u32 0 :: .bool false :: undef :: undef :: .int .i64 (op : Int) :: .bool A :: .bool B :: .bool I :: .bool true :: .pointer (some ⟨b, 0, none⟩) :: undef :: undef :: undef :: undef :: undef :: (z 21) :: (z 22) :: (z 23) :: (z 24) :: undef :: undef :: undef :: undef :: undef :: undef :: undef :: undef :: undef :: undef :: undef :: undef :: undef :: undef :: undef :: undef :: undef :: undef :: undef :: undef :: undef :: (z 46) :: (z 47) :: (z 48) :: (z 49) :: (z 50) :: (z 51) :: (z 52) :: (z 53) :: (z 54) :: (z 55) :: (z 56) :: (z 57) :: (z 58) :: (z 59) :: (z 60) :: undef :: undef :: undef :: undef :: undef :: undef :: undef :: undef :: undef :: undef :: undef :: undef :: undef :: undef :: undef :: undef :: undef :: undef :: undef :: undef :: undef :: undef :: undef :: undef :: undef :: undef :: undef :: undef :: undef :: undef :: undef :: undef :: undef :: undef :: undef :: undef :: undef :: undef :: undef :: undef :: undef :: undef :: undef :: undef :: undef :: undef :: undef :: undef :: undef :: undef :: undef :: undef :: undef :: undef :: undef :: undef :: undef :: undef :: undef :: undef :: undef :: undef :: undef :: undef :: undef :: undef :: undef :: undef :: undef :: undef :: undef :: undef :: undef :: undef :: undef :: undef :: undef :: undef :: undef :: undef :: undef :: undef :: undef :: undef :: undef :: undef :: undef :: undef :: undef :: undef :: undef :: undef :: undef :: undef :: undef :: undef :: undef :: undef :: undef :: undef :: []).toArray, defers := [] }) ∧ w' = W1) ?_ ?_
  · rw [hb0, hW1]
    go_wp2_with fail
    exact ⟨mid_z rfl, trivial⟩
  rintro a' w' ⟨⟨z, rfl⟩, hw'⟩
  rw [hw']
  clear hw' w'
  have HB0 := Lib.hid hb0
  have hIN : W1.heap[b]? = some (.cells #[.int .i64 (op : Int), .int .i64 0, .int .i64 0, .int .i64 0] 87 (0, 0)) := by rw [hW1, hb0]; exact heap_alloc_new _ _
  have hbW1 : Below b W0 W1 := by rw [hW1, hb0]; exact (Below.refl _ _).alloc (Nat.le_refl _) _
  have HIN := Lib.hid hIN
  have HBW1 := Lib.hid hbW1
  have HWB : Hid (∀ W, Below b W0 W → Below w.heap.size w W) := Lib.hid fun W hb => HBW.out.trans (hb.mono (by have := HZ.out; have := HB0.out; omega))
  have HREG := Lib.hid (fun (j : Nat) (y : List UInt8) (hy : ps[j]? = some y) (w : World) => ref_register y (by have := HPL.out y (List.mem_of_getElem? hy); omega) w)
  clear hIN hbW1 hW1 hb0
  refine seq_mid_p (fun a' w' => ActIs a' (fun z => { tmps := (.slice (some ⟨g, off, none⟩) N cap :: .int .i64 (here : Int) :: v :: undef :: undef :: undef :: .int .u32 0 :: .bool false :: undef :: undef :: .int .i64 (op : Int) :: .bool A :: .bool B :: .bool I :: .bool true :: .pointer (some ⟨b, 0, none⟩) :: .int .i64 1 :: undef :: undef :: undef :: undef :: (z 21) :: (z 22) :: (z 23) :: (z 24) :: undef :: undef :: undef :: undef :: undef :: undef :: undef :: undef :: undef :: undef :: undef :: undef :: undef :: undef :: undef :: undef :: undef :: undef :: undef :: undef :: undef :: (z 46) :: (z 47) :: (z 48) :: (z 49) :: (z 50) :: (z 51) :: (z 52) :: (z 53) :: (z 54) :: (z 55) :: (z 56) :: (z 57) :: (z 58) :: (z 59) :: (z 60) :: undef :: undef :: undef :: undef :: undef :: undef :: undef :: undef :: undef :: undef :: undef :: undef :: undef :: undef :: undef :: undef :: undef :: undef :: undef :: undef :: undef :: undef :: undef :: undef :: undef :: undef :: undef :: undef :: undef :: undef :: undef :: undef :: undef :: undef :: undef :: undef :: undef :: undef :: undef :: undef :: undef :: undef :: undef :: undef :: undef :: undef :: undef :: undef :: undef :: undef :: undef :: undef :: undef :: undef :: undef :: undef :: undef :: undef :: undef :: undef :: undef :: undef :: undef :: undef :: undef :: undef :: undef :: undef :: undef :: undef :: undef :: undef :: undef :: undef :: undef :: undef :: undef :: undef :: undef :: undef :: undef :: undef :: undef :: undef :: undef :: undef :: undef :: undef :: undef :: undef :: undef :: undef :: undef :: undef :: undef :: undef :: undef :: undef :: undef :: undef :: []).toArray, defers := [] }) ∧ w' = W1) ?_ ?_
  · go_wp2_with fail
    exact ⟨mid_z rfl, trivial⟩
  rintro a' w' ⟨⟨z, rfl⟩, hw'⟩
  rw [hw']
  clear hw' w'
  refine seq_mid_p (fun a' w' => ∃ (k : Nat) (av : Int), ActIs a' (fun z => { tmps := (.slice (some ⟨g, off, none⟩) N cap :: .int .i64 (here : Int) :: v :: undef :: undef :: undef :: .int .u32 0 :: .bool false :: undef :: undef :: .int .i64 (op : Int) :: .bool A :: .bool B :: .bool I :: .bool true :: .pointer (some ⟨b, 0, none⟩) :: .int .i64 (k : Int) :: undef :: undef :: undef :: undef :: (z 21) :: (z 22) :: (z 23) :: (z 24) :: undef :: undef :: undef :: undef :: undef :: undef :: undef :: undef :: undef :: undef :: undef :: undef :: undef :: undef :: undef :: undef :: undef :: undef :: undef :: undef :: undef :: (z 46) :: (z 47) :: (z 48) :: (z 49) :: (z 50) :: (z 51) :: (z 52) :: (z 53) :: (z 54) :: (z 55) :: (z 56) :: (z 57) :: (z 58) :: (z 59) :: (z 60) :: (z 61) :: (z 62) :: (z 63) :: (z 64) :: (z 65) :: (z 66) :: (z 67) :: (z 68) :: (z 69) :: (z 70) :: (z 71) :: (z 72) :: (z 73) :: (z 74) :: (z 75) :: (z 76) :: (z 77) :: (z 78) :: (z 79) :: (z 80) :: (z 81) :: undef :: undef :: undef :: undef :: undef :: undef :: undef :: undef :: undef :: undef :: undef :: undef :: undef :: undef :: undef :: undef :: undef :: undef :: undef :: undef :: undef :: undef :: undef :: undef :: undef :: undef :: undef :: undef :: undef :: undef :: undef :: undef :: undef :: undef :: undef :: undef :: undef :: undef :: undef :: undef :: undef :: undef :: undef :: undef :: undef :: undef :: undef :: undef :: undef :: undef :: undef :: undef :: undef :: undef :: undef :: undef :: undef :: undef :: undef :: undef :: undef :: undef :: undef :: undef :: undef :: undef :: undef :: undef :: undef :: undef :: undef :: undef :: undef :: undef :: undef :: undef :: undef :: undef :: undef :: []).toArray, defers := [] }) ∧ 1 ≤ k ∧ k ≤ 2 ∧ k ≤ N ∧ w'.heap[b]? = some (.cells #[.int .i64 (op : Int), .int .i64 av, .int .i64 0, .int .i64 0] 87 (0, 0)) ∧ Below b W0 w' ∧ wordR labs here ps = wR2 labs here op B I av (ps.drop k)) ?_ ?_
  · cases A with
    | false =>
      go_wp2_with fail
      exact ⟨1, 0, mid_z rfl, by omega, by omega, hn2, HIN.out, HBW1.out, by rw [HW1.out]; simp only [wR1, regTake_false]⟩
    | true =>
      by_cases hk : N ≤ 1
      · have k1 : (N : Int) ≤ 1 := by omega
        have HN : Hid (wordR labs here ps = none) := Lib.hid (by rw [HW1.out, List.drop_of_length_le (by rw [← HNN.out]; exact hk)]; rfl)
        clear hk
        go_wp2_with fail
        go_ret2
        rw [HN.out]
        exact ⟨⟨_, rfl, fun y hy => (by cases hy)⟩, HWB.out _ HBW1.out⟩
      · obtain ⟨x, hx, hdr⟩ := drop_at_split (ps := ps) (k := 1) (by have := HNN.out; omega)
        have k1 : ¬ (N : Int) ≤ 1 := by omega
        have k2 : (1 : Int) < (N : Int) := by omega
        have k3 : 1 < N := by omega
        have d1 := HC2.out W1 (HWB.out _ HBW1.out) 1 x hx
        have HX := Lib.hid (HREG.out 1 x hx)
        by_cases hr : regR x < 0
        · have HN : Hid (wordR labs here ps = none) := Lib.hid (by rw [HW1.out, hdr]; simp only [wR1, regTake_neg hr])
          generalize regR x = rv at HX hr
          clear hdr hx hk
          go_wp2_with fail
          refine (HX.out _).mono ?_
          rintro e w1 ⟨rfl, hw1⟩
          rw [hw1]
          clear hw1 w1
          go_wp2_with fail
          go_ret2
          rw [HN.out]
          exact ⟨⟨_, rfl, fun y hy => (by cases hy)⟩, HWB.out _ HBW1.out⟩
        · have HN : Hid (wordR labs here ps = wR2 labs here op B I (regR x) (ps.drop 2)) := Lib.hid (by rw [HW1.out, hdr]; simp only [wR1, regTake_pos hr])
          generalize regR x = rv at HX hr HN
          have cB1 := cell_of_row W1 b 1 _ _ _ HIN.out
          have fB1 := frozen_of_row W1 b 1 _ _ HIN.out
          simp only [List.getElem?_toArray, List.getElem?_cons_succ, List.getElem?_cons_zero] at cB1
          clear hdr hx hk
          go_wp2_with fail
          refine (HX.out _).mono ?_
          rintro e w1 ⟨rfl, hw1⟩
          rw [hw1]
          clear hw1 w1
          go_wp2_with fail
          refine (HX.out _).mono ?_
          rintro e w1 ⟨rfl, hw1⟩
          rw [hw1]
          clear hw1 w1
          go_wp2_with fail
          exact ⟨2, rv, mid_z rfl, by omega, by omega, by omega, heap_setCell_same W1 b 1 _ _ _ HIN.out, HBW1.out.setCell (by simp) _, HN.out⟩
  rintro a' W2 ⟨k, av, ⟨z, rfl⟩, hk1, hk2, hkN, hIN2, hb2, hw2⟩
  have HIN2 := Lib.hid hIN2
  have HB2 := Lib.hid hb2
  have HW2 := Lib.hid hw2
  have wr1 : IntKind.i64.wrap ((k : Int) + 1) = (k : Int) + 1 := by rw [IntKind.wrap_i64] <;> omega
  have hk0 : (0 : Int) ≤ (k : Int) := by omega
  clear hIN2 hb2 hw2
  refine seq_mid_p (fun a' w' => ∃ (k : Nat) (bv : Int), ActIs a' (fun z => { tmps := (.slice (some ⟨g, off, none⟩) N cap :: .int .i64 (here : Int) :: v :: undef :: undef :: undef :: .int .u32 0 :: .bool false :: undef :: undef :: .int .i64 (op : Int) :: .bool A :: .bool B :: .bool I :: .bool true :: .pointer (some ⟨b, 0, none⟩) :: .int .i64 (k : Int) :: undef :: undef :: undef :: undef :: (z 21) :: (z 22) :: (z 23) :: (z 24) :: undef :: undef :: undef :: undef :: undef :: undef :: undef :: undef :: undef :: undef :: undef :: undef :: undef :: undef :: undef :: undef :: undef :: undef :: undef :: undef :: undef :: (z 46) :: (z 47) :: (z 48) :: (z 49) :: (z 50) :: (z 51) :: (z 52) :: (z 53) :: (z 54) :: (z 55) :: (z 56) :: (z 57) :: (z 58) :: (z 59) :: (z 60) :: (z 61) :: (z 62) :: (z 63) :: (z 64) :: (z 65) :: (z 66) :: (z 67) :: (z 68) :: (z 69) :: (z 70) :: (z 71) :: (z 72) :: (z 73) :: (z 74) :: (z 75) :: (z 76) :: (z 77) :: (z 78) :: (z 79) :: (z 80) :: (z 81) :: (z 82) :: (z 83) :: (z 84) :: (z 85) :: (z 86) :: (z 87) :: (z 88) :: (z 89) :: (z 90) :: (z 91) :: (z 92) :: (z 93) :: (z 94) :: (z 95) :: (z 96) :: (z 97) :: (z 98) :: (z 99) :: (z 100) :: (z 101) :: (z 102) :: undef :: undef :: undef :: undef :: undef :: undef :: undef :: undef :: undef :: undef :: undef :: undef :: undef :: undef :: undef :: undef :: undef :: undef :: undef :: undef :: undef :: undef :: undef :: undef :: undef :: undef :: undef :: undef :: undef :: undef :: undef :: undef :: undef :: undef :: undef :: undef :: undef :: undef :: undef :: undef :: undef :: undef :: undef :: undef :: undef :: undef :: undef :: undef :: undef :: undef :: undef :: undef :: undef :: undef :: undef :: undef :: undef :: undef :: []).toArray, defers := [] }) ∧ 1 ≤ k ∧ k ≤ 3 ∧ k ≤ N ∧ w'.heap[b]? = some (.cells #[.int .i64 (op : Int), .int .i64 av, .int .i64 bv, .int .i64 0] 87 (0, 0)) ∧ Below b W0 w' ∧ wordR labs here ps = wR3 labs here op I av bv (ps.drop k)) ?_ ?_
  · cases B with
    | false =>
      go_wp2_with fail
      exact ⟨k, 0, mid_z rfl, hk1, by omega, hkN, HIN2.out, HB2.out, by rw [HW2.out]; simp only [wR2, regTake_false]⟩
    | true =>
      by_cases hk : N ≤ k
      · have k1 : (N : Int) ≤ (k : Int) := by omega
        have HN : Hid (wordR labs here ps = none) := Lib.hid (by rw [HW2.out, List.drop_of_length_le (by rw [← HNN.out]; exact hk)]; rfl)
        clear hk
        go_wp2_with fail
        go_ret2
        rw [HN.out]
        exact ⟨⟨_, rfl, fun y hy => (by cases hy)⟩, HWB.out _ HB2.out⟩
      · obtain ⟨x, hx, hdr⟩ := drop_at_split (ps := ps) (k := k) (by have := HNN.out; omega)
        have k1 : ¬ (N : Int) ≤ (k : Int) := by omega
        have k2 : (k : Int) < (N : Int) := by omega
        have k3 : k < N := by omega
        have d1 := HC2.out W2 (HWB.out _ HB2.out) k x hx
        have HX := Lib.hid (HREG.out k x hx)
        by_cases hr : regR x < 0
        · have HN : Hid (wordR labs here ps = none) := Lib.hid (by rw [HW2.out, hdr]; simp only [wR2, regTake_neg hr])
          generalize regR x = rv at HX hr
          clear hdr hx hk
          go_wp2_with fail
          refine (HX.out _).mono ?_
          rintro e w1 ⟨rfl, hw1⟩
          rw [hw1]
          clear hw1 w1
          go_wp2_with fail
          go_ret2
          rw [HN.out]
          exact ⟨⟨_, rfl, fun y hy => (by cases hy)⟩, HWB.out _ HB2.out⟩
        · have HN : Hid (wordR labs here ps = wR3 labs here op I av (regR x) (ps.drop (k + 1))) := Lib.hid (by rw [HW2.out, hdr]; simp only [wR2, regTake_pos hr])
          generalize regR x = rv at HX hr HN
          have cB1 := cell_of_row W2 b 2 _ _ _ HIN2.out
          have fB1 := frozen_of_row W2 b 2 _ _ HIN2.out
          simp only [List.getElem?_toArray, List.getElem?_cons_succ, List.getElem?_cons_zero] at cB1
          clear hdr hx hk
          go_wp2_with fail
          refine (HX.out _).mono ?_
          rintro e w1 ⟨rfl, hw1⟩
          rw [hw1]
          clear hw1 w1
          go_wp2_with fail
          refine (HX.out _).mono ?_
          rintro e w1 ⟨rfl, hw1⟩
          rw [hw1]
          clear hw1 w1
          go_wp2_with fail
          exact ⟨k + 1, rv, mid_z rfl, by omega, by omega, by omega, heap_setCell_same W2 b 2 _ _ _ HIN2.out, HB2.out.setCell (by simp) _, HN.out⟩
  clear wr1 hk0 hk1 hk2 hkN HIN2 HB2 HW2
  rintro a' W3 ⟨k, bv, ⟨z, rfl⟩, hk1, hk2, hkN, hIN3, hb3, hw3⟩
  have HIN3 := Lib.hid hIN3
  have HB3 := Lib.hid hb3
  have HW3 := Lib.hid hw3
  have wr1 : IntKind.i64.wrap ((k : Int) + 1) = (k : Int) + 1 := by rw [IntKind.wrap_i64] <;> omega
  have hk0 : (0 : Int) ≤ (k : Int) := by omega
  clear hIN3 hb3 hw3
  refine seq_mid_p (fun a' w' => ∃ (k : Nat) (n : Int), ActIs a' (fun z => { tmps := (.slice (some ⟨g, off, none⟩) N cap :: .int .i64 (here : Int) :: v :: undef :: undef :: undef :: .int .u32 0 :: .bool false :: undef :: undef :: .int .i64 (op : Int) :: .bool A :: .bool B :: .bool I :: .bool true :: .pointer (some ⟨b, 0, none⟩) :: .int .i64 (k : Int) :: (z 17) :: (z 18) :: (z 19) :: (z 20) :: (z 21) :: (z 22) :: (z 23) :: (z 24) :: undef :: undef :: undef :: undef :: undef :: undef :: undef :: undef :: undef :: undef :: undef :: undef :: undef :: undef :: undef :: undef :: undef :: undef :: undef :: undef :: undef :: (z 46) :: (z 47) :: (z 48) :: (z 49) :: (z 50) :: (z 51) :: (z 52) :: (z 53) :: (z 54) :: (z 55) :: (z 56) :: (z 57) :: (z 58) :: (z 59) :: (z 60) :: (z 61) :: (z 62) :: (z 63) :: (z 64) :: (z 65) :: (z 66) :: (z 67) :: (z 68) :: (z 69) :: (z 70) :: (z 71) :: (z 72) :: (z 73) :: (z 74) :: (z 75) :: (z 76) :: (z 77) :: (z 78) :: (z 79) :: (z 80) :: (z 81) :: (z 82) :: (z 83) :: (z 84) :: (z 85) :: (z 86) :: (z 87) :: (z 88) :: (z 89) :: (z 90) :: (z 91) :: (z 92) :: (z 93) :: (z 94) :: (z 95) :: (z 96) :: (z 97) :: (z 98) :: (z 99) :: (z 100) :: (z 101) :: (z 102) :: (z 103) :: (z 104) :: (z 105) :: (z 106) :: (z 107) :: (z 108) :: (z 109) :: (z 110) :: (z 111) :: (z 112) :: (z 113) :: (z 114) :: (z 115) :: (z 116) :: (z 117) :: (z 118) :: (z 119) :: (z 120) :: (z 121) :: (z 122) :: (z 123) :: (z 124) :: (z 125) :: (z 126) :: (z 127) :: (z 128) :: (z 129) :: (z 130) :: (z 131) :: (z 132) :: (z 133) :: (z 134) :: (z 135) :: (z 136) :: (z 137) :: (z 138) :: (z 139) :: (z 140) :: (z 141) :: (z 142) :: (z 143) :: (z 144) :: (z 145) :: (z 146) :: (z 147) :: (z 148) :: (z 149) :: (z 150) :: (z 151) :: (z 152) :: undef :: undef :: undef :: undef :: undef :: undef :: undef :: undef :: []).toArray, defers := [] }) ∧ 1 ≤ k ∧ k ≤ 4 ∧ k ≤ N ∧ w'.heap[b]? = some (.cells #[.int .i64 (op : Int), .int .i64 av, .int .i64 bv, .int .i64 n] 87 (0, 0)) ∧ Below b W0 w' ∧ wordR labs here ps = wordEndR op av bv n (ps.drop k)) ?_ ?_
  · cases I with
    | false =>
      go_wp2_with fail
      exact ⟨k, 0, mid_z rfl, hk1, by omega, hkN, HIN3.out, HB3.out, by rw [HW3.out]; rfl⟩
    | true =>
      by_cases hk : N ≤ k
      · have k1 : (N : Int) ≤ (k : Int) := by omega
        have HN : Hid (wordR labs here ps = none) := Lib.hid (by rw [HW3.out, List.drop_of_length_le (by rw [← HNN.out]; exact hk)]; rfl)
        clear hk
        go_wp2_with fail
        go_ret2
        rw [HN.out]
        exact ⟨⟨_, rfl, fun y hy => (by cases hy)⟩, HWB.out _ HB3.out⟩
      · obtain ⟨x, hx, hdr⟩ := drop_at_split (ps := ps) (k := k) (by have := HNN.out; omega)
        have k1 : ¬ (N : Int) ≤ (k : Int) := by omega
        have k2 : (k : Int) < (N : Int) := by omega
        have k3 : k < N := by omega
        have d1 := HC2.out W3 (HWB.out _ HB3.out) k x hx
        have hxl : x.length ≤ 1000000 := by have := HPL.out x (List.mem_of_getElem? hx); omega
        have HX := Lib.hid (fun w => ref_number x hxl w)
        have HPX := Lib.hid (fun w => ref_plain x hxl w)
        have HFX := Lib.hid (ref_find v labs (by have := HL.out; omega) x W3 (HV.out.on (HWB.out _ HB3.out)))
        have hwr : IntKind.i64.wrap ((((look labs x).getD 0 : Nat) : Int) - (here : Int)) = (((look labs x).getD 0 : Nat) : Int) - (here : Int) := by
          have : (look labs x).getD 0 ≤ 200000 := by
            cases hl : look labs x with
            | none => simp
            | some v => exact HLV.out x v hl
          rw [IntKind.wrap_i64] <;> omega
        have HGY : Hid ((goalR labs here op x).2 = true → wordR labs here ps = wordEndR op av bv (goalR labs here op x).1 (ps.drop (k + 1))) := Lib.hid (fun h => by rw [HW3.out, hdr]; simp [wR3, immTake, h])
        have HGN : Hid ((goalR labs here op x).2 = false → wordR labs here ps = none) := Lib.hid (fun h => by rw [HW3.out, hdr]; simp [wR3, immTake, h])
        have hG : goalR labs here op x = if !(numR x).2 && (decide (18 ≤ op) && (decide (op ≤ 22) && !plainR x)) then ((((look labs x).getD 0 : Nat) : Int) - (here : Int), (look labs x).isSome) else numR x := rfl
        generalize goalR labs here op x = G at HGY HGN hG
        generalize numR x = nx at HX hG
        generalize plainR x = px at HPX hG
        obtain ⟨nv, nb⟩ := nx
        simp only at HX hG
        have cB1 := cell_of_row W3 b 3 _ _ _ HIN3.out
        have fB1 := frozen_of_row W3 b 3 _ _ HIN3.out
        simp only [List.getElem?_toArray, List.getElem?_cons_succ, List.getElem?_cons_zero] at cB1
        generalize look labs x = lk at HFX hwr hG
        clear hdr hx hk hxl
        cases nb with
        | true =>
          have HY : Hid (wordR labs here ps = wordEndR op av bv nv (ps.drop (k + 1))) := Lib.hid (by
            have e : G = (nv, true) := by rw [hG]; rfl
            rw [e] at HGY; exact HGY.out rfl)
          clear HGY HGN hG
          go_wp2_with fail
          refine (HX.out _).mono ?_
          rintro e w1 ⟨rfl, hw1⟩
          rw [hw1]
          clear hw1 w1
          go_wp2_with fail
          exact ⟨k + 1, nv, mid_z rfl, by omega, by omega, by omega, heap_setCell_same W3 b 3 _ _ _ HIN3.out, HB3.out.setCell (by simp) _, HY.out⟩
        | false =>
          have hq : (¬ (18 : Int) ≤ (op : Int) ∧ G = (nv, false)) ∨ ((18 : Int) ≤ (op : Int) ∧ ¬ (op : Int) ≤ 22 ∧ G = (nv, false)) ∨ ((18 : Int) ≤ (op : Int) ∧ (op : Int) ≤ 22 ∧ G = if px then (nv, false) else (((lk.getD 0 : Nat) : Int) - (here : Int), lk.isSome)) := by
            rw [hG]
            by_cases h1 : 18 ≤ op
            · right
              by_cases h2 : op ≤ 22
              · right; exact ⟨by omega, by omega, by rw [decide_eq_true h1, decide_eq_true h2]; cases px <;> rfl⟩
              · left; exact ⟨by omega, by omega, by rw [decide_eq_false h2]; simp⟩
            · left; exact ⟨by omega, by rw [decide_eq_false h1]; simp⟩
          have HQ := Lib.hid hq
          clear hq hG
          rcases HQ.out with ⟨k5, h⟩ | ⟨k5, k6, h⟩ | ⟨k5, k6, h⟩
          · have HN : Hid (wordR labs here ps = none) := Lib.hid (HGN.out (by rw [h]))
            clear HGY HGN h HQ
            go_wp2_with fail
            refine (HX.out _).mono ?_
            rintro e w1 ⟨rfl, hw1⟩
            rw [hw1]
            clear hw1 w1
            go_wp2_with fail
            go_ret2
            rw [HN.out]
            exact ⟨⟨_, rfl, fun y hy => (by cases hy)⟩, HWB.out _ HB3.out⟩
          · have HN : Hid (wordR labs here ps = none) := Lib.hid (HGN.out (by rw [h]))
            clear HGY HGN h HQ
            go_wp2_with fail
            refine (HX.out _).mono ?_
            rintro e w1 ⟨rfl, hw1⟩
            rw [hw1]
            clear hw1 w1
            go_wp2_with fail
            go_ret2
            rw [HN.out]
            exact ⟨⟨_, rfl, fun y hy => (by cases hy)⟩, HWB.out _ HB3.out⟩
          · cases px with
            | true =>
              have HN : Hid (wordR labs here ps = none) := Lib.hid (HGN.out (by rw [h]; rfl))
              clear HGY HGN h HQ
              go_wp2_with fail
              refine (HX.out _).mono ?_
              rintro e w1 ⟨rfl, hw1⟩
              rw [hw1]
              clear hw1 w1
              go_wp2_with fail
              refine (HPX.out _).mono ?_
              rintro e w1 ⟨rfl, hw1⟩
              rw [hw1]
              clear hw1 w1
              go_wp2_with fail
              go_ret2
              rw [HN.out]
              exact ⟨⟨_, rfl, fun y hy => (by cases hy)⟩, HWB.out _ HB3.out⟩
            | false =>
              have hG2 : G = (((lk.getD 0 : Nat) : Int) - (here : Int), lk.isSome) := h
              generalize hls : lk.isSome = ls at HFX hG2
              generalize ((lk.getD 0 : Nat) : Int) = lv at HFX hG2 hwr
              cases ls with
              | true =>
                have HY : Hid (wordR labs here ps = wordEndR op av bv (lv - (here : Int)) (ps.drop (k + 1))) := Lib.hid (by
                  rw [hG2] at HGY; exact HGY.out rfl)
                clear HGY HGN hG2 h HQ hls
                go_wp2_with fail
                refine (HX.out _).mono ?_
                rintro e w1 ⟨rfl, hw1⟩
                rw [hw1]
                clear hw1 w1
                go_wp2_with fail
                refine (HPX.out _).mono ?_
                rintro e w1 ⟨rfl, hw1⟩
                rw [hw1]
                clear hw1 w1
                go_wp2_with fail
                refine HFX.out.mono ?_
                rintro e w1 ⟨rfl, hw1⟩
                rw [hw1]
                clear hw1 w1
                go_wp2_with fail
                exact ⟨k + 1, lv - (here : Int), mid_z rfl, by omega, by omega, by omega, heap_setCell_same W3 b 3 _ _ _ HIN3.out, HB3.out.setCell (by simp) _, HY.out⟩
              | false =>
                have HN : Hid (wordR labs here ps = none) := Lib.hid (HGN.out (by rw [hG2]))
                clear HGY HGN hG2 h HQ hls
                go_wp2_with fail
                refine (HX.out _).mono ?_
                rintro e w1 ⟨rfl, hw1⟩
                rw [hw1]
                clear hw1 w1
                go_wp2_with fail
                refine (HPX.out _).mono ?_
                rintro e w1 ⟨rfl, hw1⟩
                rw [hw1]
                clear hw1 w1
                go_wp2_with fail
                refine HFX.out.mono ?_
                rintro e w1 ⟨rfl, hw1⟩
                rw [hw1]
                clear hw1 w1
                go_wp2_with fail
                go_ret2
                rw [HN.out]
                exact ⟨⟨_, rfl, fun y hy => (by cases hy)⟩, HWB.out _ HB3.out⟩
  clear wr1 hk0 hk1 hk2 hkN HIN3 HB3 HW3
  rintro a' W4 ⟨k, n, ⟨z, rfl⟩, hk1, hk2, hkN, hIN4, hb4, hw4⟩
  have HIN4 := Lib.hid hIN4
  have HB4 := Lib.hid hb4
  have HW4 := Lib.hid hw4
  clear hIN4 hb4 hw4
  by_cases hkn : k = N
  · have k1 : ((k : Int) == (N : Int)) = true := beq_iff_eq.2 (by omega)
    have k2 : ((k : Int) != (N : Int)) = false := by simp [bne, k1]
    have HY : Hid (wordR labs here ps = if validP op av bv n then some (encV op av bv n) else none) := Lib.hid (by
      rw [HW4.out, List.drop_of_length_le (by rw [← HNN.out]; omega)]; simp [wordEndR])
    have HEN := Lib.hid (fun w => HENC.out av bv n w)
    have e0 := cell_of_row W4 b 0 _ _ _ HIN4.out
    have e1 := cell_of_row W4 b 1 _ _ _ HIN4.out
    have e2 := cell_of_row W4 b 2 _ _ _ HIN4.out
    have e3 := cell_of_row W4 b 3 _ _ _ HIN4.out
    simp only [List.getElem?_toArray, List.getElem?_cons_succ, List.getElem?_cons_zero] at e0 e1 e2 e3
    clear hkn
    go_wp2_with fail
    refine (HEN.out _).mono ?_
    rintro e w1 ⟨rfl, hb1⟩
    have HBE : Hid (Below w.heap.size w w1) := Lib.hid (have h := HWB.out _ HB4.out; h.trans (hb1.mono h.size))
    clear hb1
    go_wp2_with fail
    go_ret2
    rw [HY.out]
    refine ⟨?_, HBE.out⟩
    cases hvp : validP op av bv n
    · exact ⟨_, rfl, fun y hy => (by simp at hy)⟩
    · exact ⟨_, rfl, fun y hy => (by simp at hy; rw [← hy]; simp [encR, hvp])⟩
  · have k1 : ((k : Int) == (N : Int)) = false := beq_eq_false_iff_ne.2 (by omega)
    have k2 : ((k : Int) != (N : Int)) = true := by simp [bne, k1]
    have HN : Hid (wordR labs here ps = none) := Lib.hid (by
      rw [HW4.out]
      unfold wordEndR
      rw [if_neg]
      intro h
      have := List.drop_eq_nil_iff.1 h
      have := HNN.out
      omega)
    clear hkn
    go_wp2_with fail
    go_ret2
    rw [HN.out]
    exact ⟨⟨_, rfl, fun y hy => (by cases hy)⟩, HWB.out _ HB4.out⟩
end Go.Proofs.YtapjfcljbdlnkaaGreatDoor
