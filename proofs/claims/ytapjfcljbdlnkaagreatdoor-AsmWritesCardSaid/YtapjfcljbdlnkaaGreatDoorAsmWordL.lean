/- A line's word: the plain law; where a jump goes (asm.reader.goal). -/
import Derived.Test.YtapjfcljbdlnkaaGreatDoorAsmRd2
import Derived.Test.YtapjfcljbdlnkaaGreatDoorAsmEnc2
namespace Go.Proofs.YtapjfcljbdlnkaaGreatDoor
open Go Go.RowKit Go.Lib
set_option maxRecDepth 100000

/-- where a jump goes -/
def goalP (labs : List (List UInt8 × Nat)) (s : List UInt8) (here : Nat) : Int × Bool := if decimalP s then numP s else ((((look labs s).getD 0 : Nat) : Int) - (here : Int), (look labs s).isSome)
/-- an instruction's number; 0: none -/
def opGo (p : List UInt8) : Nat → Nat
  | 0 => 0
  | n + 1 => if opAt (n + 1) = p then n + 1 else opGo p n
def opOf (p : List UInt8) : Nat := opGo p 24
theorem opGo_le (p : List UInt8) : ∀ n, opGo p n ≤ n
  | 0 => Nat.le_refl _
  | n + 1 => by unfold opGo; split; exact Nat.le_refl _; exact Nat.le_succ_of_le (opGo_le p n)
/-- the registers that stand first, and what is left -/
def regsGo : Nat → List (List UInt8) → List Int × List (List UInt8)
  | 0, rest => ([], rest)
  | _ + 1, [] => ([], [])
  | n + 1, x :: rest => if (regP x).2 then ((regP x).1 :: (regsGo n rest).1, (regsGo n rest).2) else ([], x :: rest)
theorem regsGo_cons (n : Nat) (x : List UInt8) (rest : List (List UInt8)) : regsGo (n + 1) (x :: rest) = if (regP x).2 then ((regP x).1 :: (regsGo n rest).1, (regsGo n rest).2) else ([], x :: rest) := rfl
theorem regsGo_len : ∀ n l, (regsGo n l).1.length ≤ n ∧ (regsGo n l).2.length ≤ l.length
  | 0, rest => ⟨by simp [regsGo], by simp [regsGo]⟩
  | n + 1, [] => ⟨by simp [regsGo], by simp [regsGo]⟩
  | n + 1, x :: rest => by
    have ih := regsGo_len n rest
    unfold regsGo
    split
    · exact ⟨by simp; omega, by simp; omega⟩
    · exact ⟨by simp, by simp⟩
def wordName : List UInt8 := [119, 111, 114, 100]
/-- behind the registers: op, the registers, the rest -/
def wordEnd (labs : List (List UInt8 × Nat)) (here op : Nat) (regs : List Int) : List (List UInt8) → Option Int
  | [] => if shapeP op regs.length 0 && validP op (regs.getD 0 0) (regs.getD 1 0) 0 then some (encV op (regs.getD 0 0) (regs.getD 1 0) 0) else none
  | [x] =>
    let n := if 18 ≤ op ∧ op ≤ 22 then goalP labs x here else numP x
    if n.2 && (shapeP op regs.length 1 && validP op (regs.getD 0 0) (regs.getD 1 0) n.1) then some (encV op (regs.getD 0 0) (regs.getD 1 0) n.1) else none
  | _ :: _ :: _ => none
def wordNum (x : List UInt8) : Option Int := if (numP x).2 && (decide (0 ≤ (numP x).1) && decide ((numP x).1 < 4294967296)) then some (numP x).1 else none
/-- a line's word -/
def wordP (labs : List (List UInt8 × Nat)) (here : Nat) : List (List UInt8) → Option Int
  | [] => none
  | p :: rest =>
    if p = wordName ∧ rest.length = 1 then wordNum (rest.getD 0 [])
    else wordEnd labs here (opOf p) (regsGo (regsP (opOf p)) rest).1 (regsGo (regsP (opOf p)) rest).2

theorem wordP_else (labs : List (List UInt8 × Nat)) (here : Nat) {p : List UInt8} {rest : List (List UInt8)} (h : ¬ (p = wordName ∧ rest.length = 1)) :
    wordP labs here (p :: rest) = wordEnd labs here (opOf p) (regsGo (regsP (opOf p)) rest).1 (regsGo (regsP (opOf p)) rest).2 := by
  simp only [wordP, if_neg h]
theorem parts_tail {W : World} {lo g off n c : Nat} {x : List UInt8} {rs : List (List UInt8)} (h : PartsIn W lo (.slice (some ⟨g, off, none⟩) n c) (x :: rs)) :
    n = rs.length + 1 ∧ n ≤ c ∧ c ≤ maxLen ∧ W.cell? ⟨g, off, none⟩ = some (.string (bs x)) ∧ (rs ≠ [] → PartsIn W lo (.slice (some ⟨g, off + 1, none⟩) rs.length (c - 1)) rs) := by
  obtain ⟨g', off', cap', hsl, q1, q2, q3, q4, q5, q6⟩ := h
  have h0 := q6 0 x rfl
  simp only [Nat.add_zero] at h0
  simp only [List.length_cons] at hsl q1
  cases hsl
  refine ⟨rfl, q1, q2, h0, fun hne => ⟨g, off + 1, c - 1, rfl, by omega, by omega, hne, q4, q5, fun j y hy => ?_⟩⟩
  have := q6 (j + 1) y (by simpa using hy)
  rwa [show off + 1 + j = off + (j + 1) by omega]
theorem regsP_le (op : Nat) : regsP op ≤ 2 := by
  unfold regsP
  split
  · omega
  · split
    · omega
    · split <;> omega
/-- numbers, as cells -/
def ints (l : List Int) : List Value := l.map fun x => Value.int .i64 x
theorem ints_snoc (l : List Int) (x : Int) : ints (l ++ [x]) = ints l ++ [.int .i64 x] := by simp [ints]
theorem int_info : (Tryz.prog.info? 3).map (fun i => (i.zero, i.size, i.bytes)) = some (some (.int .i64 0), 1, 8) := by kernel_rfl
theorem shapeP_big (op r n : Nat) (h : 2 ≤ n) : shapeP op r n = false := by
  have h1 : (n == 1) = false := beq_eq_false_iff_ne.2 (by omega)
  have h0 : (n == 0) = false := beq_eq_false_iff_ne.2 (by omega)
  unfold shapeP
  simp [h0, h1]
theorem wordEnd_one (labs : List (List UInt8 × Nat)) (here op : Nat) (regs : List Int) (x : List UInt8) (n : Int × Bool) (hn : n = if 18 ≤ op ∧ op ≤ 22 then goalP labs x here else numP x) :
    wordEnd labs here op regs [x] = if n.2 && (shapeP op regs.length 1 && validP op (regs.getD 0 0) (regs.getD 1 0) n.1) then some (encV op (regs.getD 0 0) (regs.getD 1 0) n.1) else none := by
  subst hn; rfl
/-- what word hands back -/
def WordPost (b : Nat) (r : Option Int) (w : World) (e : Ending) (w' : World) : Prop :=
  (∃ v, e = .returned (.tuple #[.int .u32 v, .bool r.isSome]) ∧ ∀ x, r = some x → v = x) ∧ Step28 b w w' ∧ TabS w' b

set_option maxHeartbeats 1600000 in
theorem goal_any (b m lo here : Nat) (labs : List (List UInt8 × Nat)) (lines : List (List (List UInt8) × Nat)) (s : List UInt8) (hs : s.length ≤ 100000) (w : World) (he : Errs w) (h : RdAt w lo b m labs lines) (hlv : ∀ s v, look labs s = some v → v ≤ 200000) (hh : here ≤ 200000) :
    Calls Tryz.prog 39 #[.pointer (some ⟨b, 0, none⟩), .string (bs s), .int .i64 (here : Int)] w fun e w' => e = .returned (.tuple #[.int .i64 (goalP labs s here).1, .bool (goalP labs s here).2]) ∧ Below w.heap.size w w' := by
  have HD := Lib.hid (decimal_ok s hs w)
  have HN := Lib.hid (fun w1 (hb : Below w.heap.size w w1) => number_any s hs w1 (he.on hb))
  have HR := Lib.hid h
  have HLV := Lib.hid hlv
  clear h he hlv
  go_enter Tryz.func39, Tryz.ntmps39
  go_wp2_with fail
  refine HD.out.mono ?_
  rintro e w1 ⟨rfl, hb⟩
  have HB := Lib.hid hb
  have HN1 := Lib.hid (HN.out w1 hb)
  have HR1 := Lib.hid (HR.out.on hb)
  clear hb HD HN
  cases hd : decimalP s with
  | true =>
    have HG : Hid (goalP labs s here = numP s) := Lib.hid (by simp [goalP, hd])
    go_wp2_with fail
    refine HN1.out.mono ?_
    rintro e w2 ⟨rfl, hb2⟩
    have HB2 := Lib.hid (HB.out.trans (hb2.mono HB.out.size))
    clear hb2
    go_wp2_with fail
    go_ret2
    rw [HG.out]
    exact ⟨rfl, HB2.out⟩
  | false =>
    have HG : Hid (goalP labs s here = ((((look labs s).getD 0 : Nat) : Int) - (here : Int), (look labs s).isSome)) := Lib.hid (by simp [goalP, hd])
    obtain ⟨D, hmap, hD⟩ := HR1.out.mp
    have c28 := HR1.out.c28
    have hkey : keyOf Tryz.prog 9 (.string (bs s)) = some (.string s) := by
      have := WideMaps.keyOf_string_mk (P := Tryz.prog) Tryz.underlying9 (s := bs s) (by rw [bs_size]; unfold maxLen; omega)
      rwa [bs_data] at this
    have HM := Lib.hid hmap
    have HD0 := Lib.hid (hD.2 s)
    have HKY := Lib.hid hkey
    have hwr : IntKind.i64.wrap ((((look labs s).getD 0 : Nat) : Int) - (here : Int)) = (((look labs s).getD 0 : Nat) : Int) - (here : Int) := by
      have : (look labs s).getD 0 ≤ 200000 := by
        cases hl : look labs s with
        | none => simp
        | some v => exact HLV.out s v hl
      rw [IntKind.wrap_i64] <;> omega
    clear hmap hD hkey
    go_wp2_with (at_lookup; refine wpList_lookup_own_ok_int _ rfl _ _ 35 rfl 9 3 .i64 (Maps.string_keyed Tryz.underlying9) Tryz.underlying35 Tryz.underlying3 (Tryz.zeroValue3 _) m labs.length D rfl HM.out _ _ rfl HKY.out ?_; intro cL hat hwc; obtain rfl : cL = (((look labs s).getD 0 : Nat) : Int) := (by have h9 := HD0.out.2.symm.trans hat; simpa using h9.symm); rw [HD0.out.1])
    go_ret2
    rw [HG.out]
    exact ⟨rfl, HB.out⟩
end Go.Proofs.YtapjfcljbdlnkaaGreatDoor
