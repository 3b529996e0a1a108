/- The reference's Write. -/
import Derived.Test.YtapjfcljbdlnkaaGreatDoorWrLine
import Derived.Test.YtapjfcljbdlnkaaGreatDoorWrDec3
import Derived.Test.YtapjfcljbdlnkaaGreatDoorDigits
namespace Go.Proofs.YtapjfcljbdlnkaaGreatDoor
open Go Go.RowKit Go.Lib
set_option maxRecDepth 100000

/-- a slice of words that can be read: these words -/
def NReads (w : World) (v : Value) (l : List Nat) : Prop :=
  ∃ ad cap, v = .slice ad l.length cap ∧ ∀ (j x : Nat), l[j]? = some x → ∃ b off, ad = some ⟨b, off, none⟩ ∧ w.cell? ⟨b, off + j, none⟩ = some (.int .u32 (x : Int))
theorem NReads.on {w w' : World} {v : Value} {l : List Nat} (h : NReads w v l) (hb : Below w.heap.size w w') : NReads w' v l := by
  obtain ⟨ad, cap, hv, hc⟩ := h
  refine ⟨ad, cap, hv, fun j x hx => ?_⟩
  obtain ⟨b, off, e, h1⟩ := hc j x hx
  exact ⟨b, off, e, (hb.cell (World.block_lt_of_cell? _ _ h1)).trans h1⟩
theorem insX_no {x : Nat} (h : decOk x = false) : insX x = #[.int .i64 0, .int .i64 0, .int .i64 0, .int .i64 0] := by unfold insX; rw [if_neg (by rw [h]; simp)]
theorem insX_ok {x : Nat} (h : decOk x = true) : insX x = #[.int .i64 (opX x : Int), .int .i64 (aX x : Int), .int .i64 (bX x : Int), .int .i64 (immX x)] := by unfold insX; rw [if_pos h]
theorem str_bs {a : ByteArray} {l : List UInt8} (h : a.data.toList = l) : Value.string a = .string (bs l) := congrArg _ (ba_eq (by rw [h, bs_data]))

set_option maxHeartbeats 3200000 in
theorem ref_write (v : Value) (l : List Nat) (hx : ∀ x ∈ l, x < 4294967296) (hn : l.length ≤ 60) (w : World) (hv : NReads w v l) :
    Calls Tryz.prog 11 #[v] w fun e w' => e = .returned (.string (bs (writeL l))) ∧ Below w.heap.size w w' := by
  obtain ⟨ad, cap, rfl, hc⟩ := hv
  have HC := Lib.hid hc
  have HX := Lib.hid hx
  clear hc hx
  go_enter Tryz.func11, Tryz.ntmps11
  go_wp2_with (first | refine wpList_buildSliceAs rfl 56 9 25 _ rfl opArr Tryz.underlying56 (by decide) (by decide) (by kernel_rfl) ?_ | fail)
  have hcell : ∀ c, c < 25 → (w.alloc (.cells opArr 9)).cell? ⟨w.heap.size, c, none⟩ = some (.string (bs (opAt c))) := fun c hc => by
    rw [cell_of_row _ w.heap.size c _ _ _ (heap_alloc_new w _)]
    exact opArr_at c hc
  have hb : Below w.heap.size w (w.alloc (.cells opArr 9)) := (Below.refl _ _).alloc (Nat.le_refl _) _
  have hNm := Lib.hid hcell
  have hBw := Lib.hid hb
  clear hcell hb
  go_loopg [4, 5] l.length (fun k s u wr => ∃ i : Nat, k + i = l.length ∧ u = .int .i64 (i : Int) ∧ s = .string (bs (writeL (l.take i))) ∧ Below (w.alloc (.cells opArr 9)).heap.size (w.alloc (.cells opArr 9)) wr)
  case atStart => exact ⟨0, by simp, rfl, rfl, Below.refl _ _⟩
  case round =>
    obtain ⟨i, hk, rfl, rfl, hb⟩ := hrel
    have hk := Lib.hid hk
    have hbw : Below w.heap.size w wr := hBw.out.trans (hb.mono hBw.out.size)
    have HB := Lib.hid hb
    have HBW := Lib.hid hbw
    clear hb hbw
    by_cases hi : i < l.length
    · have hi1 : (i : Int) < (l.length : Int) := by omega
      have hi3 : (0 : Int) ≤ (i : Int) := by omega
      have hi4 : i < l.length := hi
      obtain ⟨x, hxi⟩ : ∃ x, l[i]? = some x := ⟨l[i], List.getElem?_eq_getElem (by omega)⟩
      obtain ⟨b, off, rfl, h1⟩ := HC.out i x hxi
      have d1 := (HBW.out.cell (World.block_lt_of_cell? _ _ h1)).trans h1
      have hx32 : x < 4294967296 := HX.out x (List.mem_of_getElem? hxi)
      have wr1 : IntKind.i64.wrap ((i : Int) + 1) = (i : Int) + 1 := by rw [IntKind.wrap_i64]; omega
      have hsn := writeL_snoc l i x hxi
      have hl2 := writeL_len (l.take i) (fun z hz => HX.out z (List.mem_of_mem_take hz))
      have hl3 : (writeL (l.take i)).length ≤ 2400 := by
        have : (l.take i).length ≤ 60 := by simp; omega
        omega
      have hsz := bs_size (writeL (l.take i))
      have hll := line_len x hx32
      have HS := Lib.hid hsn
      have HD := Lib.hid (ref_decode x hx32 wr)
      have HCW : Hid (∀ W, Below w.heap.size w W → W.cell? ⟨b, off + i, none⟩ = some (.int .u32 (x : Int))) := Lib.hid fun W hW => (hW.cell (World.block_lt_of_cell? _ _ h1)).trans h1
      clear hsn hl2 h1 hxi
      generalize writeL (l.take i) = s at HS hl3 hsz
      cases hD : decOk x with
      | false =>
        have hln := lineL_no x hD
        rw [hD, insX_no hD] at HD
        have HG := Lib.hid (fun W => digits_any (x : Int) (by omega) (by omega) W)
        rw [itoa_nat] at HG
        have hdl := decD_len 9 x (by omega)
        have hds := bs_size (Lib.decDigits x)
        have HLN : Hid (∀ a : ByteArray, a.data.toList = s ++ [119, 111, 114, 100, 32] ++ Lib.decDigits x ++ [10] → Value.string a = .string (bs (writeL (l.take (i + 1))))) := Lib.hid fun a h => str_bs (by rw [h, HS.out, hln]; simp)
        have wx : IntKind.i64.wrap (x : Int) = (x : Int) := by rw [IntKind.wrap_i64] <;> omega
        clear hln hD hll
        go_wp2_with fail
        refine HD.out.mono ?_
        rintro e w2 ⟨rfl, hb2⟩
        have HB2 := Lib.hid (HB.out.trans (hb2.mono HB.out.size))
        have HBW2 := Lib.hid (HBW.out.trans (hb2.mono HBW.out.size))
        have d2 := HCW.out w2 HBW2.out
        have d3 : b < w2.heap.size := World.block_lt_of_cell? _ _ d2
        have hbA : Below w2.heap.size w2 (w2.alloc (.cells #[.int .i64 0, .int .i64 0, .int .i64 0, .int .i64 0] 87)) := (Below.refl _ _).alloc (Nat.le_refl _) _
        have HBA := Lib.hid hbA
        clear hb2 hbA
        go_wp2_with fail
        refine (HG.out _).mono ?_
        rintro e w3 ⟨rfl, hw3⟩
        rw [← hw3]
        clear hw3 w3
        go_wp2_with fail
        all_goals try (exfalso; omega)
        go_roundg (gk - 1)
        case measure => have := hk.out; omega
        case rel => exact ⟨i + 1, by have := hk.out; omega, by simp, HLN.out _ (by simp [ByteArray.data_append, bs_data]), HB2.out.trans (HBA.out.mono HB2.out.size)⟩
      | true =>
        have hln := lineL_ok x hD
        rw [hD, insX_ok hD] at HD
        have hop := (decOk_parts hD).1
        have hnl := opAt_len ⟨opX x, by omega⟩
        simp only at hnl
        have hns := bs_size (opAt (opX x))
        have HA : Hid (pA x = if hasA (opX x) then [32, 114] ++ Lib.decDigits (aX x) else []) := Lib.hid rfl
        have HBb : Hid (pB x = if hasB (opX x) then [32, 114] ++ Lib.decDigits (bX x) else []) := Lib.hid rfl
        have HI : Hid (pI x = if hasI (opX x) then [32] ++ Lib.itoa (immX x) else []) := Lib.hid rfl
        have hal := decD_len 1 (aX x) (by unfold aX; omega)
        have hbl := decD_len 1 (bX x) (by unfold bX; omega)
        have him := imm_in x
        have hil := itoa_len (immX x) him
        have hax : aX x < 16 := by unfold aX; omega
        have hbx : bX x < 16 := by unfold bX; omega
        have hdA := bs_size (Lib.decDigits (aX x))
        have hdB := bs_size (Lib.decDigits (bX x))
        have hdI := bs_size (Lib.itoa (immX x))
        have HLN : Hid (∀ a : ByteArray, a.data.toList = s ++ opAt (opX x) ++ pA x ++ pB x ++ pI x ++ [10] → Value.string a = .string (bs (writeL (l.take (i + 1))))) := Lib.hid fun a h => str_bs (by rw [h, HS.out, hln]; simp)
        have HF := Lib.hid (fun W => ref_fields (opX x) hop W)
        have HGA := Lib.hid (fun W => digits_any (aX x : Int) (by omega) (by omega) W)
        have HGB := Lib.hid (fun W => digits_any (bX x : Int) (by omega) (by omega) W)
        have HGI := Lib.hid (fun W => digits_any (immX x) (by omega) (by omega) W)
        rw [itoa_nat] at HGA HGB
        have hNc := hNm.out (opX x) (by omega)
        have hNlt := World.block_lt_of_cell? _ _ hNc
        have HNW : Hid (∀ W, Below (w.alloc (.cells opArr 9)).heap.size (w.alloc (.cells opArr 9)) W → W.cell? ⟨w.heap.size, opX x, none⟩ = some (.string (bs (opAt (opX x))))) := Lib.hid fun W hW => (hW.cell hNlt).trans hNc
        clear hln hD hll hNc hNlt
        generalize opAt (opX x) = nm at HLN hnl hns HNW
        generalize Lib.decDigits (aX x) = da at HA hal hdA HGA
        generalize Lib.decDigits (bX x) = db at HBb hbl hdB HGB
        generalize Lib.itoa (immX x) = di at HI hil hdI HGI
        generalize pA x = qa at HA HLN
        generalize pB x = qb at HBb HLN
        generalize pI x = qi at HI HLN
        generalize opX x = o at *
        generalize aX x = a at *
        generalize bX x = bb at *
        generalize immX x = im at *
        have ho0 : (0 : Int) ≤ (o : Int) := by omega
        have ho1 : (o : Int) < 25 := by omega
        have ho2 : o < 25 := by omega
        go_wp2_with fail
        refine HD.out.mono ?_
        rintro e w2 ⟨rfl, hb2⟩
        have HB2 := Lib.hid (HB.out.trans (hb2.mono HB.out.size))
        have hn2 := HNW.out w2 HB2.out
        have hn3 : w.heap.size < w2.heap.size := World.block_lt_of_cell? _ _ hn2
        have hbA : Below w2.heap.size w2 (w2.alloc (.cells #[.int .i64 (o : Int), .int .i64 (a : Int), .int .i64 (bb : Int), .int .i64 im] 87)) := (Below.refl _ _).alloc (Nat.le_refl _) _
        have HBA := Lib.hid hbA
        clear hb2 hbA
        go_wp2_with fail
        refine (HF.out _).mono ?_
        rintro e w3 ⟨rfl, hw3⟩
        rw [hw3]
        clear hw3 w3
        rcases hA : hasA o with _ | _ <;> rcases hB : hasB o with _ | _ <;> rcases hI : hasI o with _ | _
        all_goals
          rw [hA] at HA
          rw [hB] at HBb
          rw [hI] at HI
          simp only [if_true, Bool.false_eq_true, if_false] at HA HBb HI
          have HQ := Lib.hid (And.intro HA.out (And.intro HBb.out HI.out))
          clear HA HBb HI hA hB hI
          go_wp2_with (first
            | ((with_reducible refine (HGA.out _).mono ?_); rintro e w3 ⟨rfl, hw3⟩; rw [← hw3]; clear hw3 w3)
            | ((with_reducible refine (HGB.out _).mono ?_); rintro e w3 ⟨rfl, hw3⟩; rw [← hw3]; clear hw3 w3)
            | ((with_reducible refine (HGI.out _).mono ?_); rintro e w3 ⟨rfl, hw3⟩; rw [← hw3]; clear hw3 w3)
            | fail)
          all_goals try (exfalso; omega)
          go_roundg (gk - 1)
          case measure => have := hk.out; omega
          case rel =>
            exact ⟨i + 1, by have := hk.out; omega, by simp, HLN.out _ (by rw [HQ.out.1, HQ.out.2.1, HQ.out.2.2]; simp [ByteArray.data_append, bs_data]), HB2.out.trans (HBA.out.mono HB2.out.size)⟩
    · have hi1 : ¬ (i : Int) < (l.length : Int) := by omega
      have hil : i = l.length := by have := hk.out; omega
      subst hil
      rw [List.take_length]
      go_wp2_with fail
      go_ret
      exact ⟨rfl, HBW.out⟩
end Go.Proofs.YtapjfcljbdlnkaaGreatDoor
