/- isa's table, new or filled: fields, Valid, Encode. -/
import Derived.Test.YtapjfcljbdlnkaaGreatDoorTblFields
namespace Go.Proofs.YtapjfcljbdlnkaaGreatDoor
open Go Go.RowKit Go.Lib
set_option maxRecDepth 100000

/-- which fields an instruction has, as numbers -/
def gF : Nat → Int := fieldsG (fun _ => 0)
structure TabN (w : World) (b : Nat) : Prop where
  c0 : w.cell? ⟨b, 0, none⟩ = some (.int .u32 0)
  c1 : w.cell? ⟨b, 1, none⟩ = some (.int .i32 0)
  f0 : w.frozen? ⟨b, 0, none⟩ = false
  f1 : w.frozen? ⟨b, 1, none⟩ = false
  tb : TabAt w b (fun _ => 0)
structure TabF (w : World) (b : Nat) : Prop where
  c0 : w.cell? ⟨b, 0, none⟩ = some (.int .u32 1)
  tb : TabAt w b gF
def TabS (w : World) (b : Nat) : Prop := TabN w b ∨ TabF w b
theorem TabF.lt {w : World} {b : Nat} (h : TabF w b) : b < w.heap.size := World.block_lt_of_cell? _ _ h.c0
theorem TabS.lt {w : World} {b : Nat} (h : TabS w b) : b < w.heap.size := by
  rcases h with h | h
  · exact World.block_lt_of_cell? _ _ h.c0
  · exact h.lt
theorem TabF.on {w w' : World} {b : Nat} (h : TabF w b) (hb : w'.heap[b]? = w.heap[b]?) : TabF w' b := ⟨(World.cell?_of_block (a := ⟨b, 0, none⟩) hb).trans h.c0, h.tb.on hb⟩
theorem TabS.on {w w' : World} {b : Nat} (h : TabS w b) (hb : w'.heap[b]? = w.heap[b]?) : TabS w' b := by
  rcases h with h | h
  · exact .inl ⟨(World.cell?_of_block (a := ⟨b, 0, none⟩) hb).trans h.c0, (World.cell?_of_block (a := ⟨b, 1, none⟩) hb).trans h.c1, (World.frozen?_of_block (a := ⟨b, 0, none⟩) hb).trans h.f0, (World.frozen?_of_block (a := ⟨b, 1, none⟩) hb).trans h.f1, h.tb.on hb⟩
  · exact .inr (h.on hb)
/-- block b stands from its 28th cell on; all others stand -/
structure Step28 (b : Nat) (w w' : World) : Prop where
  but : But b w w'
  out : ∀ j, 28 ≤ j → w'.cell? ⟨b, j, none⟩ = w.cell? ⟨b, j, none⟩ ∧ w'.frozen? ⟨b, j, none⟩ = w.frozen? ⟨b, j, none⟩
theorem Step28.refl (b : Nat) (w : World) : Step28 b w w := ⟨But.refl _ _, fun _ _ => ⟨rfl, rfl⟩⟩
theorem Step28.trans {b : Nat} {w w' w'' : World} (h : Step28 b w w') (h' : Step28 b w' w'') : Step28 b w w'' :=
  ⟨h.but.trans h'.but, fun j hj => ⟨(h'.out j hj).1.trans (h.out j hj).1, (h'.out j hj).2.trans (h.out j hj).2⟩⟩
theorem Step28.of_below {b : Nat} {w w' : World} (h : Below w.heap.size w w') (hb : b < w.heap.size) : Step28 b w w' :=
  ⟨⟨fun _ _ hs => h.mono hs, h.size, fun k hk _ => h.block k hk, fun cs _ hc => ⟨cs, (h.block b hb).trans hc⟩⟩, fun j _ => ⟨World.cell?_of_block (a := ⟨b, j, none⟩) (h.block b hb), World.frozen?_of_block (a := ⟨b, j, none⟩) (h.block b hb)⟩⟩
theorem Step28.setCell {b j : Nat} (hj : j < 28) (w : World) (v : Value) : Step28 b w (w.setCell ⟨b, j, none⟩ v) :=
  ⟨But.setCell _ _ _ _, fun k hk => ⟨World.cell?_setCell_other _ _ _ _ (by simp <;> omega), by simp⟩⟩
theorem Step28.drew (b : Nat) (w : World) : Step28 b w w.drew := ⟨⟨fun _ _ _ => (Below.refl _ _).drew, Nat.le_refl _, fun _ _ _ => rfl, fun cs _ hc => ⟨cs, hc⟩⟩, fun _ _ => ⟨rfl, rfl⟩⟩
theorem TabAt.any {w : World} {b : Nat} {g : Nat → Int} (h : TabAt w b g) (k : Nat) (v : Value) (hk : k < 3) : TabAt (w.setCell ⟨b, k, none⟩ v) b g := h.other k v hk

set_option maxHeartbeats 1600000 in
theorem fields_any (b op : Nat) (hop : op ≤ 24) (w : World) (h : TabS w b) :
    Calls Tryz.prog 60 #[.pointer (some ⟨b, 0, none⟩), .int .i64 (op : Int)] w fun e w' => e = .returned (.int .i64 (gF op)) ∧ Step28 b w w' ∧ TabF w' b := by
  rcases h with h | h
  · have HD := Lib.hid (do_new b (fun _ => 0) w h.c0 h.c1 h.tb h.f0 h.f1)
    have HN := Lib.hid h
    have k1 : ¬ (op : Int) < 0 := by omega
    have k2 : ¬ (24 : Int) < (op : Int) := by omega
    have k3 : (0 : Int) ≤ (op : Int) := by omega
    have k4 : (op : Int) < 25 := by omega
    have k5 : op < 25 := by omega
    clear h
    go_enter Tryz.func60, Tryz.ntmps60
    go_wp2_with fail
    refine HD.out.mono ?_
    rintro e w1 ⟨w2, rfl, rfl, hb, ht⟩
    have hb2 : b < w2.heap.size := World.block_lt_of_cell? _ _ (ht 0 (by omega)).1
    have hc0 : w2.cell? ⟨b, 0, none⟩ = some (.int .u32 0) := (hb.out 0 (by omega)).1.trans ((World.cell?_setCell_other _ _ _ _ (by simp)).trans HN.out.c0)
    have ht1 : TabAt ((w2.drew.setCell ⟨b, 0, none⟩ (.int .u32 1)).setCell ⟨b, 1, none⟩ (.int .i32 0)) b gF := (TabAt.any (w := w2.drew) ht 0 _ (by omega)).any 1 _ (by omega)
    have hF : TabF ((w2.drew.setCell ⟨b, 0, none⟩ (.int .u32 1)).setCell ⟨b, 1, none⟩ (.int .i32 0)) b := ⟨(World.cell?_setCell_other _ _ _ _ (by simp)).trans (World.cell?_setCell_same _ _ _ hc0), ht1⟩
    have hS : Step28 b w ((w2.drew.setCell ⟨b, 0, none⟩ (.int .u32 1)).setCell ⟨b, 1, none⟩ (.int .i32 0)) := by
      refine (Step28.setCell (j := 1) (by omega) w (.int .i32 1)).trans ?_
      refine Step28.trans ⟨hb.but, fun j hj => hb.out j (.inr hj)⟩ ((Step28.drew b w2).trans ((Step28.setCell (by omega) _ _).trans (Step28.setCell (by omega) _ _)))
    obtain ⟨t1, -⟩ := ht1 op (by omega)
    have HF := Lib.hid hF
    have HS := Lib.hid hS
    generalize ((w2.drew.setCell ⟨b, 0, none⟩ (.int .u32 1)).setCell ⟨b, 1, none⟩ (.int .i32 0)) = w3 at *
    clear hb ht ht1 hF hS hc0
    go_wp2_with fail
    go_ret
    exact ⟨rfl, HS.out, HF.out⟩
  · refine (fields_full b op gF hop w h.c0 h.tb).mono ?_
    rintro e w' ⟨rfl, rfl⟩
    exact ⟨rfl, Step28.refl _ _, h⟩

def hasA (op : Nat) : Bool := decide (1 ≤ op) && !(op == 18 || op == 22 || op == 24)
def hasB (op : Nat) : Bool := decide (3 ≤ op ∧ op ≤ 12) || decide (14 ≤ op ∧ op ≤ 17) || op == 21
def hasI (op : Nat) : Bool := decide (1 ≤ op) && !decide (3 ≤ op ∧ op ≤ 12) && !(op == 23)
theorem gF_zero : ∀ op : Fin 25, (gF op.val != 0) = decide (1 ≤ op.val) := by decide +kernel
theorem gF_A : ∀ op : Fin 25, bits .and .i64 (gF op.val) 1 = if hasA op.val then 1 else 0 := by decide +kernel
theorem gF_B : ∀ op : Fin 25, bits .and .i64 (gF op.val) 2 = if hasB op.val then 2 else 0 := by decide +kernel
theorem gF_I : ∀ op : Fin 25, bits .and .i64 (gF op.val) 4 = if hasI op.val then 4 else 0 := by decide +kernel
/-- may an instruction be? -/
def validP (op : Nat) (a b imm : Int) : Bool := decide (1 ≤ op) && fitsP (hasA op) a 0 15 && fitsP (hasB op) b 0 15 && fitsP (hasI op) imm (-32768) 32767

set_option maxHeartbeats 3200000 in
theorem valid_any (t op : Nat) (a b imm : Int) (hop : op ≤ 24) (w : World) (h : TabS w t) :
    Calls Tryz.prog 48 #[.pointer (some ⟨t, 0, none⟩), .agg #[.int .i64 (op : Int), .int .i64 a, .int .i64 b, .int .i64 imm]] w fun e w' => e = .returned (.bool (validP op a b imm)) ∧ Step28 t w w' ∧ TabF w' t := by
  have htl := h.lt
  have HF := Lib.hid (fun w1 (hb : w1.heap[t]? = w.heap[t]?) => fields_any t op hop w1 (h.on hb))
  have g0 := gF_zero ⟨op, by omega⟩
  have gA := gF_A ⟨op, by omega⟩
  have gB := gF_B ⟨op, by omega⟩
  have gI := gF_I ⟨op, by omega⟩
  simp only at g0 gA gB gI
  obtain ⟨F, hFd⟩ : ∃ F, F = gF op := ⟨_, rfl⟩
  rw [← hFd] at HF g0 gA gB gI
  have hA : ∀ w, Calls Tryz.prog 61 #[.int .i64 F, .int .i64 1, .int .i64 a, .int .i64 0, .int .i64 15] w fun e w' => e = .returned (.bool (fitsP (hasA op) a 0 15)) ∧ w' = w := fun w => by
    have := fits_at F 1 a 0 15 _ gA w
    cases hx : hasA op <;> (rw [hx] at this; exact this)
  have hB : ∀ w, Calls Tryz.prog 61 #[.int .i64 F, .int .i64 2, .int .i64 b, .int .i64 0, .int .i64 15] w fun e w' => e = .returned (.bool (fitsP (hasB op) b 0 15)) ∧ w' = w := fun w => by
    have := fits_at F 2 b 0 15 _ gB w
    cases hx : hasB op <;> (rw [hx] at this; exact this)
  have hI : ∀ w, Calls Tryz.prog 61 #[.int .i64 F, .int .i64 4, .int .i64 imm, .int .i64 (-32768), .int .i64 32767] w fun e w' => e = .returned (.bool (fitsP (hasI op) imm (-32768) 32767)) ∧ w' = w := fun w => by
    have := fits_at F 4 imm (-32768) 32767 _ gI w
    cases hx : hasI op <;> (rw [hx] at this; exact this)
  have HV : Hid (validP op a b imm = (decide (1 ≤ op) && fitsP (hasA op) a 0 15 && fitsP (hasB op) b 0 15 && fitsP (hasI op) imm (-32768) 32767)) := Lib.hid rfl
  obtain ⟨va, hva⟩ : ∃ v, v = fitsP (hasA op) a 0 15 := ⟨_, rfl⟩
  obtain ⟨vb, hvb⟩ : ∃ v, v = fitsP (hasB op) b 0 15 := ⟨_, rfl⟩
  obtain ⟨vi, hvi⟩ : ∃ v, v = fitsP (hasI op) imm (-32768) 32767 := ⟨_, rfl⟩
  rw [← hva] at hA HV
  rw [← hvb] at hB HV
  rw [← hvi] at hI HV
  have HA := Lib.hid hA
  have HB := Lib.hid hB
  have HI := Lib.hid hI
  have G0 := Lib.hid g0
  clear g0 gA gB gI hFd hA hB hI hva hvb hvi h
  go_enter Tryz.func48, Tryz.ntmps48
  go_wp2_with fail
  refine (HF.out _ (Below.heap_alloc _ _ _ htl)).mono ?_
  rintro e w1 ⟨rfl, hs, hf⟩
  have hsz := hs.but.size
  simp only [World.size_alloc] at hsz
  have hblk : ∀ k, k < w.heap.size + 1 → k ≠ t → w1.heap[k]? = (w.alloc (.cells #[.int .i64 (op : Int), .int .i64 a, .int .i64 b, .int .i64 imm] 74)).heap[k]? := fun k hk hne => hs.but.block k (by simpa using hk) hne
  have hnew := (hblk w.heap.size (by omega) (by omega)).trans (heap_alloc_new w _)
  have c1 := cell_of_row w1 w.heap.size 1 _ _ _ hnew
  have c2 := cell_of_row w1 w.heap.size 2 _ _ _ hnew
  have c3 := cell_of_row w1 w.heap.size 3 _ _ _ hnew
  simp only [List.getElem?_toArray, List.getElem?_cons_succ, List.getElem?_cons_zero] at c1 c2 c3
  have HS : Hid (Step28 t w w1) := Lib.hid ((Step28.of_below ((Below.refl _ _).alloc (Nat.le_refl _) _) htl).trans hs)
  have HT := Lib.hid hf
  clear hs hf hblk hnew
  by_cases h0 : 1 ≤ op
  · have e0 : (F != 0) = true := by rw [G0.out]; exact decide_eq_true h0
    have HV2 : Hid (validP op a b imm = (va && vb && vi)) := Lib.hid (by rw [HV.out, decide_eq_true h0]; rfl)
    have e00 : (F == 0) = false := by simpa [bne] using e0
    clear h0
    go_wp2_with fail
    refine (HA.out _).mono ?_
    rintro e w2 ⟨rfl, rfl⟩
    cases va with
    | false =>
      go_wp2_with fail
      go_ret
      rw [HV2.out]
      exact ⟨rfl, HS.out, HT.out⟩
    | true =>
      go_wp2_with fail
      refine (HB.out _).mono ?_
      rintro e w2 ⟨rfl, rfl⟩
      cases vb with
      | false =>
        go_wp2_with fail
        go_ret
        rw [HV2.out]
        exact ⟨rfl, HS.out, HT.out⟩
      | true =>
        go_wp2_with fail
        refine (HI.out _).mono ?_
        rintro e w2 ⟨rfl, rfl⟩
        go_wp2_with fail
        go_ret
        rw [HV2.out]
        exact ⟨rfl, HS.out, HT.out⟩
  · have e0 : (F != 0) = false := by rw [G0.out]; exact decide_eq_false h0
    have e00 : F = 0 := by simpa using e0
    have HV2 : Hid (validP op a b imm = false) := Lib.hid (by rw [HV.out, decide_eq_false h0]; rfl)
    subst e00
    clear h0
    go_wp2_with fail
    go_ret
    rw [HV2.out]
    exact ⟨rfl, HS.out, HT.out⟩
end Go.Proofs.YtapjfcljbdlnkaaGreatDoor
