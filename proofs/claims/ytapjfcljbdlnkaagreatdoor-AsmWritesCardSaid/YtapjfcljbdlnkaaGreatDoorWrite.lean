/- asm.Write. -/
import Derived.Test.YtapjfcljbdlnkaaGreatDoorBuilder
import Derived.Test.YtapjfcljbdlnkaaGreatDoorFmtUint
import Derived.Test.YtapjfcljbdlnkaaGreatDoorWrRef
namespace Go.Proofs.YtapjfcljbdlnkaaGreatDoor
open Go Go.RowKit Go.Lib
set_option maxRecDepth 100000

theorem own_keptF {w w' : World} {B : Nat} {e : TypeId} {size : Nat} {v : Value} {n : Nat} {xs : List Value} (h : w.ownsRowF B e size v n xs) (hk : ∀ k, B ≤ k → k < w.heap.size → w'.heap[k]? = w.heap[k]?) : w'.ownsRowF B e size v n xs := by
  refine ⟨h.1, ?_⟩
  rcases h.2 with h0 | ⟨g, cap, cur, fz, h1, h2, h3, h4⟩
  · exact .inl h0
  · exact .inr ⟨g, cap, cur, fz, h1, h2, (hk g h2 (Array.getElem?_eq_some_iff.1 h3).1).trans h3, h4⟩
theorem Bld.kept {B b : Nat} {l : List UInt8} {w w' : World} (h : Bld B b l w) (hk : ∀ k, B ≤ k → k < w.heap.size → w'.heap[k]? = w.heap[k]?) : Bld B b l w' := by
  have mv : ∀ p, Lib.BuilderAtF 72 5 B b p (Lib.byteCells l) w → Lib.BuilderAtF 72 5 B b p (Lib.byteCells l) w' := by
    intro p h
    obtain ⟨h1, v, h2, h3, h4⟩ := h
    exact ⟨h1, v, (hk b h1 (Array.getElem?_eq_some_iff.1 h2).1).trans h2, own_keptF h3 hk, h4⟩
  rcases h with h | h
  · exact .inl (mv _ h)
  · exact .inr (mv _ h)
theorem Bld.lt {B b : Nat} {l : List UInt8} {w : World} (h : Bld B b l w) : b < w.heap.size := by
  rcases h with ⟨_, v, h2, _⟩ | ⟨_, v, h2, _⟩
  · exact (Array.getElem?_eq_some_iff.1 h2).1
  · exact (Array.getElem?_eq_some_iff.1 h2).1
theorem write_bytes (B b : Nat) (l : List UInt8) (s : ByteArray) (w : World) (h : Bld B b l w) (hlen : l.length < 1000000) (hlen2 : s.size < 1000000) (hBw : B ≤ w.heap.size) :
    Calls Tryz.prog 19 #[.pointer (some ⟨b, 0, none⟩), .string s] w fun e w' => (∃ n : Nat, e = .returned (.tuple #[.int .i64 n, .nilIface])) ∧ Bld B b (l ++ s.data.toList) w' ∧ Below B w w' ∧ Lib.OthersKept 5 (some b) w w' := by
  have h1 := write_string B b l s.data.toList w h hlen (by rw [← Lib.size_eq]; exact hlen2) hBw
  have e : (⟨s.data.toList.toArray⟩ : ByteArray) = s := by cases s; simp
  rw [e] at h1
  refine h1.mono ?_
  rintro e w' ⟨rfl, h2, h3, h4⟩
  exact ⟨⟨_, rfl⟩, h2, h3, h4⟩

/-- the library's table of powers of ten is in w -/
def TabP (w : World) : Prop := Lib.TabIs Tryz.prog w "internal/strconv.uint64pow10" .u64 Lib.pow10Tab
theorem TabP.on {w w' : World} (h : TabP w) (hb : Below w.heap.size w w') : TabP w' := Lib.tabBelow_of_tabIs h w' hb
theorem itoa_any (n : Int) (h0 : -9223372036854775808 ≤ n) (h1 : n ≤ 9223372036854775807) (w : World) (ht : TabP w) :
    Calls Tryz.prog 23 #[.int .i64 n] w fun e w' => e = .returned (.string (bs (Lib.itoa n))) ∧ Below w.heap.size w w' :=
  (Tryz.strconv_Itoa n h0 h1 w ht).mono fun e w' ⟨he, k, os, hw⟩ => ⟨he, by rw [hw]; exact Lib.below_grow _ _ (Nat.le_refl _) _ _⟩
theorem fmtu_any (u : Nat) (h1 : u < 4294967296) (w : World) (ht : TabP w) :
    Calls Tryz.prog 20 #[.int .u64 (u : Int), .int .i64 10] w fun e w' => e = .returned (.string (bs (Lib.decDigits u))) ∧ Below w.heap.size w w' :=
  (format_uint u (by omega) w ht).mono fun e w' ⟨he, k, os, hw⟩ => ⟨he, by rw [hw]; exact Lib.below_grow _ _ (Nat.le_refl _) _ _⟩

/-- while Write writes: the table in block T, the builder behind it, what was there stands -/
structure WrIn (w0 : World) (T : Nat) (s : List UInt8) (W : World) : Prop where
  tab : TabS W T
  bld : Bld (T + 1) (T + 1) s W
  bel : Below T w0 W
theorem WrIn.sz {w0 : World} {T : Nat} {s : List UInt8} {W : World} (h : WrIn w0 T s W) : T + 1 < W.heap.size := h.bld.lt
theorem WrIn.step28 {w0 : World} {T : Nat} {s : List UInt8} {W W' : World} (h : WrIn w0 T s W) (hs : Step28 T W W') (ht : TabS W' T) : WrIn w0 T s W' :=
  ⟨ht, h.bld.kept fun k h1 h2 => hs.but.block k h2 (by omega), h.bel.trans (hs.but.below T (Nat.le_refl _) (by have := h.sz; omega))⟩
theorem WrIn.on {w0 : World} {T : Nat} {s : List UInt8} {W W' : World} (h : WrIn w0 T s W) (hb : Below W.heap.size W W') : WrIn w0 T s W' :=
  ⟨h.tab.on (hb.block T (by have := h.sz; omega)), h.bld.kept fun k _ h2 => hb.block k h2, h.bel.trans (hb.mono (by have := h.sz; omega))⟩
theorem WrIn.wrote {w0 : World} {T : Nat} {s s' : List UInt8} {W W' : World} (h : WrIn w0 T s W) (hb : Below (T + 1) W W') (hl : Bld (T + 1) (T + 1) s' W') : WrIn w0 T s' W' :=
  ⟨h.tab.on (hb.block T (by omega)), hl, h.bel.trans (hb.mono (by omega))⟩
theorem WrIn.write {w0 : World} {T : Nat} {s : List UInt8} {W : World} (h : WrIn w0 T s W) (t : ByteArray) (hlen : s.length < 1000000) (hlen2 : t.size < 1000000) :
    Calls Tryz.prog 19 #[.pointer (some ⟨T + 1, 0, none⟩), .string t] W fun e W' => (∃ n : Nat, e = .returned (.tuple #[.int .i64 n, .nilIface])) ∧ WrIn w0 T (s ++ t.data.toList) W' ∧ Lib.OthersKept 5 (some (T + 1)) W W' := by
  refine (write_bytes (T + 1) (T + 1) s t W h.bld hlen hlen2 (by have := h.sz; omega)).mono ?_
  rintro e W' ⟨he, h2, h3, h4⟩
  exact ⟨he, h.wrote h3 h2, h4⟩
theorem WrIn.byte {w0 : World} {T : Nat} {s : List UInt8} {W : World} (h : WrIn w0 T s W) (c : UInt8) (hlen : s.length < 1000000) :
    Calls Tryz.prog 24 #[.pointer (some ⟨T + 1, 0, none⟩), .int .u8 c.toNat] W fun e W' => e = .returned .nilIface ∧ WrIn w0 T (s ++ [c]) W' ∧ Lib.OthersKept 5 (some (T + 1)) W W' := by
  refine (write_byte (T + 1) (T + 1) s c W h.bld hlen (by have := h.sz; omega)).mono ?_
  rintro e W' ⟨he, h2, h3, h4⟩
  exact ⟨he, h.wrote h3 h2, h4⟩
def tabCells : List Value := [.int .u32 0, .int .i32 0, .int .u32 0] ++ List.replicate 25 (.int .i64 0)
theorem table_new (w : World) : TabN (w.alloc (.cells tabCells.toArray 50)) w.heap.size := by
  have hb := heap_alloc_new w (.cells tabCells.toArray 50)
  have hc := fun j => cell_of_row _ w.heap.size j _ _ _ hb
  have hf := fun j => frozen_of_row _ w.heap.size j _ _ hb
  refine ⟨?_, ?_, hf 0, hf 1, fun i hi => ⟨?_, hf _⟩⟩
  · rw [hc 0]; rfl
  · rw [hc 1]; rfl
  · rw [hc (3 + i)]
    simp only [tabCells, List.getElem?_toArray]
    rw [List.getElem?_append_right (by simp)]
    rw [List.getElem?_replicate, if_pos (by simp; omega)]
theorem wr_start (w : World) : WrIn w w.heap.size [] ((w.alloc (.cells tabCells.toArray 50)).alloc (.cells #[.pointer none, .slice none 0 0] 72)) := by
  have h1 : ((w.alloc (.cells tabCells.toArray 50)).alloc (.cells #[.pointer none, .slice none 0 0] 72)).heap[w.heap.size + 1]? = some (.cells #[.pointer none, .slice none 0 0] 72 (0, 0)) := by
    have h9 := heap_alloc_new (w.alloc (.cells tabCells.toArray 50)) (.cells #[.pointer none, .slice none 0 0] 72)
    rwa [World.size_alloc] at h9
  refine ⟨.inl ?_, .inl ⟨Nat.le_refl _, .slice none 0 0, h1, World.ownsRowF_of (World.ownsRow_nil _ _ _ _), by simp [Value.ownBlock]⟩, ((Below.refl _ _).alloc (Nat.le_refl _) _).alloc (by simp) _⟩
  have h2 := table_new w
  have h3 : ((w.alloc (.cells tabCells.toArray 50)).alloc (.cells #[.pointer none, .slice none 0 0] 72)).heap[w.heap.size]? = (w.alloc (.cells tabCells.toArray 50)).heap[w.heap.size]? := Below.heap_alloc _ _ _ (by simp)
  exact ⟨(World.cell?_of_block (a := ⟨w.heap.size, 0, none⟩) h3).trans h2.c0, (World.cell?_of_block (a := ⟨w.heap.size, 1, none⟩) h3).trans h2.c1, (World.frozen?_of_block (a := ⟨w.heap.size, 0, none⟩) h3).trans h2.f0, (World.frozen?_of_block (a := ⟨w.heap.size, 1, none⟩) h3).trans h2.f1, h2.tb.on h3⟩
/-- a row of a type that is none of bytes stands behind a write -/
theorem kept_row {T k : Nat} {cs : Array Value} {t : TypeId} {W W' : World} (h : Lib.OthersKept 5 (some (T + 1)) W W') (hk : W.heap[k]? = some (.cells cs t (0, 0))) (hne : k ≠ T + 1) (ht : t ≠ 5) : W'.heap[k]? = some (.cells cs t (0, 0)) :=
  h k _ hk (by intro e; exact hne (Option.some.inj e)) (by intro c fz e; cases e; exact ht rfl)
/-- which registers and numbers an instruction's line has: five ways -/
theorem shapes_of : ∀ op : Fin 25, 1 ≤ op.val →
    (shapeP op.val 2 1 = true ∧ shapeP op.val 2 0 = false ∧ shapeP op.val 1 1 = false ∧ shapeP op.val 1 0 = false ∧ shapeP op.val 0 1 = false ∧ hasA op.val = true ∧ hasB op.val = true ∧ hasI op.val = true) ∨
    (shapeP op.val 2 1 = false ∧ shapeP op.val 2 0 = true ∧ shapeP op.val 1 1 = false ∧ shapeP op.val 1 0 = false ∧ shapeP op.val 0 1 = false ∧ hasA op.val = true ∧ hasB op.val = true ∧ hasI op.val = false) ∨
    (shapeP op.val 2 1 = false ∧ shapeP op.val 2 0 = false ∧ shapeP op.val 1 1 = true ∧ shapeP op.val 1 0 = false ∧ shapeP op.val 0 1 = false ∧ hasA op.val = true ∧ hasB op.val = false ∧ hasI op.val = true) ∨
    (shapeP op.val 2 1 = false ∧ shapeP op.val 2 0 = false ∧ shapeP op.val 1 1 = false ∧ shapeP op.val 1 0 = true ∧ shapeP op.val 0 1 = false ∧ hasA op.val = true ∧ hasB op.val = false ∧ hasI op.val = false) ∨
    (shapeP op.val 2 1 = false ∧ shapeP op.val 2 0 = false ∧ shapeP op.val 1 1 = false ∧ shapeP op.val 1 0 = false ∧ shapeP op.val 0 1 = true ∧ hasA op.val = false ∧ hasB op.val = false ∧ hasI op.val = true) := by decide +kernel
end Go.Proofs.YtapjfcljbdlnkaaGreatDoor

namespace Go.Proofs.YtapjfcljbdlnkaaGreatDoor
open Go Go.RowKit Go.Lib
set_option maxRecDepth 100000

theorem shape_lit (op : Nat) (r n : Nat) (ri ni : Int) (b : Bool) (h : op ≤ 24) (hr : r ≤ 2) (hn : n ≤ 1) (hri : (r : Int) = ri) (hni : (n : Int) = ni) (hb : shapeP op r n = b) (w : World) :
    Calls Tryz.prog 22 #[.int .i64 (op : Int), .int .i64 ri, .int .i64 ni] w fun e w' => e = .returned (.bool b) ∧ w' = w := by
  have := shape_ok op r n h hr hn w
  rwa [hb, hri, hni] at this

/-- in the loop over an instruction's two registers -/
def TwoR (w : World) (T J L : Nat) (s0 s1 s2 : List UInt8) (ci cl : Array Value) (k : Nat) (u : Value) (W : World) : Prop :=
  ((k = 2 ∧ u = .int .i64 0 ∧ WrIn w T s0 W) ∨ (k = 1 ∧ u = .int .i64 1 ∧ WrIn w T s1 W) ∨ (k = 0 ∧ u = .int .i64 2 ∧ WrIn w T s2 W)) ∧ W.heap[J]? = some (.cells ci 74 (0, 0)) ∧ W.heap[L]? = some (.cells cl 3 (0, 0))
set_option maxHeartbeats 25600000 in
theorem asm_write (v : Value) (l : List Nat) (hx : ∀ x ∈ l, x < 4294967296) (hn : l.length ≤ 60) (w : World) (hv : NReads w v l) (ht : TabP w) :
    Calls Tryz.prog 10 #[v] w fun e w' => e = .returned (.string (bs (writeL l))) ∧ Below w.heap.size w w' := by
  obtain ⟨ad, cap, rfl, hc⟩ := hv
  have HC := Lib.hid hc
  have HX := Lib.hid hx
  have HT := Lib.hid ht
  have HS0 := Lib.hid (wr_start w)
  have HZ : Hid (w.heap.size + 2 = ((w.alloc (.cells tabCells.toArray 50)).alloc (.cells #[.pointer none, .slice none 0 0] 72)).heap.size) := Lib.hid (by simp)
  clear hc hx ht
  go_enter Tryz.func10, Tryz.ntmps10
  go_wp2_with fail
  obtain ⟨T, hT⟩ : ∃ T, T = w.heap.size := ⟨_, rfl⟩
  have HTs := Lib.hid hT
  rw [← hT]
  clear hT
  go_loopg [13] l.length (fun k u wr => ∃ i : Nat, k + i = l.length ∧ u = .int .i64 (i : Int) ∧ WrIn w T (writeL (l.take i)) wr)
  case atStart =>
    refine ⟨0, by simp, rfl, ?_⟩
    have h := HS0.out
    rw [← HTs.out] at h
    exact h
  case round =>
    obtain ⟨i, hk, rfl, hw⟩ := hrel
    have hk := Lib.hid hk
    have HW := Lib.hid hw
    have hbw : Below w.heap.size w wr := by rw [← HTs.out]; exact hw.bel
    have HBW := Lib.hid hbw
    have hz := hw.sz
    clear hw hbw
    by_cases hi : i < l.length
    · have hi1 : (i : Int) < (l.length : Int) := by omega
      have hi3 : (0 : Int) ≤ (i : Int) := by omega
      obtain ⟨x, hxi⟩ : ∃ x, l[i]? = some x := ⟨l[i], List.getElem?_eq_getElem (by omega)⟩
      obtain ⟨b, off, rfl, h1⟩ := HC.out i x hxi
      have d1 := (HBW.out.cell (World.block_lt_of_cell? _ _ h1)).trans h1
      have hx32 : x < 4294967296 := HX.out x (List.mem_of_getElem? hxi)
      have wr1 : IntKind.i64.wrap ((i : Int) + 1) = (i : Int) + 1 := by rw [IntKind.wrap_i64]; omega
      have hsn := writeL_snoc l i x hxi
      have hl2 := writeL_len (l.take i) (fun z hz => HX.out z (List.mem_of_mem_take hz))
      have hl3 : (writeL (l.take i)).length ≤ 2400 := by
        have : (l.take i).length ≤ 60 := by simp; omega
        omega
      have HS := Lib.hid hsn
      have HD := Lib.hid (isa_decode T x hx32 wr HW.out.tab)
      clear hsn hl2 h1 hxi
      generalize writeL (l.take i) = s at HS hl3 HW
      obtain ⟨gk0, hgk⟩ : ∃ g, g = gk := ⟨_, rfl⟩
      have HG := Lib.hid hgk
      clear hgk
      cases hD : decOk x with
      | false =>
        have hln := lineL_no x hD
        rw [hD, insX_no hD] at HD
        have hdl := decD_len 9 x (by omega)
        have hds := bs_size (Lib.decDigits x)
        have HF := Lib.hid (fun W (h : WrIn w T s W) => fmtu_any x hx32 W (HT.out.on (by have := h.bel; rwa [HTs.out] at this)))
        have HLN : Hid (∀ a : List UInt8, a = s ++ ([119, 111, 114, 100, 32] ++ Lib.decDigits x ++ [10]) → a = writeL (l.take (i + 1))) := Lib.hid fun a h => by rw [h, HS.out, hln]
        have wx : IntKind.u64.wrap (x : Int) = (x : Int) := by rw [IntKind.wrap_u64] <;> omega
        clear hln hD
        go_wp2_with fail
        refine HD.out.mono ?_
        rintro e w2 ⟨rfl, hs2, ht2⟩
        have HW2 := Lib.hid ((HW.out.step28 hs2 ht2).on (W' := w2.alloc (.cells #[.int .i64 0, .int .i64 0, .int .i64 0, .int .i64 0] 74)) ((Below.refl _ _).alloc (Nat.le_refl _) _))
        clear hs2 ht2
        go_wp2_with fail
        refine (HF.out _ HW2.out).mono ?_
        rintro e w3 ⟨rfl, hb3⟩
        have HW3 := Lib.hid (HW2.out.on hb3)
        clear hb3
        go_wp2_with fail
        all_goals try (exfalso; omega)
        refine (HW3.out.write _ (by omega) (by simp [ByteArray.size_append, hds]; first | omega | (simp [ByteArray.size]; omega))).mono ?_
        rintro e w4 ⟨⟨nn, rfl⟩, hw4, -⟩
        have HW4 := Lib.hid hw4
        clear hw4
        go_wp2_with fail
        go_roundg (gk0 - 1)
        case measure => have := hk.out; have := HG.out; omega
        case rel =>
          refine ⟨i + 1, by have := hk.out; have := HG.out; omega, by simp, ?_⟩
          rw [← HLN.out _ ?_]
          · exact HW4.out
          · simp [ByteArray.data_append, bs_data]
      | true =>
        have hln := lineL_ok x hD
        rw [hD, insX_ok hD] at HD
        have hop := (decOk_parts hD).1
        have hop1 := (decOk_parts hD).2.1
        have hnl := opAt_len ⟨opX x, by omega⟩
        simp only at hnl
        have HA : Hid (pA x = if hasA (opX x) then [32, 114] ++ Lib.decDigits (aX x) else []) := Lib.hid rfl
        have HBb : Hid (pB x = if hasB (opX x) then [32, 114] ++ Lib.decDigits (bX x) else []) := Lib.hid rfl
        have HI : Hid (pI x = if hasI (opX x) then [32] ++ Lib.itoa (immX x) else []) := Lib.hid rfl
        have hqa := pA_len x
        have hqb := pB_len x
        have hal := decD_len 1 (aX x) (by unfold aX; omega)
        have hbl := decD_len 1 (bX x) (by unfold bX; omega)
        have him := imm_in x
        have hil := itoa_len (immX x) him
        have hax : aX x < 16 := by unfold aX; omega
        have hbx : bX x < 16 := by unfold bX; omega
        have hdA := bs_size (Lib.decDigits (aX x))
        have hdB := bs_size (Lib.decDigits (bX x))
        have hdI := bs_size (Lib.itoa (immX x))
        have hdN := bs_size (opAt (opX x))
        have HLN : Hid (∀ a : List UInt8, a = s ++ (opAt (opX x) ++ pA x ++ pB x ++ pI x ++ [10]) → a = writeL (l.take (i + 1))) := Lib.hid fun a h => by rw [h, HS.out, hln]
        have HTW : Hid (∀ W s, WrIn w T s W → TabP W) := Lib.hid fun W s h => HT.out.on (by have := h.bel; rwa [HTs.out] at this)
        have HGA := Lib.hid (fun W s (h : WrIn w T s W) => itoa_any (aX x : Int) (by omega) (by omega) W (HTW.out W s h))
        have HGB := Lib.hid (fun W s (h : WrIn w T s W) => itoa_any (bX x : Int) (by omega) (by omega) W (HTW.out W s h))
        have HGI := Lib.hid (fun W s (h : WrIn w T s W) => itoa_any (immX x) (by omega) (by omega) W (HTW.out W s h))
        simp only [itoa_nat] at HGA HGB
        have HNM := Lib.hid (fun W => op_name (opX x) (by omega) hop W)
        have hsh := shapes_of ⟨opX x, by omega⟩ hop1
        simp only at hsh
        have HSH := Lib.hid hsh
        clear hsh
        have HSL := Lib.hid (fun r n ri ni b h2 h3 h5 h6 h4 w => shape_lit (opX x) r n ri ni b hop h2 h3 h5 h6 h4 w)
        clear hln hD
        generalize opAt (opX x) = nm at HLN hnl HNM hdN
        generalize Lib.decDigits (aX x) = da at HA hal hdA HGA
        generalize Lib.decDigits (bX x) = db at HBb hbl hdB HGB
        generalize Lib.itoa (immX x) = di at HI hil hdI HGI
        generalize pA x = qa at HA HLN hqa
        generalize pB x = qb at HBb HLN hqb
        generalize pI x = qi at HI HLN
        generalize opX x = o at *
        generalize aX x = a at *
        generalize bX x = bb at *
        generalize immX x = im at *
        go_wp2_with fail
        refine HD.out.mono ?_
        rintro e w2 ⟨rfl, hs2, ht2⟩
        have HW2 := Lib.hid ((HW.out.step28 hs2 ht2).on (W' := w2.alloc (.cells #[.int .i64 (o : Int), .int .i64 (a : Int), .int .i64 (bb : Int), .int .i64 im] 74)) ((Below.refl _ _).alloc (Nat.le_refl _) _))
        have hin := heap_alloc_new w2 (.cells #[.int .i64 (o : Int), .int .i64 (a : Int), .int .i64 (bb : Int), .int .i64 im] 74)
        have hzw2 := (HW.out.step28 hs2 ht2).sz
        obtain ⟨J, hJ⟩ : ∃ J, J = w2.heap.size := ⟨_, rfl⟩
        rw [← hJ] at hin hzw2
        have HJ := Lib.hid hJ
        have HIN := Lib.hid hin
        have HIS : Hid (∀ W : World, W.heap[J]? = some (.cells #[.int .i64 (o : Int), .int .i64 (a : Int), .int .i64 (bb : Int), .int .i64 im] 74 (0, 0)) → W.cell? ⟨J, 0, none⟩ = some (.int .i64 (o : Int)) ∧ W.cell? ⟨J, 1, none⟩ = some (.int .i64 (a : Int)) ∧ W.cell? ⟨J, 2, none⟩ = some (.int .i64 (bb : Int)) ∧ W.cell? ⟨J, 3, none⟩ = some (.int .i64 im)) := Lib.hid fun W h => by
          have c0 := cell_of_row W J 0 _ _ _ h
          have c1 := cell_of_row W J 1 _ _ _ h
          have c2 := cell_of_row W J 2 _ _ _ h
          have c3 := cell_of_row W J 3 _ _ _ h
          simp only [List.getElem?_toArray, List.getElem?_cons_succ, List.getElem?_cons_zero] at c0 c1 c2 c3
          exact ⟨c0, c1, c2, c3⟩
        clear hs2 ht2 hin hJ
        go_wp2_with fail
        rw [← HJ.out]
        refine (HNM.out _).mono ?_
        rintro e w3 ⟨rfl, hb3⟩
        have HW3 := Lib.hid (HW2.out.on hb3)
        have HIN3 := Lib.hid ((hb3.block J (Array.getElem?_eq_some_iff.1 HIN.out).1).trans HIN.out)
        clear hb3
        go_wp2_with fail
        refine (HW3.out.write _ (by omega) (by omega)).mono ?_
        rintro e w4 ⟨⟨nn, rfl⟩, hw4, hk4⟩
        have hin4 := kept_row hk4 HIN3.out (by omega) (by decide)
        rw [bs_data] at hw4
        obtain ⟨c40, c41, c42, c43⟩ := HIS.out w4 hin4
        have HW4 := Lib.hid hw4
        have HIN4 := Lib.hid hin4
        have hz4 := hw4.sz
        clear hw4 hk4 hin4
        go_wp2_with fail
        have hin5 : (w4.alloc (.cells #[.int .i64 (a : Int), .int .i64 (bb : Int)] 3)).heap[J]? = some (.cells #[.int .i64 (o : Int), .int .i64 (a : Int), .int .i64 (bb : Int), .int .i64 im] 74 (0, 0)) := (Below.heap_alloc _ _ _ (Array.getElem?_eq_some_iff.1 HIN4.out).1).trans HIN4.out
        have hl5 := heap_alloc_new w4 (.cells #[.int .i64 (a : Int), .int .i64 (bb : Int)] 3)
        have hw5 : WrIn w T (s ++ nm) (w4.alloc (.cells #[.int .i64 (a : Int), .int .i64 (bb : Int)] 3)) := HW4.out.on ((Below.refl _ _).alloc (Nat.le_refl _) _)
        obtain ⟨L, hL⟩ : ∃ L, L = w4.heap.size := ⟨_, rfl⟩
        rw [← hL] at hl5 hz4 ⊢
        have H5 := Lib.hid (And.intro hin5 (And.intro hl5 hw5))
        generalize w4.alloc (.cells #[.int .i64 (a : Int), .int .i64 (bb : Int)] 3) = w5 at *
        clear hin5 hl5 hw5 hL c40 c41 c42 c43
        rcases HSH.out with h | h | h | h | h
        all_goals
          obtain ⟨s1, s2, s3, s4, s5, s6, s7, s8⟩ := h
          have HS1 := Lib.hid (fun w => HSL.out 2 1 2 1 _ (by decide) (by decide) rfl rfl s1 w)
          have HS2 := Lib.hid (fun w => HSL.out 2 0 2 0 _ (by decide) (by decide) rfl rfl s2 w)
          have HS3 := Lib.hid (fun w => HSL.out 1 1 1 1 _ (by decide) (by decide) rfl rfl s3 w)
          have HS4 := Lib.hid (fun w => HSL.out 1 0 1 0 _ (by decide) (by decide) rfl rfl s4 w)
          have HS5 := Lib.hid (fun w => HSL.out 0 1 0 1 _ (by decide) (by decide) rfl rfl s5 w)
          rw [s6] at HA
          rw [s7] at HBb
          rw [s8] at HI
          simp only [if_true, Bool.false_eq_true, if_false] at HA HBb HI
          clear s1 s2 s3 s4 s5 s6 s7 s8 HSL HSH
          go_loopg [40] 2 (TwoR w T J L (s ++ nm) (s ++ nm ++ qa) (s ++ nm ++ qa ++ qb) #[.int .i64 (o : Int), .int .i64 (a : Int), .int .i64 (bb : Int), .int .i64 im] #[.int .i64 (a : Int), .int .i64 (bb : Int)])
          case atStart => exact ⟨.inl ⟨rfl, rfl, H5.out.2.2⟩, H5.out.1, H5.out.2.1⟩
          case round =>
            obtain ⟨hq, hij, hlj⟩ := hrel
            obtain ⟨c0, c1, c2, c3⟩ := HIS.out _ hij
            have e0 := cell_of_row _ L 0 _ _ _ hlj
            have e1 := cell_of_row _ L 1 _ _ _ hlj
            simp only [List.getElem?_toArray, List.getElem?_cons_zero, List.getElem?_cons_succ] at e0 e1
            have HIJ := Lib.hid (And.intro hij hlj)
            clear hij hlj
            rcases hq with ⟨rfl, rfl, hwj⟩ | ⟨rfl, rfl, hwj⟩ | ⟨rfl, rfl, hwj⟩
            · have HWJ := Lib.hid hwj
              clear hwj
              go_wp2_with (first
                | ((with_reducible refine (HS1.out _).mono ?_); rintro e w6 ⟨rfl, rfl⟩)
                | ((with_reducible refine (HS2.out _).mono ?_); rintro e w6 ⟨rfl, rfl⟩)
                | ((with_reducible refine (HS3.out _).mono ?_); rintro e w6 ⟨rfl, rfl⟩)
                | ((with_reducible refine (HS4.out _).mono ?_); rintro e w6 ⟨rfl, rfl⟩)
                | ((with_reducible refine (HS5.out _).mono ?_); rintro e w6 ⟨rfl, rfl⟩)
                | fail)
              first
              | (go_roundg 1
                 case measure => omega
                 case rel => exact ⟨.inr (.inl ⟨rfl, rfl, by rw [HA.out, List.append_nil]; exact HWJ.out⟩), HIJ.out⟩)
              | (refine (HGA.out _ _ HWJ.out).mono ?_
                 rintro e w6 ⟨rfl, hb6⟩
                 have HW6 := Lib.hid (HWJ.out.on hb6)
                 have HI6 := Lib.hid (And.intro ((hb6.block J (Array.getElem?_eq_some_iff.1 HIJ.out.1).1).trans HIJ.out.1) ((hb6.block L (Array.getElem?_eq_some_iff.1 HIJ.out.2).1).trans HIJ.out.2))
                 clear hb6
                 go_wp2_with fail
                 all_goals try (exfalso; omega)
                 refine (HW6.out.write _ (by simp; omega) (by simp [ByteArray.size_append, hdA]; first | omega | (simp [ByteArray.size]; omega))).mono ?_
                 rintro e w7 ⟨⟨n7, rfl⟩, hw7, hk7⟩
                 have HW7 := Lib.hid hw7
                 have HI7 := Lib.hid (And.intro (kept_row hk7 HI6.out.1 (by omega) (by decide)) (kept_row hk7 HI6.out.2 (by omega) (by decide)))
                 clear hw7 hk7
                 go_wp2_with fail
                 go_roundg 1
                 case measure => omega
                 case rel => exact ⟨.inr (.inl ⟨rfl, rfl, by rw [HA.out]; simpa [ByteArray.data_append, bs_data] using HW7.out⟩), HI7.out⟩)
            · have HWJ := Lib.hid hwj
              clear hwj
              go_wp2_with (first
                | ((with_reducible refine (HS1.out _).mono ?_); rintro e w6 ⟨rfl, rfl⟩)
                | ((with_reducible refine (HS2.out _).mono ?_); rintro e w6 ⟨rfl, rfl⟩)
                | ((with_reducible refine (HS3.out _).mono ?_); rintro e w6 ⟨rfl, rfl⟩)
                | ((with_reducible refine (HS4.out _).mono ?_); rintro e w6 ⟨rfl, rfl⟩)
                | ((with_reducible refine (HS5.out _).mono ?_); rintro e w6 ⟨rfl, rfl⟩)
                | fail)
              first
              | (go_roundg 0
                 case measure => omega
                 case rel => exact ⟨.inr (.inr ⟨rfl, rfl, by rw [HBb.out, List.append_nil]; exact HWJ.out⟩), HIJ.out⟩)
              | (refine (HGB.out _ _ HWJ.out).mono ?_
                 rintro e w6 ⟨rfl, hb6⟩
                 have HW6 := Lib.hid (HWJ.out.on hb6)
                 have HI6 := Lib.hid (And.intro ((hb6.block J (Array.getElem?_eq_some_iff.1 HIJ.out.1).1).trans HIJ.out.1) ((hb6.block L (Array.getElem?_eq_some_iff.1 HIJ.out.2).1).trans HIJ.out.2))
                 clear hb6
                 go_wp2_with fail
                 all_goals try (exfalso; omega)
                 refine (HW6.out.write _ (by simp; omega) (by simp [ByteArray.size_append, hdB]; first | omega | (simp [ByteArray.size]; omega))).mono ?_
                 rintro e w7 ⟨⟨n7, rfl⟩, hw7, hk7⟩
                 have HW7 := Lib.hid hw7
                 have HI7 := Lib.hid (And.intro (kept_row hk7 HI6.out.1 (by omega) (by decide)) (kept_row hk7 HI6.out.2 (by omega) (by decide)))
                 clear hw7 hk7
                 go_wp2_with fail
                 go_roundg 0
                 case measure => omega
                 case rel => exact ⟨.inr (.inr ⟨rfl, rfl, by rw [HBb.out]; simpa [ByteArray.data_append, bs_data] using HW7.out⟩), HI7.out⟩)
            · have HWJ := Lib.hid hwj
              clear hwj
              go_wp2_with (first
                | ((with_reducible refine (HS1.out _).mono ?_); rintro e w6 ⟨rfl, rfl⟩)
                | ((with_reducible refine (HS2.out _).mono ?_); rintro e w6 ⟨rfl, rfl⟩)
                | ((with_reducible refine (HS3.out _).mono ?_); rintro e w6 ⟨rfl, rfl⟩)
                | ((with_reducible refine (HS4.out _).mono ?_); rintro e w6 ⟨rfl, rfl⟩)
                | ((with_reducible refine (HS5.out _).mono ?_); rintro e w6 ⟨rfl, rfl⟩)
                | fail)
              first
              | (refine (HWJ.out.byte 10 (by simp; omega)).mono ?_
                 rintro e w8 ⟨rfl, hw8, -⟩
                 have HW8 := Lib.hid hw8
                 clear hw8
                 go_wp2_with fail
                 go_roundg (gk0 - 1)
                 case measure => have := hk.out; have := HG.out; omega
                 case rel =>
                   refine ⟨i + 1, by have := hk.out; have := HG.out; omega, by simp, ?_⟩
                   rw [← HLN.out _ ?_]
                   · exact HW8.out
                   · rw [HI.out]; simp)
              | (refine (HGI.out _ _ HWJ.out).mono ?_
                 rintro e w6 ⟨rfl, hb6⟩
                 have HW6 := Lib.hid (HWJ.out.on hb6)
                 have HI6 := Lib.hid (And.intro ((hb6.block J (Array.getElem?_eq_some_iff.1 HIJ.out.1).1).trans HIJ.out.1) ((hb6.block L (Array.getElem?_eq_some_iff.1 HIJ.out.2).1).trans HIJ.out.2))
                 clear hb6
                 go_wp2_with fail
                 all_goals try (exfalso; omega)
                 refine (HW6.out.write _ (by simp; omega) (by simp [ByteArray.size_append, hdI]; first | omega | (simp [ByteArray.size]; omega))).mono ?_
                 rintro e w7 ⟨⟨n7, rfl⟩, hw7, hk7⟩
                 have HW7 := Lib.hid hw7
                 have HI7 := Lib.hid (And.intro (kept_row hk7 HI6.out.1 (by omega) (by decide)) (kept_row hk7 HI6.out.2 (by omega) (by decide)))
                 clear hw7 hk7
                 go_wp2_with fail
                 refine (HW7.out.byte 10 (by simp [ByteArray.data_append, bs_data]; omega)).mono ?_
                 rintro e w8 ⟨rfl, hw8, -⟩
                 have HW8 := Lib.hid hw8
                 clear hw8
                 go_wp2_with fail
                 go_roundg (gk0 - 1)
                 case measure => have := hk.out; have := HG.out; omega
                 case rel =>
                   refine ⟨i + 1, by have := hk.out; have := HG.out; omega, by simp, ?_⟩
                   rw [← HLN.out _ ?_]
                   · exact HW8.out
                   · rw [HI.out]; simp [ByteArray.data_append, bs_data])
    · have hi1 : ¬ (i : Int) < (l.length : Int) := by omega
      have hil : i = l.length := by have := hk.out; omega
      subst hil
      rw [List.take_length] at HW
      go_wp2_with fail
      refine (string_of (T + 1) (T + 1) (writeL l) _ HW.out.bld (by omega)).mono ?_
      rintro e w3 ⟨rfl, hb3⟩
      have HB3 : Hid (Below w.heap.size w w3) := Lib.hid (HBW.out.trans (hb3.mono (by have := HTs.out; omega)))
      clear hb3
      go_wp2_with fail
      go_ret
      exact ⟨rfl, HB3.out⟩
end Go.Proofs.YtapjfcljbdlnkaaGreatDoor
