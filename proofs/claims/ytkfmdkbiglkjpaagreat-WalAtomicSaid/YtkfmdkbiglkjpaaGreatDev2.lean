/- dev.Flush, dev.Read. -/
import Derived.Test.YtkfmdkbiglkjpaaGreatDev1
namespace Go.Proofs.YtkfmdkbiglkjpaaGreat
open Go Go.RowKit Go.Lib
attribute [local go_sem ↓] wp_bslice exec_load_data exec_load_write exec_store_data exec_store_write
set_option maxRecDepth 100000

/-- a slice of numbers that can be read: these -/
def KReads (w : World) (ad : Option Addr) (l : List Nat) : Prop :=
  ∀ (j x : Nat), l[j]? = some x → ∃ b off, ad = some ⟨b, off, none⟩ ∧ w.cell? ⟨b, off + j, none⟩ = some (.int .i64 (x : Int))
theorem results_ct {P : Program} {fn : Func} {p u : Tmp} {ty : TypeId} (h : fn.results = #[.cell p ty, .tmp u]) (tmps : Array Value) (w : World) (g : Nat) (t : TypeId) (cs : Array Value) (fr : Nat × Nat) (d : TypeDesc)
    (hp : tmps.getD p undef = .pointer (some ⟨g, 0, none⟩)) (hg : w.heap[g]? = some (.cells cs t fr))
    (hu : P.underlying ty = some d) (hd : (match d with | .struct _ | .array _ _ => true | _ => false) = true) (hi : (P.info? ty).map (·.size) = some cs.size) :
    (results fn tmps).run P w = .ok (.tuple #[.agg cs, tmps.getD u undef]) w := by
  have hp' : tmps[p]?.getD undef = .pointer (some ⟨g, 0, none⟩) := by simpa using hp
  simp [results, h, hp', asAddr, run_loadVar_row w g t ty cs fr d hg hu hd hi]

set_option maxHeartbeats 3200000 in
theorem dev_read (F : Nat → Prop) (X D b : Nat) (s : DS) (w : World) (hs : s.ok) (hb : b < s.L.length) (hl : 0 < s.left) (h : Dv w F X D s) :
    Calls Tryz.prog 31 #[.pointer (some ⟨X, 0, none⟩), .int .i64 (b : Int)] w fun e w' => e = .returned (.tuple #[.agg (dC (readD s.L s.W b)).toArray, .bool true]) ∧ Below w.heap.size w w' := by
  obtain ⟨L, W, left, dn⟩ := s
  simp only at hb hl ⊢
  have hXl := h.dev.lt
  have hz64 : (readD L W b).length = 64 := by
    unfold readD lastW
    cases hf : (List.range W.length).reverse.find? fun i => (wAt W i).1 == b with
    | none =>
      simp only [Option.map_none, Option.getD_none]
      rw [List.getD_eq_getElem?_getD, List.getElem?_eq_getElem hb]
      exact h.dsk.lz _ (List.getElem_mem _)
    | some i =>
      simp only [Option.map_some, Option.getD_some]
      exact wAt_64 (fun x hx => (h.dsk.wz x hx).1) i
  obtain ⟨w1, hw1⟩ : ∃ w1, w.alloc (.cells z64 49) = w1 := ⟨_, rfl⟩
  have hbel : Below w.heap.size w w1 := by rw [← hw1]; exact (Below.refl _ _).alloc (Nat.le_refl _) _
  have hbox : w1.heap[w.heap.size]? = some (.cells z64 49 (0, 0)) := by rw [← hw1]; exact heap_alloc_last _ _
  have hs1 : w1.heap.size = w.heap.size + 1 := by rw [← hw1]; simp
  simp only [z64, List.reduceReplicate] at hw1
  have h1 : Dv w1 F X D ⟨L, W, left, dn⟩ := h.below hbel
  obtain ⟨c0, -⟩ := h1.dev.cells
  have HI := Lib.hid (dev_in X D L.length left dn (b : Int) w1 h1.dev)
  rw [decide_eq_true (by omega : 0 ≤ (b : Int) ∧ (b : Int) < (L.length : Int))] at HI
  have HL := Lib.hid (dev_live X D L.length left dn w1 h1.dev)
  rw [decide_eq_true hl] at HL
  have HR := Lib.hid (disk_read F D L W b hb (by have := hs.max; simpa using this) (by have := hs.wai; simp only at this; omega) w1 h1.dsk)
  have HB := Lib.hid (And.intro hbel hbox)
  have hone := dC_one (readD L W b)
  have hlen : (dC (readD L W b)).length = 64 := by rw [dC_len, hz64]
  generalize readD L W b = dd at *
  have hag := agg_ok hlen hone
  have hal := all_oneCell_toArray hone
  have HAL := Lib.hid (And.intro hal hlen)
  have HW1 := Lib.hid hw1
  clear h h1 hbel hbox hs hw1 hone hlen hal hz64
  go_enter Tryz.func31, Tryz.ntmps31
  go_wp2_with fail
  rw [HW1.out]
  refine HI.out.mono ?_
  rintro e w' ⟨rfl, hw'⟩
  rw [hw']
  clear hw' w'
  go_wp2_with fail
  refine HL.out.mono ?_
  rintro e w' ⟨rfl, hw'⟩
  rw [hw']
  clear hw' w'
  go_wp2_with fail
  refine HR.out.mono ?_
  rintro e w2 ⟨rfl, hb2⟩
  have hbox2 : w2.heap[w.heap.size]? = some (.cells z64 49 (0, 0)) := (hb2.block _ (by omega)).trans HB.out.2
  have hth := there_row (n := 64) hbox2 rfl
  have hpt := putAt_row 49 data_size w2 w.heap.size _ z64 (dC dd).toArray hbox2 rfl (by simpa using HAL.out.2) HAL.out.1
  have hsr := setRow_heap w2 w.heap.size _ (dC dd).toArray _ _ hbox2
  have HQ := Lib.hid (And.intro hsr (HB.out.1.trans (hb2.mono (by omega))))
  clear hb2 hbox2 hsr
  go_wp2_with fail
  refine bodyPost_ret (results_ct Tryz.results31 _ _ w.heap.size 49 _ (0, 0) _ rfl HQ.out.1 Tryz.underlying49 rfl ?hi) ?hr ?hq
  case hi => rw [data_size]; simp only [List.size_toArray]; rw [HAL.out.2]
  case hr => rfl
  case hq => exact ⟨rfl, below_setRow HQ.out.2 (Nat.le_refl _) _⟩

theorem settleW_len (W : List (Nat × Dat)) (b : Nat) : (settleW W b).length ≤ W.length := List.length_filter_le _ _
/-- how far a row of flushes is -/
structure FlI (w : World) (F : Nat → Prop) (X D : Nat) (s : DS) (bs : List Nat) (i : Nat) (t : DS) (wr : World) : Prop where
  vs : Dvs w F X D t wr
  eq : s.flush bs = t.flush (bs.drop i)
  len : t.L.length = s.L.length
  wl : t.W.length ≤ s.W.length
  lf : t.left ≤ s.left
  dl : t.dn ≤ s.dn + i
set_option maxHeartbeats 6400000 in
theorem dev_flush (F : Nat → Prop) (X D : Nat) (ad : Option Addr) (cap : Nat) (bs : List Nat) (s : DS) (w : World) (hs : s.ok) (hb : ∀ b ∈ bs, b < s.L.length) (hn : bs.length ≤ 1000) (h : Dv w F X D s) (hk : KReads w ad bs)
    (hF : ∀ b off, ad = some ⟨b, off, none⟩ → b < w.heap.size ∧ ¬ F b ∧ b ≠ X) :
    Calls Tryz.prog 22 #[.pointer (some ⟨X, 0, none⟩), .slice ad bs.length cap] w fun e w' => e = .returned (.bool (s.flush bs).1) ∧ Dvs w F X D (s.flush bs).2 w' := by
  have HS := Lib.hid hs
  have HB := Lib.hid hb
  have HH := Lib.hid h
  have HK := Lib.hid hk
  have HF := Lib.hid hF
  obtain ⟨m, hm⟩ : ∃ m, m = bs.length := ⟨_, rfl⟩
  have HM := Lib.hid hm
  rw [← hm] at hn ⊢
  clear hs hb h hk hF hm
  go_enter Tryz.func22, Tryz.ntmps22
  go_wp2_with fail
  go_loopg [9] m (fun k v wr => ∃ (i : Nat) (t : DS), k + i = m ∧ v = .int .i64 (i : Int) ∧ FlI w F X D s bs i t wr)
  case atStart => exact ⟨0, s, by simp, rfl, HH.out.same (Below.refl _ _), rfl, rfl, Nat.le_refl _, Nat.le_refl _, Nat.le_refl _⟩
  case round =>
    obtain ⟨i, t, hk, rfl, hI⟩ := hrel
    have hk := Lib.hid hk
    have HI := Lib.hid hI
    clear hI
    by_cases hi : i < m
    · have hi1 : (i : Int) < (m : Int) := by omega
      have hi3 : (0 : Int) ≤ (i : Int) := by omega
      have wr1 : IntKind.i64.wrap ((i : Int) + 1) = (i : Int) + 1 := by rw [IntKind.wrap_i64]; omega
      obtain ⟨b, hxb⟩ : ∃ b, bs[i]? = some b := ⟨bs[i]'(by have := HM.out; omega), List.getElem?_eq_getElem _⟩
      obtain ⟨gb, off, rfl, hc⟩ := HK.out i b hxb
      obtain ⟨hgl, hgF, hgX⟩ := HF.out gb off rfl
      obtain ⟨F1, hF1, hd1, hk1⟩ := HI.out.vs
      have hbl : b < t.L.length := by rw [HI.out.len]; exact HB.out b (List.mem_of_getElem? hxb)
      have hcr : wr.cell? ⟨gb, off + i, none⟩ = some (.int .i64 (b : Int)) := by
        rw [World.cell?_of_block (a := ⟨gb, off + i, none⟩) (hk1.block gb hgl fun h => by rcases h with h | h; exact hgF h; exact hgX h)]
        exact hc
      have hdrop : bs.drop i = b :: bs.drop (i + 1) := by
        rw [List.drop_eq_getElem_cons (by have := HM.out; omega)]
        congr 1
        have := List.getElem?_eq_some_iff.1 hxb
        exact this.2
      obtain ⟨w1, hw1⟩ : ∃ w1, w1 = wr.alloc (.cells #[.int .i64 (b : Int)] 3) := ⟨_, rfl⟩
      have hbel : Below wr.heap.size wr w1 := by rw [hw1]; exact (Below.refl _ _).alloc (Nat.le_refl _) _
      have hbox : w1.heap[wr.heap.size]? = some (.cells #[.int .i64 (b : Int)] 3 (0, 0)) := by rw [hw1]; exact heap_alloc_last _ _
      have hs1 : w1.heap.size = wr.heap.size + 1 := by rw [hw1]; simp
      have hd2 := hd1.below hbel
      have HIN := Lib.hid (dev_in X D t.L.length t.left t.dn (b : Int) w1 hd2.dev)
      rw [decide_eq_true (by omega : 0 ≤ (b : Int) ∧ (b : Int) < (t.L.length : Int))] at HIN
      obtain ⟨R, hR⟩ : ∃ R, R = wr.heap.size := ⟨_, rfl⟩
      have hRF : ¬ F1 R := fun h => by have := hd1.bd R h; omega
      have hRX : R ≠ X := by have := hd1.dev.lt; omega
      have c1 : w1.cell? ⟨R, 0, none⟩ = some (.int .i64 (b : Int)) := by rw [hR, cell_of_row _ _ 0 _ _ _ hbox]; rfl
      have HV1 : Hid (Dvs w F X D t w1) := Lib.hid (HI.out.vs.trans fun F0 h0 => h0.same hbel)
      have HD2 := Lib.hid hd2
      have HBX := Lib.hid (And.intro hbox (And.intro hRF hRX))
      have HDR := Lib.hid hdrop
      have HW1 := Lib.hid hw1
      have HR := Lib.hid hR
      have HF1 := Lib.hid (And.intro hF1 (And.intro hk1 hbel))
      clear hF1 hd1 hk1 hbel hbox hd2 hdrop hw1 hR hc hxb hRF hgl hgF hgX
      cases hl : t.left with
      | zero =>
        have HE : Hid (s.flush bs = (false, t)) := Lib.hid (by rw [HI.out.eq, HDR.out, DS.flush, if_neg (by simp [DS.flush1, hl])])
        have HST := Lib.hid (dev_step_no X D t.L.length t.dn w1 (by have := HD2.out.dev; rwa [hl] at this))
        clear hl
        go_wp2_with fail
        rw [← HR.out, ← HW1.out]
        refine HIN.out.mono ?_
        rintro e w' ⟨rfl, hw'⟩
        rw [hw']
        clear hw' w'
        go_wp2_with fail
        refine HST.out.mono ?_
        rintro e w' ⟨rfl, hw'⟩
        rw [hw']
        clear hw' w'
        go_wp2_with fail
        go_ret
        rw [HE.out]
        exact ⟨rfl, HV1.out⟩
      | succ left =>
        have HE : Hid (s.flush bs = DS.flush ⟨settleL t.L t.W b, settleW t.W b, left, t.dn + 1⟩ (bs.drop (i + 1))) := Lib.hid (by
          rw [HI.out.eq, HDR.out, DS.flush]
          have : (t.flush1 b) = (true, ⟨settleL t.L t.W b, settleW t.W b, left, t.dn + 1⟩) := by simp [DS.flush1, hl]
          rw [this]; rfl)
        have HST := Lib.hid (dev_step X D t.L.length left t.dn w1 (by have := HD2.out.dev; rwa [hl] at this) (by have := HS.out.lft; have := HI.out.lf; omega) (by have := HS.out.don; have := HI.out.dl; omega))
        have hlf : left ≤ s.left := by have := HI.out.lf; omega
        clear hl
        go_wp2_with fail
        rw [← HR.out, ← HW1.out]
        refine HIN.out.mono ?_
        rintro e w' ⟨rfl, hw'⟩
        rw [hw']
        clear hw' w'
        go_wp2_with fail
        refine HST.out.mono ?_
        rintro e w2 ⟨rfl, hdv, hkp, hsz⟩
        have hd3 : Dv w2 F1 X D ⟨t.L, t.W, left, t.dn + 1⟩ := ⟨hdv, HD2.out.dsk.keeps hkp fun k hf e => HD2.out.nx (e ▸ hf), HD2.out.nx, fun k hf => Nat.lt_of_lt_of_le (HD2.out.bd k hf) hkp.size⟩
        have hbox2 : w2.heap[R]? = some (.cells #[.int .i64 (b : Int)] 3 (0, 0)) := by
          rw [hkp.block R (by have := HR.out; omega) HBX.out.2.2, HR.out]; exact HBX.out.1
        obtain ⟨c0, -⟩ := hdv.cells
        have HSE : Hid (Calls Tryz.prog 43 #[.pointer (some ⟨D, 0, none⟩), .func (.func 44) #[] #[.pointer (some ⟨R, 0, none⟩)]] w2 fun e w' => (∃ n : Int, e = .returned (.int .i64 n)) ∧ Dvs w F X D ⟨settleL t.L t.W b, settleW t.W b, left, t.dn + 1⟩ w') := Lib.hid (by
          refine (disk_settle F1 D t.L t.W b R hbl (by have := HS.out.max; have := HI.out.len; omega) (by have := HS.out.wai; have := HI.out.wl; omega) w2 hd3.dsk hbox2 HBX.out.2.1).mono ?_
          rintro e w' ⟨he, hd, hk⟩
          refine ⟨he, Dvs.comp (F1 := F1) (w1 := w2) (fun k hf => ?_) ?_ ⟨orNew F1 w2 w', fun k h => h, ⟨?_, hd, ?_, ?_⟩, hk.weak fun k _ h => .inl h⟩⟩
          · rcases HF1.out.1 k hf with h | h
            · exact .inl h
            · exact .inr ⟨h.1, by have := h.2; have := hkp.size; have := HF1.out.2.2.size; omega⟩
          · exact (HF1.out.2.1.trans (Keeps.of_below HF1.out.2.2)).trans (hkp.weak fun k _ e => .inr e)
          · rw [settleL_len]; exact hd3.dev.on (hk.block X hd3.dev.lt hd3.nx)
          · intro h
            rcases h with h | h
            · exact hd3.nx h
            · have := h.1; have := hd3.dev.lt; omega
          · intro k hf
            rcases hf with h | h
            · have := hd3.bd k h; have := hk.size; omega
            · exact h.2)
        clear hdv hkp hd3 hbox2
        go_wp2_with fail
        refine HSE.out.mono ?_
        rintro e w4 ⟨⟨nn, rfl⟩, h4⟩
        have HI4 : Hid (FlI w F X D s bs (i + 1) ⟨settleL t.L t.W b, settleW t.W b, left, t.dn + 1⟩ w4) := Lib.hid ⟨h4, HE.out, by rw [settleL_len]; exact HI.out.len, Nat.le_trans (settleW_len _ _) HI.out.wl, hlf, by have := HI.out.dl; simp only; omega⟩
        clear h4
        go_wp2_with fail
        go_roundg (gk - 1)
        case measure => have := hk.out; omega
        case rel => exact ⟨i + 1, _, by have := hk.out; omega, by simp, HI4.out⟩
    · have hi1 : ¬ (i : Int) < (m : Int) := by omega
      have HE : Hid (s.flush bs = (true, t)) := Lib.hid (by rw [HI.out.eq, List.drop_of_length_le (by have := hk.out; have := HM.out; omega)]; rfl)
      go_wp2_with fail
      go_ret
      rw [HE.out]
      exact ⟨rfl, HI.out.vs⟩
end Go.Proofs.YtkfmdkbiglkjpaaGreat
