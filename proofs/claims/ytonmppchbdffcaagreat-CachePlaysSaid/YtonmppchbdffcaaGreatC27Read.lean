/- cache.Read. -/
import Derived.Test.YtonmppchbdffcaaGreatC27Cache
import Derived.Test.YtonmppchbdffcaaGreatC27Dev
namespace Go.Proofs.YtonmppchbdffcaaGreat
open Go Go.RowKit Go.Lib Go.Maps
attribute [local go_sem ↓] exec_alloc_data exec_store_data exec_load_data exec_build0
set_option maxRecDepth 100000

/-- a block laid for a value of 64 bytes, and the facts that a walk asks of it -/
theorem lay_dat {w W : World} {d : Dat} (hd : d.length = 64) (hW : W = w.alloc (.cells (dC d).toArray 34)) :
    thereOk 64 (w.alloc (.cells z64 34)) (.pointer (some ⟨w.heap.size, 0, none⟩)) = true ∧ putAt (w.alloc (.cells z64 34)) (.pointer (some ⟨w.heap.size, 0, none⟩)) (dC d).toArray = W ∧ Below w.heap.size w W ∧ W.heap[w.heap.size]? = some (.cells (dC d).toArray 34 (0, 0)) ∧ W.heap.size = w.heap.size + 1 := by
  refine ⟨there_row (n := 64) (heap_alloc_last w (.cells z64 34)) rfl, ?_, ?_, ?_, ?_⟩
  · rw [hW]; exact putAt_new 34 data_size w 34 z64 (dC d).toArray rfl (by simp [dC_len, hd]) (all_oneCell_toArray (dC_one d))
  · rw [hW]; exact (Below.refl _ _).alloc (Nat.le_refl _) _
  · rw [hW]; exact heap_alloc_last _ _
  · rw [hW]; simp
theorem dat_at {w : World} {g : Nat} {d : Dat} (hd : d.length = 64) (h : w.heap[g]? = some (.cells (dC d).toArray 34 (0, 0))) : datOf 64 w (.pointer (some ⟨g, 0, none⟩)) = dC d ∧ datOk 64 w (.pointer (some ⟨g, 0, none⟩)) = true :=
  dat_range (fun j v hv => by rw [Nat.zero_add, cell_of_row w _ j _ _ _ h, List.getElem?_toArray]; exact hv) (by rw [dC_len, hd])
theorem keeps_then {S : Nat → Prop} {w w1 w2 : World} (h : Keeps S w w1) (hb : Below w.heap.size w1 w2) : Keeps S w w2 :=
  ⟨hb.os.trans h.os, hb.tape.trans h.tape, hb.output.trans h.output, Nat.le_trans h.size hb.size, fun k hk hf => (hb.block k hk).trans (h.block k hk hf)⟩
set_option maxHeartbeats 6400000 in
theorem cache_read_dev (F : Nat → Prop) (C X D md mc nd nc b : Nat) (r : Int) (s : DS) (Dd Dc : DataW Unit) (w : World) (hC : CaAt w C X md mc r) (hd : MapAt w md nd Dd) (hc : MapAt w mc nc Dc) (hn : nc ≤ 100000) (hr : 0 ≤ r ∧ r ≤ 1000000)
    (h1 : Maps.has Dd (.int .i64 (b : Int)) = false) (h2 : Maps.has Dc (.int .i64 (b : Int)) = false) (h16 : Maps.size Dc < 16) (hs : s.ok) (hb : b < s.L.length) (hl : 0 < s.left) (hv : Dv w F X D s) :
    Calls Tryz.prog 13 #[.pointer (some ⟨C, 0, none⟩), .int .i64 (b : Int)] w fun e w' => e = .returned (.tuple #[.agg (dC (readD s.L s.W b)).toArray, .bool true]) ∧ CaAt w' C X md mc (r + 1) ∧ MapAt w' mc (nc + 1) (Dc.put (.int .i64 (b : Int)) (.lit (.string (readD s.L s.W b)))) ∧ Keeps (fun k => k = C ∨ k = mc) w w' := by
  have hmax := hs.max
  -- the blocks laid ahead of the read
  obtain ⟨w1, hw1⟩ : ∃ w1, w1 = w.alloc (.cells z64 34) := ⟨_, rfl⟩
  have hb1 : Below w.heap.size w w1 := by rw [hw1]; exact (Below.refl _ _).alloc (Nat.le_refl _) _
  have hg1 : w1.heap[w.heap.size]? = some (.cells z64 34 (0, 0)) := by rw [hw1]; exact heap_alloc_last _ _
  have hz1 : w1.heap.size = w.heap.size + 1 := by rw [hw1]; simp
  obtain ⟨d0, hd0, hlk0, -⟩ := map_look (hd.on (hb1.block md hd.lt)) (b : Int) (by omega) (by omega)
  rw [h1] at hlk0
  obtain ⟨w2, hw2⟩ : ∃ w2, w2 = w1.alloc (.cells (dC d0).toArray 34) := ⟨_, rfl⟩
  obtain ⟨th2, pt2, hb2, -, hz2⟩ := lay_dat hd0 hw2
  have hb12 : Below w.heap.size w w2 := hb1.trans (hb2.mono hb1.size)
  obtain ⟨d1, hd1, hlk1, -⟩ := map_look (hc.on (hb12.block mc hc.lt)) (b : Int) (by omega) (by omega)
  rw [h2] at hlk1
  obtain ⟨w3, hw3⟩ : ∃ w3, w3 = w2.alloc (.cells (dC d1).toArray 34) := ⟨_, rfl⟩
  obtain ⟨th3, pt3, hb3, -, hz3⟩ := lay_dat hd1 hw3
  have hb13 : Below w.heap.size w w3 := hb12.trans (hb3.mono hb12.size)
  have ag0 := agg_ok (cs := dC d0) (n := 64) (by rw [dC_len, hd0]) (dC_one d0)
  have ag1 := agg_ok (cs := dC d1) (n := 64) (by rw [dC_len, hd1]) (dC_one d1)
  have hC1 : CaAt w1 C X md mc r := (hb1.block C hC.lt).trans hC
  have hC2 : CaAt w2 C X md mc r := (hb12.block C hC.lt).trans hC
  have hC3 : CaAt w3 C X md mc r := (hb13.block C hC.lt).trans hC
  obtain ⟨-, c1, -, -⟩ := hC1.cells
  obtain ⟨-, -, c2, -⟩ := hC2.cells
  obtain ⟨c3, -, -, -⟩ := hC3.cells
  have hg3 : w3.heap[w.heap.size]? = some (.cells z64 34 (0, 0)) := (hb3.block _ (by omega)).trans ((hb2.block _ (by omega)).trans hg1)
  have HRD := Lib.hid (dev_read F X D b s w3 hs hb hl (hv.below hb13))
  have hx64 : (readD s.L s.W b).length = 64 := by
    unfold readD lastW
    cases hf : (List.range s.W.length).reverse.find? fun i => (wAt s.W i).1 == b with
    | none =>
      simp only [Option.map_none, Option.getD_none]
      rw [List.getD_eq_getElem?_getD, List.getElem?_eq_getElem hb]
      exact hv.dsk.lz _ (List.getElem_mem _)
    | some i =>
      simp only [Option.map_some, Option.getD_some]
      exact wAt_64 (fun x hx => (hv.dsk.wz x hx).1) i
  generalize readD s.L s.W b = x at *
  have H3 := Lib.hid (And.intro hb13 (And.intro hg3 hC3))
  have HZ := Lib.hid (And.intro hz1 (And.intro hz2 hz3))
  have HC := Lib.hid (And.intro hC (And.intro hd hc))
  have HX := Lib.hid hx64
  have HN := Lib.hid (And.intro hn (And.intro hr (And.intro h16 (And.intro hmax hb))))
  have aw1 := hw1.symm
  clear hC hd hc hv hs hn hr h1 h2 h16 hmax hb1 hg1 hz1 hw1 hb2 hz2 hw2 hb12 hb3 hz3 hw3 hb13 hC1 hC2 hC3 hg3 hx64 hb hl
  go_enter Tryz.func13, Tryz.ntmps13
  go_wp2_with fail
  refine HRD.out.mono ?_
  rintro e w4 ⟨rfl, hb4⟩
  obtain ⟨w5, hw5⟩ : ∃ w5, w5 = w4.alloc (.cells (dC x).toArray 34) := ⟨_, rfl⟩
  obtain ⟨th5, pt5, hb5, hg5, hz5⟩ := lay_dat HX.out hw5
  have hz3 : w3.heap.size = w.heap.size + 3 := by have := HZ.out; omega
  have hb35 : Below w3.heap.size w3 w5 := hb4.trans (hb5.mono hb4.size)
  have hb05 : Below w.heap.size w w5 := H3.out.1.trans (hb35.mono (by omega))
  have hC5 : CaAt w5 C X md mc r := (hb05.block C HC.out.1.lt).trans HC.out.1
  obtain ⟨-, -, -, e3⟩ := hC5.cells
  have f3 : w5.frozen? ⟨C, 3, none⟩ = false := frozen_of_row w5 C 3 _ _ hC5
  have wr1 : IntKind.i64.wrap (r + 1) = r + 1 := by have := HN.out; rw [IntKind.wrap_i64] <;> omega
  have hCl := HC.out.1.lt
  have hcl := HC.out.2.2.lt
  have hCm := HC.out.1.ne HC.out.2.2
  -- the count
  obtain ⟨w6, hw6⟩ : ∃ w6, w6 = w5.setCell ⟨C, 3, none⟩ (.int .i64 (r + 1)) := ⟨_, rfl⟩
  have hC6 : CaAt w6 C X md mc (r + 1) := by rw [hw6]; exact heap_setCell_same w5 C 3 _ _ (.int .i64 (r + 1)) hC5
  have ho6 : ∀ k, k ≠ C → w6.heap[k]? = w5.heap[k]? := fun k hk => by rw [hw6]; exact heap_setCell_other _ _ _ _ (by simpa using hk)
  have hk6 : Keeps (fun k => k = C ∨ k = mc) w5 w6 := by rw [hw6]; exact setCells_keeps (vs := [.int .i64 (r + 1)]) (o := 3) (.inl rfl)
  have hm6 : MapAt w6 mc nc Dc := HC.out.2.2.on ((ho6 mc (fun e => hCm e.symm)).trans (hb05.block mc hcl))
  have hlen : ∀ ty, (Builtin.len_ #[63] ty #[.map (some mc)]).run Tryz.prog w6 = .ok (.int .i64 (Maps.size Dc)) w6 := fun ty => World.ownsMap.len hm6 map_under ty
  have k16 : ((Maps.size Dc : Int) == 16) = false := beq_eq_false_iff_ne.2 (by have := HN.out; omega)
  have k17 : ¬ (Maps.size Dc : Int) = 16 := by have := HN.out; omega
  obtain ⟨-, -, e2, -⟩ := hC6.cells
  have hsz4 : w3.heap.size ≤ w4.heap.size := hb4.size
  have hg6 : w6.heap[w4.heap.size]? = some (.cells (dC x).toArray 34 (0, 0)) := (ho6 _ (by omega)).trans hg5
  obtain ⟨do6, dk6⟩ := dat_at (w := w6.drew) HX.out hg6
  obtain ⟨w7, hup, hm7, hg7⟩ := map_store hm6.drew HN.out.1 (b : Int) (by omega) (by have := HN.out; omega) HX.out
  have ho7 : ∀ k, k < w6.heap.size → k ≠ mc → w7.heap[k]? = w6.heap[k]? := fun k hk hne => hg7.block k hk fun e => hne (Option.some.inj e)
  have hg47 : w7.heap[w4.heap.size]? = some (.cells (dC x).toArray 34 (0, 0)) := (ho7 _ (Array.getElem?_eq_some_iff.1 hg6).1 (by omega)).trans hg6
  obtain ⟨do7, dk7⟩ := dat_at HX.out hg47
  have hR5 : w5.heap[w.heap.size]? = some (.cells z64 34 (0, 0)) := (hb35.block _ (by omega)).trans H3.out.2.1
  have hR6 : w6.heap[w.heap.size]? = some (.cells z64 34 (0, 0)) := (ho6 _ (by omega)).trans hR5
  have hR7 : w7.heap[w.heap.size]? = some (.cells z64 34 (0, 0)) := (ho7 _ (Array.getElem?_eq_some_iff.1 hR6).1 (by omega)).trans hR6
  have th7 := there_row (n := 64) hR7 rfl
  have pt7 := putAt_row 34 data_size w7 w.heap.size _ z64 (dC x).toArray hR7 rfl (by simp [dC_len, HX.out]) (all_oneCell_toArray (dC_one x))
  have hsr := setRow_heap w7 w.heap.size _ (dC x).toArray _ _ hR7
  have agx := agg_ok (cs := dC x) (n := 64) (by rw [dC_len, HX.out]) (dC_one x)
  have hC7 : CaAt w7 C X md mc (r + 1) := (ho7 C hC6.lt hCm).trans hC6
  have hkk : Keeps (fun k => k = C ∨ k = mc) w w7 := ((Keeps.of_below hb05).trans hk6).trans (((Keeps.of_below (Below.refl _ _).drew).trans ((grown_keeps hg7).mono fun k e => .inr e)))
  have hbs := below_setRow (Below.refl w.heap.size w7) (Nat.le_refl _) (dC x).toArray
  have HQ := Lib.hid (And.intro hsr (And.intro hC7 (And.intro hm7 (And.intro hkk hbs))))
  have HCl := Lib.hid (And.intro hCl hcl)
  have aw6 := hw6.symm
  clear hw5 hb5 hg5 hz5 hz3 hb35 hb05 hC5 hC6 ho6 hk6 hm6 hg6 ho7 hg47 hR5 hR6 hR7 hsr hC7 hkk hbs hw6 hg7 hm7 hCl hcl hCm hb4 hsz4 th2 th3 pt2 pt3 ag0 ag1 hlk0 hlk1 aw1 c1 c2 c3
  go_wp2_with fail
  refine reg_still_tail 6 (by kernel_rfl) (by kernel_rfl) ?_
  simp only [List.take_succ_cons, List.take_zero, List.drop_succ_cons, List.drop_zero]
  repeat still_step
  refine wpStill_nil ?_
  go_wp2_with fail
  refine bodyPost_ret (results_ct Tryz.results13 _ _ w.heap.size 34 _ (0, 0) _ rfl HQ.out.1 Tryz.underlying34 rfl ?hi) ?hr ?hq
  case hi => rw [data_size]; simp only [List.size_toArray]; rw [dC_len, HX.out]
  case hr => rfl
  case hq =>
    have hbs := HQ.out.2.2.2.2
    exact ⟨rfl, (hbs.block C HCl.out.1).trans HQ.out.2.1, HQ.out.2.2.1.on (hbs.block mc HCl.out.2), keeps_then HQ.out.2.2.2.1 hbs⟩
end Go.Proofs.YtonmppchbdffcaaGreat
