/- dev.Read of a disk's block, where nothing is written through the dev (chapter 27). -/
import Derived.Test.YtonmppchbdffcaaGreatDev0
import Derived.Test.YtonmppchbdffcaaGreatDiskRd
namespace Go.Proofs.YtonmppchbdffcaaGreat
open Go Go.RowKit Go.Lib
attribute [local go_sem ↓] wp_bslice exec_load_data exec_load_write exec_store_data exec_store_write
set_option maxRecDepth 100000

theorem wAt_64 {W : List (Nat × Dat)} (h : ∀ x ∈ W, x.2.length = 64) (i : Nat) : (wAt W i).2.length = 64 := by
  unfold wAt
  rw [List.getD_eq_getElem?_getD]
  cases hh : W[i]? with
  | none => rfl
  | some y => exact h y (List.mem_of_getElem? hh)
structure DS where
  L : List Dat
  W : List (Nat × Dat)
  left : Nat
  dn : Nat
structure Dv (w : World) (F : Nat → Prop) (X D : Nat) (s : DS) : Prop where
  dev : DevAt w X D s.L.length s.left s.dn
  dsk : DiskAt w F D s.L s.W
  nx : ¬ F X
  bd : ∀ k, F k → k < w.heap.size
theorem Dv.below {w w' : World} {F : Nat → Prop} {X D : Nat} {s : DS} (h : Dv w F X D s) (hb : Below w.heap.size w w') : Dv w' F X D s :=
  ⟨h.dev.on (hb.block X h.dev.lt), h.dsk.below hb, h.nx, fun k hk => Nat.lt_of_lt_of_le (h.bd k hk) hb.size⟩
structure DS.ok (s : DS) : Prop where
  pos : 0 < s.L.length
  max : s.L.length ≤ 1000
  wai : s.W.length ≤ 50000
  lft : s.left ≤ 1099511627776
  don : s.dn ≤ 500000
theorem results_ct {P : Program} {fn : Func} {p u : Tmp} {ty : TypeId} (h : fn.results = #[.cell p ty, .tmp u]) (tmps : Array Value) (w : World) (g : Nat) (t : TypeId) (cs : Array Value) (fr : Nat × Nat) (d : TypeDesc)
    (hp : tmps.getD p undef = .pointer (some ⟨g, 0, none⟩)) (hg : w.heap[g]? = some (.cells cs t fr))
    (hu : P.underlying ty = some d) (hd : (match d with | .struct _ | .array _ _ => true | _ => false) = true) (hi : (P.info? ty).map (·.size) = some cs.size) :
    (results fn tmps).run P w = .ok (.tuple #[.agg cs, tmps.getD u undef]) w := by
  have hp' : tmps[p]?.getD undef = .pointer (some ⟨g, 0, none⟩) := by simpa using hp
  simp [results, h, hp', asAddr, run_loadVar_row w g t ty cs fr d hg hu hd hi]

set_option maxHeartbeats 3200000 in
theorem dev_read (F : Nat → Prop) (X D b : Nat) (s : DS) (w : World) (hs : s.ok) (hb : b < s.L.length) (hl : 0 < s.left) (h : Dv w F X D s) :
    Calls Tryz.prog 29 #[.pointer (some ⟨X, 0, none⟩), .int .i64 (b : Int)] w fun e w' => e = .returned (.tuple #[.agg (dC (readD s.L s.W b)).toArray, .bool true]) ∧ Below w.heap.size w w' := by
  obtain ⟨L, W, left, dn⟩ := s
  simp only at hb hl ⊢
  have hXl := h.dev.lt
  have hz64 : (readD L W b).length = 64 := by
    unfold readD lastW
    cases hf : (List.range W.length).reverse.find? fun i => (wAt W i).1 == b with
    | none =>
      simp only [Option.map_none, Option.getD_none]
      rw [List.getD_eq_getElem?_getD, List.getElem?_eq_getElem hb]
      exact h.dsk.lz _ (List.getElem_mem _)
    | some i =>
      simp only [Option.map_some, Option.getD_some]
      exact wAt_64 (fun x hx => (h.dsk.wz x hx).1) i
  obtain ⟨w1, hw1⟩ : ∃ w1, w.alloc (.cells z64 34) = w1 := ⟨_, rfl⟩
  have hbel : Below w.heap.size w w1 := by rw [← hw1]; exact (Below.refl _ _).alloc (Nat.le_refl _) _
  have hbox : w1.heap[w.heap.size]? = some (.cells z64 34 (0, 0)) := by rw [← hw1]; exact heap_alloc_last _ _
  have hs1 : w1.heap.size = w.heap.size + 1 := by rw [← hw1]; simp
  simp only [z64, List.reduceReplicate] at hw1
  have h1 : Dv w1 F X D ⟨L, W, left, dn⟩ := h.below hbel
  obtain ⟨c0, -⟩ := h1.dev.cells
  have HI := Lib.hid (dev_in X D L.length left dn (b : Int) w1 h1.dev)
  rw [decide_eq_true (by omega : 0 ≤ (b : Int) ∧ (b : Int) < (L.length : Int))] at HI
  have HL := Lib.hid (dev_live X D L.length left dn w1 h1.dev)
  rw [decide_eq_true hl] at HL
  have HR := Lib.hid (disk_read F D L W b hb (by have := hs.max; simpa using this) (by have := hs.wai; simp only at this; omega) w1 h1.dsk)
  have HB := Lib.hid (And.intro hbel hbox)
  have hone := dC_one (readD L W b)
  have hlen : (dC (readD L W b)).length = 64 := by rw [dC_len, hz64]
  generalize readD L W b = dd at *
  have hag := agg_ok hlen hone
  have hal := all_oneCell_toArray hone
  have HAL := Lib.hid (And.intro hal hlen)
  have HW1 := Lib.hid hw1
  clear h h1 hbel hbox hs hw1 hone hlen hal hz64
  go_enter Tryz.func29, Tryz.ntmps29
  go_wp2_with fail
  rw [HW1.out]
  refine HI.out.mono ?_
  rintro e w' ⟨rfl, hw'⟩
  rw [hw']
  clear hw' w'
  go_wp2_with fail
  refine HL.out.mono ?_
  rintro e w' ⟨rfl, hw'⟩
  rw [hw']
  clear hw' w'
  go_wp2_with fail
  refine HR.out.mono ?_
  rintro e w2 ⟨rfl, hb2⟩
  have hbox2 : w2.heap[w.heap.size]? = some (.cells z64 34 (0, 0)) := (hb2.block _ (by omega)).trans HB.out.2
  have hth := there_row (n := 64) hbox2 rfl
  have hpt := putAt_row 34 data_size w2 w.heap.size _ z64 (dC dd).toArray hbox2 rfl (by simpa using HAL.out.2) HAL.out.1
  have hsr := setRow_heap w2 w.heap.size _ (dC dd).toArray _ _ hbox2
  have HQ := Lib.hid (And.intro hsr (HB.out.1.trans (hb2.mono (by omega))))
  clear hb2 hbox2 hsr
  go_wp2_with fail
  refine bodyPost_ret (results_ct Tryz.results29 _ _ w.heap.size 34 _ (0, 0) _ rfl HQ.out.1 Tryz.underlying34 rfl ?hi) ?hr ?hq
  case hi => rw [data_size]; simp only [List.size_toArray]; rw [HAL.out.2]
  case hr => rfl
  case hq => exact ⟨rfl, below_setRow HQ.out.2 (Nat.le_refl _) _⟩

end Go.Proofs.YtonmppchbdffcaaGreat
