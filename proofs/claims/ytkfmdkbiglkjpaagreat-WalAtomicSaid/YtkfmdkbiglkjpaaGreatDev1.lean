/- dev.Write, dev.Read. -/
import Derived.Test.YtkfmdkbiglkjpaaGreatDiskCr
namespace Go.Proofs.YtkfmdkbiglkjpaaGreat
open Go Go.RowKit Go.Lib
attribute [local go_sem ↓] wp_bslice exec_load_data exec_load_write exec_store_data exec_store_write
set_option maxRecDepth 100000

/-- a disk behind a dev, and its power -/
structure DS where
  L : List Dat
  W : List (Nat × Dat)
  left : Nat
  dn : Nat
structure Dv (w : World) (F : Nat → Prop) (X D : Nat) (s : DS) : Prop where
  dev : DevAt w X D s.L.length s.left s.dn
  dsk : DiskAt w F D s.L s.W
  nx : ¬ F X
  bd : ∀ k, F k → k < w.heap.size
def Dvs (w : World) (F : Nat → Prop) (X D : Nat) (s' : DS) (w' : World) : Prop :=
  ∃ F', (∀ k, F' k → F k ∨ newIn w w' k) ∧ Dv w' F' X D s' ∧ Keeps (fun k => F k ∨ k = X) w w'
theorem Dv.below {w w' : World} {F : Nat → Prop} {X D : Nat} {s : DS} (h : Dv w F X D s) (hb : Below w.heap.size w w') : Dv w' F X D s :=
  ⟨h.dev.on (hb.block X h.dev.lt), h.dsk.below hb, h.nx, fun k hk => Nat.lt_of_lt_of_le (h.bd k hk) hb.size⟩
theorem Dv.same {w w' : World} {F : Nat → Prop} {X D : Nat} {s : DS} (h : Dv w F X D s) (hb : Below w.heap.size w w') : Dvs w F X D s w' :=
  ⟨F, fun k h => .inl h, h.below hb, Keeps.of_below hb⟩
theorem Dvs.comp {w w1 w2 : World} {F F1 : Nat → Prop} {X D : Nat} {s2 : DS} (hF : ∀ k, F1 k → F k ∨ newIn w w1 k) (hk : Keeps (fun k => F k ∨ k = X) w w1) (h2 : Dvs w1 F1 X D s2 w2) : Dvs w F X D s2 w2 := by
  obtain ⟨F2, hF2, hd2, hk2⟩ := h2
  have s1 := hk.size
  have s2 := hk2.size
  refine ⟨F2, fun k h => ?_, hd2, ⟨hk2.os.trans hk.os, hk2.tape.trans hk.tape, hk2.output.trans hk.output, by omega, fun k hk1 hf => (hk2.block k (by omega) fun h1 => ?_).trans (hk.block k hk1 hf)⟩⟩
  · rcases hF2 k h with h1 | h1
    · rcases hF k h1 with h3 | h3
      · exact .inl h3
      · exact .inr ⟨h3.1, by have := h3.2; omega⟩
    · exact .inr ⟨by have := h1.1; omega, h1.2⟩
  · rcases h1 with h1 | h1
    · rcases hF k h1 with h3 | h3
      · exact hf (.inl h3)
      · have := h3.1; omega
    · exact hf (.inr h1)
theorem Dvs.trans {w w1 w2 : World} {F : Nat → Prop} {X D : Nat} {s1 s2 : DS} (h : Dvs w F X D s1 w1) (h2 : ∀ F1, Dv w1 F1 X D s1 → Dvs w1 F1 X D s2 w2) : Dvs w F X D s2 w2 := by
  obtain ⟨F1, hF, hd, hk⟩ := h
  exact Dvs.comp hF hk (h2 F1 hd)
theorem Dv.stepped {w w' : World} {F : Nat → Prop} {X D : Nat} {s : DS} {left dn : Nat} (h : Dv w F X D s) (hd : DevAt w' X D s.L.length left dn) (hk : Keeps (· = X) w w') : Dvs w F X D ⟨s.L, s.W, left, dn⟩ w' :=
  ⟨F, fun k h => .inl h, ⟨hd, h.dsk.keeps hk fun k hf e => h.nx (e ▸ hf), h.nx, fun k hf => Nat.lt_of_lt_of_le (h.bd k hf) hk.size⟩, hk.weak fun k _ e => .inr e⟩
def DS.write (s : DS) (b : Nat) (x : Dat) : Bool × DS := if s.left = 0 then (false, s) else (true, ⟨s.L, s.W ++ [(b, x)], s.left - 1, s.dn + 1⟩)
def DS.flush1 (s : DS) (b : Nat) : Bool × DS := if s.left = 0 then (false, s) else (true, ⟨settleL s.L s.W b, settleW s.W b, s.left - 1, s.dn + 1⟩)
def DS.flush : DS → List Nat → Bool × DS
  | s, [] => (true, s)
  | s, b :: bs => if (s.flush1 b).1 then (s.flush1 b).2.flush bs else (false, s)
structure DS.ok (s : DS) : Prop where
  pos : 0 < s.L.length
  max : s.L.length ≤ 1000
  wai : s.W.length ≤ 50000
  lft : s.left ≤ 1099511627776
  don : s.dn ≤ 500000
set_option maxHeartbeats 3200000 in
theorem dev_write (F : Nat → Prop) (X D b : Nat) (x : Dat) (s : DS) (w : World) (hs : s.ok) (hb : b < s.L.length) (hx : x.length = 64) (h : Dv w F X D s) :
    Calls Tryz.prog 21 #[.pointer (some ⟨X, 0, none⟩), .int .i64 (b : Int), .agg (dC x).toArray] w fun e w' => e = .returned (.bool (s.write b x).1) ∧ Dvs w F X D (s.write b x).2 w' := by
  obtain ⟨L, W, left, dn⟩ := s
  have hXl := h.dev.lt
  have hone := dC_one x
  have hlen : (dC x).length = 64 := by rw [dC_len, hx]
  obtain ⟨w1, hw1⟩ : ∃ w1, w1 = w.alloc (.cells (dC x).toArray 49) := ⟨_, rfl⟩
  have hbel : Below w.heap.size w w1 := by rw [hw1]; exact (Below.refl _ _).alloc (Nat.le_refl _) _
  have hbox : w1.heap[w.heap.size]? = some (.cells (dC x).toArray 49 (0, 0)) := by rw [hw1]; exact heap_alloc_last _ _
  have h1 : Dv w1 F X D ⟨L, W, left, dn⟩ := h.below hbel
  have HI := Lib.hid (dev_in X D L.length left dn (b : Int) w1 h1.dev)
  simp only at hb
  rw [decide_eq_true (by omega : 0 ≤ (b : Int) ∧ (b : Int) < (L.length : Int))] at HI
  have H1 := Lib.hid h1
  have HB := Lib.hid (And.intro hbel hbox)
  have hs1 : w1.heap.size = w.heap.size + 1 := by rw [hw1]; simp
  have HS := Lib.hid hs
  have HH := Lib.hid h
  have HW1 := Lib.hid hw1
  clear h h1 hbel hbox hs hw1
  cases left with
  | zero =>
    have HST := Lib.hid (dev_step_no X D L.length dn w1 H1.out.dev)
    have HE : Hid ((DS.write ⟨L, W, 0, dn⟩ b x) = (false, ⟨L, W, 0, dn⟩)) := Lib.hid rfl
    have hal := all_oneCell_toArray hone
    go_enter Tryz.func21, Tryz.ntmps21
    go_wp2_with fail
    rw [← HW1.out]
    refine HI.out.mono ?_
    rintro e w' ⟨rfl, hw'⟩
    rw [hw']
    clear hw' w'
    go_wp2_with fail
    refine HST.out.mono ?_
    rintro e w' ⟨rfl, hw'⟩
    rw [hw']
    clear hw' w'
    go_wp2_with fail
    go_ret
    rw [HE.out]
    exact ⟨rfl, HH.out.same HB.out.1⟩
  | succ left =>
    have HST := Lib.hid (dev_step X D L.length left dn w1 H1.out.dev (by have := HS.out.lft; simp only at this; omega) (by have := HS.out.don; simp only at this; omega))
    have HE : Hid ((DS.write ⟨L, W, left + 1, dn⟩ b x) = (true, ⟨L, W ++ [(b, x)], left, dn + 1⟩)) := Lib.hid rfl
    go_enter Tryz.func21, Tryz.ntmps21
    go_wp2_with fail
    rw [← HW1.out]
    refine HI.out.mono ?_
    rintro e w' ⟨rfl, hw'⟩
    rw [hw']
    clear hw' w'
    go_wp2_with fail
    refine HST.out.mono ?_
    rintro e w2 ⟨rfl, hdv, hkp, hsz⟩
    have hXw : w.heap.size ≠ X := by omega
    have hbox2 : w2.heap[w.heap.size]? = some (.cells (dC x).toArray 49 (0, 0)) := (hkp.block _ (by omega) hXw).trans HB.out.2
    have H2 := Lib.hid ((HH.out.same HB.out.1).trans fun F0 h0 => h0.stepped hdv hkp)
    obtain ⟨c0, -⟩ := hdv.cells
    have hrg : w2.drew.rangeAt w.heap.size 0 (dC x) := fun j v hv => by
      rw [World.cell?_drew, Nat.zero_add, cell_of_row _ _ j _ _ _ hbox2, List.getElem?_toArray]
      exact hv
    obtain ⟨hdo, hdk⟩ := dat_range hrg hlen
    obtain ⟨w3, hw3⟩ : ∃ w3, w3 = w2.drew := ⟨_, rfl⟩
    have HDW : Hid (∀ F1, Dv w2 F1 X D ⟨L, W, left, dn + 1⟩ → Calls Tryz.prog 40 #[.pointer (some ⟨D, 0, none⟩), .int .i64 (b : Int), .agg (dC x).toArray] w2.drew fun e w' => e = .returned (.bool true) ∧ Dvs w2 F1 X D ⟨L, W ++ [(b, x)], left, dn + 1⟩ w') := Lib.hid fun F1 h1 => by
      have hbd : Below w2.heap.size w2 w2.drew := (Below.refl _ _).drew
      refine (disk_write F1 D L W b x hb hx (by have := HS.out.wai; simp only at this; omega) w2.drew (h1.dsk.below hbd)).mono ?_
      rintro e w' ⟨rfl, hd, hk⟩
      have hnx : ¬ orNew F1 w2.drew w' X := fun h => by
        rcases h with h | h
        · exact h1.nx h
        · have h2 : w2.heap.size ≤ X := h.1
          have := h1.dev.lt
          omega
      exact ⟨rfl, _, fun k h => h, ⟨h1.dev.on ((hk.block X h1.dev.lt h1.nx).trans (hbd.block X h1.dev.lt)), hd, hnx, fun k hf => (by
        rcases hf with h | h
        · have := h1.bd k h
          have := hk.size
          have := hbd.size
          omega
        · exact h.2)⟩, (Keeps.of_below hbd).trans (hk.weak fun k _ h => .inl h)⟩
    have hHC : Calls Tryz.prog 40 #[.pointer (some ⟨D, 0, none⟩), .int .i64 (b : Int), .agg (dC x).toArray] w3 fun e w' => e = .returned (.bool true) ∧ Dvs w F X D ⟨L, W ++ [(b, x)], left, dn + 1⟩ w' := by
      obtain ⟨F1, hF1, hd1, hk1⟩ := H2.out
      rw [hw3]
      refine (HDW.out F1 hd1).mono ?_
      rintro e w' ⟨rfl, h2⟩
      exact ⟨rfl, Dvs.comp hF1 hk1 h2⟩
    have HC := Lib.hid hHC
    clear hHC hrg hbox2 hdv hkp
    rw [← hw3] at hdo hdk
    have c0' : w3.cell? ⟨X, 0, none⟩ = some (.pointer (some ⟨D, 0, none⟩)) := by rw [hw3]; exact c0
    have HW3 := Lib.hid hw3
    clear hw3
    go_wp2_with fail
    refine reg_still_tail 6 (by kernel_rfl) (by kernel_rfl) ?_
    simp only [List.take_succ_cons, List.take_zero, List.drop_succ_cons, List.drop_zero]
    rw [← HW3.out]
    repeat still_step
    refine wpStill_nil ?_
    go_wp2_with fail
    refine HC.out.mono ?_
    rintro e w4 ⟨rfl, h4⟩
    have H4 := Lib.hid h4
    clear h4
    go_wp2_with fail
    go_ret
    rw [HE.out]
    exact ⟨rfl, H4.out⟩
end Go.Proofs.YtkfmdkbiglkjpaaGreat
