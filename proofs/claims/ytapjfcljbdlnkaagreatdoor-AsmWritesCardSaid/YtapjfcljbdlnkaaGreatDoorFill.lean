/- (*isa.Table).fill: which fields each instruction has. -/
import Derived.Test.YtapjfcljbdlnkaaGreatDoorOnce
import Derived.WalkKit
import Derived.WalkSpells
import Derived.WalkLawsBesides
import Derived.Deep.LoopGhost
import Derived.Below
import Derived.Lib.Hide
namespace Go.Proofs.YtapjfcljbdlnkaaGreatDoor
open Go Go.RowKit Go.Lib
set_option maxRecDepth 100000

/-- the table's 25 numbers, in block b from cell 3 on -/
def TabAt (w : World) (b : Nat) (g : Nat → Int) : Prop := ∀ i, i < 25 → w.cell? ⟨b, 3 + i, none⟩ = some (.int .i64 (g i)) ∧ w.frozen? ⟨b, 3 + i, none⟩ = false
/-- but for block b all that was there stands -/
structure But (b : Nat) (w w' : World) : Prop where
  below : ∀ n, n ≤ b → n ≤ w.heap.size → Below n w w'
  size : w.heap.size ≤ w'.heap.size
  block : ∀ k, k < w.heap.size → k ≠ b → w'.heap[k]? = w.heap[k]?
  typ : ∀ (cs : Array Value) (t : TypeId), w.heap[b]? = some (.cells cs t (0, 0)) → ∃ cs', w'.heap[b]? = some (.cells cs' t (0, 0))
theorem But.refl (b : Nat) (w : World) : But b w w := ⟨fun _ _ _ => Below.refl _ _, Nat.le_refl _, fun _ _ _ => rfl, fun cs _ h => ⟨cs, h⟩⟩
theorem But.trans {b : Nat} {w w' w'' : World} (h : But b w w') (h' : But b w' w'') : But b w w'' :=
  ⟨fun n hn hs => (h.below n hn hs).trans (h'.below n hn (Nat.le_trans hs h.size)), Nat.le_trans h.size h'.size, fun k hk hb => (h'.block k (Nat.lt_of_lt_of_le hk h.size) hb).trans (h.block k hk hb), fun cs t hc => let ⟨cs', hc'⟩ := h.typ cs t hc; h'.typ cs' t hc'⟩
theorem But.alloc (b : Nat) (w : World) (o : Obj) : But b w (w.alloc o) :=
  ⟨fun n _ hs => (Below.refl n w).alloc hs o, by simp, fun k hk _ => Below.heap_alloc w o k hk, fun cs _ hc => ⟨cs, (Below.heap_alloc w o b (Array.getElem?_eq_some_iff.1 hc).1).trans hc⟩⟩
theorem But.setCell (b i : Nat) (w : World) (v : Value) : But b w (w.setCell ⟨b, i, none⟩ v) :=
  ⟨fun n hn _ => (Below.refl n w).setCell hn v, by simp, fun k _ hb => heap_setCell_other _ _ _ _ (by simpa using hb), fun _ _ hc => ⟨_, heap_setCell_same w b i _ _ _ hc⟩⟩
theorem TabAt.set {w : World} {b : Nat} {g : Nat → Int} (h : TabAt w b g) (n : Nat) (c : Int) (hn : n < 25) : TabAt (w.setCell ⟨b, 3 + n, none⟩ (.int .i64 c)) b (fun i => if i = n then c else g i) := by
  intro i hi
  obtain ⟨h1, h2⟩ := h i hi
  refine ⟨?_, by simp [h2]⟩
  by_cases e : i = n
  · subst e
    rw [World.cell?_setCell_same _ _ _ h1]; simp
  · rw [World.cell?_setCell_other _ _ _ _ (by simp <;> omega), h1]; simp [e]
/-- and block b stands but for the table's numbers -/
structure ButT (b : Nat) (w w' : World) : Prop where
  but : But b w w'
  out : ∀ j, (j < 3 ∨ 28 ≤ j) → w'.cell? ⟨b, j, none⟩ = w.cell? ⟨b, j, none⟩ ∧ w'.frozen? ⟨b, j, none⟩ = w.frozen? ⟨b, j, none⟩
theorem ButT.trans {b : Nat} {w w' w'' : World} (h : ButT b w w') (h' : ButT b w' w'') : ButT b w w'' :=
  ⟨h.but.trans h'.but, fun j hj => ⟨(h'.out j hj).1.trans (h.out j hj).1, (h'.out j hj).2.trans (h.out j hj).2⟩⟩
theorem ButT.alloc {b : Nat} {w : World} (h : b < w.heap.size) (o : Obj) : ButT b w (w.alloc o) :=
  ⟨But.alloc _ _ _, fun j _ => by have e := (Below.heap_alloc w o b h : (w.alloc o).heap[b]? = w.heap[b]?); exact ⟨by simp [World.cell?, e], by simp [World.frozen?, e]⟩⟩
theorem ButT.setCell {b n : Nat} (hn : n < 25) (w : World) (v : Value) : ButT b w (w.setCell ⟨b, 3 + n, none⟩ v) :=
  ⟨But.setCell _ _ _ _, fun j hj => ⟨World.cell?_setCell_other _ _ _ _ (by simp <;> omega), by simp⟩⟩
theorem TabAt.on {w w' : World} {b : Nat} {g : Nat → Int} (h : TabAt w b g) (hb : w'.heap[b]? = w.heap[b]?) : TabAt w' b g := fun i hi => by
  obtain ⟨h1, h2⟩ := h i hi
  exact ⟨by rw [← h1]; simp [World.cell?, hb], by rw [← h2]; simp [World.frozen?, hb]⟩
/-- as the list says, and c there -/
def putAll (g : Nat → Int) (c : Int) (l : List Nat) : Nat → Int := fun i => if i ∈ l then c else g i
theorem putAll_nil (g : Nat → Int) (c : Int) : putAll g c [] = g := by funext i; simp [putAll]
theorem putAll_snoc (g : Nat → Int) (c : Int) (l : List Nat) (n : Nat) : (fun i => if i = n then c else putAll g c l i) = putAll g c (l ++ [n]) := by
  funext i
  simp only [putAll, List.mem_append, List.mem_singleton]
  by_cases h : i = n <;> simp [h]

set_option maxHeartbeats 6400000 in
theorem fill_ok (b : Nat) (g : Nat → Int) (w : World) (ht : TabAt w b g) :
    Calls Tryz.prog 77 #[.pointer (some ⟨b, 0, none⟩)] w fun e w' => e = .returned (.tuple #[]) ∧ ButT b w w' ∧
      TabAt w' b (putAll (putAll (putAll (putAll g 13 [1, 2, 13, 19, 20]) 11 [3, 4, 5, 6, 7, 8, 9, 10, 11, 12]) 15 [14, 15, 16, 17, 21]) 12 [18, 22, 24] |> fun h i => if i = 23 then 9 else h i) := by
  have hbl : b < w.heap.size := World.block_lt_of_cell? _ _ (ht 0 (by omega)).1
  have HT := Lib.hid ht
  clear ht
  go_enter Tryz.func77, Tryz.ntmps77
  go_wp2_with fail
  go_loopg [12] 5 (fun k c wr => ∃ i : Nat, k + i = 5 ∧ c = .int .i64 (i : Int) ∧ (∀ (j n : Nat), ([1, 2, 13, 19, 20] : List Nat)[j]? = some n → wr.cell? ⟨w.heap.size, j, none⟩ = some (.int .i64 (n : Int))) ∧ ButT b w wr ∧ TabAt wr b (putAll (g) 13 (([1, 2, 13, 19, 20] : List Nat).take i)))
  case atStart =>
    refine ⟨0, by omega, rfl, ?_, ButT.alloc hbl _, ?_⟩
    · intro j n hj
      have e : (#[.int .i64 1, .int .i64 2, .int .i64 13, .int .i64 19, .int .i64 20] : Array Value) = (([1, 2, 13, 19, 20] : List Nat).map fun (n : Nat) => Value.int .i64 (n : Int)).toArray := rfl
      have h3 : (([1, 2, 13, 19, 20] : List Nat).map fun (n : Nat) => Value.int .i64 (n : Int)).toArray[j]? = some (Value.int .i64 (n : Int)) := by rw [List.getElem?_toArray, List.getElem?_map, hj]; rfl
      rw [← e] at h3
      refine Eq.trans ?_ h3
      simp only [World.cell?, alloc_at]
      rfl
    · rw [List.take_zero, putAll_nil]
      exact HT.out.on (Below.heap_alloc _ _ _ hbl)
  case round =>
    obtain ⟨i, hk, rfl, hc, hb, ht⟩ := hrel
    have hk := Lib.hid hk
    have HC := Lib.hid hc
    have HB := Lib.hid hb
    have HQ := Lib.hid ht
    have hi3 : (0 : Int) ≤ (i : Int) := by omega
    have wr1 : IntKind.i64.wrap ((i : Int) + 1) = (i : Int) + 1 := by rw [IntKind.wrap_i64]; have := hk.out; omega
    clear hc hb ht
    by_cases hi : i < 5
    · have hi1 : (i : Int) < 5 := by omega
      obtain ⟨n, hn⟩ : ∃ n, ([1, 2, 13, 19, 20] : List Nat)[i]? = some n := ⟨([1, 2, 13, 19, 20] : List Nat)[i]'hi, List.getElem?_eq_getElem hi⟩
      have hn25 : n < 25 := (show ∀ n ∈ ([1, 2, 13, 19, 20] : List Nat), n < 25 by decide) n (List.mem_of_getElem? hn)
      have d1 := HC.out i n hn
      obtain ⟨t1, t2⟩ := HQ.out n hn25
      have n1 : (n : Int) < 25 := by omega
      have n2 : (0 : Int) ≤ (n : Int) := by omega
      have HN := Lib.hid hn
      clear hn
      go_wp2_with fail
      go_roundg (gk - 1)
      case measure => have := hk.out; omega
      case rel =>
        refine ⟨i + 1, by have := hk.out; omega, by simp, ?_, HB.out.trans (ButT.setCell hn25 _ _), ?_⟩
        · intro j m hj
          rw [World.cell?_setCell_other _ _ _ _ (by simp <;> omega)]
          exact HC.out j m hj
        · rw [List.take_add_one, HN.out]
          show TabAt _ b (putAll _ _ (_ ++ [n]))
          rw [← putAll_snoc]
          exact HQ.out.set n 13 hn25
    · have hi1 : ¬ (i : Int) < 5 := by omega
      have hil : i = 5 := by have := hk.out; omega
      have HT1 : Hid (TabAt wr b (putAll (g) 13 [1, 2, 13, 19, 20])) := Lib.hid (by have h := HQ.out; rw [hil] at h; exact h)
      obtain ⟨w1, rfl⟩ : ∃ x : World, x = wr := ⟨_, rfl⟩
      have HB1 := Lib.hid HB.out
      have hbl1 : b < w1.heap.size := Nat.lt_of_lt_of_le hbl HB1.out.but.size
      clear hil HQ HC hk HB
      go_wp2_with (first | refine wpList_buildSliceAs rfl 64 3 10 _ rfl #[.int .i64 3, .int .i64 4, .int .i64 5, .int .i64 6, .int .i64 7, .int .i64 8, .int .i64 9, .int .i64 10, .int .i64 11, .int .i64 12] Tryz.underlying64 (by decide) (by decide) (by kernel_rfl) ?_ | fail)
      go_loopg [24] 10 (fun k c wr => ∃ i : Nat, k + i = 10 ∧ c = .int .i64 (i : Int) ∧ (∀ (j n : Nat), ([3, 4, 5, 6, 7, 8, 9, 10, 11, 12] : List Nat)[j]? = some n → wr.cell? ⟨w1.heap.size, j, none⟩ = some (.int .i64 (n : Int))) ∧ ButT b w1 wr ∧ TabAt wr b (putAll (putAll (g) 13 [1, 2, 13, 19, 20]) 11 (([3, 4, 5, 6, 7, 8, 9, 10, 11, 12] : List Nat).take i)))
      case atStart =>
        refine ⟨0, by omega, rfl, ?_, ButT.alloc hbl1 _, ?_⟩
        · intro j n hj
          have e : (#[.int .i64 3, .int .i64 4, .int .i64 5, .int .i64 6, .int .i64 7, .int .i64 8, .int .i64 9, .int .i64 10, .int .i64 11, .int .i64 12] : Array Value) = (([3, 4, 5, 6, 7, 8, 9, 10, 11, 12] : List Nat).map fun (n : Nat) => Value.int .i64 (n : Int)).toArray := rfl
          have h3 : (([3, 4, 5, 6, 7, 8, 9, 10, 11, 12] : List Nat).map fun (n : Nat) => Value.int .i64 (n : Int)).toArray[j]? = some (Value.int .i64 (n : Int)) := by rw [List.getElem?_toArray, List.getElem?_map, hj]; rfl
          rw [← e] at h3
          refine Eq.trans ?_ h3
          simp only [World.cell?, alloc_at]
          rfl
        · rw [List.take_zero, putAll_nil]
          exact HT1.out.on (Below.heap_alloc _ _ _ hbl1)
      case round =>
        obtain ⟨i, hk, rfl, hc, hb, ht⟩ := hrel
        have hk := Lib.hid hk
        have HC := Lib.hid hc
        have HB := Lib.hid hb
        have HQ := Lib.hid ht
        have hi3 : (0 : Int) ≤ (i : Int) := by omega
        have wr1 : IntKind.i64.wrap ((i : Int) + 1) = (i : Int) + 1 := by rw [IntKind.wrap_i64]; have := hk.out; omega
        clear hc hb ht
        by_cases hi : i < 10
        · have hi1 : (i : Int) < 10 := by omega
          obtain ⟨n, hn⟩ : ∃ n, ([3, 4, 5, 6, 7, 8, 9, 10, 11, 12] : List Nat)[i]? = some n := ⟨([3, 4, 5, 6, 7, 8, 9, 10, 11, 12] : List Nat)[i]'hi, List.getElem?_eq_getElem hi⟩
          have hn25 : n < 25 := (show ∀ n ∈ ([3, 4, 5, 6, 7, 8, 9, 10, 11, 12] : List Nat), n < 25 by decide) n (List.mem_of_getElem? hn)
          have d1 := HC.out i n hn
          obtain ⟨t1, t2⟩ := HQ.out n hn25
          have n1 : (n : Int) < 25 := by omega
          have n2 : (0 : Int) ≤ (n : Int) := by omega
          have HN := Lib.hid hn
          clear hn
          go_wp2_with fail
          go_roundg (gk - 1)
          case measure => have := hk.out; omega
          case rel =>
            refine ⟨i + 1, by have := hk.out; omega, by simp, ?_, HB.out.trans (ButT.setCell hn25 _ _), ?_⟩
            · intro j m hj
              rw [World.cell?_setCell_other _ _ _ _ (by simp <;> omega)]
              exact HC.out j m hj
            · rw [List.take_add_one, HN.out]
              show TabAt _ b (putAll _ _ (_ ++ [n]))
              rw [← putAll_snoc]
              exact HQ.out.set n 11 hn25
        · have hi1 : ¬ (i : Int) < 10 := by omega
          have hil : i = 10 := by have := hk.out; omega
          have HT2 : Hid (TabAt wr b (putAll (putAll (g) 13 [1, 2, 13, 19, 20]) 11 [3, 4, 5, 6, 7, 8, 9, 10, 11, 12])) := Lib.hid (by have h := HQ.out; rw [hil] at h; exact h)
          obtain ⟨w2, rfl⟩ : ∃ x : World, x = wr := ⟨_, rfl⟩
          have HB2 := Lib.hid HB.out
          have hbl2 : b < w2.heap.size := Nat.lt_of_lt_of_le hbl1 HB2.out.but.size
          clear hil HQ HC hk HB
          go_wp2_with (first | refine wpList_buildSliceAs rfl 64 3 5 _ rfl #[.int .i64 14, .int .i64 15, .int .i64 16, .int .i64 17, .int .i64 21] Tryz.underlying64 (by decide) (by decide) (by kernel_rfl) ?_ | fail)
          go_loopg [36] 5 (fun k c wr => ∃ i : Nat, k + i = 5 ∧ c = .int .i64 (i : Int) ∧ (∀ (j n : Nat), ([14, 15, 16, 17, 21] : List Nat)[j]? = some n → wr.cell? ⟨w2.heap.size, j, none⟩ = some (.int .i64 (n : Int))) ∧ ButT b w2 wr ∧ TabAt wr b (putAll (putAll (putAll (g) 13 [1, 2, 13, 19, 20]) 11 [3, 4, 5, 6, 7, 8, 9, 10, 11, 12]) 15 (([14, 15, 16, 17, 21] : List Nat).take i)))
          case atStart =>
            refine ⟨0, by omega, rfl, ?_, ButT.alloc hbl2 _, ?_⟩
            · intro j n hj
              have e : (#[.int .i64 14, .int .i64 15, .int .i64 16, .int .i64 17, .int .i64 21] : Array Value) = (([14, 15, 16, 17, 21] : List Nat).map fun (n : Nat) => Value.int .i64 (n : Int)).toArray := rfl
              have h3 : (([14, 15, 16, 17, 21] : List Nat).map fun (n : Nat) => Value.int .i64 (n : Int)).toArray[j]? = some (Value.int .i64 (n : Int)) := by rw [List.getElem?_toArray, List.getElem?_map, hj]; rfl
              rw [← e] at h3
              refine Eq.trans ?_ h3
              simp only [World.cell?, alloc_at]
              rfl
            · rw [List.take_zero, putAll_nil]
              exact HT2.out.on (Below.heap_alloc _ _ _ hbl2)
          case round =>
            obtain ⟨i, hk, rfl, hc, hb, ht⟩ := hrel
            have hk := Lib.hid hk
            have HC := Lib.hid hc
            have HB := Lib.hid hb
            have HQ := Lib.hid ht
            have hi3 : (0 : Int) ≤ (i : Int) := by omega
            have wr1 : IntKind.i64.wrap ((i : Int) + 1) = (i : Int) + 1 := by rw [IntKind.wrap_i64]; have := hk.out; omega
            clear hc hb ht
            by_cases hi : i < 5
            · have hi1 : (i : Int) < 5 := by omega
              obtain ⟨n, hn⟩ : ∃ n, ([14, 15, 16, 17, 21] : List Nat)[i]? = some n := ⟨([14, 15, 16, 17, 21] : List Nat)[i]'hi, List.getElem?_eq_getElem hi⟩
              have hn25 : n < 25 := (show ∀ n ∈ ([14, 15, 16, 17, 21] : List Nat), n < 25 by decide) n (List.mem_of_getElem? hn)
              have d1 := HC.out i n hn
              obtain ⟨t1, t2⟩ := HQ.out n hn25
              have n1 : (n : Int) < 25 := by omega
              have n2 : (0 : Int) ≤ (n : Int) := by omega
              have HN := Lib.hid hn
              clear hn
              go_wp2_with fail
              go_roundg (gk - 1)
              case measure => have := hk.out; omega
              case rel =>
                refine ⟨i + 1, by have := hk.out; omega, by simp, ?_, HB.out.trans (ButT.setCell hn25 _ _), ?_⟩
                · intro j m hj
                  rw [World.cell?_setCell_other _ _ _ _ (by simp <;> omega)]
                  exact HC.out j m hj
                · rw [List.take_add_one, HN.out]
                  show TabAt _ b (putAll _ _ (_ ++ [n]))
                  rw [← putAll_snoc]
                  exact HQ.out.set n 15 hn25
            · have hi1 : ¬ (i : Int) < 5 := by omega
              have hil : i = 5 := by have := hk.out; omega
              have HT3 : Hid (TabAt wr b (putAll (putAll (putAll (g) 13 [1, 2, 13, 19, 20]) 11 [3, 4, 5, 6, 7, 8, 9, 10, 11, 12]) 15 [14, 15, 16, 17, 21])) := Lib.hid (by have h := HQ.out; rw [hil] at h; exact h)
              obtain ⟨w3, rfl⟩ : ∃ x : World, x = wr := ⟨_, rfl⟩
              have HB3 := Lib.hid HB.out
              have hbl3 : b < w3.heap.size := Nat.lt_of_lt_of_le hbl2 HB3.out.but.size
              clear hil HQ HC hk HB
              go_wp2_with (first | refine wpList_buildSliceAs rfl 64 3 3 _ rfl #[.int .i64 18, .int .i64 22, .int .i64 24] Tryz.underlying64 (by decide) (by decide) (by kernel_rfl) ?_ | fail)
              go_loopg [48] 3 (fun k c wr => ∃ i : Nat, k + i = 3 ∧ c = .int .i64 (i : Int) ∧ (∀ (j n : Nat), ([18, 22, 24] : List Nat)[j]? = some n → wr.cell? ⟨w3.heap.size, j, none⟩ = some (.int .i64 (n : Int))) ∧ ButT b w3 wr ∧ TabAt wr b (putAll (putAll (putAll (putAll (g) 13 [1, 2, 13, 19, 20]) 11 [3, 4, 5, 6, 7, 8, 9, 10, 11, 12]) 15 [14, 15, 16, 17, 21]) 12 (([18, 22, 24] : List Nat).take i)))
              case atStart =>
                refine ⟨0, by omega, rfl, ?_, ButT.alloc hbl3 _, ?_⟩
                · intro j n hj
                  have e : (#[.int .i64 18, .int .i64 22, .int .i64 24] : Array Value) = (([18, 22, 24] : List Nat).map fun (n : Nat) => Value.int .i64 (n : Int)).toArray := rfl
                  have h3 : (([18, 22, 24] : List Nat).map fun (n : Nat) => Value.int .i64 (n : Int)).toArray[j]? = some (Value.int .i64 (n : Int)) := by rw [List.getElem?_toArray, List.getElem?_map, hj]; rfl
                  rw [← e] at h3
                  refine Eq.trans ?_ h3
                  simp only [World.cell?, alloc_at]
                  rfl
                · rw [List.take_zero, putAll_nil]
                  exact HT3.out.on (Below.heap_alloc _ _ _ hbl3)
              case round =>
                obtain ⟨i, hk, rfl, hc, hb, ht⟩ := hrel
                have hk := Lib.hid hk
                have HC := Lib.hid hc
                have HB := Lib.hid hb
                have HQ := Lib.hid ht
                have hi3 : (0 : Int) ≤ (i : Int) := by omega
                have wr1 : IntKind.i64.wrap ((i : Int) + 1) = (i : Int) + 1 := by rw [IntKind.wrap_i64]; have := hk.out; omega
                clear hc hb ht
                by_cases hi : i < 3
                · have hi1 : (i : Int) < 3 := by omega
                  obtain ⟨n, hn⟩ : ∃ n, ([18, 22, 24] : List Nat)[i]? = some n := ⟨([18, 22, 24] : List Nat)[i]'hi, List.getElem?_eq_getElem hi⟩
                  have hn25 : n < 25 := (show ∀ n ∈ ([18, 22, 24] : List Nat), n < 25 by decide) n (List.mem_of_getElem? hn)
                  have d1 := HC.out i n hn
                  obtain ⟨t1, t2⟩ := HQ.out n hn25
                  have n1 : (n : Int) < 25 := by omega
                  have n2 : (0 : Int) ≤ (n : Int) := by omega
                  have HN := Lib.hid hn
                  clear hn
                  go_wp2_with fail
                  go_roundg (gk - 1)
                  case measure => have := hk.out; omega
                  case rel =>
                    refine ⟨i + 1, by have := hk.out; omega, by simp, ?_, HB.out.trans (ButT.setCell hn25 _ _), ?_⟩
                    · intro j m hj
                      rw [World.cell?_setCell_other _ _ _ _ (by simp <;> omega)]
                      exact HC.out j m hj
                    · rw [List.take_add_one, HN.out]
                      show TabAt _ b (putAll _ _ (_ ++ [n]))
                      rw [← putAll_snoc]
                      exact HQ.out.set n 12 hn25
                · have hi1 : ¬ (i : Int) < 3 := by omega
                  have hil : i = 3 := by have := hk.out; omega
                  have HT4 : Hid (TabAt wr b (putAll (putAll (putAll (putAll (g) 13 [1, 2, 13, 19, 20]) 11 [3, 4, 5, 6, 7, 8, 9, 10, 11, 12]) 15 [14, 15, 16, 17, 21]) 12 [18, 22, 24])) := Lib.hid (by have h := HQ.out; rw [hil] at h; exact h)
                  obtain ⟨w4, rfl⟩ : ∃ x : World, x = wr := ⟨_, rfl⟩
                  have HB4 := Lib.hid HB.out
                  have hbl4 : b < w4.heap.size := Nat.lt_of_lt_of_le hbl3 HB4.out.but.size
                  clear hil HQ HC hk HB
                  obtain ⟨t1, t2⟩ := HT4.out 23 (by omega)
                  simp only [Nat.reduceAdd] at t1 t2
                  go_wp2_with fail
                  go_end0
                  exact ⟨rfl, HB1.out.trans (HB2.out.trans (HB3.out.trans (HB4.out.trans (ButT.setCell (n := 23) (by omega) _ _)))), HT4.out.set 23 9 (by omega)⟩
end Go.Proofs.YtapjfcljbdlnkaaGreatDoor
