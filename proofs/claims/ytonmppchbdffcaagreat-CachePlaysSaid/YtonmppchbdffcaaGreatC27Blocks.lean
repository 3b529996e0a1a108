/- The state's blocks: the flags that are set in a row, in order. -/
import Derived.Test.YtonmppchbdffcaaGreatC27At
import Derived.Test.YtonmppchbdffcaaGreatC27Ints
namespace Go.Proofs.YtonmppchbdffcaaGreat
open Go Go.RowKit Go.Lib
set_option maxRecDepth 100000

def kC (l : List Nat) : List Value := l.map fun (x : Nat) => .int .i64 (x : Int)
theorem kC_snoc (l : List Nat) (x : Nat) : kC (l ++ [x]) = kC l ++ [.int .i64 (x : Int)] := by simp [kC]
theorem int_info : (Tryz.prog.info? 3).map (fun i => (i.zero, i.size, i.bytes)) = some (some (.int .i64 0), 1, 8) := by kernel_rfl
def setN (bs : List Bool) (row i : Nat) : List Nat := (List.range i).filter fun b => bs.getD (6 * row + b) false
theorem setN_succ (bs : List Bool) (row i : Nat) : setN bs row (i + 1) = setN bs row i ++ if bs.getD (6 * row + i) false = true then [i] else [] := by
  unfold setN
  rw [List.range_succ, List.filter_append]
  congr 1
  simp only [List.filter_cons, List.filter_nil]
theorem setN_len (bs : List Bool) (row i : Nat) : (setN bs row i).length ≤ i := by
  unfold setN
  exact Nat.le_trans (List.length_filter_le _ _) (by simp)
set_option maxHeartbeats 3200000 in
theorem state_blocks (S row : Nat) (ds : List Dat) (bs : List Bool) (w : World) (h : StAt w S ds bs) (hrow : row < 3) :
    Calls Tryz.prog 20 #[.pointer (some ⟨S, 0, none⟩), .int .i64 (row : Int)] w fun e w' => ∃ ad cap, e = .returned (.slice ad (setN bs row 6).length cap) ∧ w'.ownsRow w.heap.size 3 1 (.slice ad (setN bs row 6).length cap) (setN bs row 6).length (kC (setN bs row 6)) ∧ Below w.heap.size w w' := by
  obtain ⟨i0, hi0, hz0, hz1, hz2⟩ := info_parts int_info
  have HS := Lib.hid h
  have q1 : (0 : Int) ≤ (row : Int) := by omega
  have q2 : (row : Int) < 3 := by omega
  clear h
  go_enter Tryz.func20, Tryz.ntmps20
  go_wp2_with fail
  go_loopg [5, 6] 6 (fun k u v wr => ∃ (i n : Nat) (ad : Option Addr) (cap : Nat), k + i = 6 ∧ v = .int .i64 (i : Int) ∧ u = .slice ad n cap ∧ n = (setN bs row i).length ∧ wr.ownsRow w.heap.size 3 1 (.slice ad n cap) n (kC (setN bs row i)) ∧ Below w.heap.size w wr)
  case atStart => exact ⟨0, 0, none, 0, by simp, rfl, rfl, rfl, World.ownsRow_nil _ _ _ _, Below.refl _ _⟩
  case round =>
    obtain ⟨i, n, ad, cap, hk, rfl, rfl, hn, hown, hB⟩ := hrel
    have hk := Lib.hid hk
    have HB := Lib.hid hB
    have HO := Lib.hid hown
    have hnle : n ≤ 6 := by rw [hn]; exact Nat.le_trans (setN_len bs row i) (by have := hk.out; omega)
    have HN := Lib.hid hn
    clear hown hn
    by_cases hi : i < 6
    · have hi1 : (i : Int) < 6 := by omega
      have hi3 : (0 : Int) ≤ (i : Int) := by omega
      have wr1 : IntKind.i64.wrap ((i : Int) + 1) = (i : Int) + 1 := by rw [IntKind.wrap_i64] <;> omega
      have hst := HS.out.on (hB.block S HS.out.lt)
      have hbl := hst.bl
      obtain ⟨f1, -⟩ := hst.flag (List.getElem?_eq_getElem (by omega : 6 * row + i < bs.length))
      have g1 : bs.getD (6 * row + i) false = bs[6 * row + i]'(by omega) := by rw [List.getD_eq_getElem?_getD, List.getElem?_eq_getElem (by omega)]; rfl
      rw [← g1, show 1152 + (6 * row + i) = 1152 + row * 6 + i by omega] at f1
      have HSU := Lib.hid (setN_succ bs row i)
      clear hst hbl g1 hB
      cases hu : bs.getD (6 * row + i) false with
      | false =>
        rw [hu] at f1
        have HE : Hid (setN bs row (i + 1) = setN bs row i) := Lib.hid (by rw [HSU.out, hu]; simp)
        clear hu
        go_wp2_with fail
        go_roundg (gk - 1)
        case measure => have := hk.out; omega
        case rel => exact ⟨i + 1, n, ad, cap, by have := hk.out; omega, by simp, rfl, by rw [HE.out]; exact HN.out, by rw [HE.out]; exact HO.out, HB.out⟩
      | true =>
        rw [hu] at f1
        have HE : Hid (setN bs row (i + 1) = setN bs row i ++ [i]) := Lib.hid (by rw [HSU.out, hu]; simp)
        have HNW := Lib.hid (World.news_of_block (w := wr.alloc (.cells #[.int .i64 (i : Int)] 3)) (B := wr.heap.size) (cs := #[.int .i64 (i : Int)]) (t := 3) (fr := (0, 0)) (heap_alloc_last _ _))
        have HBA : Hid (Below w.heap.size w (wr.alloc (.cells #[.int .i64 (i : Int)] 3))) := Lib.hid (HB.out.alloc HB.out.size _)
        have HRO := Lib.hid (own_on HO.out ((Below.refl wr.heap.size wr).alloc (Nat.le_refl _) (.cells #[.int .i64 (i : Int)] 3)))
        have hsz := HB.out.size
        clear hu
        go_wp2_with (first
          | (at_builtin; refine wpList_append_lies _ rfl _ _ _ rfl w.heap.size 3 i0 _ 1 8 Tryz.underlying49 hi0 hz0 hz1 hz2 rfl (by omega) (.slice ad n cap) n _ rfl HRO.out ⟨wr.heap.size, 0, none⟩ 1 1 [.int .i64 (i : Int)] rfl (by simp) HNW.out (fun v hv => by obtain rfl := List.mem_singleton.1 hv; rfl) (by omega) (by unfold maxLen; omega) (by omega) (by simp; omega) (wr.heap.size + 1) (by simp) ?_; intro g2 cap2 w5 hown5 hgrow5 hat5 _; have HX5 := Lib.hid (And.intro hown5 hgrow5); clear hown5 hgrow5)
          | fail)
        go_roundg (gk - 1)
        case measure => have := hk.out; omega
        case rel =>
          refine ⟨i + 1, n + 1, some ⟨g2, 0, none⟩, cap2, by have := hk.out; omega, by simp, rfl, by rw [HE.out, List.length_append, ← HN.out]; rfl, ?_, ?_⟩
          · rw [HE.out, kC_snoc]; exact HX5.out.1
          · exact HBA.out.grown HX5.out.2 HBA.out.size (fun k e => (own_lt HRO.out k e).1)
    · have hi1 : ¬ (i : Int) < 6 := by omega
      obtain rfl : i = 6 := by have := hk.out; omega
      clear hB
      go_wp2_with fail
      go_ret
      have hn := HN.out
      subst hn
      exact ⟨ad, cap, rfl, HO.out, HB.out⟩
end Go.Proofs.YtonmppchbdffcaaGreat
