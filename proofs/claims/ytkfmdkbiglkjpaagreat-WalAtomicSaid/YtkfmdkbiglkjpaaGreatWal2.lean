/- wal.log; home. -/
import Derived.Test.YtkfmdkbiglkjpaaGreatWal1
namespace Go.Proofs.YtkfmdkbiglkjpaaGreat
open Go Go.RowKit Go.Lib
attribute [local go_sem ↓] wp_bslice exec_load_data exec_load_put exec_store_data exec_store_put
set_option maxRecDepth 100000

def kC (l : List Nat) : List Value := l.map fun (x : Nat) => .int .i64 (x : Int)
theorem kC_snoc (l : List Nat) (x : Nat) : kC (l ++ [x]) = kC l ++ [.int .i64 (x : Int)] := by simp [kC]
theorem int_info : (Tryz.prog.info? 3).map (fun i => (i.zero, i.size, i.bytes)) = some (some (.int .i64 0), 1, 8) := by kernel_rfl
theorem KReads.of_row {w : World} {B : Nat} {ad : Option Addr} {cap : Nat} {l : List Nat} {n : Nat} (h : w.ownsRow B 3 1 (.slice ad n cap) n (kC l)) : KReads w ad l := fun j x hx => by
  have hn : n = l.length := by have := h.1; simp [kC] at this; omega
  have hj := (List.getElem?_eq_some_iff.1 hx).1
  obtain ⟨g, cap', hsl, _, hc⟩ := own_cell h (by omega)
  obtain ⟨rfl, rfl⟩ : ad = some ⟨g, 0, none⟩ ∧ cap = cap' := by simpa using hsl
  exact ⟨g, 0, rfl, by rw [Nat.zero_add]; exact hc j _ (by simp [kC, hx])⟩
/-- the log's blocks -/
def logN (n : Nat) : List Nat := (List.range n).map (2 + ·)
theorem logN_len (n : Nat) : (logN n).length = n := by simp [logN]
theorem logN_succ (n : Nat) : logN (n + 1) = logN n ++ [2 + n] := by simp [logN, List.range_succ]
set_option maxHeartbeats 3200000 in
theorem wal_log (m : Nat) (hm : m ≤ 16) (w : World) :
    Calls Tryz.prog 20 #[.int .i64 (m : Int)] w fun e w' => ∃ ad cap, e = .returned (.slice ad m cap) ∧ w'.ownsRow w.heap.size 3 1 (.slice ad m cap) m (kC (logN m)) ∧ Below w.heap.size w w' := by
  obtain ⟨i0, hi0, hz0, hz1, hz2⟩ := info_parts int_info
  go_enter Tryz.func20, Tryz.ntmps20
  go_wp2_with fail
  go_loopg [3, 8] m (fun k u v wr => ∃ (i : Nat) (ad : Option Addr) (cap : Nat), k + i = m ∧ v = .int .i64 (i : Int) ∧ u = .slice ad i cap ∧ wr.ownsRow w.heap.size 3 1 (.slice ad i cap) i (kC (logN i)) ∧ Below w.heap.size w wr)
  case atStart => exact ⟨0, none, 0, by simp, rfl, rfl, World.ownsRow_nil _ _ _ _, Below.refl _ _⟩
  case round =>
    obtain ⟨i, ad, cap, hk, rfl, rfl, hown, hB⟩ := hrel
    have hk := Lib.hid hk
    have HB := Lib.hid hB
    have HO := Lib.hid hown
    clear hB hown
    by_cases hi : i < m
    · have hi1 : (i : Int) < (m : Int) := by omega
      have hi3 : (0 : Int) ≤ (i : Int) := by omega
      have wr1 : IntKind.i64.wrap ((i : Int) + 1) = (i : Int) + 1 := by rw [IntKind.wrap_i64] <;> omega
      have HL := Lib.hid (super_log i (by omega) wr)
      have HNW := Lib.hid (World.news_of_block (w := wr.alloc (.cells #[.int .i64 ((2 + i : Nat) : Int)] 3)) (B := wr.heap.size) (cs := #[.int .i64 ((2 + i : Nat) : Int)]) (t := 3) (fr := (0, 0)) (heap_alloc_last _ _))
      have HBA : Hid (Below w.heap.size w (wr.alloc (.cells #[.int .i64 ((2 + i : Nat) : Int)] 3))) := Lib.hid (HB.out.alloc HB.out.size _)
      have HRO := Lib.hid (own_on HO.out ((Below.refl wr.heap.size wr).alloc (Nat.le_refl _) (.cells #[.int .i64 ((2 + i : Nat) : Int)] 3)))
      have hsz := HB.out.size
      go_wp2_with fail
      refine HL.out.mono ?_
      rintro e w' ⟨rfl, hw'⟩
      rw [hw']
      clear hw' w'
      go_wp2_with (first
        | (at_builtin; refine wpList_append_lies _ rfl _ _ _ rfl w.heap.size 3 i0 _ 1 8 Tryz.underlying45 hi0 hz0 hz1 hz2 rfl (by omega) (.slice ad i cap) i _ rfl HRO.out ⟨wr.heap.size, 0, none⟩ 1 1 [.int .i64 ((2 + i : Nat) : Int)] rfl (by simp) HNW.out (fun v hv => by obtain rfl := List.mem_singleton.1 hv; rfl) (by omega) (by unfold maxLen; omega) (by omega) (by simp; omega) (wr.heap.size + 1) (by simp) ?_; intro g2 cap2 w5 hown5 hgrow5 hat5 _; have HX5 := Lib.hid (And.intro hown5 hgrow5); clear hown5 hgrow5)
        | fail)
      go_roundg (gk - 1)
      case measure => have := hk.out; omega
      case rel =>
        refine ⟨i + 1, some ⟨g2, 0, none⟩, cap2, by have := hk.out; omega, by simp, rfl, ?_, ?_⟩
        · rw [logN_succ, kC_snoc]; exact HX5.out.1
        · exact HBA.out.grown HX5.out.2 HBA.out.size (fun k e => (own_lt HRO.out k e).1)
    · have hi1 : ¬ (i : Int) < (m : Int) := by omega
      obtain rfl : i = m := by have := hk.out; omega
      go_wp2_with fail
      go_ret
      exact ⟨ad, cap, rfl, HO.out, HB.out⟩
end Go.Proofs.YtkfmdkbiglkjpaaGreat
