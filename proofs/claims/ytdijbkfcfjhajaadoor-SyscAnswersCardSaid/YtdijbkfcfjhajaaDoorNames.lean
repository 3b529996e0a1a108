/- Chapter 38's names of calls, and the line of an event: the program's and the reference's are the same text. -/
import Derived.Test.YtdijbkfcfjhajaaDoorSysc
import Derived.Test.YtdijbkfcfjhajaaDoorLaws
namespace Go.Proofs.YtdijbkfcfjhajaaDoor
open Go.RowKit Go.Sort Go.Lib
set_option maxRecDepth 100000

def nameArr : Array Value := #[.string ⟨#[101, 110, 100]⟩, .string ⟨#[101, 120, 105, 116]⟩, .string ⟨#[102, 111, 114, 107]⟩, .string ⟨#[101, 120, 101, 99]⟩, .string ⟨#[119, 97, 105, 116]⟩, .string ⟨#[112, 105, 100]⟩, .string ⟨#[111, 112, 101, 110]⟩, .string ⟨#[99, 108, 111, 115, 101]⟩, .string ⟨#[114, 101, 97, 100]⟩, .string ⟨#[119, 114, 105, 116, 101]⟩, .string ⟨#[112, 105, 112, 101]⟩, .string ⟨#[100, 117, 112]⟩, .string ⟨#[107, 105, 108, 108]⟩, .string ⟨#[115, 105, 103, 110, 97, 108]⟩, .string ⟨#[114, 101, 116, 117, 114, 110]⟩, .string ⟨#[103, 114, 111, 119]⟩, .string ⟨#[109, 107, 100, 105, 114]⟩, .string ⟨#[114, 101, 109, 111, 118, 101]⟩, .string ⟨#[114, 101, 110, 97, 109, 101]⟩, .string ⟨#[115, 121, 110, 99]⟩, .string ⟨#[115, 101, 101, 107]⟩, .string ⟨#[121, 105, 101, 108, 100]⟩, .string ⟨#[115, 105, 122, 101]⟩]

def nameL : List (List UInt8) := [[101, 110, 100], [101, 120, 105, 116], [102, 111, 114, 107], [101, 120, 101, 99], [119, 97, 105, 116], [112, 105, 100], [111, 112, 101, 110], [99, 108, 111, 115, 101], [114, 101, 97, 100], [119, 114, 105, 116, 101], [112, 105, 112, 101], [100, 117, 112], [107, 105, 108, 108], [115, 105, 103, 110, 97, 108], [114, 101, 116, 117, 114, 110], [103, 114, 111, 119], [109, 107, 100, 105, 114], [114, 101, 109, 111, 118, 101], [114, 101, 110, 97, 109, 101], [115, 121, 110, 99], [115, 101, 101, 107], [121, 105, 101, 108, 100], [115, 105, 122, 101]]

def nameAt (c : Nat) : List UInt8 := nameL.getD c []
theorem nameArr_eq : nameArr = (nameL.map fun l => Value.string ⟨l.toArray⟩).toArray := rfl
theorem nameAt_len : ∀ c : Fin 23, (nameAt c.val).length ≤ 6 := by decide +kernel
theorem nameArr_at (c : Nat) (h : c < 23) : nameArr[c]? = some (.string ⟨(nameAt c).toArray⟩) := by
  have hl : c < nameL.length := h
  rw [nameArr_eq, List.getElem?_toArray, List.getElem?_map, List.getElem?_eq_getElem hl]
  simp [nameAt, List.getD, List.getElem?_eq_getElem hl]

/-- what a call is called -/
def nameB (c : Int) : List UInt8 := if 0 ≤ c ∧ c ≤ 22 then nameAt c.toNat else [99, 97, 108, 108, 32] ++ Lib.itoa c

set_option maxHeartbeats 1000000 in
theorem name_in (c : Int) (h0 : 0 ≤ c) (h1 : c ≤ 22) (w : World) :
    Calls Tryd.prog 20 #[.int .i64 c] w fun e w' => e = .returned (.string ⟨(nameB c).toArray⟩) ∧ Below w.heap.size w w' := by
  have hn : nameArr[c.toNat]? = some (.string ⟨(nameAt c.toNat).toArray⟩) := nameArr_at _ (by omega)
  have hB := Lib.hid (show nameB c = nameAt c.toNat by unfold nameB; rw [if_pos ⟨h0, h1⟩])
  go_enter Tryd.func20, Tryd.ntmps20
  go_wp2_with (first
    | refine wpList_buildTo rfl 55 _ rfl _ rfl nameArr (by kernel_rfl) ?_
    | refine wpList_store_new rfl 55 _ _ rfl rfl _ _ nameArr rfl rfl (by kernel_rfl) (by kernel_rfl) (by kernel_rfl) ?_)
  go_ret
  exact ⟨by rw [hB.out]; rfl, (Below.refl _ _).alloc (Nat.le_refl _) _⟩

/-- the table of the powers of ten, which the library's numerals read -/
def Tab (w : World) : Prop := Lib.TabIs Tryd.prog w "internal/strconv.uint64pow10" .u64 Lib.pow10Tab
theorem Tab.on {w w' : World} (h : Tab w) (hb : Below w.heap.size w w') : Tab w' := Lib.tabBelow_of_tabIs h w' hb
theorem Tab.alloc {w : World} (h : Tab w) (o : Obj) : Tab (w.alloc o) := Lib.tabIs_alloc h o
theorem Tab.drew {w : World} (h : Tab w) : Tab w.drew := h

theorem itoa_any (n : Int) (h0 : -9223372036854775808 ≤ n) (h1 : n ≤ 9223372036854775807) (w : World) (ht : Tab w) :
    Calls Tryd.prog 19 #[.int .i64 n] w fun e w' => e = .returned (.string ⟨(Lib.itoa n).toArray⟩) ∧ Below w.heap.size w w' :=
  (Tryd.strconv_Itoa n h0 h1 w ht).mono fun e w' ⟨he, k, os, hw⟩ => ⟨he, by rw [hw]; exact Lib.below_grow _ _ (Nat.le_refl _) _ _⟩

theorem fmtu_any (n : Int) (h0 : 0 ≤ n) (h1 : n ≤ 4294967295) (w : World) (ht : Tab w) :
    Calls Tryd.prog 21 #[.int .u64 n, .int .i64 10] w fun e w' => e = .returned (.string ⟨(Lib.itoa n).toArray⟩) ∧ Below w.heap.size w w' := by
  obtain ⟨u, rfl⟩ : ∃ u : Nat, n = u := ⟨n.toNat, by omega⟩
  exact (format_uint u (by omega) w ht).mono fun e w' ⟨he, k, os, hw⟩ => ⟨by rw [he, Lib.itoa_nonneg], by rw [hw]; exact Lib.below_grow _ _ (Nat.le_refl _) _ _⟩

theorem itoa_len (n : Int) (h0 : -9223372036854775808 ≤ n) (h1 : n ≤ 9223372036854775807) : (Lib.itoa n).length ≤ 21 := Lib.itoa_length_le n h0 h1
theorem nameB_len (n : Int) (h0 : -9223372036854775808 ≤ n) (h1 : n ≤ 9223372036854775807) : (nameB n).length ≤ 26 := by
  unfold nameB
  split
  · rename_i h
    have := nameAt_len ⟨n.toNat, by omega⟩
    simp only at this
    omega
  · have := itoa_len n h0 h1
    simp; omega

set_option maxHeartbeats 1000000 in
theorem name_out (c : Int) (hc : c < 0 ∨ 22 < c) (h0 : -9223372036854775808 ≤ c) (h1 : c ≤ 9223372036854775807) (w : World) (ht : Tab w) :
    Calls Tryd.prog 20 #[.int .i64 c] w fun e w' => e = .returned (.string ⟨(nameB c).toArray⟩) ∧ Below w.heap.size w w' := by
  have hB := Lib.hid (show nameB c = [99, 97, 108, 108, 32] ++ Lib.itoa c by unfold nameB; rw [if_neg (by omega)])
  have hl := itoa_len c h0 h1
  have HI := Lib.hid (fun w ht => itoa_any c h0 h1 w ht)
  have HT := Lib.hid ht
  clear ht h0 h1
  rcases hc with hc | hc
  all_goals
    go_enter Tryd.func20, Tryd.ntmps20
    go_wp2_with (first
      | refine wpList_buildTo rfl 55 _ rfl _ rfl nameArr (by kernel_rfl) ?_
      | refine wpList_store_new rfl 55 _ _ rfl rfl _ _ nameArr rfl rfl (by kernel_rfl) (by kernel_rfl) (by kernel_rfl) ?_
      | fail)
    refine (HI.out _ (HT.out.alloc _)).mono ?_
    rintro e w' ⟨rfl, hb⟩
    go_wp2
    go_ret
    exact ⟨str_ret (by rw [hB.out]; simp), ((Below.refl _ _).alloc (Nat.le_refl _) _).trans (hb.mono (by simp))⟩

theorem name_any (c : Int) (h0 : -9223372036854775808 ≤ c) (h1 : c ≤ 9223372036854775807) (w : World) (ht : Tab w) :
    Calls Tryd.prog 20 #[.int .i64 c] w fun e w' => e = .returned (.string ⟨(nameB c).toArray⟩) ∧ Below w.heap.size w w' := by
  by_cases h : 0 ≤ c ∧ c ≤ 22
  · exact name_in c h.1 h.2 w
  · exact name_out c (by omega) h0 h1 w ht
end Go.Proofs.YtdijbkfcfjhajaaDoor
