/- Chapter 43's example. -/
import Derived.Test.YtdhpagdfigghfaaGreatDoorParse
import Derived.Test.YtdhpagdfigghfaaGreatDoorSame
namespace Go.Proofs.YtdhpagdfigghfaaGreatDoor
open Go.RowKit Go.Lib
set_option maxRecDepth 100000

theorem own_cell {w : World} {B : Nat} {e : TypeId} {size : Nat} {v : Value} {n : Nat} {xs : List Value} (h : w.ownsRow B e size v n xs) (h0 : 0 < n) :
    ∃ g cap, v = .slice (some ⟨g, 0, none⟩) n cap ∧ n ≤ cap ∧ ∀ j u, xs[j]? = some u → w.cell? ⟨g, j, none⟩ = some u := by
  rcases h.2 with ⟨_, h1⟩ | ⟨g, cap, cur, h1, h2, h3, h4, h5, h6, h7⟩
  · omega
  · refine ⟨g, cap, h1, h4, fun j u hu => ?_⟩
    rw [cell_of_row w g j _ _ _ h3]
    rw [← h7, List.getElem?_take] at hu
    split at hu
    · simpa using hu
    · cases hu

theorem bytes_reads {w : World} {B : Nat} {y : Value} {l : List UInt8} (h : BytesAt w B y l) : Reads w y l := by
  cases l with
  | nil =>
    rcases h.2 with ⟨h1, _⟩ | ⟨g, cap, cur, h1, _⟩
    · exact ⟨0, 0, 0, Nat.le_refl _, .inr ⟨⟨none, 0, h1⟩, rfl⟩, fun j x hx => by simp at hx⟩
    · exact ⟨g, 0, cap, Nat.zero_le _, .inl h1, fun j x hx => by simp at hx⟩
  | cons b t =>
    obtain ⟨g, cap, h1, hn, h2⟩ := own_cell h (by simp)
    refine ⟨g, 0, cap, hn, .inl h1, fun j x hx => ?_⟩
    rw [Nat.zero_add]
    refine h2 j _ ?_
    unfold bcells
    rw [List.getElem?_map, hx]; rfl

def exText : List UInt8 := [116, 117, 114, 110, 32, 53, 10, 116, 121, 112, 101, 32, 54, 56, 54, 57]
def exLines : List (Option Ln) := [some (.trn 5 [53]), some (.typ [104, 105])]
theorem ex_cut : cutAt 10 (Lib.trimSuffix exText [10]) = exLines.map lineText := by decide

theorem ex_parse (m : Int) (w : World) (hm : w.cell? ⟨0, 0, none⟩ = some (.int .i64 m)) :
    Calls Tryz.prog 6 #[.string ⟨#[116, 117, 114, 110, 32, 53, 10, 116, 121, 112, 101, 32, 54, 56, 54, 57]⟩] w fun e w' => POk w [.trn 5 [53], .typ [104, 105]] e w' := by
  have h := parse_lines exLines exText m w (by decide) hm ex_cut ?_ (by decide) 2 (by decide) (by decide) (.inl rfl)
  · exact h
  · intro x hx
    simp only [exLines, List.mem_cons, Option.some.injEq, List.not_mem_nil, or_false] at hx
    rcases hx with rfl | rfl
    · refine ⟨⟨by decide, by decide, by decide, by rfl, ?_⟩, by simp [Ln.Clean]⟩
      have := itoa_small_at 5 (by decide) w
      simpa [Lib.decDigits] using this
    · exact ⟨(by decide : [104, 105].length ≤ 64), trivial⟩

set_option maxHeartbeats 1600000 in
theorem awake_true (m : Int) (w : World) (hm : w.cell? ⟨0, 0, none⟩ = some (.int .i64 m)) :
    Calls Tryz.prog 11 #[] w fun e w' => e = .returned (.bool true) ∧ Below w.heap.size w w' := by
  have HP := Lib.hid (ex_parse m w hm)
  clear hm
  go_enter Tryz.func11, Tryz.ntmps11
  go_wp2_with fail
  refine HP.out.mono ?_
  rintro e w1 ⟨stp, xs, rfl, hown, hst, hb⟩
  obtain ⟨g, cap, rfl, -, hc⟩ := own_cell hown (by decide)
  have HB := Lib.hid hb
  obtain ⟨y0, a1, a2, a3, a4, _⟩ := hst 0 _ rfl
  obtain ⟨y, b1, b2, b3, b4, _⟩ := hst 1 _ rfl
  have c1 := hc 1 _ a2
  have c5 := hc 5 _ b3
  have HY := Lib.hid (bytes_reads b4)
  have hg := World.block_lt_of_cell? _ _ c1
  have hg2 := Nat.ne_of_lt hg
  have hy1 : y.oneCell' = true := by obtain ⟨_, _, rfl, _⟩ := own_len b4; rfl
  clear hst hown hc a1 a2 a3 a4 b1 b2 b3 b4 hb
  go_wp2_with fail
  have hR := HY.out.on (w' := (w1.alloc (.cells #[.int .i64 0, .int .i64 16, .slice (some ⟨w.heap.size + 3, 0, none⟩) 1 1, .slice none 0 0, .int .i64 80, .slice (some ⟨g, 0, none⟩) 2 cap] 28)).alloc (.cells #[.int .u8 104, .int .u8 105] 5)) (((Below.refl _ _).alloc (Nat.le_refl _) _).alloc (by simp) _)
  refine (same_bytes y _ [104, 105] (by decide) _ hR ?_).mono ?_
  · refine ⟨w1.heap.size + 1, 0, 2, by decide, .inl rfl, fun j x hx => ?_⟩
    match j, hx with
    | 0, hx => simp at hx; subst hx; go_simp
    | 1, hx => simp at hx; subst hx; go_simp
    | j + 2, hx => simp at hx
  rintro e w2 ⟨rfl, hb2⟩
  have k2 := hb2.cell (p := ⟨w1.heap.size, 4, none⟩) (by simp only [World.size_alloc]; omega)
  have k3 : ((w1.alloc (.cells #[.int .i64 0, .int .i64 16, .slice (some ⟨w.heap.size + 3, 0, none⟩) 1 1, .slice none 0 0, .int .i64 80, .slice (some ⟨g, 0, none⟩) 2 cap] 28)).alloc (.cells #[.int .u8 104, .int .u8 105] 5)).cell? ⟨w1.heap.size, 4, none⟩ = some (.int .i64 80) := by go_simp
  rw [k3] at k2
  have HB2 := Lib.hid (show Below w.heap.size w w2 from (HB.out.trans ((((Below.refl _ w1).alloc HB.out.size _).alloc (by have := HB.out.size; simp only [World.size_alloc]; omega) _).trans (hb2.mono (by have := HB.out.size; simp only [World.size_alloc]; omega)))))
  clear hb2 k3 hR c1 c5
  go_wp2_with fail
  go_ret
  exact ⟨rfl, HB2.out⟩

end Go.Proofs.YtdhpagdfigghfaaGreatDoor
