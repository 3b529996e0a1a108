/- isa.fits: whether a field may be what it is. -/
import Derived.Test.YtapjfcljbdlnkaaGreatDoorOnceDo
namespace Go.Proofs.YtapjfcljbdlnkaaGreatDoor
open Go Go.RowKit Go.Lib
set_option maxRecDepth 100000

def fitsP (has : Bool) (v low high : Int) : Bool := if has then decide (low ≤ v) && decide (v ≤ high) else v == 0
set_option maxHeartbeats 1600000 in
theorem fits_at (f bit v low high : Int) (m : Int) (hm : bits .and .i64 f bit = m) (w : World) :
    Calls Tryz.prog 61 #[.int .i64 f, .int .i64 bit, .int .i64 v, .int .i64 low, .int .i64 high] w fun e w' => e = .returned (.bool (fitsP (m != 0) v low high)) ∧ w' = w := by
  have hq : (m = 0 ∧ fitsP (m != 0) v low high = (v == 0)) ∨ ((m == 0) = false ∧ low ≤ v ∧ fitsP (m != 0) v low high = decide (v ≤ high)) ∨ ((m == 0) = false ∧ ¬ low ≤ v ∧ fitsP (m != 0) v low high = false) := by
    by_cases h : m = 0
    · left; subst h; exact ⟨rfl, rfl⟩
    · have h2 : (m == 0) = false := by simpa using h
      by_cases h3 : low ≤ v
      · right; left; exact ⟨h2, h3, by simp [fitsP, bne, h2, h3]⟩
      · right; right; exact ⟨h2, h3, by simp [fitsP, bne, h2, h3]⟩
  rcases hq with ⟨rfl, h⟩ | ⟨h2, h3, h⟩ | ⟨h2, h3, h⟩
  all_goals
    have H := Lib.hid h
    clear h
    go_enter Tryz.func61, Tryz.ntmps61
    go_wp2_with fail
    go_ret
    rw [H.out]
    exact ⟨rfl, rfl⟩
end Go.Proofs.YtapjfcljbdlnkaaGreatDoor
