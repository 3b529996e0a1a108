/- onionskinref29.Parse at any text. -/
import Derived.Test.YtapjfcljbdlnkaaDoorRefPath
namespace Go.Proofs.YtapjfcljbdlnkaaDoor
open Go Go.RowKit Go.Lib
set_option maxRecDepth 100000
set_option maxHeartbeats 1600000 in
theorem ref_path_other (s : List UInt8) (h : ∀ t, s ≠ 47 :: t) (hs : s.length ≤ 1000000) (w : World) :
    Calls Tryd.prog 20 #[.string (bs s)] w (PathPost w (pathP s)) := by
  rw [pathP_other s h]
  have hT := bs_list s
  have hsz : (bs s).size = s.length := bs_size s
  cases s with
  | nil =>
    clear h
    go_enter Tryd.func20, Tryd.ntmps20
    go_wp2_with fail
    go_ret2
    exact ⟨_, rfl, World.ownsRow_nil _ _ _ _, Below.refl _ _⟩
  | cons b t =>
    have hb : b ≠ 47 := fun e => h t (by rw [e])
    have hbn : b.toNat ≠ 47 := fun e => hb (UInt8.toNat_inj.1 e)
    have e1 : ((b.toNat : Int) != 47) = true := by rw [bne_iff_ne]; omega
    have e2 : ((b.toNat : Int) == 47) = false := beq_eq_false_iff_ne.2 (by omega)
    obtain ⟨s, hs'⟩ : ∃ s, s = b :: t := ⟨_, rfl⟩
    rw [← hs'] at hT hsz hs
    have h0 : ((s.length : Int) == 0) = false := beq_eq_false_iff_ne.2 (by rw [hs']; simp; omega)
    have h0' : 0 < s.length := by rw [hs']; simp
    have hg0 : ∀ h', (bs s)[0]'h' = b := bs_get s 0 b (by rw [hs']; rfl)
    rw [← hs']
    clear h hb hbn hs'
    go_enter Tryd.func20, Tryd.ntmps20
    go_wp2_with fail
    go_ret2
    exact ⟨_, rfl, World.ownsRow_nil _ _ _ _, Below.refl _ _⟩
/-- onionskinref29.Parse -/
theorem ref_path_any (s : List UInt8) (hs : s.length ≤ 1000000) (w : World) :
    Calls Tryd.prog 20 #[.string (bs s)] w (PathPost w (pathP s)) := by
  by_cases h : ∃ t, s = 47 :: t
  · obtain ⟨t, rfl⟩ := h
    exact ref_path_slash t (by simp at hs; omega) w
  · exact ref_path_other s (fun t e => h ⟨t, e⟩) hs w
end Go.Proofs.YtapjfcljbdlnkaaDoor
