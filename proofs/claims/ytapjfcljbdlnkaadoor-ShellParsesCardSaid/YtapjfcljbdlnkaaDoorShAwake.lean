/- Chapter 40's example. -/
import Derived.Test.YtapjfcljbdlnkaaDoorShell
import Derived.Test.YtapjfcljbdlnkaaDoorStrSame
namespace Go.Proofs.YtapjfcljbdlnkaaDoor
open Go Go.RowKit Go.Lib
set_option maxRecDepth 100000

theorem sh_ex : shellP [47, 97, 124, 47, 98, 32, 59, 32, 47, 99] = ([[[47, 97], [47, 98]], [[47, 99]]], 0) := by decide +kernel

set_option maxHeartbeats 3200000 in
theorem sh_awake (w : World) :
    Calls Tryd.prog 10 #[] w fun e w' => e = .returned (.bool true) ∧ Below w.heap.size w w' := by
  have HP := Lib.hid (show Calls Tryd.prog 5 #[.string ⟨#[47, 97, 124, 47, 98, 32, 59, 32, 47, 99]⟩] w (ShellPost 31 w ([[[47, 97], [47, 98]], [[47, 99]]], 0)) from by
    have h := shell_parse [47, 97, 124, 47, 98, 32, 59, 32, 47, 99] (by decide) w
    rw [sh_ex] at h
    exact h)
  go_enter Tryd.func10, Tryd.ntmps10
  go_wp2_with fail
  refine HP.out.mono ?_
  rintro e w1 ⟨v, vs, rfl, hown, hrs, hb⟩
  obtain ⟨g, cap, rfl, -, hc⟩ := own_cell hown (by decide)
  obtain ⟨u0, a1, a2⟩ := hrs 0 _ rfl
  obtain ⟨u1, b1, b2⟩ := hrs 1 _ rfl
  have c0 := hc 0 _ a1
  have c1 := hc 1 _ b1
  have HB := Lib.hid hb
  have R0 := Lib.hid (SReads.own a2)
  have R1 := Lib.hid (SReads.own b2)
  have hg := World.block_lt_of_cell? _ _ c0
  have hg2 := Nat.ne_of_lt hg
  have hsz := hb.size
  have hu0 : u0.oneCell' = true := by obtain ⟨_, _, rfl, _⟩ := own_len a2; rfl
  have hu1 : u1.oneCell' = true := by obtain ⟨_, _, rfl, _⟩ := own_len b2; rfl
  clear hown hrs hc a1 a2 b1 b2 hb HP
  go_wp2_with fail
  refine (same_strs u0 _ [[47, 97], [47, 98]] (by decide) _ (R0.out.on ((Below.refl _ _).alloc (Nat.le_refl _) _)) ?_).mono ?_
  · refine ⟨_, _, rfl, fun j x hx => ⟨w1.heap.size, 0, rfl, ?_⟩⟩
    match j, hx with
    | 0, hx => simp at hx; subst hx; go_simp; rfl
    | 1, hx => simp at hx; subst hx; go_simp; rfl
    | j + 2, hx => simp at hx
  rintro e w2 ⟨rfl, hb2⟩
  have hz2 := hb2.size
  simp only [World.size_alloc] at hz2
  have hb2' : Below w1.heap.size w1 w2 := ((Below.refl _ w1).alloc (Nat.le_refl _) _).trans (hb2.mono (by simp))
  have k1 := (hb2'.cell (World.block_lt_of_cell? _ _ c1)).trans c1
  have HB2 := Lib.hid hb2'
  have R2 := Lib.hid (R1.out.on hb2')
  clear hb2 hb2' c0 c1
  go_wp2_with fail
  refine (same_strs u1 _ [[47, 99]] (by decide) _ (R2.out.on ((Below.refl _ _).alloc (Nat.le_refl _) _)) ?_).mono ?_
  · refine ⟨_, _, rfl, fun j x hx => ⟨w2.heap.size, 0, rfl, ?_⟩⟩
    match j, hx with
    | 0, hx => simp at hx; subst hx; go_simp; rfl
    | j + 1, hx => simp at hx
  rintro e w3 ⟨rfl, hb3⟩
  have HB3 : Hid (Below w.heap.size w w3) := Lib.hid (HB.out.trans ((HB2.out.mono hsz).trans (((Below.refl _ w2).alloc (by omega) _).trans (hb3.mono (by simp; omega)))))
  clear hb3
  go_wp2_with fail
  go_ret
  exact ⟨rfl, HB3.out⟩
end Go.Proofs.YtapjfcljbdlnkaaDoor
