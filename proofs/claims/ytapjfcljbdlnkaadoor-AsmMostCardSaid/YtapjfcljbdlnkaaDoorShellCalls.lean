/- What shell.Parse calls: strings.Trim at blanks, strings.FieldsFunc at blanks. -/
import Derived.Test.YtapjfcljbdlnkaaDoorRefShell
import Derived.Shelf.Strings.SlTrimAscii
import Derived.Shelf.Strings.FieldsFuncGrows
namespace Go.Proofs.YtapjfcljbdlnkaaDoor
open Go Go.RowKit Go.Lib
set_option maxRecDepth 100000

theorem shell_blank (x : Nat) (w : World) : Calls Tryd.prog 16 #[.int .i32 (x : Int)] w fun e w' => e = .returned (.bool (x == 32 || x == 9)) ∧ w = w' := by
  have hcase : x = 32 ∨ x = 9 ∨ (x ≠ 32 ∧ x ≠ 9) := by omega
  have HQ := Lib.hid hcase
  clear hcase
  rcases HQ.out with rfl | rfl | ⟨h1, h2⟩
  · go_enter Tryd.func16, Tryd.ntmps16
    go_wp2_with fail
    go_ret
    exact ⟨rfl, rfl⟩
  · go_enter Tryd.func16, Tryd.ntmps16
    go_wp2_with fail
    go_ret
    exact ⟨rfl, rfl⟩
  · have e1 : ((x : Int) == 32) = false := beq_eq_false_iff_ne.2 (by omega)
    have e2 : ((x : Int) == 9) = false := beq_eq_false_iff_ne.2 (by omega)
    have HE : Hid ((x == 32 || x == 9) = false) := Lib.hid (by simp; omega)
    clear h1 h2
    go_enter Tryd.func16, Tryd.ntmps16
    go_wp2_with fail
    go_ret
    exact ⟨by rw [HE.out]; rfl, rfl⟩

theorem blank_eq : (fun b : UInt8 => (fun x : Nat => x == 32 || x == 9) b.toNat) = blankB := by
  funext b
  have h1 : (b.toNat == 32) = (b == 32) := by rw [Bool.eq_iff_iff]; simp [← UInt8.toNat_inj]
  have h2 : (b.toNat == 9) = (b == 9) := by rw [Bool.eq_iff_iff]; simp [← UInt8.toNat_inj]
  simp only [h1, h2, blankB]

/-- strings.FieldsFunc(s, blank) -/
theorem fields_blank (q : List UInt8) (hq : q.length ≤ 1000000) (w : World) :
    Calls Tryd.prog 15 #[.string (bs q), .func (.func 16) #[] #[]] w fun e w' => ∃ g, e = .returned (.slice (some ⟨g, 0, none⟩) (fieldsB blankB q).length (fieldsB blankB q).length) ∧
      w'.ownsRow w.heap.size 9 1 (.slice (some ⟨g, 0, none⟩) (fieldsB blankB q).length (fieldsB blankB q).length) (fieldsB blankB q).length (strs (fieldsB blankB q)) ∧ Below w.heap.size w w' := by
  refine (Tryd.strings_FieldsFunc_grows 16 #[] (enters_of Tryd.func16 (by kernel_rfl) rfl) (fun x => x == 32 || x == 9) (bs q) w (by rw [bs_size]; omega) ?_).mono ?_
  · intro W x hx hb
    refine (shell_blank x W).mono ?_
    rintro e w' ⟨rfl, rfl⟩
    exact ⟨rfl, Below.refl _ _⟩
  · rintro e w' ⟨A, rfl, -, h1, h2⟩
    have e1 : Lib.goFieldsP (fun x => x == 32 || x == 9) (bs q) = (fieldsB blankB q).map bs := by
      rw [fields_eq _ (fun r hr => by simp; omega), blank_eq, bs_data]
    rw [e1, List.length_map, List.map_map] at h1
    rw [e1, List.length_map]
    exact ⟨A, rfl, h1, h2⟩
theorem trimS_nil (p : List UInt8) : Lib.trimS p [32, 9] = [] ↔ p.all blankB = true := by
  have hc : (fun b : UInt8 => ([32, 9] : List UInt8).contains b) = blankB := by
    funext b
    rw [Bool.eq_iff_iff]; simp [blankB]
  have e1 : Lib.trimS p [32, 9] = (trimR p).dropWhile blankB := by
    unfold Lib.trimS Lib.trimLeftS Lib.trimRightS trimR
    rw [hc]
  rw [e1]
  obtain ⟨post, h1, h2⟩ := trimR_split p
  constructor
  · intro h
    obtain ⟨pre, h3, h4⟩ := drop_split (trimR p)
    rw [h, List.append_nil] at h3
    rw [h1, List.all_append, h3, h4, h2]; rfl
  · intro h
    refine drop_all _ ?_
    rw [h1, List.all_append, Bool.and_eq_true] at h
    exact h.1
/-- strings.Trim(p, " \t") -/
theorem trim_blank (p : List UInt8) (hp : p.length ≤ 1000000) (w : World) :
    Calls Tryd.prog 14 #[.string (bs p), .string ⟨#[32, 9]⟩] w fun e w' => (∃ r : List UInt8, e = .returned (.string (bs r)) ∧ (r = [] ↔ p.all blankB = true)) ∧ Below w.heap.size w w' := by
  refine (Any.strings_Trim_laid Tryd.lays160 (by kernel_rfl) (bs p) ⟨#[32, 9]⟩ w (by rw [bs_size]; omega) (by decide) (ascii_of_all (by decide))).mono ?_
  rintro e w' ⟨rfl, hb⟩
  exact ⟨⟨Lib.trimS (bs p).data.toList [32, 9], rfl, by rw [bs_data]; exact trimS_nil p⟩, hb⟩
end Go.Proofs.YtapjfcljbdlnkaaDoor
