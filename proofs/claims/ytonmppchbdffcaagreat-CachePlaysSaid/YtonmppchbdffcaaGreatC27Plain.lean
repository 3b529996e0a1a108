/- The plain law of CachePlays: the maps hold what the state says, through each deed. -/
import Derived.Test.YtonmppchbdffcaaGreatC27Rel
import Derived.Test.YtonmppchbdffcaaGreatC27At
namespace Go.Proofs.YtonmppchbdffcaaGreat
open Go Go.RowKit Go.Lib Go.Maps
set_option maxRecDepth 100000

/-- a row of the state, as a function -/
def rowF (ds : List Dat) (bs : List Bool) (row b : Nat) : Option Dat := if bs.getD (6 * row + b) false = true then some (ds.getD (6 * row + b) zeroD) else none
theorem Rep.congr {D : DataW Unit} {f g : Nat → Option Dat} (h : Rep D f) (hfg : ∀ b, b < 6 → f b = g b) : Rep D g :=
  ⟨h.mp, h.kb, fun b hb => by rw [h.hs b hb, hfg b hb], fun b d hb hd z => h.at' b d hb (by rw [hfg b hb]; exact hd) z⟩
theorem getD_bs (bs : List Bool) (i b : Nat) (x : Bool) : (bs.set b x).getD i false = if b = i ∧ i < bs.length then x else bs.getD i false := by
  rw [List.getD_eq_getElem?_getD, List.getElem?_set, List.getD_eq_getElem?_getD]
  by_cases h : b = i
  · subst h
    by_cases h2 : b < bs.length
    · simp [h2]
    · simp [h2]
  · simp [h]
theorem getD_ds (ds : List Dat) (i b : Nat) (x : Dat) : (ds.set b x).getD i zeroD = if b = i ∧ i < ds.length then x else ds.getD i zeroD := by
  rw [List.getD_eq_getElem?_getD, List.getElem?_set, List.getD_eq_getElem?_getD]
  by_cases h : b = i
  · subst h
    by_cases h2 : b < ds.length
    · simp [h2]
    · simp [h2]
  · simp [h]
theorem bs_ne {bs : List Bool} {i b : Nat} {x : Bool} (h : b ≠ i) : (bs.set b x).getD i false = bs.getD i false := by rw [getD_bs, if_neg fun e => h e.1]
theorem bs_eq {bs : List Bool} {i : Nat} {x : Bool} (h : i < bs.length) : (bs.set i x).getD i false = x := by rw [getD_bs, if_pos ⟨rfl, h⟩]
theorem ds_ne {ds : List Dat} {i b : Nat} {x : Dat} (h : b ≠ i) : (ds.set b x).getD i zeroD = ds.getD i zeroD := by rw [getD_ds, if_neg fun e => h e.1]
theorem ds_eq {ds : List Dat} {i : Nat} {x : Dat} (h : i < ds.length) : (ds.set i x).getD i zeroD = x := by rw [getD_ds, if_pos ⟨rfl, h⟩]
/-- what the two maps hold; what the disk holds is row 0 -/
structure Pl (Dd Do : DataW Unit) (ds : List Dat) (bs : List Bool) (L : List Dat) : Prop where
  d : Rep Dd (rowF ds bs 1)
  o : Rep Do (rowF ds bs 2)
  z : ∀ b, b < 6 → ds.getD b zeroD = L.getD b zeroD
  dl : ds.length = 18
  bl : bs.length = 18
theorem Pl.write {Dd Do : DataW Unit} {ds : List Dat} {bs : List Bool} {L : List Dat} (h : Pl Dd Do ds bs L) {b : Nat} (hb : b < 6) (x : Dat) : Pl Dd (Do.put (.int .i64 (b : Int)) (.lit (.string x))) (ds.set (12 + b) x) (bs.set (12 + b) true) L := by
  refine ⟨h.d.congr fun c hc => ?_, (h.o.put hb x).congr fun c hc => ?_, fun c hc => ?_, by rw [List.length_set]; exact h.dl, by rw [List.length_set]; exact h.bl⟩
  · unfold rowF
    rw [bs_ne (by omega), ds_ne (by omega)]
  · unfold rowF
    simp only [show 6 * 2 = 12 from rfl]
    by_cases e : c = b
    · rw [if_pos e, e, bs_eq (by rw [h.bl]; omega), ds_eq (by rw [h.dl]; omega), if_pos rfl]
    · rw [if_neg e, bs_ne (by omega), ds_ne (by omega)]
  · rw [ds_ne (by omega)]
    exact h.z c hc
theorem endI_len (ds : List Dat) (bs : List Bool) : ∀ i, (endI ds bs i).1.length = ds.length ∧ (endI ds bs i).2.length = bs.length
  | 0 => ⟨rfl, rfl⟩
  | i + 1 => by
    have ih := endI_len ds bs i
    rw [endI]
    split
    · simp only [List.length_set]; exact ih
    · exact ih
/-- End's loop, block by block -/
theorem endI_at (ds : List Dat) (bs : List Bool) (hd : ds.length = 18) (hb : bs.length = 18) : ∀ i, i ≤ 6 →
    (∀ k, k < 6 → (endI ds bs i).1.getD k zeroD = ds.getD k zeroD ∧ (endI ds bs i).1.getD (12 + k) zeroD = ds.getD (12 + k) zeroD ∧
      (endI ds bs i).2.getD (12 + k) false = (if k < i then false else bs.getD (12 + k) false) ∧
      (endI ds bs i).2.getD (6 + k) false = (if k < i then (bs.getD (6 + k) false || bs.getD (12 + k) false) else bs.getD (6 + k) false) ∧
      (endI ds bs i).1.getD (6 + k) zeroD = (if k < i ∧ bs.getD (12 + k) false = true then ds.getD (12 + k) zeroD else ds.getD (6 + k) zeroD))
  | 0, _, k, _ => ⟨rfl, rfl, by rw [if_neg (by omega)]; rfl, by rw [if_neg (by omega)]; rfl, by rw [if_neg (by omega)]; rfl⟩
  | i + 1, hi, k, hk => by
    obtain ⟨l1, l2⟩ := endI_len ds bs i
    rw [hd] at l1
    rw [hb] at l2
    obtain ⟨a1, a2, a3, a4, a5⟩ := endI_at ds bs hd hb i (by omega) k hk
    obtain ⟨-, b2, b3, b4, b5⟩ := endI_at ds bs hd hb i (by omega) i (by omega)
    rw [if_neg (by omega)] at b3 b4
    rw [endI]
    by_cases hu : (endI ds bs i).2.getD (12 + i) false = true
    · rw [if_pos hu]
      rw [b3] at hu
      simp only
      by_cases e : k = i
      · subst e
        rw [ds_ne (by omega), ds_ne (by omega), bs_eq (by rw [List.length_set]; omega), bs_ne (by omega), bs_eq (by omega), ds_eq (by omega)]
        exact ⟨a1, a2, by rw [if_pos (by omega)], by rw [if_pos (by omega), hu]; simp, by rw [if_pos ⟨by omega, hu⟩]; exact b2⟩
      · rw [ds_ne (by omega), ds_ne (by omega), bs_ne (by omega), bs_ne (by omega), bs_ne (by omega), bs_ne (by omega), ds_ne (by omega)]
        refine ⟨a1, a2, ?_, ?_, ?_⟩
        · rw [a3]
          by_cases h : k < i
          · rw [if_pos h, if_pos (by omega)]
          · rw [if_neg h, if_neg (by omega)]
        · rw [a4]
          by_cases h : k < i
          · rw [if_pos h, if_pos (by omega)]
          · rw [if_neg h, if_neg (by omega)]
        · rw [a5]
          by_cases h : k < i ∧ bs.getD (12 + k) false = true
          · rw [if_pos h, if_pos ⟨by omega, h.2⟩]
          · rw [if_neg h, if_neg (fun h2 => h ⟨by omega, h2.2⟩)]
    · rw [if_neg hu]
      rw [b3] at hu
      have hu2 : bs.getD (12 + i) false = false := by simpa using hu
      refine ⟨a1, a2, ?_, ?_, ?_⟩
      · rw [a3]
        by_cases e : k = i
        · subst e; rw [if_neg (by omega), if_pos (by omega)]; exact hu2
        · by_cases h : k < i
          · rw [if_pos h, if_pos (by omega)]
          · rw [if_neg h, if_neg (by omega)]
      · rw [a4]
        by_cases e : k = i
        · subst e; rw [if_neg (by omega), if_pos (by omega), hu2]; simp
        · by_cases h : k < i
          · rw [if_pos h, if_pos (by omega)]
          · rw [if_neg h, if_neg (by omega)]
      · rw [a5]
        by_cases e : k = i
        · subst e
          rw [if_neg (by omega), if_neg (fun h2 => hu h2.2)]
        · by_cases h : k < i ∧ bs.getD (12 + k) false = true
          · rw [if_pos h, if_pos ⟨by omega, h.2⟩]
          · rw [if_neg h, if_neg (fun h2 => h ⟨by omega, h2.2⟩)]
theorem Pl.ended {Dd Do : DataW Unit} {ds : List Dat} {bs : List Bool} {L : List Dat} (h : Pl Dd Do ds bs L) (hC : Canon Do) : Pl (mergeD Dd Do) (.map []) (endI ds bs 6).1 (endI ds bs 6).2 L := by
  obtain ⟨l1, l2⟩ := endI_len ds bs 6
  have ha := endI_at ds bs h.dl h.bl 6 (Nat.le_refl _)
  refine ⟨(h.d.merge h.o hC).congr fun b hb => ?_, Rep.empty.congr fun b hb => ?_, fun b hb => ?_, by rw [l1]; exact h.dl, by rw [l2]; exact h.bl⟩
  · obtain ⟨-, -, -, a4, a5⟩ := ha b hb
    unfold rowF
    simp only [Nat.mul_one, show 6 * 2 = 12 from rfl]
    rw [a4, a5, if_pos hb]
    cases h1 : bs.getD (12 + b) false <;> cases h2 : bs.getD (6 + b) false <;> simp [hb]
  · obtain ⟨-, -, a3, -, -⟩ := ha b hb
    unfold rowF
    simp only [show 6 * 2 = 12 from rfl]
    rw [a3, if_pos hb]; rfl
  · rw [(ha b hb).1]
    exact h.z b hb
theorem anewI_at (bs : List Bool) (hb : bs.length = 18) : ∀ i, i ≤ 6 → (anewI bs i).length = 18 ∧ (∀ k, k < 12 → (anewI bs i).getD k false = bs.getD k false) ∧ ∀ k, k < i → (anewI bs i).getD (12 + k) false = false
  | 0, _ => ⟨hb, fun _ _ => rfl, fun k h => by omega⟩
  | i + 1, hi => by
    obtain ⟨a, b, c⟩ := anewI_at bs hb i (by omega)
    rw [anewI]
    refine ⟨by rw [List.length_set]; exact a, fun k hk => ?_, fun k hk => ?_⟩
    · rw [bs_ne (by omega)]; exact b k hk
    · by_cases e : k = i
      · subst e; rw [bs_eq (by omega)]
      · rw [bs_ne (by omega)]; exact c k (by omega)
theorem Pl.anew {Dd Do : DataW Unit} {ds : List Dat} {bs : List Bool} {L : List Dat} (h : Pl Dd Do ds bs L) : Pl Dd (.map []) ds (anewI bs 6) L := by
  obtain ⟨a, b, c⟩ := anewI_at bs h.bl 6 (Nat.le_refl _)
  refine ⟨h.d.congr fun k hk => ?_, Rep.empty.congr fun k hk => ?_, h.z, h.dl, a⟩
  · unfold rowF
    rw [b (6 * 1 + k) (by omega)]
  · unfold rowF
    simp only [show 6 * 2 = 12 from rfl]
    rw [c k hk]; rfl
/-- what a read gives is what the state's at says -/
theorem Pl.read {Dd Do : DataW Unit} {ds : List Dat} {bs : List Bool} {L : List Dat} (h : Pl Dd Do ds bs L) {b : Nat} (hb : b < 6) :
    atS ds bs b false = (rowF ds bs 1 b).getD (L.getD b zeroD) ∧ atS ds bs b true = (rowF ds bs 2 b).getD (atS ds bs b false) := by
  unfold atS rowF
  simp only [Nat.mul_one, show 6 * 2 = 12 from rfl, h.z b hb, Bool.false_and, Bool.true_and]
  cases bs.getD (6 + b) false <;> cases bs.getD (12 + b) false <;> simp
end Go.Proofs.YtonmppchbdffcaaGreat
