/- What a map of blocks holds, as a function of the block's number below 6 (the plain law of CachePlays). -/
import Derived.Test.YtonmppchbdffcaaGreatC27Law0
namespace Go.Proofs.YtonmppchbdffcaaGreat
open Go Go.RowKit Go.Lib Go.Maps
set_option maxRecDepth 100000

/-- D holds just what f says -/
structure Rep (D : DataW Unit) (f : Nat → Option Dat) : Prop where
  mp : IsMap D
  kb : ∀ k, has D k = true → ∃ b : Nat, b < 6 ∧ k = .int .i64 (b : Int)
  hs : ∀ b : Nat, b < 6 → has D (.int .i64 (b : Int)) = (f b).isSome
  at' : ∀ (b : Nat) (d : Dat), b < 6 → f b = some d → ∀ z, D.atKey (.int .i64 (b : Int)) z = .lit (.string d)
theorem keyLit (b : Nat) (hb : b < 6) : WideAt.IsKeyLit (.int .i64 (b : Int)) := intK.key (keyI (b : Int) (by omega) (by omega))
theorem Rep.empty : Rep (.map []) (fun _ => none) := ⟨isMap_empty, fun k h => by simp [has] at h, fun b _ => rfl, fun b d _ h => by cases h⟩
theorem key_ne {b c : Nat} (h : c ≠ b) : (Lit.int .i64 (c : Int)) ≠ .int .i64 (b : Int) := fun e => h (by simp at e; omega)
theorem Rep.put {D : DataW Unit} {f : Nat → Option Dat} (h : Rep D f) {b : Nat} (hb : b < 6) (d : Dat) : Rep (D.put (.int .i64 (b : Int)) (.lit (.string d))) (fun c => if c = b then some d else f c) := by
  refine ⟨h.mp.put _ _, fun k hk => ?_, fun c hc => ?_, fun c x hc hx z => ?_⟩
  · by_cases e : k = .int .i64 (b : Int)
    · exact ⟨b, hb, e⟩
    · rw [has_put_other e] at hk
      exact h.kb k hk
  · by_cases e : c = b
    · rw [e, has_put_same h.mp (keyLit b hb), if_pos rfl]; rfl
    · rw [has_put_other (key_ne e), if_neg e]
      exact h.hs c hc
  · by_cases e : c = b
    · rw [if_pos e] at hx
      cases hx
      rw [e, atKey_put_same h.mp (keyLit b hb)]
    · rw [if_neg e] at hx
      rw [atKey_put_other (key_ne e)]
      exact h.at' c x hc hx z
theorem merge_has {D E : DataW Unit} (hD : IsMap D) (hE : Canon E) (k : Lit) : has (mergeD D E) k = (has D k || has E k) := by
  obtain ⟨es, rfl, -, hk⟩ := hE
  exact has_foldPut k es D hD hk
theorem merge_at {D E : DataW Unit} (hD : IsMap D) (hE : Canon E) (k : Lit) (z : DataW Unit) : (mergeD D E).atKey k z = if has E k = true then E.atKey k z else D.atKey k z := by
  obtain ⟨es, rfl, hp, hk⟩ := hE
  have h := atKey_foldPut k z es D hD hk (apart_of_rising hp)
  show (es.foldl (fun D p => D.put p.1 p.2) D).atKey k z = _
  rw [h]
  have e1 : has (DataW.map es) k = es.any (fun p => p.1.sameKey k) := rfl
  rw [e1]
  cases hf : es.find? (fun p => p.1.sameKey k) with
  | none =>
    have h2 : es.any (fun p => p.1.sameKey k) = false := by
      rw [Bool.eq_false_iff]
      intro h3
      obtain ⟨p, hp1, hp2⟩ := List.any_eq_true.1 h3
      exact List.find?_eq_none.1 hf p hp1 hp2
    rw [h2]; rfl
  | some p =>
    have h2 : es.any (fun p => p.1.sameKey k) = true := List.any_eq_true.2 ⟨p, List.mem_of_find?_eq_some hf, List.find?_some (p := fun (p : Lit × DataW Unit) => p.1.sameKey k) hf⟩
    rw [if_pos h2]
    simp only [DataW.atKey, hf]
theorem fold_isMap : ∀ (es : List (Lit × DataW Unit)) (D : DataW Unit), IsMap D → IsMap (es.foldl (fun D p => D.put p.1 p.2) D)
  | [], _, h => h
  | _ :: r, _, h => fold_isMap r _ (h.put _ _)
theorem Rep.merge {D E : DataW Unit} {f g : Nat → Option Dat} (hf : Rep D f) (hg : Rep E g) (hE : Canon E) : Rep (mergeD D E) (fun b => (g b).or (f b)) := by
  refine ⟨?_, fun k hk => ?_, fun c hc => ?_, fun c x hc hx z => ?_⟩
  · obtain ⟨es, rfl, -⟩ := hE
    exact fold_isMap es D hf.mp
  · rw [merge_has hf.mp hE, Bool.or_eq_true] at hk
    exact hk.elim (hf.kb k) (hg.kb k)
  · rw [merge_has hf.mp hE, hf.hs c hc, hg.hs c hc]
    cases g c <;> simp
  · rw [merge_at hf.mp hE, hg.hs c hc]
    cases hgc : g c with
    | none =>
      rw [hgc] at hx
      rw [if_neg (by simp)]
      exact hf.at' c x hc (by simpa using hx) z
    | some y =>
      rw [hgc] at hx
      rw [if_pos (by simp)]
      exact hg.at' c x hc (by rw [hgc]; simpa using hx) z
/-- the keys, in order -/
def keysOf (f : Nat → Option Dat) : List Int := ((List.range 6).filter fun b => (f b).isSome).map fun (b : Nat) => (b : Int)
theorem Rep.perm {D : DataW Unit} {f : Nat → Option Dat} (h : Rep D f) (hC : Canon D) : (keysOf f).Perm (intKeys D) := by
  obtain ⟨es, rfl, hp, hkl⟩ := hC
  refine perm_intKeys (apart_of_rising hp) (fun p hp1 => ?_) ?_ fun x => ?_
  · obtain ⟨b, -, e⟩ := h.kb p.1 (by rw [has_eq, List.any_eq_true]; exact ⟨p, hp1, WideAt.sameKey_self (hkl p hp1)⟩)
    exact ⟨_, e⟩
  · unfold keysOf
    refine List.pairwise_map.2 ((List.Pairwise.filter _ List.nodup_range).imp fun hne e => hne (by exact_mod_cast e))
  · unfold keysOf
    rw [List.mem_map]
    constructor
    · rintro ⟨b, hb, rfl⟩
      obtain ⟨hb1, hb2⟩ := List.mem_filter.1 hb
      rw [h.hs b (List.mem_range.1 hb1)]
      exact hb2
    · intro hx
      obtain ⟨b, hb, e⟩ := h.kb _ hx
      obtain rfl : x = (b : Int) := by simpa using e
      rw [h.hs b hb] at hx
      exact ⟨b, List.mem_filter.2 ⟨List.mem_range.2 hb, hx⟩, rfl⟩
theorem keysOf_sorted (f : Nat → Option Dat) : (keysOf f).mergeSort (fun x y => decide (x ≤ y)) = keysOf f := by
  refine List.mergeSort_of_pairwise ?_
  unfold keysOf
  refine List.pairwise_map.2 ((List.Pairwise.filter _ List.pairwise_lt_range).imp fun {a b} hlt => ?_)
  simp only [decide_eq_true_eq]
  omega
theorem Rep.keys {D : DataW Unit} {f : Nat → Option Dat} (h : Rep D f) (hC : Canon D) {ss : List Int} (hs : ss.Perm (intKeys D)) : ss.mergeSort (fun x y => decide (x ≤ y)) = keysOf f ∧ ss.length = (keysOf f).length := by
  have h1 := h.perm hC
  have h2 := hs.trans h1.symm
  exact ⟨(mergeSort_of_perm_i h2).trans (keysOf_sorted f), h2.length_eq⟩
theorem Rep.size {D : DataW Unit} {f : Nat → Option Dat} (h : Rep D f) (hC : Canon D) : Maps.size D = (keysOf f).length ∧ Maps.size D ≤ 6 := by
  have h1 := (h.perm hC).length_eq
  obtain ⟨es, rfl, -⟩ := hC
  have h2 : (intKeys (DataW.map es)).length = es.length := by simp [intKeys]
  have h3 : (keysOf f).length ≤ 6 := by
    unfold keysOf
    rw [List.length_map]
    exact Nat.le_trans (List.length_filter_le _ _) (by simp)
  rw [Maps.size_eq]
  omega
end Go.Proofs.YtonmppchbdffcaaGreat
