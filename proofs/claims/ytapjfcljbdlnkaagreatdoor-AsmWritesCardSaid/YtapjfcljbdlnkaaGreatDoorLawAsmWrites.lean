/- The walk of AsmWrites. -/
import Derived.Test.YtapjfcljbdlnkaaGreatDoorRows
import Derived.Test.YtapjfcljbdlnkaaGreatDoorWrRef
import Derived.WideShapes
import Derived.KernelRfl
import Derived.ProofKit
import Derived.OpenShut
import Derived.Test.YtapjfcljbdlnkaaGreatDoorWrite
namespace Go.Proofs.YtapjfcljbdlnkaaGreatDoor
open Go

/-- a slice of whole numbers, opened: nil or not -/
theorem open_row {H : Type} {enc : TypeId × Value → H} {P : Program} {w : World} {b0 base : Nat} {r : Reach} {held : Bool} {sp : Nat → Bool} {t e : TypeId} {k : IntKind} {v : Value} {d : DataW H} {ps : List MemPlace} (ht : P.underlying t = some (.slice e)) (he : P.underlying e = some (.int k)) (hc : P.cellsOf e = 1)
    (hval : Value.okWide P w r b0 t v) (h : DataW.Trod enc P w base sp held t v d ps) :
    ∃ (a : Option Addr) (b off len cap : Nat) (z : Nat → Int), v = .slice a len cap ∧ len ≤ cap ∧ cap ≤ maxLen ∧ (0 < len → a = some ⟨b, off, none⟩) ∧ ∀ j, j < len → w.cell? ⟨b, off + j, none⟩ = some (.int k (z j)) ∧ (Lit.int k (z j)).wf = true := by
  obtain ⟨a0, len, cap, rfl⟩ := WideShapes.okWide_slice ht hval
  obtain ⟨fuel, hf⟩ := h
  rcases ChangeShapes.open_ints ht he hc hf with ⟨hcs, _⟩ | ⟨a, len', cap', zs, hcs, _, hl, hm, hz, _, hcell, hwz⟩
  · simp [Value.cells] at hcs
    obtain ⟨rfl, rfl, rfl⟩ := hcs
    exact ⟨none, 0, 0, 0, 0, fun _ => 0, rfl, Nat.le_refl _, Nat.zero_le _, fun h => absurd h (Nat.lt_irrefl _), fun j hj => absurd hj (Nat.not_lt_zero _)⟩
  · simp [Value.cells] at hcs
    obtain ⟨rfl, rfl, rfl⟩ := hcs
    have hzl : len ≤ zs.length := by rw [hz]; split <;> omega
    by_cases h0 : 0 < len
    · obtain ⟨b, off, rfl, hc2⟩ := Go.ints_at hcell (by omega)
      refine ⟨_, b, off, len, cap, fun j => zs.getD j 0, rfl, hl, hm, fun _ => rfl, fun j hj => ⟨hc2 j (by omega), ?_⟩⟩
      exact hwz _ (by simp [List.getElem?_eq_getElem (show j < zs.length by omega)])
    · exact ⟨some a, 0, 0, len, cap, fun _ => 0, rfl, hl, hm, fun h => absurd h h0, fun j hj => by omega⟩
/-- .. of words -/
theorem open_words {H : Type} {enc : TypeId × Value → H} {P : Program} {w : World} {b0 base : Nat} {r : Reach} {held : Bool} {sp : Nat → Bool} {t e : TypeId} {v : Value} {d : DataW H} {ps : List MemPlace} (ht : P.underlying t = some (.slice e)) (he : P.underlying e = some (.int .u32)) (hc : P.cellsOf e = 1)
    (hval : Value.okWide P w r b0 t v) (h : DataW.Trod enc P w base sp held t v d ps) :
    ∃ l : List Nat, NReads w v l ∧ (∀ x ∈ l, x < 4294967296) ∧ ∀ ad n cap, v = .slice ad n cap → n ≤ cap := by
  obtain ⟨a, b, off, len, cap, z, rfl, hl, hm, ha, hz⟩ := open_row ht he hc hval h
  have hb : ∀ j, j < len → 0 ≤ z j ∧ z j < 4294967296 := fun j hj => by
    have h1 := (hz j hj).2
    simp [Lit.wf, IntKind.has, IntKind.min, IntKind.max, IntKind.bits, IntKind.signed] at h1
    omega
  refine ⟨(List.range len).map fun j => (z j).toNat, ⟨a, cap, by simp, fun j x hx => ?_⟩, fun x hx => ?_, fun ad n c e => by cases e; exact hl⟩
  · rw [List.getElem?_map] at hx
    obtain ⟨i, hi, rfl⟩ := Option.map_eq_some_iff.1 hx
    have hj : j < len := by have := (List.getElem?_eq_some_iff.1 hi).1; simpa using this
    rw [List.getElem?_range hj] at hi
    obtain rfl := Option.some.inj hi
    exact ⟨b, off, ha (by omega), by rw [(hz j hj).1, Int.toNat_of_nonneg (hb j hj).1]⟩
  · obtain ⟨j, hj, rfl⟩ := List.mem_map.1 hx
    have := hb j (List.mem_range.1 hj)
    omega
end Go.Proofs.YtapjfcljbdlnkaaGreatDoor

namespace Go.Proofs.YtapjfcljbdlnkaaGreatDoor
open Go Go.RowKit Go.Lib
set_option maxRecDepth 100000

theorem same_words_n (v u : Value) (l : List Nat) (hl : l.length ≤ 1000000) (w : World) (hv : NReads w v l) (hu : UReads w u (l.map fun (x : Nat) => (x : Int))) :
    Calls Tryz.prog 8 #[v, u] w fun e w' => e = .returned (.bool true) ∧ Below w.heap.size w w' := by
  refine same_words v u (l.map fun (x : Nat) => (x : Int)) (by simpa using hl) w ?_ hu
  obtain ⟨ad, cap, rfl, hc⟩ := hv
  refine ⟨ad, cap, by rw [List.length_map], fun j x hx => ?_⟩
  rw [List.getElem?_map] at hx
  obtain ⟨y, hy, rfl⟩ := Option.map_eq_some_iff.1 hx
  exact hc j y hy
theorem reads_cut {w : World} {ad : Option Addr} {n cap : Nat} {l : List Nat} (h : NReads w (.slice ad n cap) l) (hn : n = l.length) (hk : 60 ≤ n) : NReads w (.slice ad 60 cap) (l.take 60) := by
  obtain ⟨ad', cap', he, hc⟩ := h
  cases he
  refine ⟨ad, cap, by simp; omega, fun j x hx => ?_⟩
  rw [List.getElem?_take] at hx
  split at hx
  · exact hc j x hx
  · cases hx
set_option maxHeartbeats 3200000 in
theorem law_asm_writes (v : Value) (l : List Nat) (hx : ∀ x ∈ l, x < 4294967296) (w : World) (hv : NReads w v l) (hcap : ∀ ad n cap, v = .slice ad n cap → n ≤ cap) (ht : TabP w) (he : Errs w) :
    Calls Tryz.prog 4 #[v] w fun e w' => e = .returned (.bool true) ∧ Below w.heap.size w w' := by
  obtain ⟨ad, cap, rfl, hc⟩ := hv
  have hv : NReads w (.slice ad l.length cap) l := ⟨ad, cap, rfl, hc⟩
  have hcap := hcap ad l.length cap rfl
  obtain ⟨n, hn⟩ : ∃ n, n = l.length := ⟨_, rfl⟩
  rw [← hn] at hv hcap ⊢
  have hq : ∃ (k : Nat) (l' : List Nat), ((¬ (60 : Int) < (n : Int) ∧ k = n) ∨ ((60 : Int) < (n : Int) ∧ (60 : Int) ≤ (cap : Int) ∧ k = 60)) ∧ k = l'.length ∧ NReads w (.slice ad k cap) l' ∧ (∀ x ∈ l', x < 4294967296) ∧ l'.length ≤ 60 := by
    by_cases h : 60 < n
    · exact ⟨60, l.take 60, .inr ⟨by omega, by omega, rfl⟩, by simp; omega, reads_cut hv hn (by omega), fun x h => hx x (List.mem_of_mem_take h), by simp; omega⟩
    · exact ⟨n, l, .inl ⟨by omega, rfl⟩, hn, hv, hx, by omega⟩
  clear hv hc hx hn
  obtain ⟨k, l, hk, hkl, hv, hx, hn⟩ := hq
  have HA := Lib.hid (asm_write _ l hx hn w hv ht)
  have HR0 := read_write l hx (by omega)
  have hwl := writeL_len l hx
  have HR := Lib.hid (fun w1 (hb : Below w.heap.size w w1) => read_any (writeL l) (by omega) w1 (he.on hb))
  rw [HR0] at HR
  have HQ := Lib.hid (fun w1 (hb : Below w.heap.size w w1) => ref_write _ l hx hn w1 (hv.on hb))
  have HV := Lib.hid hv
  have HE := Lib.hid he
  have hT := bs_list (writeL l)
  generalize writeL l = s at HA HR HQ hT
  have HN := Lib.hid hn
  clear ht he HR0 hwl hkl hx hv hn
  rcases hk with ⟨k1, rfl⟩ | ⟨k1, k2, rfl⟩
  all_goals
    go_enter Tryz.func4, Tryz.ntmps4
    go_wp2_with fail
    all_goals try (exfalso; omega)
    refine HA.out.mono ?_
    rintro e w1 ⟨rfl, hb1⟩
    have HB1 := Lib.hid hb1
    clear hb1
    go_wp2_with fail
    refine (HR.out w1 HB1.out).mono ?_
    rintro e w2 ⟨u, rfl, hown, hb2⟩
    have HU := Lib.hid (UReads.own hown)
    have HB2 := Lib.hid (HB1.out.trans (hb2.mono HB1.out.size))
    clear hown hb2
    go_wp2_with fail
    refine (HQ.out w2 HB2.out).mono ?_
    rintro e w3 ⟨rfl, hb3⟩
    have HS := Lib.hid (same_words_n _ u l (by have := HN.out; omega) w3 ((HV.out.on HB2.out).on hb3) (HU.out.on hb3))
    have HB3 := Lib.hid (HB2.out.trans (hb3.mono HB2.out.size))
    clear hb3
    go_wp2_with fail
    refine HS.out.mono ?_
    rintro e w4 ⟨rfl, hb4⟩
    have HB4 := Lib.hid (HB3.out.trans (hb4.mono HB3.out.size))
    have HW := Lib.hid (asm_awake w4 (HE.out.on HB4.out))
    clear hb4 HS
    go_wp2_with fail
    refine HW.out.mono ?_
    rintro e w5 ⟨rfl, hb5⟩
    have HB5 := Lib.hid (HB4.out.trans (hb5.mono HB4.out.size))
    clear hb5
    go_wp2_with fail
    go_ret
    exact ⟨rfl, HB5.out⟩
end Go.Proofs.YtapjfcljbdlnkaaGreatDoor
