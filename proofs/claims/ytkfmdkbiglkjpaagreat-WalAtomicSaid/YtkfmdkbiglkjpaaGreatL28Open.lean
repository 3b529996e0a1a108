/- The arguments of chapter 28's laws, opened to their cells: a slice of Puts, a Crash. -/
import Derived.Test.YtkfmdkbiglkjpaaGreatL28Twice
import Derived.Test.YtkfmdkbiglkjpaaGreatRows
import Derived.WideShapes
import Derived.OpenShut
import Derived.Deep.Slices
import Derived.Deep.Fields
import Derived.Deep.Grids
import Derived.ChangeSame
namespace Go.Proofs.YtkfmdkbiglkjpaaGreat
open Go Go.ChangeShapes Go.WideShapes Go.Deep
set_option maxRecDepth 100000

theorem u8_of {n : Int} (h : (Lit.int .u8 n).wf = true) : ((UInt8.ofNat n.toNat).toNat : Int) = n := by
  have : 0 ≤ n ∧ n ≤ 255 := by
    simp [Lit.wf, IntKind.min, IntKind.max, IntKind.signed, IntKind.bits] at h; omega
  simp; omega

theorem b64_array : Tryz.prog.underlying 48 = some (.array 64 5) := Tryz.underlying48
theorem b64_cells : Tryz.prog.cellsOf 48 = 64 := by kernel_rfl
theorem u8_cells : Tryz.prog.cellsOf 5 = 1 := by kernel_rfl
theorem int_cells : Tryz.prog.cellsOf 3 = 1 := by kernel_rfl

/-- 64 bytes as a value -/
theorem open_b64 {H : Type} {enc : TypeId × Value → H} {w : World} {base fuel : Nat} {sp : Nat → Bool} {held : Bool} {cs : List Value} {x : DataW H × List MemPlace}
    (h : DataW.trod enc Tryz.prog w base sp held fuel 48 cs = some x) : ∃ d : Dat, d.length = 64 ∧ cs = dC d := by
  cases fuel with
  | zero => simp [DataW.trod] at h
  | succ n =>
    unfold DataW.trod at h
    rw [b64_array] at h
    have h2 : cs.length = 64 ∧ ∃ xs, (List.range 64).mapM (fun i => DataW.trod enc Tryz.prog w base sp held n 5 ((cs.drop (i * 1)).take 1)) = some xs := by
      simp only [b64_cells, u8_cells] at h
      split at h
      · rename_i hl
        refine ⟨hl, ?_⟩
        cases hm : (List.range 64).mapM (fun i => DataW.trod enc Tryz.prog w base sp held n 5 ((cs.drop (i * 1)).take 1)) with
        | none => rw [hm] at h; cases h
        | some xs => exact ⟨xs, rfl⟩
      · cases h
    obtain ⟨hl, xs, hxs⟩ := h2
    have hxl := mapM_some_length hxs
    have key : ∀ i, i < 64 → ∃ z : UInt8, cs[i]? = some (.int .u8 (z.toNat : Int)) := by
      intro i hi
      have hg := mapM_some_get hxs i i (by simp [hi])
      have hi2 : i < xs.length := by rw [hxl]; simpa using hi
      rw [List.getElem?_eq_getElem hi2] at hg
      have hi3 : i < cs.length := by omega
      have e1 : (cs.drop (i * 1)).take 1 = [cs[i]] := by
        rw [Nat.mul_one, List.drop_eq_getElem_cons hi3]; rfl
      rw [e1] at hg
      obtain ⟨z, hz, hx⟩ := DataW.trod_int Tryz.underlying5 hg
      refine ⟨UInt8.ofNat z.toNat, ?_⟩
      rw [List.getElem?_eq_getElem hi3, u8_of hx.2]
      simpa using hz
    obtain ⟨g, hg⟩ := choose_lt key
    refine ⟨(List.range 64).map g, by simp, List.ext_getElem? fun i => ?_⟩
    by_cases hi : i < 64
    · rw [hg i hi]
      simp [dC, hi]
    · rw [List.getElem?_eq_none (by omega), List.getElem?_eq_none (by simp [dC]; omega)]

theorem put_fields : ∃ f0 f1 : Field, Tryz.prog.underlying 75 = some (.struct #[f0, f1]) ∧ f0.type = 3 ∧ f1.type = 48 ∧ f0.offset = 0 ∧ f1.offset = 1 :=
  ⟨_, _, Tryz.underlying75, rfl, rfl, rfl, rfl⟩
theorem put_cells : Tryz.prog.cellsOf 75 = 65 := by kernel_rfl
theorem has_lt {P : Program} {w : World} {r : Reach} {base : Nat} {a : Addr} {e : TypeId} {n : Nat} (h : w.has P r base a e n) : a.block < w.heap.size := by
  obtain ⟨_, _, row, cells, hs, _⟩ := h
  unfold World.shape? at hs
  cases hh : w.heap[a.block]? with
  | none => rw [hh] at hs; cases hs
  | some o => exact (Array.getElem?_eq_some_iff.1 hh).1

/-- the slice of Puts -/
theorem open_puts {H : Type} {enc : TypeId × Value → H} {w : World} {b0 base : Nat} {r : Reach} {held : Bool} {sp : Nat → Bool} {v : Value} {d : DataW H} {ps : List MemPlace}
    (hval : Value.okWide Tryz.prog w r b0 22 v) (h : DataW.Trod enc Tryz.prog w base sp held 22 v d ps) : ∃ ad cap l, v = .slice ad l.length cap ∧ QReads w ad cap l := by
  obtain ⟨a0, len, cap, rfl⟩ := WideShapes.okWide_slice Tryz.underlying22 hval
  obtain ⟨fuel, hf⟩ := h
  obtain ⟨f0, f1, hu, h0, h1, o0, o1⟩ := put_fields
  rcases open_slice Tryz.underlying22 hf with ⟨hcs, _⟩ | ⟨a, len', cap', m, n, D, Pl, hcs, _, hl, hm, hmm, _, hx⟩
  · simp [Value.cells] at hcs
    obtain ⟨rfl, rfl, rfl⟩ := hcs
    exact ⟨none, 0, [], rfl, Nat.le_refl _, Nat.zero_le _, fun p hp => (by cases hp), fun i x hx => by simp at hx⟩
  · simp [Value.cells] at hcs
    obtain ⟨rfl, rfl, rfl⟩ := hcs
    have hlm : len ≤ m := by rw [hmm]; split <;> omega
    have key : ∀ i, i < len → ∃ p : PutV, p.2.length = 64 ∧ ∀ j v, (pC p)[j]? = some v → w.cell? ((a.add (i * 65)).add j) = some v := by
      intro i hi
      obtain ⟨cs', hc, ht'⟩ := hx i (by omega)
      rw [put_cells] at hc
      obtain ⟨y0, y1, n', hy, hcl, g0, g1⟩ := trod_struct2 hu ht'
      obtain ⟨_, hcl, hat⟩ := World.cells?_some hc
      rw [o0, h0, int_cells] at g0
      rw [o1, h1, b64_cells] at g1
      have hi3 : 0 < cs'.length := by omega
      have e1 : (cs'.drop 0).take 1 = [cs'[0]] := by
        rw [List.drop_eq_getElem_cons hi3]; rfl
      rw [e1] at g0
      obtain ⟨z, hz, _⟩ := DataW.trod_int Tryz.underlying3 g0
      obtain ⟨d, hd, hcd⟩ := open_b64 g1
      refine ⟨(z, d), hd, fun j v hv => ?_⟩
      have e2 : cs' = pC (z, d) := by
        match cs', hcl with
        | c0 :: cs2, hcl =>
          have e3 : cs2.take 64 = cs2 := List.take_of_length_le (by simp at hcl; omega)
          simp [e3] at hcd hz
          rw [hcd, hz]; rfl
      have hj : j < 65 := by
        have := (List.getElem?_eq_some_iff.1 hv).1
        rw [pC_len, hd] at this; omega
      have := hat j hj
      rw [this, e2, hv]
    by_cases hp : 0 < len
    · obtain ⟨g, hg⟩ := @choose_lt PutV ⟨(0, [])⟩ _ _ key
      obtain ⟨b, off, spot⟩ := a
      have hspot : spot = none := by
        have := (hg 0 hp).2 0 _ rfl
        simpa [Addr.add] using World.cell?_spot this
      subst hspot
      refine ⟨some ⟨b, off, none⟩, cap, (List.range len).map g, by simp, by simpa using hl, hm, fun p hp2 => ?_, fun i x hx => ?_⟩
      · obtain ⟨i, hi, rfl⟩ := List.mem_map.1 hp2
        exact (hg i (by simpa using hi)).1
      · rw [List.getElem?_map] at hx
        by_cases hi : i < len
        · rw [List.getElem?_eq_getElem (by simpa using hi)] at hx
          simp at hx
          subst hx
          exact ⟨b, off, rfl, fun j v hv => by have := (hg i hi).2 j v hv; rwa [add_plain, add_plain] at this⟩
        · rw [List.getElem?_eq_none (by simpa using hi)] at hx
          cases hx
    · obtain rfl : len = 0 := by omega
      exact ⟨some a, cap, [], rfl, Nat.zero_le _, hm, fun p hp => (by cases hp), fun i x hx => by simp at hx⟩

theorem crash_fields : ∃ f0 f1 : Field, Tryz.prog.underlying 25 = some (.struct #[f0, f1]) ∧ f0.type = 3 ∧ f1.type = 23 ∧ f0.offset = 0 ∧ f1.offset = 1 :=
  ⟨_, _, Tryz.underlying25, rfl, rfl, rfl, rfl⟩
theorem crash_cells : Tryz.prog.cellsOf 25 = 2 := by kernel_rfl
theorem bool_cells : Tryz.prog.cellsOf 4 = 1 := by kernel_rfl
theorem bools_cells : Tryz.prog.cellsOf 23 = 1 := by kernel_rfl
theorem crash_types : Tryz.prog.cellTypes Tryz.prog.depth 25 = some [3, 23] := by kernel_rfl

/-- a Crash's two cells: an int, a slice of bools that can be read -/
structure CReads (w : World) (n : Int) (kad : Option Addr) (kcap : Nat) (ks : List Bool) : Prop where
  rd : BReads w (.slice kad ks.length kcap) ks
  bd : ∀ b off a, kad = some ⟨b, off, a⟩ → b < w.heap.size
theorem open_bool_slice {H : Type} {enc : TypeId × Value → H} {w : World} {b0 base fuel : Nat} {r : Reach} {held : Bool} {v : Value} {x : DataW H × List MemPlace}
    (hval : Cell.okWide Tryz.prog w r b0 23 v) (h : DataW.trod enc Tryz.prog w base (fun _ => true) held fuel 23 [v] = some x) : ∃ kad kcap ks, v = .slice kad ks.length kcap ∧ CReads w 0 kad kcap ks := by
  rcases open_bools Tryz.underlying23 Tryz.underlying4 bool_cells h with ⟨hcs, _⟩ | ⟨a, len, cap, B, hcs, _, hl, hm, _, hc⟩
  · obtain rfl : v = .slice none 0 0 := by simpa using hcs
    exact ⟨none, 0, [], rfl, ⟨none, 0, rfl, Nat.zero_le _, fun j x hx => by simp at hx⟩, fun b off a e => by cases e⟩
  · obtain rfl : v = .slice (some a) len cap := by simpa using hcs
    have hb : a.block < w.heap.size := by
      simp only [Cell.okWide, Tryz.underlying23, Cell.ok] at hval
      exact has_lt hval.2.2
    refine ⟨some a, cap, (List.range len).map B, by simp, ⟨some a, cap, by simp, by simp; omega, fun j x hx => ?_⟩, fun b off a2 e => by cases e; exact hb⟩
    rw [List.getElem?_map] at hx
    by_cases hj : j < len
    · rw [List.getElem?_eq_getElem (by simpa using hj)] at hx
      simp at hx
      subst hx
      have h1 := hc j (by omega)
      obtain ⟨b, off, spot⟩ := a
      obtain rfl : spot = none := by
        have h2 := World.cell?_spot h1
        by_cases hj0 : j = 0
        · simpa [Addr.add, hj0] using h2
        · have h3 := hc 0 (by omega)
          have h4 := World.cell?_spot h3
          simpa [Addr.add] using h4
      rw [add_plain] at h1
      exact ⟨b, off, rfl, h1⟩
    · rw [List.getElem?_eq_none (by simpa using hj)] at hx
      cases hx
theorem open_crash_cells {H : Type} {enc : TypeId × Value → H} {w : World} {b0 base fuel : Nat} {r : Reach} {held : Bool} {cs : List Value} {x : DataW H × List MemPlace}
    (hval : ∀ c, cs[1]? = some c → Cell.okWide Tryz.prog w r b0 23 c) (h : DataW.trod enc Tryz.prog w base (fun _ => true) held fuel 25 cs = some x) :
    ∃ n kad kcap ks, cs = [.int .i64 n, .slice kad ks.length kcap] ∧ CReads w n kad kcap ks := by
  obtain ⟨f0, f1, hu, h0, h1, o0, o1⟩ := crash_fields
  obtain ⟨y0, y1, n', hy, hcl, g0, g1⟩ := trod_struct2 hu h
  rw [o0, h0, int_cells] at g0
  rw [o1, h1, bools_cells] at g1
  rw [crash_cells] at hcl
  match cs, hcl with
  | [c0, c1], _ =>
    obtain ⟨z, hz, _⟩ := DataW.trod_int Tryz.underlying3 g0
    obtain ⟨kad, kcap, ks, hv, hk⟩ := open_bool_slice (v := c1) (hval c1 rfl) g1
    simp at hz
    subst hz hv
    exact ⟨z, kad, kcap, ks, rfl, hk.rd, hk.bd⟩
theorem open_crash {H : Type} {enc : TypeId × Value → H} {w : World} {b0 base : Nat} {r : Reach} {held : Bool} {v : Value} {d : DataW H} {ps : List MemPlace}
    (hval : Value.okWide Tryz.prog w r b0 25 v) (h : DataW.Trod enc Tryz.prog w base (fun _ => true) held 25 v d ps) :
    ∃ n kad kcap ks, v = .agg #[.int .i64 n, .slice kad ks.length kcap] ∧ CReads w n kad kcap ks := by
  obtain ⟨fuel, hf⟩ := h
  simp only [Value.okWide, Tryz.underlying25] at hval
  obtain ⟨cs, rfl, hsz, ts, hts, _, hrow⟩ := hval
  rw [crash_types] at hts
  obtain rfl := Option.some.inj hts
  obtain ⟨n, kad, kcap, ks, hcs, hk⟩ := open_crash_cells (cs := cs.toList) (fun c hc => by
    obtain ⟨u, hu, hc2⟩ := hrow 1 c (by simpa using hc)
    obtain rfl : u = 23 := by simpa using hu.symm
    exact hc2) hf
  exact ⟨n, kad, kcap, ks, by rw [← Array.toArray_toList (xs := cs), hcs], hk⟩
end Go.Proofs.YtkfmdkbiglkjpaaGreat
