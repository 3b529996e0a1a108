/- The law's few and puts. -/
import Derived.Test.YtkfmdkbiglkjpaaGreatTwin
namespace Go.Proofs.YtkfmdkbiglkjpaaGreat
open Go Go.RowKit Go.Lib
set_option maxRecDepth 100000

theorem build_put_v (u v : Value) (hu : u.cells.size = 1) (hv : v.cells.size = 64) (w : World) :
    (Instr.build 60 #[(0, u), (1, v)]).run Tryz.prog w = .ok (.agg (u.cells ++ v.cells)) w := by
  obtain ⟨c, hc⟩ : ∃ c, u.cells = #[c] := Array.size_eq_one_iff.1 hu
  have hs3 := Tryz.sizeOf3
  have hz : z65.size = 65 := rfl
  have hd := data_sizeOf w
  unfold Instr.build
  have hzc : (Value.agg Tryz.zeroCells60).cells = Tryz.zeroCells60 := rfl
  have e2 : (Array.size Tryz.zeroCells60) = 65 := by decide
  have hne : Tryz.zeroCells60 ≠ #[] := fun h => by
    have h := congrArg Array.size h
    rw [e2] at h
    cases h
  rw [hc]
  simp [Sem.run_bind, put_zero, run_underlying Tryz.underlying60, hs3, hd, Instr.fill, hv, hz, hc, hzc, e2, hne]
  refine Array.ext_getElem? fun k => ?_
  rw [overlay_arr 1 64 v.cells _ k (by rw [hv]; simp) hv.symm]
  rcases k with _ | k
  · simp
    rw [Array.getElem?_append_left (by simp)]; rfl
  · rw [Array.getElem?_append_right (by simp)]
    by_cases hk : k < 64
    · rw [if_pos (by omega)]; simp
    · rw [if_neg (by omega)]
      have e1 : v.cells[k]? = none := by simp; omega
      simp [e1]; omega

theorem exec_bput {d x y : Tmp} {ty : TypeId} {p : String} {af : Array Edge} {ρ : Operand → Value} {w : World} (hu : (ρ (.tmp x)).cells.size = 1) (hv' : datLen (ρ (.tmp y)) = true) :
    (execOp ρ { dst := some d, op := .build 60 #[(0, .tmp x), (1, .tmp y)], type := ty, pos := p, after := af, guard := none }).run Tryz.prog w = .ok (.value (.agg ((ρ (.tmp x)).cells ++ (ρ (.tmp y)).cells))) w := by
  have hv : (ρ (.tmp y)).cells.size = 64 := by simpa [datLen] using hv'
  unfold execOp
  have h := build_put_v _ _ hu hv w
  simp [h]
theorem b64_size : (Tryz.prog.info? 48).map (·.size) = some 64 := by kernel_rfl
theorem exec_load_b64 {d x : Tmp} {ty : TypeId} {p : String} {af : Array Edge} {ρ : Operand → Value} {w : World} (h : datOk 64 w (ρ (.tmp x)) = true) :
    (execOp ρ { dst := some d, op := .load 48 (.tmp x), type := ty, pos := p, after := af, guard := none }).run Tryz.prog w = .ok (.value (.agg (datOf 64 w (ρ (.tmp x))).toArray)) w := by
  obtain ⟨b, o, hv, hr⟩ := dat_ok h
  have hl := datOf_len h
  unfold execOp
  rw [hv] at hr hl ⊢
  have h1 := run_loadAt_mid (P := Tryz.prog) w b o 48 _ _ hr Tryz.underlying48 rfl (by rw [b64_size, hl])
  simp [hv, h1]
attribute [local go_sem ↓] exec_bput exec_load_b64 wp_bput

theorem law_few (ad : Option Addr) (cap n m : Nat) (hc : n ≤ cap) (hm : m ≤ 1000) (w : World) :
    Calls Tryz.prog 6 #[.slice ad n cap, .int .i64 (m : Int)] w fun e w' => e = .returned (.slice ad (min n m) cap) ∧ w' = w := by
  by_cases h : m < n
  · have k1 : (m : Int) < (n : Int) := by omega
    have k2 : (m : Int) ≤ (cap : Int) := by omega
    have k3 : (0 : Int) ≤ (m : Int) := by omega
    have e : min n m = m := by omega
    go_enter Tryz.func6, Tryz.ntmps6
    go_wp2_with fail
    go_ret
    exact ⟨by rw [e]; rfl, rfl⟩
  · have k1 : ¬ (m : Int) < (n : Int) := by omega
    have e : min n m = n := by omega
    go_enter Tryz.func6, Tryz.ntmps6
    go_wp2_with fail
    go_ret
    exact ⟨rfl, rfl⟩
/-- a slice of Puts that came in: it may begin anywhere in its block -/
structure QReads (w : World) (ad : Option Addr) (cap : Nat) (l : List PutV) : Prop where
  len : l.length ≤ cap
  max : cap ≤ maxLen
  d64 : ∀ p ∈ l, p.2.length = 64
  at' : ∀ (i : Nat) (p : PutV), l[i]? = some p → ∃ g off, ad = some ⟨g, off, none⟩ ∧ w.rangeAt g (off + i * 65) (pC p)
theorem QReads.lt {w : World} {ad : Option Addr} {cap : Nat} {l : List PutV} (h : QReads w ad cap l) (h0 : 0 < l.length) : ∃ g off, ad = some ⟨g, off, none⟩ ∧ g < w.heap.size := by
  obtain ⟨g, off, e, hr⟩ := h.at' 0 _ (List.getElem?_eq_getElem h0)
  exact ⟨g, off, e, World.block_lt_of_cell? _ ⟨g, off + 0 * 65 + 0, none⟩ (hr 0 _ rfl)⟩
theorem QReads.below {w w' : World} {ad : Option Addr} {cap : Nat} {l : List PutV} (h : QReads w ad cap l) (hb : Below w.heap.size w w') : QReads w' ad cap l := by
  by_cases h0 : 0 < l.length
  · obtain ⟨g, off, e, hl⟩ := h.lt h0
    refine ⟨h.len, h.max, h.d64, fun i p hp => ?_⟩
    obtain ⟨g', off', e', hr⟩ := h.at' i p hp
    rw [e] at e'
    obtain ⟨rfl, rfl⟩ : g = g' ∧ off = off' := by simpa using e'
    exact ⟨g, off, e, fun j v hv => (World.cell?_of_block (a := ⟨g, off + i * 65 + j, none⟩) (hb.block g hl)).trans (hr j v hv)⟩
  · exact ⟨h.len, h.max, h.d64, fun i p hp => by have := (List.getElem?_eq_some_iff.1 hp).1; omega⟩
structure PtI (w : World) (l : List PutV) (i : Nat) (adl : Option Addr) (capl : Nat) (wr : World) : Prop where
  bl : Below w.heap.size w wr
  row : wr.ownsRow w.heap.size 60 65 (.slice adl i capl) i (putC (l.take i))
set_option maxHeartbeats 6400000 in
theorem law_puts (ad : Option Addr) (cap : Nat) (l : List PutV) (hl : l.length ≤ 1000) (w : World) (hp : QReads w ad cap l) :
    Calls Tryz.prog 9 #[.slice ad l.length cap] w fun e w' => ∃ adl capl, e = .returned (.slice adl l.length capl) ∧ PReads w' adl capl l ∧ (∀ g, adl = some ⟨g, 0, none⟩ → w.heap.size ≤ g ∧ g < w'.heap.size) ∧ Below w.heap.size w w' := by
  have HP := Lib.hid hp
  obtain ⟨m, hm⟩ : ∃ m, m = l.length := ⟨_, rfl⟩
  have HM := Lib.hid hm
  obtain ⟨ip, hip, hz0, hz1, hz2⟩ := info_parts put_info
  rw [← hm] at hl ⊢
  clear hp hm
  go_enter Tryz.func9, Tryz.ntmps9
  go_wp2_with fail
  go_loopg [3, 4] m (fun k u v wr => ∃ (i : Nat) (adl : Option Addr) (capl : Nat), k + i = m ∧ v = .int .i64 (i : Int) ∧ u = .slice adl i capl ∧ PtI w l i adl capl wr)
  case atStart => exact ⟨0, none, 0, by simp, rfl, rfl, Below.refl _ _, World.ownsRow_nil _ _ _ _⟩
  case round =>
    obtain ⟨i, adl, capl, hk, rfl, rfl, hI⟩ := hrel
    have hk := Lib.hid hk
    have HI := Lib.hid hI
    clear hI
    by_cases hi : i < m
    · have hi1 : (i : Int) < (m : Int) := by omega
      have hi3 : (0 : Int) ≤ (i : Int) := by omega
      have wr1 : IntKind.i64.wrap ((i : Int) + 1) = (i : Int) + 1 := by rw [IntKind.wrap_i64] <;> omega
      obtain ⟨⟨pz, d⟩, hp⟩ : ∃ p, l[i]? = some p := ⟨l[i]'(by have := HM.out; omega), List.getElem?_eq_getElem _⟩
      have hd64 := HP.out.d64 _ (List.mem_of_getElem? hp)
      simp only at hd64
      have HTK : Hid (putC (l.take (i + 1)) = putC (l.take i) ++ pC (pz, d)) := Lib.hid (by rw [List.take_add_one, hp]; simp [putC])
      obtain ⟨g, o, rfl, hr⟩ := HP.out.at' i _ hp
      have hgl : g < w.heap.size := World.block_lt_of_cell? _ ⟨g, o + i * 65 + 0, none⟩ (hr 0 _ rfl)
      have hr2 : wr.drew.rangeAt g (o + i * 65) (pC (pz, d)) := fun j v hv => (World.cell?_of_block (a := ⟨g, o + i * 65 + j, none⟩) (HI.out.bl.block g hgl)).trans (hr j v hv)
      have c0 : wr.drew.cell? ⟨g, o + i * 65, none⟩ = some (.int .i64 pz) := hr2 0 _ rfl
      have c0' : wr.cell? ⟨g, o + i * 65, none⟩ = some (.int .i64 pz) := c0
      have hrg : wr.drew.rangeAt g (o + i * 65 + 1) (dC d) := fun j v hv => by
        have := hr2 (j + 1) v (by simpa [pC] using hv)
        rwa [show o + i * 65 + (j + 1) = o + i * 65 + 1 + j by omega] at this
      obtain ⟨hdo, hdk⟩ := dat_range hrg (by rw [dC_len, hd64] : (dC d).length = 64)
      have hdl : datLen (.agg (dC d).toArray) = true := decide_eq_true (by simp [Value.cells, dC_len, hd64])
      have hwl : (pC (pz, d)).length = 65 := by rw [pC_len, hd64]
      have hwr : wrLen (.agg (Value.int .i64 pz :: dC d).toArray) = true := decide_eq_true (by simp [Value.cells, dC_len, hd64])
      have hbA : Below wr.heap.size wr ((wr.alloc (.cells (Value.int .i64 pz :: dC d).toArray 60)).drew) := ((Below.refl _ _).alloc (Nat.le_refl _) _).drew
      have HRO := Lib.hid (own_on HI.out.row hbA)
      have HBA := Lib.hid (HI.out.bl.trans (hbA.mono HI.out.bl.size))
      have HNW := Lib.hid (World.news_of_block (w := (wr.alloc (.cells (Value.int .i64 pz :: dC d).toArray 60)).drew) (B := wr.heap.size) (cs := (Value.int .i64 pz :: dC d).toArray) (t := 60) (fr := (0, 0)) (heap_alloc_last _ _))
      have HLN := Lib.hid (And.intro hwl (pC_one (pz, d)))
      have hsz := HI.out.bl.size
      clear hp hr hr2 hrg hgl hbA hwl
      go_wp2_with fail
      go_region_law ((refine step_append_lies _ (by rfl) _ _ _ (by rfl) w.heap.size 60 ip _ 65 72 Tryz.underlying34 hip hz0 hz1 hz2 rfl (by omega) (.slice adl i capl) i _ (by rfl) HRO.out ⟨wr.heap.size, 0, none⟩ 1 1 (Value.int .i64 pz :: dC d) (by rfl) (by have := HLN.out.1; simpa [pC] using this) HNW.out HLN.out.2 (by omega) (by unfold maxLen; omega) (by omega) (by simp; omega) (wr.heap.size + 1) (by simp) ?_; intro g2 cap2 w5 hown5 hgrow5 _ _; have HX5 := Lib.hid (And.intro hown5 hgrow5); clear hown5 hgrow5))
      all_goals
        go_wp2_with fail
        go_roundg (gk - 1)
        case measure => have := hk.out; omega
        case rel =>
          refine ⟨i + 1, some ⟨g2, 0, none⟩, cap2, by have := hk.out; omega, by simp, rfl, ?_, ?_⟩
          · exact HBA.out.grown HX5.out.2 HBA.out.size (fun k e => (own_lt HRO.out k e).1)
          · rw [HTK.out]; exact HX5.out.1
    · have hi1 : ¬ (i : Int) < (m : Int) := by omega
      obtain rfl : i = m := by have := hk.out; omega
      have htk : l.take i = l := by rw [HM.out, List.take_length]
      have hrow := HI.out.row
      rw [htk] at hrow
      have HPR := Lib.hid (PReads.of_row' hrow HP.out.d64 HM.out.symm)
      clear hrow htk
      go_wp2_with fail
      go_ret
      exact ⟨adl, capl, rfl, HPR.out, fun g e => own_lt HI.out.row g (by rw [e]; rfl), HI.out.bl⟩
end Go.Proofs.YtkfmdkbiglkjpaaGreat
