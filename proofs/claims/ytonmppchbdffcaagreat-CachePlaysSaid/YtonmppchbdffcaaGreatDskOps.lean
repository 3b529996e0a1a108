/- Operations on whole blocks, opaque: build, buildSlice, make. -/
import Derived.Test.YtonmppchbdffcaaGreatDskBase
import Derived.TacticsIn
namespace Go.Proofs.YtonmppchbdffcaaGreat
open Go Go.RowKit Go.Lib
set_option maxRecDepth 100000

theorem overlay (off : Nat) : ∀ (l : List Value) (i : Nat) (cs : Array Value) (k : Nat), off + i + l.length ≤ cs.size →
    ((l.zipIdx i).foldl (fun cs (x : Value × Nat) => cs.setIfInBounds (off + x.2) x.1) cs)[k]? = if off + i ≤ k ∧ k < off + i + l.length then l[k - (off + i)]? else cs[k]?
  | [], i, cs, k, _ => by simp; omega
  | v :: l, i, cs, k, h => by
    simp only [List.length_cons] at h
    simp only [List.zipIdx_cons, List.foldl_cons, List.length_cons]
    rw [overlay off l (i + 1) _ k (by simp; omega)]
    by_cases h1 : off + i ≤ k ∧ k < off + i + (l.length + 1)
    · rw [if_pos h1]
      by_cases h2 : k = off + i
      · subst h2
        rw [if_neg (by omega), Nat.sub_self]
        have hlt : off + i < cs.size := by omega
        simp [hlt]
      · rw [if_pos (by omega), show k - (off + i) = (k - (off + (i + 1))) + 1 by omega]
        simp
    · rw [if_neg h1, if_neg (by omega), Array.getElem?_setIfInBounds_ne (by omega)]
theorem overlay_size (off : Nat) : ∀ (l : List (Value × Nat)) (cs : Array Value), (l.foldl (fun cs (x : Value × Nat) => cs.setIfInBounds (off + x.2) x.1) cs).size = cs.size
  | [], cs => rfl
  | v :: l, cs => by simp only [List.foldl_cons]; rw [overlay_size off l]; simp
theorem overlay_arr (off n : Nat) (A cs : Array Value) (k : Nat) (h : off + A.size ≤ cs.size) (hn : n = A.size) :
    (Array.foldl (fun cs (x : Value × Nat) => cs.setIfInBounds (off + x.2) x.1) cs A.zipIdx 0 n)[k]? = if off ≤ k ∧ k < off + A.size then A[k - off]? else cs[k]? := by
  have h1 : n = A.zipIdx.size := by simp [hn]
  subst h1
  have := overlay off A.toList 0 cs k (by simpa using h)
  rw [← Array.foldl_toList, Array.toList_zipIdx]
  simpa using this

def z64 : Array Value := (List.replicate 64 (Value.int .u8 0)).toArray
def z65 : Array Value := (Value.int .i64 0 :: List.replicate 64 (Value.int .u8 0)).toArray
theorem data_info : (Tryz.prog.info? 34).map (fun i => (i.zero, i.size, i.bytes)) = some (some (.agg z64), 64, 64) := by kernel_rfl
theorem write_info : (Tryz.prog.info? 78).map (fun i => (i.zero, i.size, i.bytes)) = some (some (.agg z65), 65, 72) := by kernel_rfl
theorem data_size : (Tryz.prog.info? 34).map (·.size) = some 64 := by kernel_rfl
theorem write_size : (Tryz.prog.info? 78).map (·.size) = some 65 := by kernel_rfl
theorem write_zero (w : World) : (zeroValue 78).run Tryz.prog w = .ok (.agg z65) w := (zero_of_info (n := 65) (by kernel_rfl)).1 w
theorem data_zero (w : World) : (zeroValue 34).run Tryz.prog w = .ok (.agg z64) w := (zero_of_info (n := 64) (by kernel_rfl)).1 w
theorem data_sizeOf (w : World) : (sizeOf 34).run Tryz.prog w = .ok 64 w := by
  obtain ⟨i, hi, h0, h1, h2⟩ := info_parts data_info
  simp [sizeOf, typeInfo, hi, h1]
theorem write_sizeOf (w : World) : (sizeOf 78).run Tryz.prog w = .ok 65 w := by
  obtain ⟨i, hi, h0, h1, h2⟩ := info_parts write_info
  simp [sizeOf, typeInfo, hi, h1]
theorem build_write (A : Array Value) (hA : A.size = 64) (b : Int) (w : World) :
    (Instr.build 78 #[(0, .int .i64 b), (1, .agg A)]).run Tryz.prog w = .ok (.agg (#[.int .i64 b] ++ A)) w := by
  have hu := Tryz.underlying78
  have hs3 := Tryz.sizeOf3
  have hz : z65.size = 65 := rfl
  have hd := data_sizeOf w
  unfold Instr.build
  simp [Sem.run_bind, write_zero, run_underlying hu, hs3, hd, Instr.fill, Value.cells, hA, hz]
  refine Array.ext_getElem? fun k => ?_
  rw [overlay_arr 1 64 A _ k (by rw [hA]; simp) hA.symm]
  rcases k with _ | k
  · simp
    rw [Array.getElem?_append_left (by simp)]; rfl
  · rw [Array.getElem?_append_right (by simp)]
    by_cases hk : k < 64
    · rw [if_pos (by omega)]; simp
    · rw [if_neg (by omega)]
      have e1 : A[k]? = none := by simp; omega
      have e2 : (Array.size Tryz.zeroCells78) = 65 := by decide
      simp [e1]; omega
theorem build_slice (B : Array Value) (hB : B.size = 65) (w : World) :
    (Instr.buildSlice 60 1 #[(0, .agg B)]).run Tryz.prog w = .ok (.slice (some ⟨w.heap.size, 0, none⟩) 1 1) (w.alloc (.cells B 78)) := by
  have hu := Tryz.underlying60
  have hd := write_sizeOf w
  unfold Instr.buildSlice
  simp [Sem.run_bind, write_zero, run_underlying hu, hd, Instr.fill, Value.cells, hB, newRow]
  congr 2
  refine Array.ext_getElem? fun k => ?_
  have h := overlay_arr 0 65 B (Array.map (fun x => Tryz.zeroCells78[x % 65]!) (Array.range 65)) k (by simp; omega) hB.symm
  simp only [Nat.zero_add] at h
  rw [h]
  by_cases hk : k < 65
  · rw [if_pos (by omega), Nat.sub_zero]
  · rw [if_neg (by omega)]
    have e1 : B[k]? = none := by simp; omega
    rw [e1]
    simp; omega
theorem build_slice_v (v : Value) (hB : v.cells.size = 65) (w : World) :
    (Instr.buildSlice 60 1 #[(0, v)]).run Tryz.prog w = .ok (.slice (some ⟨w.heap.size, 0, none⟩) 1 1) (w.alloc (.cells v.cells 78)) := by
  have h := build_slice v.cells hB w
  unfold Instr.buildSlice Instr.fill at h ⊢
  exact h
/-- as many cells as a block has -/
def datLen (v : Value) : Bool := decide (v.cells.size = 64)
/-- as many cells as a write has -/
def wrLen (v : Value) : Bool := decide (v.cells.size = 65)
/-- a rule for the walk: a slice of one write, its cells not opened -/
theorem wp_bslice {d t : Tmp} {ty : TypeId} {p : String} {af : Array Edge} {a : Act} {w : World} {K : Act → World → Prop} {Q : Exit → Act → World → Prop} (hs' : wrLen (a.eval (.tmp t)) = true) :
    Oper.wp Tryz.prog { dst := some d, op := .buildSlice 60 1 #[(0, .tmp t)], type := ty, pos := p, after := af, guard := none } a w K Q = K (a.put (some d) (.slice (some ⟨w.heap.size, 0, none⟩) 1 1)) (w.alloc (.cells (a.eval (.tmp t)).cells 78)) := by
  have hs : (a.eval (.tmp t)).cells.size = 65 := by simpa [wrLen] using hs'
  unfold Oper.wp execOp
  have h := build_slice_v _ hs w
  simp [h, Oper.upon]
theorem build_write_v (u v : Value) (hu : u.cells.size = 1) (hv : v.cells.size = 64) (w : World) :
    (Instr.build 78 #[(0, u), (1, v)]).run Tryz.prog w = .ok (.agg (u.cells ++ v.cells)) w := by
  obtain ⟨c, hc⟩ : ∃ c, u.cells = #[c] := Array.size_eq_one_iff.1 hu
  have hs3 := Tryz.sizeOf3
  have hz : z65.size = 65 := rfl
  have hd := data_sizeOf w
  unfold Instr.build
  have hzc : (Value.agg Tryz.zeroCells78).cells = Tryz.zeroCells78 := rfl
  have e2 : (Array.size Tryz.zeroCells78) = 65 := by decide
  have hne : Tryz.zeroCells78 ≠ #[] := fun h => by
    have h := congrArg Array.size h
    rw [e2] at h
    cases h
  rw [hc]
  simp [Sem.run_bind, write_zero, run_underlying Tryz.underlying78, hs3, hd, Instr.fill, hv, hz, hc, hzc, e2, hne]
  refine Array.ext_getElem? fun k => ?_
  rw [overlay_arr 1 64 v.cells _ k (by rw [hv]; simp) hv.symm]
  rcases k with _ | k
  · simp
    rw [Array.getElem?_append_left (by simp)]; rfl
  · rw [Array.getElem?_append_right (by simp)]
    by_cases hk : k < 64
    · rw [if_pos (by omega)]; simp
    · rw [if_neg (by omega)]
      have e1 : v.cells[k]? = none := by simp; omega
      simp [e1]; omega
/-- a rule for the walk: a write is built, its cells not opened -/
theorem exec_bwrite {d x y : Tmp} {ty : TypeId} {p : String} {af : Array Edge} {ρ : Operand → Value} {w : World} (hu : (ρ (.tmp x)).cells.size = 1) (hv' : datLen (ρ (.tmp y)) = true) :
    (execOp ρ { dst := some d, op := .build 78 #[(0, .tmp x), (1, .tmp y)], type := ty, pos := p, after := af, guard := none }).run Tryz.prog w = .ok (.value (.agg ((ρ (.tmp x)).cells ++ (ρ (.tmp y)).cells))) w := by
  have hv : (ρ (.tmp y)).cells.size = 64 := by simpa [datLen] using hv'
  unfold execOp
  have h := build_write_v _ _ hu hv w
  simp [h]
/-- the cells that a pointer leads to, so many -/
def datOf (n : Nat) (w : World) (v : Value) : List Value :=
  match v with
  | .pointer (some ⟨b, o, none⟩) => (List.range n).map fun j => (w.cell? ⟨b, o + j, none⟩).getD undef
  | _ => []
/-- may they be read? -/
def datOk (n : Nat) (w : World) (v : Value) : Bool :=
  match v with
  | .pointer (some ⟨b, o, none⟩) => (List.range n).all fun j => (w.cell? ⟨b, o + j, none⟩).isSome
  | _ => false
theorem dat_range {n : Nat} {w : World} {b o : Nat} {cs : List Value} (h : w.rangeAt b o cs) (hl : cs.length = n) : datOf n w (.pointer (some ⟨b, o, none⟩)) = cs ∧ datOk n w (.pointer (some ⟨b, o, none⟩)) = true := by
  constructor
  · refine List.ext_getElem? fun k => ?_
    simp only [datOf, List.getElem?_map]
    by_cases hk : k < n
    · have e := List.getElem?_eq_getElem (l := cs) (i := k) (by omega)
      rw [List.getElem?_range hk, e, Option.map_some, h k _ e]; rfl
    · rw [List.getElem?_eq_none (by simp; omega), List.getElem?_eq_none (by omega)]; rfl
  · simp only [datOk, List.all_eq_true, List.mem_range]
    intro j hj
    rw [h j _ (List.getElem?_eq_getElem (by omega))]; rfl
theorem dat_ok {n : Nat} {w : World} {v : Value} (h : datOk n w v = true) : ∃ b o, v = .pointer (some ⟨b, o, none⟩) ∧ w.rangeAt b o (datOf n w v) := by
  unfold datOk at h
  split at h
  · rename_i b o
    refine ⟨b, o, rfl, fun j u hu => ?_⟩
    simp only [datOf, List.getElem?_map] at hu
    by_cases hk : j < n
    · rw [List.getElem?_range hk, Option.map_some] at hu
      simp only [List.all_eq_true, List.mem_range] at h
      obtain ⟨x, hx⟩ := Option.isSome_iff_exists.1 (h j hk)
      rw [hx] at hu ⊢
      simpa using hu
    · rw [List.getElem?_eq_none (by simp; omega)] at hu; cases hu
  · cases h
theorem datOf_len {n : Nat} {w : World} {v : Value} (h : datOk n w v = true) : (datOf n w v).length = n := by
  obtain ⟨b, o, rfl, _⟩ := dat_ok h
  simp [datOf]
/-- a rule for the walk: a block is read as one thing -/
theorem exec_load_data {d x : Tmp} {ty : TypeId} {p : String} {af : Array Edge} {ρ : Operand → Value} {w : World} (h : datOk 64 w (ρ (.tmp x)) = true) :
    (execOp ρ { dst := some d, op := .load 34 (.tmp x), type := ty, pos := p, after := af, guard := none }).run Tryz.prog w = .ok (.value (.agg (datOf 64 w (ρ (.tmp x))).toArray)) w := by
  obtain ⟨b, o, hv, hr⟩ := dat_ok h
  have hl := datOf_len h
  unfold execOp
  rw [hv] at hr hl ⊢
  have h1 := run_loadAt_mid (P := Tryz.prog) w b o 34 _ _ hr Tryz.underlying34 rfl (by rw [data_size, hl])
  simp [hv, h1]
/-- .. and so is a write -/
theorem exec_load_write {d x : Tmp} {ty : TypeId} {p : String} {af : Array Edge} {ρ : Operand → Value} {w : World} (h : datOk 65 w (ρ (.tmp x)) = true) :
    (execOp ρ { dst := some d, op := .load 78 (.tmp x), type := ty, pos := p, after := af, guard := none }).run Tryz.prog w = .ok (.value (.agg (datOf 65 w (ρ (.tmp x))).toArray)) w := by
  obtain ⟨b, o, hv, hr⟩ := dat_ok h
  have hl := datOf_len h
  unfold execOp
  rw [hv] at hr hl ⊢
  have h1 := run_loadAt_mid (P := Tryz.prog) w b o 78 _ _ hr Tryz.underlying78 rfl (by rw [write_size, hl])
  simp [hv, h1]
/-- the world behind a store of many cells -/
def putAt (w : World) (v : Value) (cs : Array Value) : World :=
  match v with
  | .pointer (some ⟨b, o, none⟩) => w.setCells b o cs.toList
  | _ => w
/-- may so many cells be written there? -/
def thereOk (n : Nat) (w : World) (v : Value) : Bool :=
  match v with
  | .pointer (some ⟨b, o, none⟩) => (List.range n).all fun j => (w.cell? ⟨b, o + j, none⟩).isSome && !w.frozen? ⟨b, o + j, none⟩
  | _ => false
theorem there_ok {n : Nat} {w : World} {v : Value} (h : thereOk n w v = true) : ∃ b o, v = .pointer (some ⟨b, o, none⟩) ∧ w.there b o n := by
  unfold thereOk at h
  split at h
  · rename_i b o
    refine ⟨b, o, rfl, fun j hj => ?_⟩
    simp only [List.all_eq_true, List.mem_range, Bool.and_eq_true, Bool.not_eq_true'] at h
    exact h j hj
  · cases h
theorem ok_there {n : Nat} {w : World} {b o : Nat} (h : w.there b o n) : thereOk n w (.pointer (some ⟨b, o, none⟩)) = true := by
  simp only [thereOk, List.all_eq_true, List.mem_range, Bool.and_eq_true, Bool.not_eq_true']
  exact h
/-- a value of so many cells, each one cell -/
def aggOk (n : Nat) (v : Value) : Bool :=
  match v with
  | .agg cs => decide (cs.size = n) && cs.all (·.oneCell')
  | _ => false
theorem agg_ok {n : Nat} {cs : List Value} (hl : cs.length = n) (h1 : ∀ v ∈ cs, v.oneCell' = true) : aggOk n (.agg cs.toArray) = true := by
  simp only [aggOk, Bool.and_eq_true, decide_eq_true_eq]
  exact ⟨by simpa using hl, all_oneCell_toArray h1⟩
/-- a rule for the walk: a block is written as one thing -/
theorem exec_store_data {x y : Tmp} {ty : TypeId} {p : String} {af : Array Edge} {ρ : Operand → Value} {w : World} (h : thereOk 64 w (ρ (.tmp x)) = true) (h1 : aggOk 64 (ρ (.tmp y)) = true) :
    (execOp ρ { dst := none, op := .store 34 (.tmp x) (.tmp y), type := ty, pos := p, after := af, guard := none }).run Tryz.prog w = .ok .skip (putAt w (ρ (.tmp x)) (ρ (.tmp y)).cells) := by
  obtain ⟨b, o, hv, ht⟩ := there_ok h
  cases hy : ρ (.tmp y) with
  | agg cs =>
    rw [hy] at h1
    simp only [aggOk, Bool.and_eq_true, decide_eq_true_eq] at h1
    unfold execOp
    have h2 := run_storeAt_mid (P := Tryz.prog) w b o 34 cs (by rw [h1.1]; exact ht) (by rw [data_size, h1.1]) h1.2
    simp [hv, hy, h2, putAt, Value.cells]
  | _ => rw [hy] at h1; cases h1
theorem exec_store_write {x y : Tmp} {ty : TypeId} {p : String} {af : Array Edge} {ρ : Operand → Value} {w : World} (h : thereOk 65 w (ρ (.tmp x)) = true) (h1 : aggOk 65 (ρ (.tmp y)) = true) :
    (execOp ρ { dst := none, op := .store 78 (.tmp x) (.tmp y), type := ty, pos := p, after := af, guard := none }).run Tryz.prog w = .ok .skip (putAt w (ρ (.tmp x)) (ρ (.tmp y)).cells) := by
  obtain ⟨b, o, hv, ht⟩ := there_ok h
  cases hy : ρ (.tmp y) with
  | agg cs =>
    rw [hy] at h1
    simp only [aggOk, Bool.and_eq_true, decide_eq_true_eq] at h1
    unfold execOp
    have h2 := run_storeAt_mid (P := Tryz.prog) w b o 78 cs (by rw [h1.1]; exact ht) (by rw [write_size, h1.1]) h1.2
    simp [hv, hy, h2, putAt, Value.cells]
  | _ => rw [hy] at h1; cases h1
/-- a store over a whole block -/
theorem putAt_row (ty : TypeId) {n : Nat} (hi : (Tryz.prog.info? ty).map (·.size) = some n) (w : World) (g : Nat) (t : TypeId) (old A : Array Value) (hg : w.heap[g]? = some (.cells old t (0, 0))) (ho : old.size = n) (hA : A.size = n) (h1 : A.all (·.oneCell') = true) :
    putAt w (.pointer (some ⟨g, 0, none⟩)) A = w.setRow g A := by
  have ht : w.there g 0 A.size := fun j hj => by
    refine ⟨?_, by rw [Nat.zero_add]; exact frozen_of_row w g j _ _ hg⟩
    rw [Nat.zero_add, cell_of_row w g j _ _ _ hg, Array.getElem?_eq_getElem (by omega)]; rfl
  have e1 := run_storeVar_row (P := Tryz.prog) w g t ty old A hg (by rw [hi, hA]) (by omega) h1
  have e2 := run_storeVar_mid (P := Tryz.prog) w g 0 ty A ht (by rw [hi, hA]) h1
  rw [e1] at e2
  simp only [Result.ok.injEq] at e2
  exact e2.2.symm
theorem putAt_new (ty : TypeId) {n : Nat} (hi : (Tryz.prog.info? ty).map (·.size) = some n) (w : World) (t : TypeId) (old A : Array Value) (ho : old.size = n) (hA : A.size = n) (h1 : A.all (·.oneCell') = true) :
    putAt (w.alloc (.cells old t)) (.pointer (some ⟨w.heap.size, 0, none⟩)) A = w.alloc (.cells A t) := by
  rw [putAt_row ty hi _ _ t old A (heap_alloc_last w _) ho hA h1, World.setRow_alloc_new]
theorem there_row {w : World} {g n : Nat} {t : TypeId} {A : Array Value} (hg : w.heap[g]? = some (.cells A t (0, 0))) (hn : A.size = n) : thereOk n w (.pointer (some ⟨g, 0, none⟩)) = true :=
  ok_there fun j hj => by
    refine ⟨?_, by rw [Nat.zero_add]; exact frozen_of_row w g j _ _ hg⟩
    rw [Nat.zero_add, cell_of_row w g j _ _ _ hg, Array.getElem?_eq_getElem (by omega)]; rfl
/-! the same rules inside a fence -/
theorem semAt_load_data {ro : Option Nat} {d x : Tmp} {ty : TypeId} {p : String} {af : Array Edge} {ρ : Operand → Value} {w : World} (h : datOk 64 w (ρ (.tmp x)) = true) :
    (Oper.semAt ro ρ { dst := some d, op := .load 34 (.tmp x), type := ty, pos := p, after := af, guard := none }).run Tryz.prog w = .ok (.value (.agg (datOf 64 w (ρ (.tmp x))).toArray)) w := by
  rw [Oper.semAt_eq _ _ _ (by intro c h; cases h)]; exact exec_load_data h
theorem semAt_load_write {ro : Option Nat} {d x : Tmp} {ty : TypeId} {p : String} {af : Array Edge} {ρ : Operand → Value} {w : World} (h : datOk 65 w (ρ (.tmp x)) = true) :
    (Oper.semAt ro ρ { dst := some d, op := .load 78 (.tmp x), type := ty, pos := p, after := af, guard := none }).run Tryz.prog w = .ok (.value (.agg (datOf 65 w (ρ (.tmp x))).toArray)) w := by
  rw [Oper.semAt_eq _ _ _ (by intro c h; cases h)]; exact exec_load_write h
theorem semAt_store_data {ro : Option Nat} {x y : Tmp} {ty : TypeId} {p : String} {af : Array Edge} {ρ : Operand → Value} {w : World} (h : thereOk 64 w (ρ (.tmp x)) = true) (h1 : aggOk 64 (ρ (.tmp y)) = true) :
    (Oper.semAt ro ρ { dst := none, op := .store 34 (.tmp x) (.tmp y), type := ty, pos := p, after := af, guard := none }).run Tryz.prog w = .ok .skip (putAt w (ρ (.tmp x)) (ρ (.tmp y)).cells) := by
  rw [Oper.semAt_eq _ _ _ (by intro c h; cases h)]; exact exec_store_data h h1
theorem semAt_store_write {ro : Option Nat} {x y : Tmp} {ty : TypeId} {p : String} {af : Array Edge} {ρ : Operand → Value} {w : World} (h : thereOk 65 w (ρ (.tmp x)) = true) (h1 : aggOk 65 (ρ (.tmp y)) = true) :
    (Oper.semAt ro ρ { dst := none, op := .store 78 (.tmp x) (.tmp y), type := ty, pos := p, after := af, guard := none }).run Tryz.prog w = .ok .skip (putAt w (ρ (.tmp x)) (ρ (.tmp y)).cells) := by
  rw [Oper.semAt_eq _ _ _ (by intro c h; cases h)]; exact exec_store_write h h1
/-- a disk's block of noughts, many times -/
theorem made_zero (n : Nat) : (madeCells z64 (n * 64)).toList = lasC (List.replicate n zeroD) := by
  have h1 : ∀ v ∈ lasC (List.replicate n zeroD), v = .int .u8 0 := by
    intro v hv
    unfold lasC at hv
    simp only [List.map_replicate, List.mem_flatten, List.mem_replicate] at hv
    obtain ⟨l, ⟨_, rfl⟩, hv⟩ := hv
    obtain ⟨b, hb, rfl⟩ := List.mem_map.1 hv
    have := List.eq_of_mem_replicate hb
    subst this; rfl
  have h2 : (lasC (List.replicate n zeroD)).length = n * 64 := by
    unfold lasC
    rw [flat_len dC 64 _ (fun y hy => by rw [List.eq_of_mem_replicate hy]; rfl), List.length_replicate]
  rw [List.eq_replicate_of_mem h1, h2]
  refine List.eq_replicate_iff.2 ⟨by simp [madeCells], fun v hv => ?_⟩
  simp only [madeCells, Array.toList_map, List.mem_map] at hv
  obtain ⟨k, _, rfl⟩ := hv
  have hz : ∀ j, j < 64 → z64[j]! = .int .u8 0 := fun j hj => by
    unfold z64
    rw [getElem!_pos _ j (by simpa using hj)]; simp only [List.getElem_toArray, List.getElem_replicate]
  exact hz _ (Nat.mod_lt _ (by decide))
end Go.Proofs.YtonmppchbdffcaaGreat
