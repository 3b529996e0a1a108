/- Rules: Puts built of literals. -/
import Derived.Test.YtkfmdkbiglkjpaaGreatL28Awk
namespace Go.Proofs.YtkfmdkbiglkjpaaGreat
open Go Go.RowKit Go.Lib
set_option maxRecDepth 100000

def z63 : Array Value := (List.replicate 63 (Value.int .u8 0)).toArray
def oneZ (v : Value) : Value := .agg (v.cells ++ z63)
theorem oneZ_int (c : UInt8) : oneZ (.int .u8 (c.toNat : Int)) = .agg (dC (one c)).toArray := by
  have hz : z63 = (dC (List.replicate 63 0)).toArray := by simp [z63, dC]
  have hc : (Value.int .u8 (c.toNat : Int)).cells = #[.int .u8 (c.toNat : Int)] := rfl
  unfold oneZ
  rw [hz, hc]
  have : ∀ l : List Value, #[Value.int .u8 (c.toNat : Int)] ++ l.toArray = (Value.int .u8 (c.toNat : Int) :: l).toArray := fun l => by simp
  rw [this]
  rfl
set_option maxHeartbeats 1600000 in
theorem build_one (u : Value) (hu : u.cells.size = 1) (w : World) :
    (Instr.build 49 #[(0, u)]).run Tryz.prog w = .ok (oneZ u) w := by
  obtain ⟨c, hc⟩ : ∃ c, u.cells = #[c] := Array.size_eq_one_iff.1 hu
  have hs5 := Tryz.sizeOf5
  have hz : z64.size = 64 := rfl
  have hzc : (Value.agg z64).cells = z64 := rfl
  have hne : z64 ≠ #[] := fun h => by have h := congrArg Array.size h; rw [hz] at h; cases h
  have hzz : z64 = #[.int .u8 0] ++ z63 := by kernel_rfl
  unfold Instr.build oneZ
  rw [hc]
  have hdz := data_zero w
  generalize z64 = ZZ at *
  rw [Sem.run_bind, hdz]
  simp [Sem.run_bind, run_underlying Tryz.underlying49, hs5, Instr.fill, hz, hc, hzc, hne]
  rw [hzz]
  refine Array.ext_getElem? fun k => ?_
  rcases k with _ | k
  · simp [Array.getElem?_append]
  · rw [Array.getElem?_setIfInBounds_ne (by omega), Array.getElem?_append_right (by simp), Array.getElem?_append_right (by simp)]; rfl
theorem exec_build_one {d : Tmp} {v : Value} {ty : TypeId} {p : String} {af : Array Edge} {gd : Option (Tmp × Bool)} {ρ : Operand → Value} {w : World} (hv : ρ (.const v) = v) (hu : v.cells.size = 1) :
    (execOp ρ { dst := some d, op := .build 49 #[(0, .const v)], type := ty, pos := p, after := af, guard := gd }).run Tryz.prog w = .ok (.value (oneZ v)) w := by
  unfold execOp
  have h := build_one v hu w
  simp [h, hv]
theorem exec_bput_c {d y : Tmp} {v : Value} {ty : TypeId} {p : String} {af : Array Edge} {ρ : Operand → Value} {w : World} (hv : ρ (.const v) = v) (hu : v.cells.size = 1) (hy' : datLen (ρ (.tmp y)) = true) :
    (execOp ρ { dst := some d, op := .build 60 #[(0, .const v), (1, .tmp y)], type := ty, pos := p, after := af, guard := none }).run Tryz.prog w = .ok (.value (.agg (v.cells ++ (ρ (.tmp y)).cells))) w := by
  have hy : (ρ (.tmp y)).cells.size = 64 := by simpa [datLen] using hy'
  unfold execOp
  have h := build_put_v _ _ hu hy w
  simp [h, hv]
theorem ov_size (A cs : Array Value) (n : Nat) (hn : n = A.size) : (Array.foldl (fun cs (x : Value × Nat) => cs.setIfInBounds x.2 x.1) cs A.zipIdx 0 n).size = cs.size := by
  have h1 : n = A.zipIdx.size := by simp [hn]
  subst h1
  have := overlay_size 0 A.zipIdx.toList cs
  rw [← Array.foldl_toList]
  simpa using this
theorem bslice2 (B C : Array Value) (hB : B.size = 65) (hC : C.size = 65) (w : World) :
    (Instr.buildSlice 34 2 #[(0, .agg B), (1, .agg C)]).run Tryz.prog w = .ok (.slice (some ⟨w.heap.size, 0, none⟩) 2 2) (w.alloc (.cells (B ++ C) 60)) := by
  have hu := Tryz.underlying34
  have hd := put_sizeOf w
  unfold Instr.buildSlice
  have hov := fun cs => ov_size B cs 65 hB.symm
  simp [Sem.run_bind, put_zero, run_underlying hu, hd, Instr.fill, Value.cells, hB, hC, newRow, hov]
  congr 2
  refine Array.ext_getElem? fun k => ?_
  rw [overlay_arr 65 65 C _ k ?h1 hC.symm]
  case h1 => rw [hC, hov]; simp
  have h2 := overlay_arr 0 65 B (Array.map (fun x => Tryz.zeroCells60[x % 65]!) (Array.range 130)) k (by simp; omega) hB.symm
  simp only [Nat.zero_add] at h2
  rw [h2]
  by_cases hk : k < 65
  · rw [if_neg (by omega), if_pos (by omega), Array.getElem?_append_left (by omega)]; rfl
  · rw [Array.getElem?_append_right (by omega), hB]
    by_cases hk2 : k < 130
    · rw [if_pos (by omega)]
    · rw [if_neg (by omega), if_neg (by omega)]
      have e1 : C[k - 65]? = none := by simp; omega
      rw [e1]
      simp; omega
theorem wp_bput2 {d x y : Tmp} {ty : TypeId} {p : String} {af : Array Edge} {a : Act} {w : World} {K : Act → World → Prop} {Q : Exit → Act → World → Prop} (hx : wrLen (a.eval (.tmp x)) = true) (hy : wrLen (a.eval (.tmp y)) = true) :
    Oper.wp Tryz.prog { dst := some d, op := .buildSlice 34 2 #[(0, .tmp x), (1, .tmp y)], type := ty, pos := p, after := af, guard := none } a w K Q = K (a.put (some d) (.slice (some ⟨w.heap.size, 0, none⟩) 2 2)) (w.alloc (.cells ((a.eval (.tmp x)).cells ++ (a.eval (.tmp y)).cells) 60)) := by
  have hx : (a.eval (.tmp x)).cells.size = 65 := by simpa [wrLen] using hx
  have hy : (a.eval (.tmp y)).cells.size = 65 := by simpa [wrLen] using hy
  have h : (Instr.buildSlice 34 2 #[(0, a.eval (.tmp x)), (1, a.eval (.tmp y))]).run Tryz.prog w = .ok (.slice (some ⟨w.heap.size, 0, none⟩) 2 2) (w.alloc (.cells ((a.eval (.tmp x)).cells ++ (a.eval (.tmp y)).cells) 60)) := by
    have h := bslice2 _ _ hx hy w
    unfold Instr.buildSlice Instr.fill at h ⊢
    exact h
  unfold Oper.wp execOp
  simp [h, Oper.upon]
theorem wp_build_one {d : Tmp} {v : Value} {ty : TypeId} {p : String} {af : Array Edge} {a : Act} {w : World} {K : Act → World → Prop} {Q : Exit → Act → World → Prop} (hu : v.cells.size = 1) :
    Oper.wp Tryz.prog { dst := some d, op := .build 49 #[(0, .const v)], type := ty, pos := p, after := af, guard := none } a w K Q = K (a.put (some d) (oneZ v)) w := by
  have h := build_one v hu w
  have he : a.eval (.const v) = v := rfl
  unfold Oper.wp execOp
  simp [h, he, Oper.upon]
theorem wp_bput_c {d y : Tmp} {v : Value} {ty : TypeId} {p : String} {af : Array Edge} {a : Act} {w : World} {K : Act → World → Prop} {Q : Exit → Act → World → Prop} (hu : v.cells.size = 1) (hy' : datLen (a.eval (.tmp y)) = true) :
    Oper.wp Tryz.prog { dst := some d, op := .build 60 #[(0, .const v), (1, .tmp y)], type := ty, pos := p, after := af, guard := none } a w K Q = K (a.put (some d) (.agg (v.cells ++ (a.eval (.tmp y)).cells))) w := by
  have hy : (a.eval (.tmp y)).cells.size = 64 := by simpa [datLen] using hy'
  have h := build_put_v _ _ hu hy w
  have he : a.eval (.const v) = v := rfl
  unfold Oper.wp execOp
  simp [h, he, Oper.upon]
end Go.Proofs.YtkfmdkbiglkjpaaGreat
