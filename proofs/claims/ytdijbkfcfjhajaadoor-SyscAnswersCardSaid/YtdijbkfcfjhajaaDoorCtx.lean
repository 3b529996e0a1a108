/- A context (17 words) as one value that nobody opens: its cells, one of them set, two compared. -/
import Derived.Test.YtdijbkfcfjhajaaDoorLaws
import Derived.Test.YtdijbkfcfjhajaaDoorProg
import Derived.DeepKeys
import Derived.ChangeKeysEq
import Derived.KernelRfl
import Derived.BigFrame
namespace Go.Proofs.YtdijbkfcfjhajaaDoor
open Go Go.RowKit
set_option maxRecDepth 100000

/-- two structs compared: by a fact on the comparison, whatever they hold -/
theorem wpList_eql_agg {P : Program} {ops : Array Oper} {rest : List Oper} {o : Oper} {a : Act} {w : World} {Q : Exit → Act → World → Prop} (hw : Region.wanted o (yielded ops a.tmps) = true) (t t' : TypeId) (x y : Operand) (ho : o.op = .binOp .eql t x y t')
    (cs ds : Array Value) (hx : a.eval x = .agg cs) (hy : a.eval y = .agg ds) (hg : P.eqGuardType P.depth t = false) (r : Bool) (hr : ∀ w, (Op.equalIn 10000 t (.agg cs) (.agg ds)).run P w = .ok r w)
    (h : wpList P ops Q rest (a.put o.dst (.bool r)) w) : wpList P ops Q (o :: rest) a w :=
  BigFrame.wpList_want hw fun K hK => by
    unfold Oper.wp execOp
    simp only [ho, hx, hy, Sem.run_bind, run_eqGuard_agg w .eql t x y cs ds hg, Result.andThen_ok, run_eql_struct, hr]
    exact hK _ _ h

/-- a whole struct read, guarded or not -/
theorem wpList_load_rowG {P : Program} {ops : Array Oper} {rest : List Oper} {o : Oper} {a : Act} {w : World} {Q : Exit → Act → World → Prop} (hw : Region.wanted o (yielded ops a.tmps) = true) (ty : TypeId) (x : Operand) (ho : o.op = .load ty x)
    (g : Nat) (hx : a.eval x = .pointer (some ⟨g, 0, none⟩)) (t : TypeId) (cs : Array Value) (fr : Nat × Nat) (d : TypeDesc) (hg : w.heap[g]? = some (.cells cs t fr))
    (hu : P.underlying ty = some d) (hd : (match d with | .struct _ | .array _ _ => true | _ => false) = true) (hi : (P.info? ty).map (·.size) = some cs.size)
    (h : wpList P ops Q rest (a.put o.dst (.agg cs)) w) : wpList P ops Q (o :: rest) a w :=
  BigFrame.wpList_want hw fun _ hK => wp_load_row ty x ho g hx t cs fr d hg hu hd hi (hK _ _ h)

def ctxArr (g : Nat → Int) : Array Value := #[.int .u32 (g 0), .int .u32 (g 1), .int .u32 (g 2), .int .u32 (g 3), .int .u32 (g 4), .int .u32 (g 5), .int .u32 (g 6), .int .u32 (g 7), .int .u32 (g 8), .int .u32 (g 9), .int .u32 (g 10), .int .u32 (g 11), .int .u32 (g 12), .int .u32 (g 13), .int .u32 (g 14), .int .u32 (g 15), .int .u32 (g 16)]
theorem ctxArr_eq (g : Nat → Int) : ctxArr g = ((List.range 17).map fun i => Value.int .u32 (g i)).toArray := rfl
theorem ctxArr_size (g : Nat → Int) : (ctxArr g).size = 17 := rfl
theorem ctxArr_one (g : Nat → Int) : (ctxArr g).all (·.oneCell') = true := by kernel_rfl
theorem ctxArr_at (g : Nat → Int) (i : Nat) (h : i < 17) : (ctxArr g)[i]? = some (.int .u32 (g i)) := by
  rw [ctxArr_eq]; simp [h]
def gset (g : Nat → Int) (i : Nat) (v : Int) : Nat → Int := fun j => if j = i then v else g j
theorem ctxArr_set (g : Nat → Int) (i : Nat) (v : Int) (h : i < 17) : (ctxArr g).setIfInBounds i (.int .u32 v) = ctxArr (gset g i v) := by
  apply Array.ext_getElem?
  intro j
  rw [Array.getElem?_setIfInBounds]
  by_cases hj : j < 17
  · rw [ctxArr_at _ j hj]
    by_cases e : i = j
    · subst e; rw [if_pos rfl, if_pos (by rw [ctxArr_size]; exact h), ctxArr_at _ i h]; simp [gset]
    · rw [if_neg e, ctxArr_at _ j hj]; simp [gset, Ne.symm e]
  · have h1 : (ctxArr g)[j]? = none := Array.getElem?_eq_none (by rw [ctxArr_size]; omega)
    have h2 : (ctxArr (gset g i v))[j]? = none := Array.getElem?_eq_none (by rw [ctxArr_size]; omega)
    rw [if_neg (by omega), h1, h2]

def regArr (g : Nat → Int) : Array Value := #[.int .u32 (g 0), .int .u32 (g 1), .int .u32 (g 2), .int .u32 (g 3), .int .u32 (g 4), .int .u32 (g 5), .int .u32 (g 6), .int .u32 (g 7), .int .u32 (g 8), .int .u32 (g 9), .int .u32 (g 10), .int .u32 (g 11), .int .u32 (g 12), .int .u32 (g 13), .int .u32 (g 14), .int .u32 (g 15)]
theorem regArr_at (g : Nat → Int) (i : Nat) (h : i < 16) : (regArr g)[i]? = some (.int .u32 (g i)) := by
  rw [show regArr g = ((List.range 16).map fun i => Value.int .u32 (g i)).toArray from rfl]; simp [h]

theorem eqItems_same {P : Program} {e : TypeId} (he : P.underlying e = some (.int .u32)) (w : World) (d : Nat) (xs : Array Value) : ∀ (is : List Nat), (∀ i ∈ is, ∃ n, xs[i]? = some (.int .u32 n)) →
    (Op.eqItems (d + 1) e 1 xs xs is).run P w = .ok true w := by
  intro is
  induction is with
  | nil => intro _; simp [Op.eqItems]
  | cons i is ih =>
    intro h
    obtain ⟨n, hn⟩ := h i (by simp)
    have px : (part e xs (i * 1)).run P w = .ok (.int .u32 n) w := by simp [part, isAgg, run_underlying he, hn]
    simp only [Op.eqItems, Sem.run_bind, px, Result.andThen_ok, run_equalIn_int w d e .u32 .u32 n n he]
    simp [ih fun j hj => h j (by simp [hj])]

theorem infoOf : ∃ i, Tryd.prog.info? 22 = some i := info_of_underlying Tryd.underlying22
theorem part_regs (g : Nat → Int) (w : World) : (part 35 (ctxArr g) 0).run Tryd.prog w = .ok (.agg (regArr g)) w := by kernel_rfl
theorem part_pc (g : Nat → Int) (w : World) : (part 22 (ctxArr g) 16).run Tryd.prog w = .ok (.int .u32 (g 16)) w := by kernel_rfl
theorem regs_same (g : Nat → Int) (w : World) (d : Nat) : (Op.equalIn (d + 2) 35 (.agg (regArr g)) (.agg (regArr g))).run Tryd.prog w = .ok true w := by
  obtain ⟨i, hi⟩ := infoOf
  rw [run_equalIn_array w (d + 1) _ _ Tryd.underlying35 hi, show Tryd.prog.cellsOf 22 = 1 by kernel_rfl]
  exact eqItems_same Tryd.underlying22 w d _ _ fun j hj => ⟨_, regArr_at g j (by simpa using hj)⟩
theorem eqFields_cons {P : Program} (w : World) (d : Nat) (xs ys : Array Value) (f : Field) (fs : List Field) (a b : Value) (hn : (f.name == "_") = false) (ha : (part f.type xs f.offset).run P w = .ok a w) (hb : (part f.type ys f.offset).run P w = .ok b w)
    (he : (Op.equalIn d f.type a b).run P w = .ok true w) : (Op.eqFields d xs ys (f :: fs)).run P w = (Op.eqFields d xs ys fs).run P w := by
  have hn' : f.name ≠ "_" := by simpa using hn
  simp only [Op.eqFields, hn', ne_eq, not_false_eq_true, if_true, Sem.run_bind, ha, hb, he, Result.andThen_ok]
  simp

theorem ctx_same (g : Nat → Int) (w : World) : (Op.equalIn 10000 37 (.agg (ctxArr g)) (.agg (ctxArr g))).run Tryd.prog w = .ok true w := by
  rw [run_equalIn_struct w 9999 _ _ _ (by kernel_rfl) (by kernel_rfl)]
  have hf : (Tryd.prog.fieldsOf 37).toList.map (fun f => (f.name == "_", f.type, f.offset)) = [(false, 35, 0), (false, 22, 16)] := by kernel_rfl
  generalize (Tryd.prog.fieldsOf 37).toList = fs at hf
  obtain ⟨f0, r0, rfl, h0, hr⟩ := List.map_eq_cons_iff.1 hf
  obtain ⟨f1, r1, rfl, h1, hr⟩ := List.map_eq_cons_iff.1 hr
  obtain rfl := List.map_eq_nil_iff.1 hr
  simp only [Prod.mk.injEq] at h0 h1
  obtain ⟨⟨n0, t0, o0⟩, n1, t1, o1⟩ := And.intro h0 h1
  rw [eqFields_cons w 9999 _ _ f0 [f1] _ _ n0 (by rw [t0, o0]; exact part_regs g w) (by rw [t0, o0]; exact part_regs g w) (by rw [t0]; exact regs_same g w 9997)]
  rw [eqFields_cons w 9999 _ _ f1 [] _ _ n1 (by rw [t1, o1]; exact part_pc g w) (by rw [t1, o1]; exact part_pc g w) (by rw [t1, run_equalIn_int w 9998 22 .u32 .u32 (g 16) (g 16) Tryd.underlying22]; simp)]
  simp [Op.eqFields]
end Go.Proofs.YtdijbkfcfjhajaaDoor
