/- Rules of the walk for whole blocks, gathered for chapter 27: noughts, stores, comparisons. -/
import Derived.Test.YtonmppchbdffcaaGreatDiskPut
namespace Go.Proofs.YtonmppchbdffcaaGreat
open Go Go.RowKit Go.Lib
set_option maxRecDepth 100000

theorem results_c1 {P : Program} {fn : Func} {p : Tmp} {ty : TypeId} (h : fn.results = #[.cell p ty]) (tmps : Array Value) (w : World) (g : Nat) (t : TypeId) (cs : Array Value) (fr : Nat × Nat) (d : TypeDesc)
    (hp : tmps.getD p undef = .pointer (some ⟨g, 0, none⟩)) (hg : w.heap[g]? = some (.cells cs t fr))
    (hu : P.underlying ty = some d) (hd : (match d with | .struct _ | .array _ _ => true | _ => false) = true) (hi : (P.info? ty).map (·.size) = some cs.size) :
    (results fn tmps).run P w = .ok (.agg cs) w := by
  have hp' : tmps[p]?.getD undef = .pointer (some ⟨g, 0, none⟩) := by simpa using hp
  simp [results, h, hp', asAddr, run_loadVar_row w g t ty cs fr d hg hu hd hi]
theorem addr_add (g j : Nat) : (⟨g, 0, none⟩ : Addr).add j = ⟨g, j, none⟩ := by
  unfold Addr.add
  by_cases h : j = 0
  · simp [h]
  · simp [h]
theorem dC_set (d : Dat) (k : Nat) (x : UInt8) : (dC d).toArray.setIfInBounds k (.int .u8 (x.toNat : Int)) = (dC (d.set k x)).toArray := by
  refine Array.ext_getElem? fun i => ?_
  rw [Array.getElem?_setIfInBounds, List.getElem?_toArray, List.getElem?_toArray]
  simp only [dC, List.getElem?_map, List.getElem?_set, List.size_toArray, List.length_map]
  by_cases h : k = i
  · simp only [h, if_true]
    by_cases h2 : i < d.length <;> simp [h2]
  · simp [h]
theorem exec_build0 {d : Tmp} {ty : TypeId} {p : String} {af : Array Edge} {gd : Option (Tmp × Bool)} {ρ : Operand → Value} {w : World} :
    (execOp ρ { dst := some d, op := .build 34 #[], type := ty, pos := p, after := af, guard := gd }).run Tryz.prog w = .ok (.value (.agg (dC zeroD).toArray)) w := by
  have hz : z64 = (dC zeroD).toArray := by simp [z64, dC, zeroD]
  unfold execOp
  have h : (Instr.build 34 #[]).run Tryz.prog w = .ok (.agg (dC zeroD).toArray) w := by
    unfold Instr.build
    rw [← hz]
    simp [Sem.run_bind, data_zero, run_underlying Tryz.underlying34, Instr.fill, Value.cells]
    rfl
  simp [h]
/-- a rule for the walk: a block of noughts is laid, unopened -/
theorem exec_alloc_data {d : Tmp} {ty : TypeId} {p : String} {af : Array Edge} {gd : Option (Tmp × Bool)} {ρ : Operand → Value} {w : World} :
    (execOp ρ { dst := some d, op := .alloc 34, type := ty, pos := p, after := af, guard := gd }).run Tryz.prog w = .ok (.value (.pointer (some ⟨w.heap.size, 0, none⟩))) (w.alloc (.cells z64 34)) := by
  unfold execOp
  simp [Instr.alloc, newVar, newRow, data_zero, Value.cells]
  rfl
theorem b64_size : (Tryz.prog.info? 33).map (·.size) = some 64 := by kernel_rfl
theorem exec_load_b64 {d x : Tmp} {ty : TypeId} {p : String} {af : Array Edge} {ρ : Operand → Value} {w : World} (h : datOk 64 w (ρ (.tmp x)) = true) :
    (execOp ρ { dst := some d, op := .load 33 (.tmp x), type := ty, pos := p, after := af, guard := none }).run Tryz.prog w = .ok (.value (.agg (datOf 64 w (ρ (.tmp x))).toArray)) w := by
  obtain ⟨b, o, hv, hr⟩ := dat_ok h
  have hl := datOf_len h
  unfold execOp
  rw [hv] at hr hl ⊢
  have h1 := run_loadAt_mid (P := Tryz.prog) w b o 33 _ _ hr Tryz.underlying33 rfl (by rw [b64_size, hl])
  simp [hv, h1]
theorem b64_zero (w : World) : (zeroValue 33).run Tryz.prog w = .ok (.agg z64) w := (zero_of_info (n := 64) (by kernel_rfl)).1 w
theorem exec_alloc_b64 {d : Tmp} {ty : TypeId} {p : String} {af : Array Edge} {gd : Option (Tmp × Bool)} {ρ : Operand → Value} {w : World} :
    (execOp ρ { dst := some d, op := .alloc 33, type := ty, pos := p, after := af, guard := gd }).run Tryz.prog w = .ok (.value (.pointer (some ⟨w.heap.size, 0, none⟩))) (w.alloc (.cells z64 33)) := by
  unfold execOp
  simp [Instr.alloc, newVar, newRow, b64_zero, Value.cells]
  rfl
theorem exec_build0_b64 {d : Tmp} {ty : TypeId} {p : String} {af : Array Edge} {gd : Option (Tmp × Bool)} {ρ : Operand → Value} {w : World} :
    (execOp ρ { dst := some d, op := .build 33 #[], type := ty, pos := p, after := af, guard := gd }).run Tryz.prog w = .ok (.value (.agg (dC zeroD).toArray)) w := by
  have hz : z64 = (dC zeroD).toArray := by simp [z64, dC, zeroD]
  unfold execOp
  have h : (Instr.build 33 #[]).run Tryz.prog w = .ok (.agg (dC zeroD).toArray) w := by
    unfold Instr.build
    rw [← hz]
    simp [Sem.run_bind, b64_zero, run_underlying Tryz.underlying33, Instr.fill, Value.cells]
    rfl
  simp [h]
theorem exec_store_b64 {x y : Tmp} {ty : TypeId} {p : String} {af : Array Edge} {ρ : Operand → Value} {w : World} (h : thereOk 64 w (ρ (.tmp x)) = true) (h1 : aggOk 64 (ρ (.tmp y)) = true) :
    (execOp ρ { dst := none, op := .store 33 (.tmp x) (.tmp y), type := ty, pos := p, after := af, guard := none }).run Tryz.prog w = .ok .skip (putAt w (ρ (.tmp x)) (ρ (.tmp y)).cells) := by
  obtain ⟨b, o, hv, ht⟩ := there_ok h
  cases hy : ρ (.tmp y) with
  | agg cs =>
    rw [hy] at h1
    simp only [aggOk, Bool.and_eq_true, decide_eq_true_eq] at h1
    unfold execOp
    have h2 := run_storeAt_mid (P := Tryz.prog) w b o 33 cs (by rw [h1.1]; exact ht) (by rw [b64_size, h1.1]) h1.2
    simp [hv, hy, h2, putAt, Value.cells]
  | _ => rw [hy] at h1; cases h1
/-! ## two blocks compared -/
/-- a block of bytes -/
def isDat (v : Value) : Bool :=
  match v with
  | .agg cs => decide (cs.size = 64) && cs.all fun c => match c with | .int .u8 _ => true | _ => false
  | _ => false
/-- a cell's number -/
def cellInt : Value → Int
  | .int _ a => a
  | _ => 0
/-- the same block -/
def datEq (u v : Value) : Bool := u.cells.toList.map cellInt == v.cells.toList.map cellInt
theorem isDat_dC {d : Dat} (h : d.length = 64) : isDat (.agg (dC d).toArray) = true := by
  simp only [isDat, Bool.and_eq_true, decide_eq_true_eq, List.size_toArray, dC_len, h, true_and, and_true]
  rw [List.all_toArray' (by simp [dC_len, h]), List.all_eq_true]
  intro v hv
  obtain ⟨b, _, rfl⟩ := List.mem_map.1 hv
  rfl
theorem datEq_dC (d e : Dat) : datEq (.agg (dC d).toArray) (.agg (dC e).toArray) = decide (d = e) := by
  simp only [datEq, Value.cells, dC, List.map_map, Function.comp_def]
  refine Bool.eq_iff_iff.2 ?_
  rw [beq_iff_eq, decide_eq_true_iff]
  constructor
  · intro h
    have h2 : ∀ (d e : Dat), d.map (fun b => (b.toNat : Int)) = e.map (fun b => (b.toNat : Int)) → d = e := by
      intro d
      induction d with
      | nil => intro e h; cases e with | nil => rfl | cons => cases h
      | cons a d ih =>
        intro e h
        cases e with
        | nil => cases h
        | cons b e =>
          simp only [List.map_cons, List.cons.injEq] at h
          rw [ih e h.2, UInt8.toNat_inj.1 (by exact_mod_cast h.1 : a.toNat = b.toNat)]
    exact h2 d e h
  · rintro rfl; rfl
theorem eq_loop {P : Program} (w : World) (g : Nat → Option Bool × PUnit → Sem (ForInStep (Option Bool × PUnit))) (f : Nat → Bool) : ∀ (l : List Nat) (b : Bool), (∀ i ∈ l, ∀ s, (g i s).run P w = .ok (if f i = true then .yield (none, PUnit.unit) else .done (some false, PUnit.unit)) w) → l.all f = b →
    (forIn l (none, PUnit.unit) g : Sem (Option Bool × PUnit)).run P w = .ok (cond b none (some false), PUnit.unit) w
  | [], b, _, hb => by subst hb; simp
  | i :: l, b, h, hb => by
    have ih := eq_loop w g f l _ (fun j hj => h j (by simp [hj])) rfl
    simp only [List.all_cons] at hb
    simp only [List.forIn_cons, Sem.run_bind, h i (by simp), Result.andThen_ok]
    by_cases hf : f i = true
    · rw [hf, Bool.true_and] at hb
      simp only [hf, if_true]; rw [← hb]; exact ih
    · simp only [Bool.not_eq_true] at hf
      rw [hf, Bool.false_and] at hb
      subst hb
      simp [hf]
theorem run_equal_data (w : World) (u v : Value) (hu : isDat u = true) (hv : isDat v = true) (n : Nat) : (Op.equalIn (n + 2) 34 u v).run Tryz.prog w = .ok (datEq u v) w := by
  cases u with
  | agg xs =>
    cases v with
    | agg ys =>
      simp only [isDat, Bool.and_eq_true, decide_eq_true_eq] at hu hv
      have hel : ∀ (zs : Array Value), zs.size = 64 → (zs.all fun c => match c with | .int .u8 _ => true | _ => false) = true → ∀ i, i < 64 → ∃ a : Int, zs[i]? = some (.int .u8 a) := by
        intro zs hz ha i hi
        have h1 := Array.all_eq_true.1 ha i (by omega)
        rw [Array.getElem?_eq_getElem (by omega)]
        generalize zs[i] = c at h1
        split at h1
        · exact ⟨_, rfl⟩
        · cases h1
      have hx := hel xs hu.1 hu.2
      have hy := hel ys hv.1 hv.2
      have hs := Tryz.sizeOf5
      have hall : ((List.range' 0 64).all fun i => xs[i]?.map cellInt == ys[i]?.map cellInt) = datEq (.agg xs) (.agg ys) := by
        refine Bool.eq_iff_iff.2 ?_
        simp only [List.all_eq_true, datEq, beq_iff_eq, Value.cells]
        constructor
        · intro h
          refine List.ext_getElem? fun k => ?_
          by_cases hk : k < 64
          · have := h k (by simpa using hk)
            simpa using this
          · rw [List.getElem?_eq_none (by simp; omega), List.getElem?_eq_none (by simp; omega)]
        · intro h k hk
          have := congrArg (·[k]?) h
          simpa using this
      unfold Op.equalIn
      simp only [Sem.run_bind, run_underlying Tryz.underlying34, hs, Result.andThen_ok]
      rw [Std.Legacy.Range.forIn_eq_forIn_range']
      have hr : List.range' ([:64] : Std.Legacy.Range).start ([:64] : Std.Legacy.Range).size ([:64] : Std.Legacy.Range).step = List.range' 0 64 := rfl
      rw [hr]
      rw [eq_loop w _ (fun i => xs[i]?.map cellInt == ys[i]?.map cellInt) _ _ ?hg hall]
      case hg =>
        intro i hi s
        have hi : i < 64 := by simpa using hi
        obtain ⟨a, ha⟩ := hx i hi
        obtain ⟨b, hb⟩ := hy i hi
        have h1 := run_equalIn_int (P := Tryz.prog) w n 5 .u8 .u8 a b Tryz.underlying5
        simp [part, isAgg, run_underlying Tryz.underlying5, ha, hb, cellInt, h1]
        by_cases hab : a = b <;> simp [hab]
      cases datEq (.agg xs) (.agg ys) <;> rfl
    | _ => cases hv
  | _ => cases hu
/-- a rule for the walk: two blocks compared -/
theorem exec_neq_data {d x y : Tmp} {ty : TypeId} {p : String} {af : Array Edge} {gd : Option (Tmp × Bool)} {ρ : Operand → Value} {w : World} (hu : isDat (ρ (.tmp x)) = true) (hv : isDat (ρ (.tmp y)) = true) :
    (execOp ρ { dst := some d, op := .binOp .neq 34 (.tmp x) (.tmp y) 34, type := ty, pos := p, after := af, guard := gd }).run Tryz.prog w = .ok (.value (.bool (!(datEq (ρ (.tmp x)) (ρ (.tmp y)))))) w := by
  have h1 := run_equal_data w _ _ hu hv 9998
  have hgt : Tryz.prog.eqGuardType Tryz.prog.depth 34 = false := by kernel_rfl
  have hgd : ∀ (X Y : Operand) (xs ys : Array Value), (eqGuard .neq 34 X Y (.agg xs) (.agg ys)).run Tryz.prog w = .ok () w := fun X Y xs ys => by simp [eqGuard, hgt]
  unfold execOp
  cases hx : ρ (.tmp x) with
  | agg xs =>
    cases hy : ρ (.tmp y) with
    | agg ys =>
      rw [hx, hy] at h1
      simp [hx, hy, hgd, run_neq_struct, h1]
    | _ => rw [hy] at hv; cases hv
  | _ => rw [hx] at hu; cases hu
/-- a rule for the walk: two blocks compared (==) -/
theorem exec_eql_data {d x y : Tmp} {ty : TypeId} {p : String} {af : Array Edge} {gd : Option (Tmp × Bool)} {ρ : Operand → Value} {w : World} (hu : isDat (ρ (.tmp x)) = true) (hv : isDat (ρ (.tmp y)) = true) :
    (execOp ρ { dst := some d, op := .binOp .eql 34 (.tmp x) (.tmp y) 34, type := ty, pos := p, after := af, guard := gd }).run Tryz.prog w = .ok (.value (.bool (datEq (ρ (.tmp x)) (ρ (.tmp y))))) w := by
  have h1 := run_equal_data w _ _ hu hv 9998
  have hgt : Tryz.prog.eqGuardType Tryz.prog.depth 34 = false := by kernel_rfl
  have hgd : ∀ (X Y : Operand) (xs ys : Array Value), (eqGuard .eql 34 X Y (.agg xs) (.agg ys)).run Tryz.prog w = .ok () w := fun X Y xs ys => by simp [eqGuard, hgt]
  unfold execOp
  cases hx : ρ (.tmp x) with
  | agg xs =>
    cases hy : ρ (.tmp y) with
    | agg ys =>
      rw [hx, hy] at h1
      simp [hx, hy, hgd, run_eql_struct, h1]
    | _ => rw [hy] at hv; cases hv
  | _ => rw [hx] at hu; cases hu
end Go.Proofs.YtonmppchbdffcaaGreat
