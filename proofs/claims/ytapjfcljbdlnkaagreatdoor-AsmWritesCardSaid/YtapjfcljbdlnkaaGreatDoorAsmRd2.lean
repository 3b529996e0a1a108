/- asm.reader: a line more; a label more; what else stands. -/
import Derived.Test.YtapjfcljbdlnkaaGreatDoorAsmRd
import Derived.Test.YtapjfcljbdlnkaaGreatDoorRoundRegion
namespace Go.Proofs.YtapjfcljbdlnkaaGreatDoor
open Go Go.RowKit Go.Lib
set_option maxRecDepth 100000

/-- below n₀ all stands, and of block b the first 28 cells -/
structure FrB (n₀ b : Nat) (W W' : World) : Prop where
  below : Below n₀ W W'
  tab : ∀ j, j < 28 → W'.cell? ⟨b, j, none⟩ = W.cell? ⟨b, j, none⟩ ∧ W'.frozen? ⟨b, j, none⟩ = W.frozen? ⟨b, j, none⟩
theorem FrB.refl (n₀ b : Nat) (W : World) : FrB n₀ b W W := ⟨Below.refl _ _, fun _ _ => ⟨rfl, rfl⟩⟩
theorem FrB.trans {n₀ b : Nat} {X Y Z : World} (h : FrB n₀ b X Y) (k : FrB n₀ b Y Z) : FrB n₀ b X Z := ⟨h.below.trans k.below, fun j hj => ⟨(k.tab j hj).1.trans (h.tab j hj).1, (k.tab j hj).2.trans (h.tab j hj).2⟩⟩
theorem FrB.of_block {n₀ b : Nat} {W W' : World} (h : Below n₀ W W') (hb : W'.heap[b]? = W.heap[b]?) : FrB n₀ b W W' := ⟨h, fun j _ => ⟨World.cell?_of_block (a := ⟨b, j, none⟩) hb, World.frozen?_of_block (a := ⟨b, j, none⟩) hb⟩⟩
theorem FrB.of_below {n₀ b : Nat} {W W' : World} (h : Below W.heap.size W W') (hn : n₀ ≤ W.heap.size) (hb : b < W.heap.size) : FrB n₀ b W W' := .of_block (h.mono hn) (h.block b hb)
theorem FrB.setCell {n₀ b B i : Nat} (W : World) (v : Value) (hB : n₀ ≤ B) (hne : B ≠ b) : FrB n₀ b W (W.setCell ⟨B, i, none⟩ v) := .of_block ((Below.refl _ _).setCell hB v) (heap_setCell_other _ _ _ _ (by simpa using Ne.symm hne))
theorem FrB.drew (n₀ b : Nat) (W : World) : FrB n₀ b W W.drew := ⟨(Below.refl _ _).drew, fun _ _ => ⟨rfl, rfl⟩⟩

theorem line_info : (Tryz.prog.info? 58).map (fun i => (i.zero, i.size, i.bytes)) = some (some (.agg #[.slice none 0 0, .int .i64 0]), 2, 32) := by kernel_rfl

/-- behind 'r.lines = append(r.lines, line{parts, at})': V the world ahead, w1 behind the append -/
theorem rd_append {V w1 : World} {n₀ lo b m A cap0 g cap : Nat} {labs : List (List UInt8 × Nat)} {lines : List (List (List UInt8) × Nat)} {ad : Option Addr} {L : List (Value × List (List UInt8) × Nat)} {pv : Value} {ps : List (List UInt8)}
    (h : RdAt V lo b m labs lines) (hn : n₀ ≤ b) (hnl : n₀ ≤ lo) (hv : V.cell? ⟨b, 29, none⟩ = some (.slice ad lines.length cap0)) (hL : L.map (·.2) = lines)
    (hr : V.ownsRow lo 58 2 (.slice ad lines.length cap0) lines.length (L.flatMap fun x => [x.1, .int .i64 (x.2.2 : Int)])) (hP : ∀ x ∈ L, PartsIn V lo x.1 x.2.1) (hp : PartsIn V lo pv ps)
    (hown : w1.ownsRow lo 58 2 (.slice (some ⟨g, 0, none⟩) (lines.length + 1) cap) (lines.length + 1) ((L.flatMap fun x => [x.1, .int .i64 (x.2.2 : Int)]) ++ [pv, .int .i64 (A : Int)]))
    (hg : (V.drew.alloc (.cells #[pv, .int .i64 (A : Int)] 58)).grownBy w1 (Value.slice ad lines.length cap0).ownBlock) :
    w1.cell? ⟨b, 29, none⟩ = some (.slice ad lines.length cap0) ∧ w1.frozen? ⟨b, 29, none⟩ = false ∧
      RdAt (w1.setCell ⟨b, 29, none⟩ (.slice (some ⟨g, 0, none⟩) (lines.length + 1) cap)) lo b m labs (lines ++ [(ps, A)]) ∧
      FrB n₀ b V (w1.setCell ⟨b, 29, none⟩ (.slice (some ⟨g, 0, none⟩) (lines.length + 1) cap)) ∧
      (∀ k, k < V.heap.size → k ≠ b → (k < lo ∨ ∀ cs, V.heap[k]? ≠ some (.cells cs 58 (0, 0))) → (w1.setCell ⟨b, 29, none⟩ (.slice (some ⟨g, 0, none⟩) (lines.length + 1) cap)).heap[k]? = V.heap[k]? ∧ w1.heap[k]? = V.heap[k]?) ∧
      V.heap.size ≤ (w1.setCell ⟨b, 29, none⟩ (.slice (some ⟨g, 0, none⟩) (lines.length + 1) cap)).heap.size := by
  obtain ⟨hbl, hml, hbm⟩ := h.lt
  obtain ⟨cs, hb⟩ := h.blk
  have hrow : ∀ k, some k = (Value.slice ad lines.length cap0).ownBlock → lo ≤ k ∧ ∃ cur, V.heap[k]? = some (.cells cur 58 (0, 0)) := fun k e => by
    rcases hr.2 with ⟨h0, _⟩ | ⟨g', cap', cur, h5, hb5, h6, _⟩
    · rw [h0] at e; simp [Value.ownBlock] at e
    · rw [h5] at e
      simp only [Value.ownBlock, Option.some.injEq] at e
      subst e
      exact ⟨hb5, cur, h6⟩
  have hblk : ∀ k, k < V.heap.size → (k < lo ∨ ∀ cs, V.heap[k]? ≠ some (.cells cs 58 (0, 0))) → w1.heap[k]? = V.heap[k]? := fun k hk hno => by
    refine (hg.block k (by simp; omega) (fun e => ?_)).trans (Below.heap_alloc V.drew _ k hk)
    obtain ⟨hlo, cur, hc⟩ := hrow k e
    rcases hno with h | h
    · omega
    · exact h cur hc
  have hb1 : w1.heap[b]? = V.heap[b]? := hblk b hbl (.inr fun cs' e => by rw [hb] at e; cases e)
  have hgb : g ≠ b := fun e => by
    subst e
    rcases hown.2 with ⟨h0, _⟩ | ⟨g', cap', cur, h5, hb5, h6, _⟩
    · cases h0
    · cases h5
      rw [hb1, hb] at h6; cases h6
  have hsz : V.heap.size ≤ w1.heap.size := by have := hg.size; simp at this; omega
  have hc1 : w1.cell? ⟨b, 29, none⟩ = some (.slice ad lines.length cap0) := (World.cell?_of_block (a := ⟨b, 29, none⟩) hb1).trans hv
  have hset : ∀ k, k ≠ b → (w1.setCell ⟨b, 29, none⟩ (.slice (some ⟨g, 0, none⟩) (lines.length + 1) cap)).heap[k]? = w1.heap[k]? := fun k hk => heap_setCell_other _ _ _ _ hk
  obtain ⟨D, ⟨es, clock, hm, h2⟩, hD⟩ := h.mp
  have hm1 : w1.heap[m]? = V.heap[m]? := hblk m hml (.inr fun cs' e => by rw [hm] at e; cases e)
  have hbk : ∃ cs', (w1.setCell ⟨b, 29, none⟩ (.slice (some ⟨g, 0, none⟩) (lines.length + 1) cap)).heap[b]? = some (.cells cs' 53 (0, 0)) := by
    refine ⟨cs.setIfInBounds 29 (.slice (some ⟨g, 0, none⟩) (lines.length + 1) cap), ?_⟩
    exact heap_setCell_same w1 b 29 _ _ _ (hb1.trans hb)
  have hPk : ∀ u qs, PartsIn V lo u qs → PartsIn (w1.setCell ⟨b, 29, none⟩ (.slice (some ⟨g, 0, none⟩) (lines.length + 1) cap)) lo u qs := fun u qs hu => hu.kept fun k cs' _ hc =>
    (hset k (fun e => by subst e; rw [hb] at hc; cases hc)).trans (hblk k (Array.getElem?_eq_some_iff.1 hc).1 (.inr fun cs2 e => by rw [hc] at e; cases e))
  refine ⟨hc1, (World.frozen?_of_block (a := ⟨b, 29, none⟩) hb1).trans h.f29, ⟨hbk, ?_, by simp only [World.frozen?_setCell]; exact (World.frozen?_of_block (a := ⟨b, 29, none⟩) hb1).trans h.f29, ?_, ?_⟩, ⟨?_, ?_⟩, ?_, ?_⟩
  · rw [World.cell?_setCell_other _ _ _ _ (by simp)]
    exact (World.cell?_of_block (a := ⟨b, 28, none⟩) hb1).trans h.c28
  · exact ⟨D, ⟨es, clock, (hset m (Ne.symm hbm)).trans (hm1.trans hm), h2⟩, hD⟩
  · refine ⟨_, L ++ [(pv, ps, A)], World.cell?_setCell_same _ _ _ hc1, by simp [hL], ?_, ?_⟩
    · have e1 : (L ++ [(pv, ps, A)]).flatMap (fun x => [x.1, Value.int .i64 (x.2.2 : Int)]) = (L.flatMap fun x => [x.1, Value.int .i64 (x.2.2 : Int)]) ++ [pv, .int .i64 (A : Int)] := by simp
      have e2 : (lines ++ [(ps, A)]).length = lines.length + 1 := by simp
      rw [e1, e2]
      refine own_move hown (Nat.le_refl _) fun k e => hset k ?_
      simp only [Value.ownBlock, Option.some.injEq] at e
      omega
    · intro x hx
      rcases List.mem_append.1 hx with hx | hx
      · exact hPk _ _ (hP x hx)
      · simp only [List.mem_singleton] at hx
        subst hx
        exact hPk _ _ hp
  · refine (((((Below.refl n₀ V).drew).alloc (by simp; omega) _).grown hg (by simp; omega) fun k e => Nat.le_trans hnl (hrow k e.symm).1)).setCell hn _
  · intro j hj
    refine ⟨?_, by simp only [World.frozen?_setCell]; exact World.frozen?_of_block (a := ⟨b, j, none⟩) hb1⟩
    rw [World.cell?_setCell_other _ _ _ _ (by simp <;> omega)]
    exact World.cell?_of_block (a := ⟨b, j, none⟩) hb1
  · intro k hk hkb hno
    exact ⟨(hset k hkb).trans (hblk k hk hno), hblk k hk hno⟩
  · simp; exact hsz

/-- behind 'r.labels[label] = ..' -/
theorem rd_put {V w1 : World} {n₀ lo b m v : Nat} {labs : List (List UInt8 × Nat)} {lines : List (List (List UInt8) × Nat)} {D : DataW Unit} {k : List UInt8}
    (h : RdAt V lo b m labs lines) (hn : n₀ ≤ m) (hD : LabD D labs)
    (hown : w1.ownsMap Tryz.prog 9 (plainElem Tryz.prog 3) m (labs.length + 1) (D.put (.string k) (.lit (.int .i64 (v : Int))))) (hg : V.grownBy w1 (some m)) :
    RdAt w1 lo b m ((k, v) :: labs) lines ∧ FrB n₀ b V w1 ∧ ∀ j, j < V.heap.size → j ≠ m → w1.heap[j]? = V.heap[j]? := by
  obtain ⟨hbl, hml, hbm⟩ := h.lt
  have hb1 : w1.heap[b]? = V.heap[b]? := hg.block b hbl (by simpa using hbm)
  obtain ⟨D0, ⟨es, clock, hm, _⟩, _⟩ := h.mp
  have hnm : ∀ {q : Nat} {cs : Array Value} {t : TypeId}, V.heap[q]? = some (.cells cs t (0, 0)) → w1.heap[q]? = V.heap[q]? := fun {q cs t} hc => hg.block q (Array.getElem?_eq_some_iff.1 hc).1 (fun e => by
    simp only [Option.some.injEq] at e
    subst e
    rw [hm] at hc; cases hc)
  obtain ⟨cs, hb⟩ := h.blk
  obtain ⟨u, L, h1, h2, h3, h4⟩ := h.ln
  refine ⟨⟨⟨cs, hb1.trans hb⟩, (World.cell?_of_block (a := ⟨b, 28, none⟩) hb1).trans h.c28, (World.frozen?_of_block (a := ⟨b, 29, none⟩) hb1).trans h.f29, ⟨_, hown, hD.put k v⟩, ⟨u, L, (World.cell?_of_block (a := ⟨b, 29, none⟩) hb1).trans h1, h2, own_move h3 (Nat.le_refl _) fun q e => ?_, fun x hx => (h4 x hx).kept fun q cs _ hc => hnm hc⟩⟩, .of_block (((Below.refl n₀ V).grown hg (by omega) fun k e => by cases e; exact hn)) hb1, fun j hj hjm => hg.block j hj (by simpa using hjm)⟩
  rcases h3.2 with ⟨h0, _⟩ | ⟨g, cap, cur, h5, _, h6, _⟩
  · rw [h0] at e; simp [Value.ownBlock] at e
  · rw [h5] at e
    simp only [Value.ownBlock, Option.some.injEq] at e
    subst e
    exact hnm h6

/-- strings.FieldsFunc(s, blank) -/
theorem asm_blank (x : Nat) (w : World) : Calls Tryz.prog 33 #[.int .i32 (x : Int)] w fun e w' => e = .returned (.bool (x == 32 || (decide (9 ≤ x) && decide (x ≤ 13)))) ∧ w = w' := by
  have hcase : x = 32 ∨ (x ≠ 32 ∧ 9 ≤ x ∧ x ≤ 13) ∨ (x ≠ 32 ∧ ¬ 9 ≤ x) ∨ (x ≠ 32 ∧ 9 ≤ x ∧ ¬ x ≤ 13) := by omega
  have HQ := Lib.hid hcase
  clear hcase
  rcases HQ.out with rfl | ⟨h1, h2, h3⟩ | ⟨h1, h2⟩ | ⟨h1, h2, h3⟩
  · go_enter Tryz.func33, Tryz.ntmps33
    go_wp2_with fail
    go_ret
    exact ⟨rfl, rfl⟩
  · have e1 : ((x : Int) == 32) = false := beq_eq_false_iff_ne.2 (by omega)
    have e2 : (9 : Int) ≤ (x : Int) := by omega
    have e3 : (x : Int) ≤ 13 := by omega
    have HE : Hid ((x == 32 || (decide (9 ≤ x) && decide (x ≤ 13))) = true) := Lib.hid (by simp; omega)
    clear h1 h2 h3
    go_enter Tryz.func33, Tryz.ntmps33
    go_wp2_with fail
    go_ret
    exact ⟨by rw [HE.out]; rfl, rfl⟩
  · have e1 : ((x : Int) == 32) = false := beq_eq_false_iff_ne.2 (by omega)
    have e2 : ¬ (9 : Int) ≤ (x : Int) := by omega
    have HE : Hid ((x == 32 || (decide (9 ≤ x) && decide (x ≤ 13))) = false) := Lib.hid (by simp; omega)
    clear h1 h2
    go_enter Tryz.func33, Tryz.ntmps33
    go_wp2_with fail
    go_ret
    exact ⟨by rw [HE.out]; rfl, rfl⟩
  · have e1 : ((x : Int) == 32) = false := beq_eq_false_iff_ne.2 (by omega)
    have e2 : (9 : Int) ≤ (x : Int) := by omega
    have e3 : ¬ (x : Int) ≤ 13 := by omega
    have HE : Hid ((x == 32 || (decide (9 ≤ x) && decide (x ≤ 13))) = false) := Lib.hid (by simp; omega)
    clear h1 h2 h3
    go_enter Tryz.func33, Tryz.ntmps33
    go_wp2_with fail
    go_ret
    exact ⟨by rw [HE.out]; rfl, rfl⟩
theorem blankA_eq : (fun b : UInt8 => (fun x : Nat => x == 32 || (decide (9 ≤ x) && decide (x ≤ 13))) b.toNat) = blankA := by
  funext b
  have h1 : (b.toNat == 32) = (b == 32) := by rw [Bool.eq_iff_iff]; simp [← UInt8.toNat_inj]
  simp only [h1, blankA]
theorem fields_asm (q : List UInt8) (hq : q.length ≤ 1000000) (w : World) :
    Calls Tryz.prog 32 #[.string (bs q), .func (.func 33) #[] #[]] w fun e w' => ∃ g, e = .returned (.slice (some ⟨g, 0, none⟩) (fieldsB blankA q).length (fieldsB blankA q).length) ∧
      w'.ownsRow w.heap.size 9 1 (.slice (some ⟨g, 0, none⟩) (fieldsB blankA q).length (fieldsB blankA q).length) (fieldsB blankA q).length (strs (fieldsB blankA q)) ∧ Below w.heap.size w w' := by
  refine (Tryz.strings_FieldsFunc_grows 33 #[] (enters_of Tryz.func33 (by kernel_rfl) rfl) (fun x => x == 32 || (decide (9 ≤ x) && decide (x ≤ 13))) (bs q) w (by rw [bs_size]; omega) ?_).mono ?_
  · intro W x hx hb
    refine (asm_blank x W).mono ?_
    rintro e w' ⟨rfl, rfl⟩
    exact ⟨rfl, Below.refl _ _⟩
  · rintro e w' ⟨A, rfl, -, h1, h2⟩
    have e1 : Lib.goFieldsP (fun x => x == 32 || (decide (9 ≤ x) && decide (x ≤ 13))) (bs q) = (fieldsB blankA q).map bs := by
      rw [fields_eq _ (fun r hr => by simp; omega), blankA_eq, bs_data]
    rw [e1, List.length_map, List.map_map] at h1
    rw [e1, List.length_map]
    exact ⟨A, rfl, h1, h2⟩
/-- a tail of what FieldsFunc handed back, as parts -/
theorem parts_drop {w : World} {B lo g n cap : Nat} {l ps : List (List UInt8)} (k : Nat) (h : w.ownsRow B 9 1 (.slice (some ⟨g, 0, none⟩) n cap) n (strs l)) (hl : l.drop k = ps) (hne : ps ≠ []) (m c : Nat) (hm : m = ps.length) (hc : c = cap - k) (hlo : lo ≤ B) :
    PartsIn w lo (.slice (some ⟨g, k, none⟩) m c) ps := by
  subst hm hc
  have hn : l.length = n := by have := h.1; rw [strs_len] at this; omega
  have hpl : ps.length = n - k := by rw [← hl, List.length_drop, hn]
  have hp0 : 0 < ps.length := by cases ps; exact absurd rfl hne; simp
  rcases h.2 with ⟨h0, _⟩ | ⟨g', cap', cur, h5, hB, h6, h7, h8, _⟩
  · cases h0
  · cases h5
    refine ⟨g, k, cap - k, rfl, by omega, by omega, hne, by omega, ⟨cur, h6⟩, fun j x hx => ?_⟩
    obtain ⟨g2, c2, e2, _, hcell⟩ := own_cell h (by omega)
    cases e2
    refine hcell (k + j) _ ?_
    rw [← hl, List.getElem?_drop] at hx
    simp [strs, hx]
end Go.Proofs.YtapjfcljbdlnkaaGreatDoor
