/- (*asm.reader).first: a text's labels and lines. -/
import Derived.Test.YtapjfcljbdlnkaaGreatDoorAsmRd2
import Derived.Test.YtapjfcljbdlnkaaGreatDoorAsmBase
namespace Go.Proofs.YtapjfcljbdlnkaaGreatDoor
open Go Go.RowKit Go.Lib
attribute [local go_sem] Oper.semAt_some
set_option maxRecDepth 100000

theorem kb_below {W W' : World} (h : Below W.heap.size W W') : KeepsOthers W W' := ⟨h.size, fun k _ hk _ => (h.block k (Array.getElem?_eq_some_iff.1 hk).1).trans hk⟩
theorem seq_mid {F : Fence} {n : Nat} {P : Program} {Q : Exit → Act → World → Prop} {a : Act} {w : World} {x y : Code} (M : Act → World → Prop) (h1 : x.wpIn F n P (Exit.then M Q) a w) (h2 : ∀ a w, M a w → y.wpIn F n P Q a w) : (Code.seq x y).wpIn F n P Q a w :=
  wpIn_seq (wpIn_mono h1 fun e a w h => by
    cases e with
    | normal => exact h2 a w h
    | _ => exact h)
theorem fieldsQ_mem (q : UInt8 → Bool) : ∀ (l cur p : List UInt8), p ∈ fieldsQ q cur l → p ≠ [] ∧ p.length ≤ cur.length + l.length
  | [], cur, p, h => by
    unfold fieldsQ at h
    split at h
    · cases h
    · rename_i hc
      simp only [List.mem_singleton] at h
      subst h
      exact ⟨hc, by simp⟩
  | b :: l, cur, p, h => by
    unfold fieldsQ at h
    split at h
    · split at h
      · have := fieldsQ_mem q l [] p h
        exact ⟨this.1, by simp at this ⊢; omega⟩
      · rename_i hc
        rcases List.mem_cons.1 h with rfl | h
        · exact ⟨hc, by simp⟩
        · have := fieldsQ_mem q l [] p h
          exact ⟨this.1, by simp at this ⊢; omega⟩
    · have := fieldsQ_mem q l (cur ++ [b]) p h
      exact ⟨this.1, by simp at this ⊢; omega⟩
theorem fieldsQ_len (q : UInt8 → Bool) : ∀ (l cur : List UInt8), (fieldsQ q cur l).length ≤ l.length + 1
  | [], cur => by unfold fieldsQ; split <;> simp
  | b :: l, cur => by
    unfold fieldsQ
    split
    · split
      · have := fieldsQ_len q l []; simp; omega
      · have := fieldsQ_len q l []; simp; omega
    · have := fieldsQ_len q l (cur ++ [b]); simp; omega
theorem label_take (p : List UInt8) : (bs p).extract 0 (p.length - 1) = bs p.dropLast := by
  apply bs_inj
  simp [bs, List.dropLast_eq_take]
theorem take_semi (p t : List UInt8) (hp : (59 : UInt8) ∉ p) : (p ++ 59 :: t).takeWhile (· != 59) = p := by
  induction p with
  | nil => simp
  | cons x p ih =>
    have hx : (x != 59) = true := by simp; intro e; exact hp (by simp [e])
    simp [List.takeWhile, hx]
    simpa using ih (fun h => hp (by simp [h]))
theorem take_none (l : List UInt8) (h : (59 : UInt8) ∉ l) : l.takeWhile (· != 59) = l := by
  induction l with
  | nil => rfl
  | cons x l ih =>
    have hx : (x != 59) = true := by simp; intro e; exact h (by simp [e])
    simp [List.takeWhile, hx]
    simpa using ih (fun h' => h (by simp [h']))
/-- what first hands back -/
def FirstPost (n₀ b m : Nat) (s : List UInt8) (w : World) (e : Ending) (w' : World) : Prop :=
  FrB n₀ b w w' ∧ match firstP s with
    | .error k => e = .returned (.tuple #[.int .i64 (k : Int), .bool false])
    | .ok x => e = .returned (.tuple #[.int .i64 0, .bool true]) ∧ RdAt w' (w.heap.size + 7) b m x.1 x.2
/-- the invariant -/
def FirstI (H n₀ b m : Nat) (P : List (List UInt8)) (W0 : World) (pre : List (List UInt8)) (W : World) : Prop :=
  (∃ x : List (List UInt8 × Nat) × List (List (List UInt8) × Nat), (firstGo [] [] 0 P = firstGo x.1 x.2 pre.length (P.drop pre.length) ∧ x.1.length ≤ pre.length ∧ x.2.length ≤ pre.length) ∧ RdAt W (H + 7) b m x.1 x.2) ∧
    (Boxed W H 34 (.pointer (some ⟨b, 0, none⟩)) ∧ Boxed W (H + 1) 3 (.int .i64 0) ∧ Boxed W (H + 1 + 1) 4 (.bool false) ∧ Boxed W (H + 1 + 1 + 1) 3 (.int .i64 (pre.length : Int))) ∧ FrB n₀ b W0 W
def FirstX (H n₀ b : Nat) (P : List (List UInt8)) (W0 : World) (c : Code) (_ : List (List UInt8)) (W : World) : Prop :=
  (c = .ret ∧ ∃ k : Nat, firstGo [] [] 0 P = .error k ∧ Boxed W (H + 1) 3 (.int .i64 (k : Int))) ∧ Boxed W (H + 1 + 1) 4 (.bool false) ∧ FrB n₀ b W0 W
/-- what stands in the middle of a round -/
structure FirstM (H n₀ b m : Nat) (W0 W : World) (A : Int) (labs : List (List UInt8 × Nat)) (lines : List (List (List UInt8) × Nat)) (V : World) : Prop where
  rd : RdAt V (H + 7) b m labs lines
  h0 : Boxed V H 34 (.pointer (some ⟨b, 0, none⟩))
  h1 : Boxed V (H + 1) 3 (.int .i64 0)
  h2 : Boxed V (H + 1 + 1) 4 (.bool false)
  h3 : Boxed V (H + 1 + 1 + 1) 3 (.int .i64 A)
  fr : FrB n₀ b W0 V
  kf : KeepsFrom W0.heap.size W V
  sp : SplK (H + 1 + 1 + 1 + 1 + 1) (H + 1 + 1 + 1 + 1) (H + 1 + 1 + 1 + 1 + 2) W V
theorem FirstM.below {H n₀ b m : Nat} {W0 W V V' : World} {A : Int} {labs : List (List UInt8 × Nat)} {lines : List (List (List UInt8) × Nat)} (h : FirstM H n₀ b m W0 W A labs lines V) (hb : Below V.heap.size V V') (hH : H + 7 ≤ V.heap.size) (hn : n₀ ≤ H) : FirstM H n₀ b m W0 W A labs lines V' :=
  ⟨h.rd.on hb, (hb.block _ (by omega)).trans h.h0, (hb.block _ (by omega)).trans h.h1, (hb.block _ (by omega)).trans h.h2, (hb.block _ (by omega)).trans h.h3, h.fr.trans (.of_below hb (by omega) h.rd.lt.1), h.kf.trans ((kb_below hb).from _),
    SplK.trans h.sp ⟨hb.block _ (by omega), hb.block _ (by omega), hb.block _ (by omega)⟩⟩
theorem FirstM.put {H n₀ b m v : Nat} {W0 W V w1 : World} {A : Int} {labs : List (List UInt8 × Nat)} {lines : List (List (List UInt8) × Nat)} {D : DataW Unit} {k : List UInt8} (h : FirstM H n₀ b m W0 W A labs lines V) (hH : H + 7 ≤ V.heap.size) (hn : n₀ ≤ m) (hm : m < H) (hW : H + 7 ≤ W0.heap.size) (hD : LabD D labs)
    (hown : w1.ownsMap Tryz.prog 9 (plainElem Tryz.prog 3) m (labs.length + 1) (D.put (.string k) (.lit (.int .i64 (v : Int))))) (hg : V.grownBy w1 (some m)) : FirstM H n₀ b m W0 W A ((k, v) :: labs) lines w1 := by
  obtain ⟨p1, p2, p3⟩ := rd_put h.rd hn hD hown hg
  exact ⟨p1, (p3 _ (by omega) (by omega)).trans h.h0, (p3 _ (by omega) (by omega)).trans h.h1, (p3 _ (by omega) (by omega)).trans h.h2, (p3 _ (by omega) (by omega)).trans h.h3, h.fr.trans p2, h.kf.trans (.of_grownBy hg fun j e => by cases e; omega),
    SplK.trans h.sp ⟨p3 _ (by omega) (by omega), p3 _ (by omega) (by omega), p3 _ (by omega) (by omega)⟩⟩
theorem FirstM.append {H n₀ b m A g cap cap0 : Nat} {W0 W V w1 : World} {labs : List (List UInt8 × Nat)} {lines : List (List (List UInt8) × Nat)} {ad : Option Addr} {L : List (Value × List (List UInt8) × Nat)} {pv : Value} {ps : List (List UInt8)}
    (h : FirstM H n₀ b m W0 W (A : Int) labs lines V) (hH : H + 7 ≤ V.heap.size) (hn : n₀ ≤ b) (hb : b < H) (hW : H + 7 ≤ W0.heap.size) (hv : V.cell? ⟨b, 29, none⟩ = some (.slice ad lines.length cap0)) (hL : L.map (·.2) = lines)
    (hr : V.ownsRow (H + 7) 58 2 (.slice ad lines.length cap0) lines.length (L.flatMap fun x => [x.1, .int .i64 (x.2.2 : Int)])) (hP : ∀ x ∈ L, PartsIn V (H + 7) x.1 x.2.1) (hp : PartsIn V (H + 7) pv ps)
    (hown : w1.ownsRow (H + 7) 58 2 (.slice (some ⟨g, 0, none⟩) (lines.length + 1) cap) (lines.length + 1) ((L.flatMap fun x => [x.1, .int .i64 (x.2.2 : Int)]) ++ [pv, .int .i64 (A : Int)]))
    (hg : (V.drew.alloc (.cells #[pv, .int .i64 (A : Int)] 58)).grownBy w1 (Value.slice ad lines.length cap0).ownBlock) :
    (w1.cell? ⟨b, 29, none⟩ = some (.slice ad lines.length cap0) ∧ w1.frozen? ⟨b, 29, none⟩ = false ∧ w1.cell? ⟨H, 0, none⟩ = some (.pointer (some ⟨b, 0, none⟩)) ∧ w1.cell? ⟨H + 1 + 1 + 1, 0, none⟩ = some (.int .i64 (A : Int))) ∧
      FirstM H n₀ b m W0 W (A : Int) labs (lines ++ [(ps, A)]) (w1.setCell ⟨b, 29, none⟩ (.slice (some ⟨g, 0, none⟩) (lines.length + 1) cap)) := by
  obtain ⟨r1, r2, r3, r4, r5, r6⟩ := rd_append h.rd hn (by omega) hv hL hr hP hp hown hg
  have at_ : ∀ k, k < H + 7 → k ≠ b → (w1.setCell ⟨b, 29, none⟩ (.slice (some ⟨g, 0, none⟩) (lines.length + 1) cap)).heap[k]? = V.heap[k]? ∧ w1.heap[k]? = V.heap[k]? := fun k hk hkb => r5 k (by omega) hkb (.inl hk)
  refine ⟨⟨r1, r2, ?_, ?_⟩, r3, (at_ _ (by omega) (by omega)).1.trans h.h0, (at_ _ (by omega) (by omega)).1.trans h.h1, (at_ _ (by omega) (by omega)).1.trans h.h2, (at_ _ (by omega) (by omega)).1.trans h.h3, h.fr.trans r4, h.kf.trans ⟨r6, fun k o hB hk ho => ?_⟩,
    SplK.trans h.sp ⟨(at_ _ (by omega) (by omega)).1, (at_ _ (by omega) (by omega)).1, (at_ _ (by omega) (by omega)).1⟩⟩
  · exact (World.cell?_of_block (a := ⟨H, 0, none⟩) (at_ H (by omega) (by omega)).2).trans h.h0.cell
  · exact (World.cell?_of_block (a := ⟨H + 1 + 1 + 1, 0, none⟩) (at_ (H + 1 + 1 + 1) (by omega) (by omega)).2).trans h.h3.cell
  · exact (r5 k (Array.getElem?_eq_some_iff.1 hk).1 (by omega) (.inr fun cs e => by rw [hk] at e; cases e; cases ho)).1.trans hk
theorem FirstM.fin {H n₀ b m : Nat} {W0 W V : World} {P pre q : List (List UInt8)} {x : List UInt8} {labs : List (List UInt8 × Nat)} {lines : List (List (List UInt8) × Nat)} (h : FirstM H n₀ b m W0 W ((pre.length : Int) + 1) labs lines V)
    (hg : firstGo [] [] 0 P = firstGo labs lines (pre.length + 1) q) (hq : P.drop (pre ++ [x]).length = q) (h1 : labs.length ≤ pre.length + 1) (h2 : lines.length ≤ pre.length + 1) (ac : Act) :
    ownPostG W0.heap.size (SplK (H + 1 + 1 + 1 + 1 + 1) (H + 1 + 1 + 1 + 1) (H + 1 + 1 + 1 + 1 + 2)) (FirstI H n₀ b m P W0) (FirstX H n₀ b P W0) (pre ++ [x]) W .normal ac V := by
  have e : (pre ++ [x]).length = pre.length + 1 := by simp
  refine ⟨h.kf, h.sp, ⟨(labs, lines), ⟨?_, by rw [e]; exact h1, by rw [e]; exact h2⟩, h.rd⟩, ⟨h.h0, h.h1, h.h2, ?_⟩, h.fr⟩
  · rw [hq, e]; exact hg
  · rw [e]; exact h.h3
theorem keeps_drew {B : Nat} {W V : World} (h : KeepsFrom B W V) : KeepsFrom B W V.drew := ⟨h.size, h.same⟩
theorem FirstM.drew {H n₀ b m : Nat} {W0 W V : World} {A : Int} {labs : List (List UInt8 × Nat)} {lines : List (List (List UInt8) × Nat)} (h : FirstM H n₀ b m W0 W A labs lines V) : FirstM H n₀ b m W0 W A labs lines V.drew :=
  ⟨h.rd.kept fun _ _ _ => rfl, h.h0, h.h1, h.h2, h.h3, h.fr.trans (.drew _ _ _), keeps_drew h.kf, h.sp⟩
theorem frB_grown {n₀ b : Nat} {W0 W W' : World} {row : Option Nat} (h : FrB n₀ b W0 W) (hg : W.grownBy W' row) (hn : n₀ ≤ W.heap.size) (hb : b < W.heap.size) (hr : ∀ r, row = some r → n₀ ≤ r ∧ r ≠ b) : FrB n₀ b W0 W' :=
  h.trans (.of_block ((Below.refl _ _).grown hg hn fun k e => (hr k e).1) (hg.block b hb fun e => (hr b e.symm).2 rfl))
theorem firstI_own {B H n₀ b m : Nat} {P : List (List UInt8)} {W0 : World} (hB : b < B) (hm : m < B) (hn : n₀ ≤ b) : OwnFrom B (FirstI H n₀ b m P W0) := by
  rintro pre W W' row ⟨⟨x, hx, hrd⟩, ⟨h1, h2, h3, h4⟩, hf⟩ hg hr
  have hbl := hrd.lt
  refine ⟨⟨x, hx, hrd.kept fun k hk hc => hg.block k hk fun e => ?_⟩, ⟨?_, ?_, ?_, ?_⟩, frB_grown hf hg (by omega) hbl.1 fun r e => ?_⟩
  · obtain ⟨h5, o, ho, hn⟩ := hr k e.symm
    rcases hc with rfl | rfl | ⟨_, cs, t, _, hc⟩
    · omega
    · omega
    · rw [hc] at ho; cases ho; cases hn
  · exact h1.kept hg fun e => by obtain ⟨_, o, ho, hn⟩ := hr _ e.symm; rw [show W.heap[H]? = _ from h1] at ho; cases ho; cases hn
  · exact h2.kept hg fun e => by obtain ⟨_, o, ho, hn⟩ := hr _ e.symm; rw [show W.heap[H + 1]? = _ from h2] at ho; cases ho; cases hn
  · exact h3.kept hg fun e => by obtain ⟨_, o, ho, hn⟩ := hr _ e.symm; rw [show W.heap[H + 1 + 1]? = _ from h3] at ho; cases ho; cases hn
  · exact h4.kept hg fun e => by obtain ⟨_, o, ho, hn⟩ := hr _ e.symm; rw [show W.heap[H + 1 + 1 + 1]? = _ from h4] at ho; cases ho; cases hn
  · have := (hr r e).1; omega
theorem firstX_own {B H n₀ b : Nat} {P : List (List UInt8)} {W0 : World} (hB : b < B) (hn : n₀ ≤ b) (hs : B ≤ W0.heap.size) (c : Code) : OwnFrom B (FirstX H n₀ b P W0 c) := by
  rintro pre W W' row ⟨⟨hc, k, hk, h2⟩, h3, hf⟩ hg hr
  have := hf.below.size
  refine ⟨⟨hc, k, hk, ?_⟩, ?_, frB_grown hf hg (by omega) (by omega) fun r e => ?_⟩
  · exact h2.kept hg fun e => by obtain ⟨_, o, ho, hn⟩ := hr _ e.symm; rw [show W.heap[H + 1]? = _ from h2] at ho; cases ho; cases hn
  · exact h3.kept hg fun e => by obtain ⟨_, o, ho, hn⟩ := hr _ e.symm; rw [show W.heap[H + 1 + 1]? = _ from h3] at ho; cases ho; cases hn
  · have := (hr r e).1; omega

set_option maxHeartbeats 12800000 in
theorem asm_first (b m n₀ : Nat) (s : List UInt8) (hs : s.length ≤ 100000) (w : World) (hrd : RdAt w (w.heap.size + 7) b m [] []) (hnb : n₀ ≤ b) (hnm : n₀ ≤ m) :
    Calls Tryz.prog 12 #[.pointer (some ⟨b, 0, none⟩), .string (bs s)] w (FirstPost n₀ b m s w) := by
  obtain ⟨hbl, hml, hbm⟩ := hrd.lt
  refine (callsIn_wide (n := 19)).1 ?_
  obtain ⟨i0, hi0, hz0, hz1, hz2⟩ := info_parts line_info
  refine callsIn_of_wp_marks Tryz.func12 rfl trivial ?_ rfl
  simp only [Tryz.ntmps12, List.size_toArray, List.length_cons, List.length_nil, Nat.reduceAdd, Nat.reduceSub, Array.replicate_succ, Array.replicate_zero, List.push_toArray, List.append_toArray, List.nil_append, List.cons_append]
  obtain ⟨tx, htx⟩ : ∃ tx, tx = Lib.trimSuffix s [10] := ⟨_, rfl⟩
  have htl : tx.length ≤ 100000 := by rw [htx]; unfold Lib.trimSuffix; split <;> (try rw [List.length_take]) <;> omega
  have HT := Lib.hid (show ∀ w, Calls Tryz.prog 30 #[.string (bs s), .string ⟨#[10]⟩] w fun e w' => e = .returned (.string (bs tx)) ∧ w' = w from fun w => by
    refine (Tryz.strings_TrimSuffix (bs s) ⟨#[10]⟩ w (by rw [bs_size]; omega)).mono ?_
    rintro e w' ⟨rfl, rfl⟩
    refine ⟨?_, rfl⟩
    rw [bs_data, htx]; rfl)
  obtain ⟨P, hP⟩ : ∃ P, P = cutAt 10 tx := ⟨_, rfl⟩
  have HS : Hid (firstP s = firstGo [] [] 0 P) := Lib.hid (by rw [hP, htx]; rfl)
  have HPL1 : Hid (P.length ≤ 100001) := Lib.hid (by rw [hP, cutAt_count]; have : tx.count 10 ≤ tx.length := List.count_le_length; omega)
  have HPP : Hid (∀ p ∈ P, p.length ≤ 100000) := Lib.hid fun p hp => by rw [hP] at hp; have := cutAt_len 10 tx p hp; omega
  have HIT : Hid (IterOK Fence.wide 18 Tryz.prog 68 #[.pointer (some ⟨w.heap.size + 1 + 1 + 1 + 1 + 1, 0, none⟩), .pointer (some ⟨w.heap.size + 1 + 1 + 1 + 1, 0, none⟩), .pointer (some ⟨w.heap.size + 1 + 1 + 1 + 1 + 2, 0, none⟩)] (fun l : List UInt8 => #[.string (bs l)]) (SplT (w.heap.size + 1 + 1 + 1 + 1)) (SplK (w.heap.size + 1 + 1 + 1 + 1 + 1) (w.heap.size + 1 + 1 + 1 + 1) (w.heap.size + 1 + 1 + 1 + 1 + 2)) (SplG (w.heap.size + 1 + 1 + 1 + 1 + 1) (w.heap.size + 1 + 1 + 1 + 1) (w.heap.size + 1 + 1 + 1 + 1 + 2) 10 tx) P) :=
    Lib.hid (by rw [hP]; exact split_iter 18 10 tx (by omega) _ _ _ (by omega) (by omega))
  have HRD := Lib.hid hrd
  clear hP htx hrd
  gi_wp2
  refine wide_call (HT.out _) ?_
  rintro e w1 ⟨rfl, rfl⟩
  gi_wp2
  refine wide_call (split_seq 10 tx _) ?_
  rintro e w1 ⟨rfl, rfl⟩
  gi_wp2
  have hcells := split_cells 10 tx ((((w.alloc (.cells #[.pointer (some ⟨b, 0, none⟩)] 34)).alloc (.cells #[.int .i64 0] 3)).alloc (.cells #[.bool false] 4)).alloc (.cells #[.int .i64 0] 3))
  simp only [World.size_alloc] at hcells
  have b1 := ((((((Boxed.new w 34 (.pointer (some ⟨b, 0, none⟩))).alloc (.cells #[.int .i64 0] 3)).alloc (.cells #[.bool false] 4)).alloc (.cells #[.int .i64 0] 3)).alloc (.cells #[.string (bs tx)] 9)).alloc (.cells #[.string ⟨#[10]⟩] 9)).alloc (.cells #[.int .i64 0] 3)
  have b2 := (((((Boxed.new (w.alloc (.cells #[.pointer (some ⟨b, 0, none⟩)] 34)) 3 (.int .i64 0)).alloc (.cells #[.bool false] 4)).alloc (.cells #[.int .i64 0] 3)).alloc (.cells #[.string (bs tx)] 9)).alloc (.cells #[.string ⟨#[10]⟩] 9)).alloc (.cells #[.int .i64 0] 3)
  have b3 := ((((Boxed.new ((w.alloc (.cells #[.pointer (some ⟨b, 0, none⟩)] 34)).alloc (.cells #[.int .i64 0] 3)) 4 (.bool false)).alloc (.cells #[.int .i64 0] 3)).alloc (.cells #[.string (bs tx)] 9)).alloc (.cells #[.string ⟨#[10]⟩] 9)).alloc (.cells #[.int .i64 0] 3)
  have b4 := (((Boxed.new (((w.alloc (.cells #[.pointer (some ⟨b, 0, none⟩)] 34)).alloc (.cells #[.int .i64 0] 3)).alloc (.cells #[.bool false] 4)) 3 (.int .i64 0)).alloc (.cells #[.string (bs tx)] 9)).alloc (.cells #[.string ⟨#[10]⟩] 9)).alloc (.cells #[.int .i64 0] 3)
  simp only [World.size_alloc] at b1 b2 b3 b4
  have hB0 : Below w.heap.size w (((((((w.alloc (.cells #[.pointer (some ⟨b, 0, none⟩)] 34)).alloc (.cells #[.int .i64 0] 3)).alloc (.cells #[.bool false] 4)).alloc (.cells #[.int .i64 0] 3)).alloc (.cells #[.string (bs tx)] 9)).alloc (.cells #[.string ⟨#[10]⟩] 9)).alloc (.cells #[.int .i64 0] 3)) :=
    (((((((Below.refl _ w).alloc (Nat.le_refl _) _).alloc (by simp) _).alloc (by simp; omega) _).alloc (by simp; omega) _).alloc (by simp; omega) _).alloc (by simp; omega) _).alloc (by simp; omega) _
  have hsz0 : (((((((w.alloc (.cells #[.pointer (some ⟨b, 0, none⟩)] 34)).alloc (.cells #[.int .i64 0] 3)).alloc (.cells #[.bool false] 4)).alloc (.cells #[.int .i64 0] 3)).alloc (.cells #[.string (bs tx)] 9)).alloc (.cells #[.string ⟨#[10]⟩] 9)).alloc (.cells #[.int .i64 0] 3)).heap.size = w.heap.size + 7 := by simp
  obtain ⟨W0, hW0⟩ : ∃ W0, (((((((w.alloc (.cells #[.pointer (some ⟨b, 0, none⟩)] 34)).alloc (.cells #[.int .i64 0] 3)).alloc (.cells #[.bool false] 4)).alloc (.cells #[.int .i64 0] 3)).alloc (.cells #[.string (bs tx)] 9)).alloc (.cells #[.string ⟨#[10]⟩] 9)).alloc (.cells #[.int .i64 0] 3)) = W0 := ⟨_, rfl⟩
  obtain ⟨H, hH⟩ : ∃ H, w.heap.size = H := ⟨_, rfl⟩
  rw [hW0] at hcells b1 b2 b3 b4 hB0 hsz0 ⊢
  have hrd0 := HRD.out.on hB0
  have hfr0 : FrB n₀ b w W0 := .of_below hB0 (by omega) hbl
  rw [hH] at hcells b1 b2 b3 b4 hsz0 hbl hml HIT hrd0 ⊢
  have HB0 := Lib.hid hB0
  have HC := Lib.hid hcells
  have HF0 := Lib.hid hfr0
  have HW := Lib.hid hH
  clear hB0 hcells hW0 hH hfr0
  have h7 : W0.heap.size ≤ H + 7 := Nat.le_of_eq hsz0
  have h7' : H + 7 ≤ W0.heap.size := Nat.le_of_eq hsz0.symm
  clear hsz0
  refine range_outer (n := 19) rfl (by decide) (gf := 68) (lb := #[.pointer (some ⟨H + 1 + 1 + 1 + 1 + 1, 0, none⟩), .pointer (some ⟨H + 1 + 1 + 1 + 1, 0, none⟩), .pointer (some ⟨H + 1 + 1 + 1 + 1 + 2, 0, none⟩)]) rfl trivial (enters_of Tryz.func68 (by kernel_rfl) rfl)
    HIT.out (fun _ => rfl) (fun h k => h.trans k) (fun W l r r' hl _ => SplK.putObj W l _ (by omega) (by omega) (by omega)) (fun W W' l h hl _ => h.other (by omega))
    (FirstI H n₀ b m P W0) (FirstX H n₀ b P W0) ?hIT (firstI_own (by omega) (by omega) hnb) (firstX_own (by omega) hnb (Nat.le_refl _))
    (fun x a₁ _ => a₁ = { tmps := #[.pointer (some ⟨b, 0, none⟩), .string (bs s), .pointer (some ⟨H, 0, none⟩), undef, .pointer (some ⟨H + 1, 0, none⟩), .pointer (some ⟨H + 1 + 1, 0, none⟩), .pointer (some ⟨H + 1 + 1 + 1, 0, none⟩), .string (bs x), undef, undef, undef, undef, undef, .string (bs s), .string (bs tx), .func (.func 68) #[] #[.pointer (some ⟨H + 1 + 1 + 1 + 1 + 1, 0, none⟩), .pointer (some ⟨H + 1 + 1 + 1 + 1, 0, none⟩), .pointer (some ⟨H + 1 + 1 + 1 + 1 + 2, 0, none⟩)], .string (bs x), undef, undef, undef, undef, undef, undef, undef, undef, undef, undef, undef, undef, undef, undef, undef, undef, undef, undef, undef, undef, undef, undef, undef, undef, undef, undef, undef, undef, undef, undef, undef, undef, undef, undef, undef, undef, undef, undef, undef, undef, undef, undef, undef, undef, undef, undef, undef, undef, undef, undef, undef, undef, undef, undef, undef, undef, undef, undef, undef, undef, undef, undef, undef, undef, undef, undef, undef, undef, undef, undef, undef], defers := [] })
    (fun _ _ _ _ _ _ hs _ _ => hs) ?hG ?h0 ?assign ?body ?done ?stop
  case hIT =>
    rintro pre W W' ⟨⟨x, hx, hrd⟩, ⟨h1, h2, h3, h4⟩, hf⟩ ht
    rcases ht with rfl | ⟨u, rfl⟩
    · exact ⟨⟨x, hx, hrd⟩, ⟨h1, h2, h3, h4⟩, hf⟩
    · refine ⟨⟨x, hx, ?_⟩, ⟨h1.other (by omega) _, h2.other (by omega) _, h3.other (by omega) _, h4.other (by omega) _⟩, hf.trans (.setCell _ _ (by omega) (by omega))⟩
      exact hrd.setCell (by omega) (by omega) (by omega) _
  case hG =>
    intro W hb
    exact HC.out W (hb.mono (by omega))
  case h0 => exact ⟨⟨([], []), ⟨by simp, by simp, by simp⟩, hrd0⟩, ⟨b1, b2, b3, b4⟩, FrB.refl _ _ _⟩
  case assign =>
    intro l pre x W K hi _ _ hK
    gi_wp2
    exact hK _ _ (KeepsFrom.refl _ _) ⟨rfl, rfl, rfl⟩ hi rfl
  case body =>
    rintro l pre x a₁ W hx hl ⟨r, hr⟩ ⟨⟨⟨labs, lines⟩, ⟨hgo, hlab, hlin⟩, hrd⟩, ⟨q0, q1, q2, q3⟩, hf⟩ rfl
    obtain ⟨q, hps⟩ : ∃ q, P = pre ++ x :: q := by
      obtain ⟨q, hq⟩ := hx
      exact ⟨q, by rw [← hq]; simp⟩
    have hdrop : P.drop pre.length = x :: q := by rw [hps]; simp
    have hdrop' : P.drop (pre ++ [x]).length = q := by rw [hps]; simp
    have hpre : pre.length ≤ 100000 := by have := HPL1.out; rw [hps] at this; simp at this; omega
    simp only at hgo hlab hlin hrd
    rw [hdrop] at hgo
    have hxl : x.length ≤ 100000 := HPP.out x (by rw [hps]; simp)
    have hWs := hf.below.size
    obtain ⟨hbW, hmW, -⟩ := hrd.lt
    have c3 := q3.cell
    have f3 := q3.frozen
    have wr1 : IntKind.i64.wrap ((pre.length : Int) + 1) = (pre.length : Int) + 1 := by rw [IntKind.wrap_i64]; omega
    obtain ⟨W1, hW1⟩ : ∃ W1, W.setCell ⟨H + 1 + 1 + 1, 0, none⟩ (.int .i64 ((pre.length : Int) + 1)) = W1 := ⟨_, rfl⟩
    have hM1 : FirstM H n₀ b m W0 W ((pre.length : Int) + 1) labs lines W1 := by
      rw [← hW1]
      exact ⟨hrd.setCell (by omega) (by omega) (by omega) _, q0.other (by omega) _, q1.other (by omega) _, q2.other (by omega) _, q3.set _, hf.trans (.setCell _ _ (by omega) (by omega)), (KeepsOthers.setCell _ _ _).from _, ⟨heap_setCell_other _ _ _ _ (by simp <;> omega), heap_setCell_other _ _ _ _ (by simp <;> omega), heap_setCell_other _ _ _ _ (by simp <;> omega)⟩⟩
    have hs1 : W1.heap.size = W.heap.size := by rw [← hW1]; simp
    have HG := Lib.hid hgo
    have HLB := Lib.hid hlab
    have HLN := Lib.hid hlin
    have HD := Lib.hid hdrop'
    have HR := Lib.hid hr
    have HF := Lib.hid hf
    have HW1 := Lib.hid hW1
    have HM1 := Lib.hid hM1
    clear hx hps hdrop hgo hlab hlin hrd q0 q1 q2 q3 hf hdrop' hr hM1
    refine wpIn_block (seq_mid (fun a' w' => a' = { tmps := #[.pointer (some ⟨b, 0, none⟩), .string (bs s), .pointer (some ⟨H, 0, none⟩), undef, .pointer (some ⟨H + 1, 0, none⟩), .pointer (some ⟨H + 1 + 1, 0, none⟩), .pointer (some ⟨H + 1 + 1 + 1, 0, none⟩), .string (bs x), undef, undef, undef, undef, undef, .string (bs s), .string (bs tx), .func (.func 68) #[] #[.pointer (some ⟨H + 1 + 1 + 1 + 1 + 1, 0, none⟩), .pointer (some ⟨H + 1 + 1 + 1 + 1, 0, none⟩), .pointer (some ⟨H + 1 + 1 + 1 + 1 + 2, 0, none⟩)], .string (bs x), .int .i64 (pre.length : Int), .int .i64 ((pre.length : Int) + 1), undef, undef, undef, undef, undef, undef, undef, undef, undef, undef, undef, undef, undef, undef, undef, undef, undef, undef, undef, undef, undef, undef, undef, undef, undef, undef, undef, undef, undef, undef, undef, undef, undef, undef, undef, undef, undef, undef, undef, undef, undef, undef, undef, undef, undef, undef, undef, undef, undef, undef, undef, undef, undef, undef, undef, undef, undef, undef, undef, undef, undef, undef, undef, undef, undef, undef, undef, undef, undef], defers := [] } ∧ w' = W1) ?_ ?_)
    · gi_wp2
      exact ⟨trivial, trivial⟩
    · rintro a' w' ⟨rfl, hw'⟩
      rw [hw']
      clear hw' w'
      clear hW1 c3 f3 wr1
      obtain ⟨y, hy⟩ : ∃ y, y = x.takeWhile (· != 59) := ⟨_, rfl⟩
      have hyl : y.length ≤ 100000 := by rw [hy]; have := (List.takeWhile_prefix (p := (· != 59)) (l := x)).length_le; omega
      have HY : Hid (lineParts x = fieldsB blankA y) := Lib.hid (by rw [hy]; rfl)
      refine seq_mid (fun a' w' => (∃ z8 z17 z18 z19 z20 z21 z22 z23 z24 z25 : Value, a' = { tmps := #[.pointer (some ⟨b, 0, none⟩), .string (bs s), .pointer (some ⟨H, 0, none⟩), undef, .pointer (some ⟨H + 1, 0, none⟩), .pointer (some ⟨H + 1 + 1, 0, none⟩), .pointer (some ⟨H + 1 + 1 + 1, 0, none⟩), .string (bs y), z8, undef, undef, undef, undef, .string (bs s), .string (bs tx), .func (.func 68) #[] #[.pointer (some ⟨H + 1 + 1 + 1 + 1 + 1, 0, none⟩), .pointer (some ⟨H + 1 + 1 + 1 + 1, 0, none⟩), .pointer (some ⟨H + 1 + 1 + 1 + 1 + 2, 0, none⟩)], .string (bs x), z17, z18, z19, z20, z21, z22, z23, z24, z25, undef, undef, undef, undef, undef, undef, undef, undef, undef, undef, undef, undef, undef, undef, undef, undef, undef, undef, undef, undef, undef, undef, undef, undef, undef, undef, undef, undef, undef, undef, undef, undef, undef, undef, undef, undef, undef, undef, undef, undef, undef, undef, undef, undef, undef, undef, undef, undef, undef, undef, undef, undef, undef, undef, undef, undef, undef, undef, undef, undef, undef, undef], defers := [] }) ∧ w' = W1) ?_ ?_
      · by_cases hin : (59 : UInt8) ∈ x
        · obtain ⟨p, t, rfl, hp⟩ := first_at 59 x hin
          rw [take_semi p t hp] at hy
          subst hy
          have hi := idx_at 59 t y hp
          have HI : Hid (∀ w, Calls Tryz.prog 31 #[.string (bs (y ++ 59 :: t)), .int .u8 59] w fun e w' => e = .returned (.int .i64 (y.length : Int)) ∧ w' = w) := Lib.hid fun w => by
            refine (Tryz.strings_IndexByte (bs (y ++ 59 :: t)) 59 w).mono ?_
            rintro e w' ⟨rfl, rfl⟩
            refine ⟨?_, rfl⟩
            rw [bs_data]
            exact congrArg (fun z => Ending.returned (.int .i64 z)) hi
          have e1 := bs_take y (59 :: t)
          have n0 : (0 : Int) ≤ (y.length : Int) := by omega
          have n1 : y.length ≤ (bs (y ++ 59 :: t)).size := by rw [bs_size]; simp
          clear hin hi hp hxl
          gi_wp2
          refine round_call (HI.out _) ?_
          rintro e w1 ⟨rfl, rfl⟩
          gi_wp2
          exact ⟨⟨_, _, _, _, _, _, _, _, _, _, rfl⟩, trivial⟩
        · rw [take_none x hin] at hy
          subst hy
          have hi := idx_none 59 y hin
          have HI : Hid (∀ w, Calls Tryz.prog 31 #[.string (bs y), .int .u8 59] w fun e w' => e = .returned (.int .i64 (-1)) ∧ w' = w) := Lib.hid fun w => by
            refine (Tryz.strings_IndexByte (bs y) 59 w).mono ?_
            rintro e w' ⟨rfl, rfl⟩
            refine ⟨?_, rfl⟩
            rw [bs_data]
            exact congrArg (fun z => Ending.returned (.int .i64 z)) hi
          clear hin hi hxl
          gi_wp2
          refine round_call (HI.out _) ?_
          rintro e w1 ⟨rfl, rfl⟩
          gi_wp2
          exact ⟨⟨_, _, _, _, _, _, _, _, _, _, rfl⟩, trivial⟩
      · rintro a' w' ⟨⟨z8, z17, z18, z19, z20, z21, z22, z23, z24, z25, rfl⟩, hw'⟩
        rw [hw']
        clear hw' w'
        clear hy hxl
        obtain ⟨F, hF⟩ : ∃ F, F = fieldsB blankA y := ⟨_, rfl⟩
        have HFI := Lib.hid (fun w => fields_asm y (by omega) w)
        have HFF : Hid (lineParts x = F) := Lib.hid (by rw [hF]; exact HY.out)
        have HFM : Hid (∀ p ∈ F, p ≠ [] ∧ p.length ≤ 100000) := Lib.hid fun p hp => by
          rw [hF] at hp
          have := fieldsQ_mem blankA y [] p hp
          exact ⟨this.1, by simp at this; omega⟩
        have hFL : F.length ≤ 100001 := by rw [hF]; have := fieldsQ_len blankA y []; unfold fieldsB; omega
        rw [← hF] at HFI
        clear hF
        refine seq_mid (fun a' V => ∃ g : Nat, a' = { tmps := #[.pointer (some ⟨b, 0, none⟩), .string (bs s), .pointer (some ⟨H, 0, none⟩), undef, .pointer (some ⟨H + 1, 0, none⟩), .pointer (some ⟨H + 1 + 1, 0, none⟩), .pointer (some ⟨H + 1 + 1 + 1, 0, none⟩), .string (bs y), z8, .slice (some ⟨g, 0, none⟩) F.length F.length, undef, undef, undef, .string (bs s), .string (bs tx), .func (.func 68) #[] #[.pointer (some ⟨H + 1 + 1 + 1 + 1 + 1, 0, none⟩), .pointer (some ⟨H + 1 + 1 + 1 + 1, 0, none⟩), .pointer (some ⟨H + 1 + 1 + 1 + 1 + 2, 0, none⟩)], .string (bs x), z17, z18, z19, z20, z21, z22, z23, z24, z25, .string (bs y), .slice (some ⟨g, 0, none⟩) F.length F.length, undef, undef, undef, undef, undef, undef, undef, undef, undef, undef, undef, undef, undef, undef, undef, undef, undef, undef, undef, undef, undef, undef, undef, undef, undef, undef, undef, undef, undef, undef, undef, undef, undef, undef, undef, undef, undef, undef, undef, undef, undef, undef, undef, undef, undef, undef, undef, undef, undef, undef, undef, undef, undef, undef, undef, undef, undef, undef, undef, undef], defers := [] } ∧ V.ownsRow W1.heap.size 9 1 (.slice (some ⟨g, 0, none⟩) F.length F.length) F.length (strs F) ∧ Below W1.heap.size W1 V) ?_ ?_
        · gi_wp2
          refine round_call (HFI.out _) ?_
          rintro e w1 ⟨g, rfl, ho, hb⟩
          have HQ := Lib.hid (And.intro ho hb)
          clear ho hb
          gi_wp2
          exact ⟨g, rfl, HQ.out⟩
        · rintro a' V ⟨g, rfl, ho, hb⟩
          have HO := Lib.hid ho
          have hVs := hb.size
          have HM := Lib.hid (HM1.out.below hb (by omega) (by omega))
          clear ho hb
          refine seq_mid (fun a' V => ∃ (labs' : List (List UInt8 × Nat)) (ps : List (List UInt8)) (ad : Option Addr) (c : Nat), (∃ z8 z10 z11 z12 z17 z18 z19 z20 z21 z22 z23 z24 z25 z26 z27 z28 z29 z30 z31 z32 z33 z34 z35 z36 z37 z38 z39 z40 z41 z42 z43 z44 z45 z46 z47 z48 z49 z50 z51 z52 z53 z54 z55 z56 z57 z58 z59 z60 z61 z62 z63 z64 z65 z66 z67 z68 z69 z70 z71 z72 : Value, a' = { tmps := #[.pointer (some ⟨b, 0, none⟩), .string (bs s), .pointer (some ⟨H, 0, none⟩), undef, .pointer (some ⟨H + 1, 0, none⟩), .pointer (some ⟨H + 1 + 1, 0, none⟩), .pointer (some ⟨H + 1 + 1 + 1, 0, none⟩), .string (bs y), z8, .slice ad ps.length c, z10, z11, z12, .string (bs s), .string (bs tx), .func (.func 68) #[] #[.pointer (some ⟨H + 1 + 1 + 1 + 1 + 1, 0, none⟩), .pointer (some ⟨H + 1 + 1 + 1 + 1, 0, none⟩), .pointer (some ⟨H + 1 + 1 + 1 + 1 + 2, 0, none⟩)], .string (bs x), z17, z18, z19, z20, z21, z22, z23, z24, z25, z26, z27, z28, z29, z30, z31, z32, z33, z34, z35, z36, z37, z38, z39, z40, z41, z42, z43, z44, z45, z46, z47, z48, z49, z50, z51, z52, z53, z54, z55, z56, z57, z58, z59, z60, z61, z62, z63, z64, z65, z66, z67, z68, z69, z70, z71, z72, undef, undef, undef, undef, undef, undef, undef, undef, undef, undef, undef, undef, undef, undef, undef], defers := [] }) ∧ FirstM H n₀ b m W0 W ((pre.length : Int) + 1) labs' lines V ∧ (ps ≠ [] → PartsIn V (H + 7) (.slice ad ps.length c) ps) ∧ labs'.length ≤ pre.length + 1 ∧ V.heap.size ≥ H + 7 ∧ firstGo [] [] 0 P = firstGo labs' (if ps = [] then lines else lines ++ [(ps, pre.length + 1)]) (pre.length + 1) q) ?_ ?_
          · cases F with
            | nil =>
              gi_wp2
              refine ⟨trivial, ?_⟩
              gi_wp2
              exact ⟨labs, [], some ⟨g, 0, none⟩, 0, ⟨_, _, _, _, _, _, _, _, _, _, _, _, _, _, _, _, _, _, _, _, _, _, _, _, _, _, _, _, _, _, _, _, _, _, _, _, _, _, _, _, _, _, _, _, _, _, _, _, _, _, _, _, _, _, _, _, _, _, _, _, rfl⟩, HM.out, fun h => absurd rfl h, Nat.le_succ_of_le HLB.out, by omega, by rw [HG.out, firstGo_none HFF.out]; simp⟩
            | cons p rest =>
              have hpm := HFM.out p (by simp)
              obtain ⟨g', cap', hsl, -, hcell⟩ := own_cell HO.out (by simp)
              obtain ⟨rfl, rfl⟩ : g = g' ∧ (p :: rest).length = cap' := by simpa using hsl
              have d0 := hcell 0 (.string (bs p)) rfl
              have hsz := bs_size p
              have hn1 : (0 : Int) < ((p :: rest).length : Int) := by simp only [List.length_cons]; omega
              have hn2 : 1 ≤ (p :: rest).length := by simp
              have HSF : Hid (∀ w, Calls Tryz.prog 34 #[.string (bs p), .string ⟨#[58]⟩] w fun e w' => e = .returned (.bool (Lib.hasSuffix p [58])) ∧ w' = w) := Lib.hid fun w => by
                refine (Tryz.strings_HasSuffix (bs p) ⟨#[58]⟩ w (by rw [bs_size]; omega)).mono ?_
                rintro e w' ⟨rfl, rfl⟩
                exact ⟨by rw [bs_data], rfl⟩
              obtain ⟨F1, hF1⟩ : ∃ n, n = (p :: rest).length := ⟨_, rfl⟩
              have HF1 := Lib.hid hF1
              rw [← hF1] at hn1 hn2 ⊢
              have HPM := Lib.hid hpm
              clear hcell hsl hF1 hpm
              cases hsf : Lib.hasSuffix p [58] with
              | false =>
                have HSU := Lib.hid hsf
                rw [hsf] at HSF
                clear hsf
                gi_wp2
                refine round_call (HSF.out _) ?_
                rintro e w1 ⟨rfl, rfl⟩
                gi_wp2
                exact ⟨labs, p :: rest, some ⟨g, 0, none⟩, F1, ⟨_, _, _, _, _, _, _, _, _, _, _, _, _, _, _, _, _, _, _, _, _, _, _, _, _, _, _, _, _, _, _, _, _, _, _, _, _, _, _, _, _, _, _, _, _, _, _, _, _, _, _, _, _, _, _, _, _, _, _, _, by rw [← HF1.out]⟩, HM.out, fun _ => parts_drop 0 HO.out rfl (by simp) _ _ rfl (by rw [HF1.out]; simp) (by omega), Nat.le_succ_of_le HLB.out, by omega, by rw [HG.out, firstGo_word HFF.out HSU.out]; simp⟩
              | true =>
                have HSU := Lib.hid hsf
                rw [hsf] at HSF
                clear hsf
                gi_wp2
                refine round_call (HSF.out _) ?_
                rintro e w1 ⟨rfl, rfl⟩
                have hlt := label_take p
                have k1 : IntKind.i64.wrap ((p.length : Int) - 1) = ((p.length - 1 : Nat) : Int) := by
                  have : 0 < p.length := List.length_pos_iff.2 HPM.out.1
                  have := HPM.out.2
                  rw [IntKind.wrap_i64] <;> omega
                have k2 : (0 : Int) ≤ ((p.length - 1 : Nat) : Int) := by omega
                have k3 : p.length - 1 ≤ (bs p).size := by rw [hsz]; omega
                gi_wp2
                refine round_still (by kernel_rfl) (fun h => h.elim fun _ h => h.elim fun _ h => h) (by kernel_rfl) (by kernel_rfl) ?_
                repeat still_step
                refine wpStill_nil ?_
                obtain ⟨D, hmap, hD⟩ := HM.out.rd.mp
                obtain ⟨lab, hlabd⟩ : ∃ lab, lab = p.dropLast := ⟨_, rfl⟩
                have hll : lab.length ≤ 100000 := by rw [hlabd, List.length_dropLast]; have := HPM.out.2; omega
                have HLD := Lib.hid hlabd
                rw [← hlabd]
                have hkey : keyOf Tryz.prog 9 (.string (bs lab)) = some (.string lab) := by
                  have := WideMaps.keyOf_string_mk (P := Tryz.prog) Tryz.underlying9 (s := bs lab) (by rw [bs_size]; unfold maxLen; omega)
                  rwa [bs_data] at this
                have hmap1 : w1.drew.ownsMap Tryz.prog 9 (plainElem Tryz.prog 3) m labs.length D := hmap
                have HD0 := Lib.hid (hD.2 lab)
                have hTl := bs_list lab
                have e3 : w1.cell? ⟨H + 1 + 1 + 1, 0, none⟩ = some (.int .i64 ((pre.length : Int) + 1)) := HM.out.h3.cell
                have e1 : w1.cell? ⟨H + 1, 0, none⟩ = some (.int .i64 0) := HM.out.h1.cell
                have e2 : w1.cell? ⟨H + 1 + 1, 0, none⟩ = some (.bool false) := HM.out.h2.cell
                have f1 : w1.frozen? ⟨H + 1, 0, none⟩ = false := HM.out.h1.frozen
                have f2 : w1.frozen? ⟨H + 1 + 1, 0, none⟩ = false := HM.out.h2.frozen
                have HMP := Lib.hid hmap1
                have HDD := Lib.hid hD
                have HKY := Lib.hid hkey
                have e28 : w1.cell? ⟨b, 28, none⟩ = some (.map (some m)) := HM.out.rd.c28
                have eH : w1.cell? ⟨H, 0, none⟩ = some (.pointer (some ⟨b, 0, none⟩)) := HM.out.h0.cell
                clear hlabd hmap hD hmap1 hkey hlt k1 k2 k3
                by_cases hbad : (look labs lab).isSome = true ∨ lab = []
                · have HBD : Hid (firstGo [] [] 0 P = .error (pre.length + 1)) := Lib.hid (by rw [HG.out]; exact firstGo_bad HFF.out HSU.out labs (by rw [← HLD.out]; exact hbad) lines _ _)
                  have HSP : Hid ((look labs lab).isSome = true ∨ ((look labs lab).isSome = false ∧ lab = [])) := Lib.hid (by
                    cases h : (look labs lab).isSome with
                    | true => exact .inl rfl
                    | false => rw [h] at hbad; exact .inr ⟨rfl, by simpa using hbad⟩)
                  have HFIN : Hid (∀ ac : Act, ownPostG W0.heap.size (SplK (H + 1 + 1 + 1 + 1 + 1) (H + 1 + 1 + 1 + 1) (H + 1 + 1 + 1 + 1 + 2)) (FirstI H n₀ b m P W0) (FirstX H n₀ b P W0) (pre ++ [x]) W .ret ac ((w1.setCell ⟨H + 1, 0, none⟩ (.int .i64 ((pre.length : Int) + 1))).setCell ⟨H + 1 + 1, 0, none⟩ (.bool false)).drew) := Lib.hid (fun ac => by
                    refine ⟨keeps_drew (HM.out.kf.trans (((KeepsOthers.setCell w1 ⟨H + 1, 0, none⟩ (.int .i64 ((pre.length : Int) + 1))).trans (KeepsOthers.setCell _ _ _)).from _)), ⟨⟨rfl, pre.length + 1, HBD.out, ?_⟩, ?_, HM.out.fr.trans ((FrB.setCell _ _ (by omega) (by omega)).trans ((FrB.setCell _ _ (by omega) (by omega)).trans (.drew _ _ _)))⟩⟩
                    · exact (HM.out.h1.set _).other (by omega) _
                    · exact (HM.out.h2.other (by omega) _).set _)
                  clear hbad
                  rcases HSP.out with KS | ⟨KS, hl0⟩
                  · clear HSP
                    gi_wp2_with (gi_at_lookup; refine wpListIn_lookup_own_ok_int _ rfl _ _ 35 rfl 9 3 .i64 (Maps.string_keyed Tryz.underlying9) Tryz.underlying35 Tryz.underlying3 (Tryz.zeroValue3 _) m labs.length D rfl HMP.out _ _ rfl HKY.out ?_; intro cL hat hwc; rw [HD0.out.1, KS])
                    exact HFIN.out _
                  · have e0 : lab.isEmpty = true := by rw [hl0]; rfl
                    clear HSP hl0
                    gi_wp2_with (gi_at_lookup; refine wpListIn_lookup_own_ok_int _ rfl _ _ 35 rfl 9 3 .i64 (Maps.string_keyed Tryz.underlying9) Tryz.underlying35 Tryz.underlying3 (Tryz.zeroValue3 _) m labs.length D rfl HMP.out _ _ rfl HKY.out ?_; intro cL hat hwc; rw [HD0.out.1, KS])
                    exact HFIN.out _
                · have KS : (look labs lab).isSome = false := by
                    cases h : (look labs lab).isSome with
                    | true => exact absurd (.inl h) hbad
                    | false => rfl
                  have e0 : lab.isEmpty = false := by
                    cases lab with
                    | nil => exact absurd (.inr rfl) hbad
                    | cons _ _ => rfl
                  have HBG : Hid (firstGo [] [] 0 P = firstGo ((lab, lines.length) :: labs) (if rest = [] then lines else lines ++ [(rest, pre.length + 1)]) (pre.length + 1) q) := Lib.hid (by rw [HG.out, HLD.out]; exact firstGo_lab HFF.out HSU.out labs (by rw [← HLD.out]; exact hbad) lines _ _)
                  clear hbad
                  gi_wp2_with (gi_at_lookup; refine wpListIn_lookup_own_ok_int _ rfl _ _ 35 rfl 9 3 .i64 (Maps.string_keyed Tryz.underlying9) Tryz.underlying35 Tryz.underlying3 (Tryz.zeroValue3 _) m labs.length D rfl HMP.out _ _ rfl HKY.out ?_; intro cL hat hwc; rw [HD0.out.1, KS])
                  obtain ⟨v0, L, hv29, hL, hrow, hPL⟩ := HM.out.rd.ln
                  obtain ⟨adl, capl, rfl, hnl⟩ := own_len hrow
                  clear hL hrow hPL hat hwc
                  refine round_still_tail 10 (by kernel_rfl) (fun h => h.elim fun _ h => h.elim fun _ h => h) (by kernel_rfl) (by kernel_rfl) ?_
                  simp only [List.take_succ_cons, List.take_zero, List.drop_succ_cons, List.drop_zero]
                  repeat still_step
                  refine wpStill_nil ?_
                  have hlw : (Lit.int .i64 (lines.length : Int)).wf = true := by
                    have := HLN.out
                    have e1 : IntKind.i64.min = -9223372036854775808 := by decide
                    have e2 : IntKind.i64.max = 9223372036854775807 := by decide
                    simp only [Lit.wf, e1, e2, Bool.and_eq_true, decide_eq_true_eq]
                    omega
                  go_wp2_with (at_mapUpdate; refine wpList_mapUpdate_own _ rfl _ _ _ 35 rfl 9 3 (Maps.string_keyed Tryz.underlying9) Tryz.underlying35 (plainElem Tryz.prog 3) m labs.length D rfl HMP.out (by have := HLB.out; unfold maxLen; omega) _ _ _ rfl rfl HKY.out _ [] (plainElem_int Tryz.underlying3 hlw) ?_; intro w3 hown3 hgrow3)
                  have HM3 := Lib.hid (HM.out.drew.drew.put (by simp; omega) hnm hml h7' HDD.out hown3 hgrow3)
                  have hg3 : w3.heap[g]? = w1.heap[g]? := by
                    obtain ⟨_, hg1⟩ := own_lt HO.out g rfl
                    refine hgrow3.block g (by simpa using hg1) (fun e => ?_)
                    have := (own_lt HO.out g rfl).1
                    cases e; omega
                  have HO3 : Hid (w3.ownsRow W1.heap.size 9 1 (.slice (some ⟨g, 0, none⟩) (p :: rest).length (p :: rest).length) (p :: rest).length (strs (p :: rest))) := Lib.hid (own_move HO.out (Nat.le_refl _) fun k e => by cases e; exact hg3)
                  have hs3 : w1.heap.size ≤ w3.heap.size := hgrow3.size
                  have k5 : (1 : Int) ≤ (F1 : Int) := by omega
                  clear hown3 hgrow3 hg3 hlw
                  have HRL : Hid (F1 - 1 = rest.length) := Lib.hid (by rw [HF1.out]; simp)
                  have HR0 : Hid (F1 = 1 → rest = []) := Lib.hid fun e => List.length_eq_zero_iff.1 (by have := HRL.out; omega)
                  have HLB2 : Hid (((lab, lines.length) :: labs).length ≤ pre.length + 1) := Lib.hid (by have := HLB.out; simp; omega)
                  gi_wp2
                  · rename_i h
                    exact ⟨(lab, lines.length) :: labs, rest, some ⟨g, 0, none⟩, 0, ⟨rfl, by rw [HR0.out h]; rfl, rfl⟩, HM3.out, fun hne => absurd (HR0.out h) hne, HLB2.out, by omega, HBG.out⟩
                  · exact ⟨(lab, lines.length) :: labs, rest, some ⟨g, 1, none⟩, F1 - 1, ⟨rfl, HRL.out, rfl⟩, HM3.out, fun hne => parts_drop 1 HO3.out rfl hne _ _ rfl (by rw [HF1.out]) (by omega), HLB2.out, by omega, HBG.out⟩
          · rintro a' V2 ⟨labs', ps, ad0, c0', ⟨z8, z10, z11, z12, z17, z18, z19, z20, z21, z22, z23, z24, z25, z26, z27, z28, z29, z30, z31, z32, z33, z34, z35, z36, z37, z38, z39, z40, z41, z42, z43, z44, z45, z46, z47, z48, z49, z50, z51, z52, z53, z54, z55, z56, z57, z58, z59, z60, z61, z62, z63, z64, z65, z66, z67, z68, z69, z70, z71, z72, rfl⟩, hm, hpi, hlb, hv7, hgo⟩
            have HPI := Lib.hid hpi
            have HLL := Lib.hid hlb
            have HGO := Lib.hid hgo
            have HM2 := Lib.hid hm
            clear hm hpi hlb hgo
            by_cases hps : ps = []
            · subst hps
              gi_wp2
              exact HM2.out.fin (by simpa using HGO.out) HD.out HLL.out (Nat.le_succ_of_le HLN.out) _
            · have HGO2 : Hid (firstGo [] [] 0 P = firstGo labs' (lines ++ [(ps, pre.length + 1)]) (pre.length + 1) q) := Lib.hid (by rw [HGO.out, if_neg hps])
              have HPI2 := Lib.hid (HPI.out hps)
              obtain ⟨v0, L, hv29, hL, hrow, hPL⟩ := HM2.out.rd.ln
              obtain ⟨adl, capl, rfl, hnl⟩ := own_len hrow
              have kp : (0 : Int) < (ps.length : Int) := by have := List.length_pos_iff.2 hps; omega
              have hll2 : lines.length ≤ 100001 := by have := HLN.out; omega
              have hf29 := HM2.out.rd.f29
              have c0 := HM2.out.h0.cell
              have c3 := HM2.out.h3.cell
              have hpv1 : (Value.slice ad0 ps.length c0').oneCell' = true := rfl
              have HRow := Lib.hid hrow
              have HAP : Hid (∀ (g cap : Nat) (w1 : World), w1.ownsRow (H + 7) 58 2 (.slice (some ⟨g, 0, none⟩) (lines.length + 1) cap) (lines.length + 1) ((L.flatMap fun x => [x.1, .int .i64 (x.2.2 : Int)]) ++ [.slice ad0 ps.length c0', .int .i64 ((pre.length : Int) + 1)]) →
                (V2.alloc (.cells #[.slice ad0 ps.length c0', .int .i64 ((pre.length : Int) + 1)] 58)).drew.grownBy w1 (Value.slice adl lines.length capl).ownBlock →
                (w1.cell? ⟨b, 29, none⟩ = some (.slice adl lines.length capl) ∧ w1.frozen? ⟨b, 29, none⟩ = false ∧ w1.cell? ⟨H, 0, none⟩ = some (.pointer (some ⟨b, 0, none⟩)) ∧ w1.cell? ⟨H + 1 + 1 + 1, 0, none⟩ = some (.int .i64 ((pre.length : Int) + 1))) ∧
                  FirstM H n₀ b m W0 W ((pre.length : Int) + 1) labs' (lines ++ [(ps, pre.length + 1)]) (w1.setCell ⟨b, 29, none⟩ (.slice (some ⟨g, 0, none⟩) (lines.length + 1) cap))) := Lib.hid fun g cap w1 h1 h2 => FirstM.append (A := pre.length + 1) (g := g) (cap := cap) (w1 := w1) HM2.out hv7 hnb hbl h7' hv29 hL hrow hPL HPI2.out h1 h2
              have HS2 : Hid ((V2.alloc (.cells #[.slice ad0 ps.length c0', .int .i64 ((pre.length : Int) + 1)] 58)).drew.cell? ⟨H, 0, none⟩ = some (.pointer (some ⟨b, 0, none⟩)) ∧ (V2.alloc (.cells #[.slice ad0 ps.length c0', .int .i64 ((pre.length : Int) + 1)] 58)).drew.cell? ⟨H + 1 + 1 + 1, 0, none⟩ = some (.int .i64 ((pre.length : Int) + 1))) := Lib.hid ⟨(World.cell?_alloc_lt _ _ _ (by simp; omega)).trans c0, (World.cell?_alloc_lt _ _ _ (by simp; omega)).trans c3⟩
              have HNews := Lib.hid (World.news_of_block (w := (V2.alloc (.cells #[.slice ad0 ps.length c0', .int .i64 ((pre.length : Int) + 1)] 58)).drew) (B := V2.heap.size) (cs := #[.slice ad0 ps.length c0', .int .i64 ((pre.length : Int) + 1)]) (t := 58) (fr := (0, 0)) (heap_alloc_new V2 _))
              have HO1 : Hid (∀ u ∈ [Value.slice ad0 ps.length c0', Value.int .i64 ((pre.length : Int) + 1)], u.oneCell' = true) := Lib.hid (by
                intro u hu
                simp only [List.mem_cons, List.not_mem_nil, or_false] at hu
                rcases hu with rfl | rfl <;> rfl)
              have hv29' : (V2.alloc (.cells #[.slice ad0 ps.length c0', .int .i64 ((pre.length : Int) + 1)] 58)).cell? ⟨b, 29, none⟩ = some (.slice adl lines.length capl) := (World.cell?_alloc_lt _ _ _ (by simp; omega)).trans hv29
              clear hL hrow hPL hps hpv1
              gi_wp2
              refine round_region_held (S := fun W' => W'.cell? ⟨H, 0, none⟩ = some (.pointer (some ⟨b, 0, none⟩)) ∧ W'.cell? ⟨H + 1 + 1 + 1, 0, none⟩ = some (.int .i64 ((pre.length : Int) + 1))) (by kernel_rfl) (fun h => h.elim fun _ h => h.elim fun _ h => h) (by kernel_rfl) ⟨c0, c3⟩ (fun hHeld => ?_)
              refine wpAnyH_take (i := 5) (v := ?v5) rfl (by kernel_rfl) (by kernel_rfl) (by kernel_rfl) (fun _ _ _ h => h) (Or.inl ⟨by rfl, ?hy5⟩) hHeld ?rest5
              case hy5 => (rintro W' ⟨s1, s2⟩; go_simp <;> with_reducible rfl)
              simp only [Act.put, List.setIfInBounds_toArray, List.set_cons_zero, List.set_cons_succ]
              refine wpAnyH_take (i := 0) (v := ?v0) rfl (by kernel_rfl) (by kernel_rfl) (by kernel_rfl) (fun _ _ _ h => h) (Or.inl ⟨by rfl, ?hy0⟩) hHeld ?rest0
              case hy0 => (rintro W' ⟨s1, s2⟩; go_simp <;> with_reducible rfl)
              simp only [Act.put, List.setIfInBounds_toArray, List.set_cons_zero, List.set_cons_succ]
              refine wpAnyH_take (i := 1) (v := ?v1) rfl (by kernel_rfl) (by kernel_rfl) (by kernel_rfl) (fun _ _ _ h => h) (Or.inl ⟨by rfl, ?hy1⟩) hHeld ?rest1
              case hy1 => (rintro W' ⟨s1, s2⟩; go_simp <;> with_reducible rfl)
              simp only [Act.put, List.setIfInBounds_toArray, List.set_cons_zero, List.set_cons_succ]
              refine wpAnyH_take (i := 2) (v := ?v2) rfl (by kernel_rfl) (by kernel_rfl) (by kernel_rfl) (fun _ _ _ h => h) (Or.inl ⟨by rfl, ?hy2⟩) hHeld ?rest2
              case hy2 => (rintro W' ⟨s1, s2⟩; go_simp <;> with_reducible rfl)
              simp only [Act.put, List.setIfInBounds_toArray, List.set_cons_zero, List.set_cons_succ]
              refine wpAnyH_take (i := 3) (v := ?v3) rfl (by kernel_rfl) (by kernel_rfl) (by kernel_rfl) (fun _ _ _ h => h) (Or.inl ⟨by rfl, ?hy3⟩) hHeld ?rest3
              case hy3 => (rintro W' ⟨s1, s2⟩; go_simp <;> with_reducible rfl)
              simp only [Act.put, List.setIfInBounds_toArray, List.set_cons_zero, List.set_cons_succ]
              refine wpAnyH_take (i := 6) (v := ?v6) rfl (by kernel_rfl) (by kernel_rfl) (by kernel_rfl) (fun _ _ _ h => h) (Or.inl ⟨by rfl, ?hy6⟩) hHeld ?rest6
              case hy6 => (rintro W' ⟨s1, s2⟩; go_simp <;> with_reducible rfl)
              simp only [Act.put, List.setIfInBounds_toArray, List.set_cons_zero, List.set_cons_succ]
              refine wpAnyH_take (i := 7) (v := ?v7) rfl (by kernel_rfl) (by kernel_rfl) (by kernel_rfl) (fun _ _ _ h => h) (Or.inl ⟨by rfl, ?hy7⟩) hHeld ?rest7
              case hy7 => (rintro W' ⟨s1, s2⟩; go_simp <;> with_reducible rfl)
              simp only [Act.put, List.setIfInBounds_toArray, List.set_cons_zero, List.set_cons_succ]
              refine wpAnyH_ready (rs := [4, 8]) (by kernel_rfl) (by simp) (AllReadyH.cons rfl (fun K hK => ?_) (AllReadyH.cons rfl (fun K hK => ?_) AllReadyH.nil))
              · go_simp
                refine hK.out _ _ hHeld (fun hHeld => ?_)
                clear hK K
                try simp only [Act.put, List.setIfInBounds_toArray, List.set_cons_zero, List.set_cons_succ]
                refine wpAnyH_ready (rs := [8]) (by kernel_rfl) (by simp) (AllReadyH.cons rfl (fun K hK => ?_) AllReadyH.nil)
                go_simp
                refine hK.out _ _ HS2.out (fun hHeld => ?_)
                clear hK K
                try simp only [Act.put, List.setIfInBounds_toArray, List.set_cons_zero, List.set_cons_succ]
                refine wpAnyH_ready (rs := [9]) (by kernel_rfl) (by simp) (AllReadyH.cons rfl (fun K hK => ?_) AllReadyH.nil)
                refine step_append_lies _ (by rfl) _ _ 51 (by rfl) (H + 7) 58 i0 _ 2 32 Tryz.underlying51 hi0 hz0 hz1 hz2 rfl (by omega) (.slice adl lines.length capl) lines.length _ (by rfl) ((HRow.out.alloc _).drew)
                  ⟨V2.heap.size, 0, none⟩ 1 1 [.slice ad0 ps.length c0', .int .i64 ((pre.length : Int) + 1)] (by rfl) (by rfl) HNews.out HO1.out (by omega) (by unfold maxLen; omega) (by omega) (by simp; omega) (V2.heap.size + 1) (by simp) ?_
                intro g2 cap2 w5 hown5 hgrow5 _ _
                obtain ⟨⟨x1, x2, x3, x4⟩, x5⟩ := HAP.out g2 cap2 w5 hown5 hgrow5
                have HX5 := Lib.hid x5
                clear hown5 hgrow5 x5
                refine hK.out _ _ ⟨x3, x4⟩ (fun hHeld => ?_)
                clear hK K
                try simp only [Act.put, List.setIfInBounds_toArray, List.set_cons_zero, List.set_cons_succ]
                refine wpAnyH_take (i := 10) (v := ?v10a) rfl (by kernel_rfl) (by kernel_rfl) (by kernel_rfl) (fun _ _ _ h => h) (Or.inl ⟨by rfl, ?hy10a⟩) hHeld ?rest10a
                case hy10a => (rintro W' ⟨s1, s2⟩; go_simp <;> with_reducible rfl)
                try simp only [Act.put, List.setIfInBounds_toArray, List.set_cons_zero, List.set_cons_succ]
                refine wpAnyH_take (i := 11) (v := ?v11a) rfl (by kernel_rfl) (by kernel_rfl) (by kernel_rfl) (fun _ _ _ h => h) (Or.inl ⟨by rfl, ?hy11a⟩) hHeld ?rest11a
                case hy11a => (rintro W' ⟨s1, s2⟩; go_simp <;> with_reducible rfl)
                try simp only [Act.put, List.setIfInBounds_toArray, List.set_cons_zero, List.set_cons_succ]
                refine wpAnyH_ready (rs := [12]) (by kernel_rfl) (by simp) (AllReadyH.cons rfl (fun K hK => ?_) AllReadyH.nil)
                go_simp
                refine hK.out _ _ ⟨(World.cell?_setCell_other _ _ _ _ (by simp <;> omega)).trans x3, (World.cell?_setCell_other _ _ _ _ (by simp <;> omega)).trans x4⟩ (fun hHeld => ?_)
                clear hK K
                refine wpAnyH_done (by kernel_rfl) ?_ _
                exact HX5.out.fin HGO2.out HD.out HLL.out (by have := HLN.out; simp; omega) ⟨#[], []⟩
              · go_simp
                refine hK.out _ _ HS2.out (fun hHeld => ?_)
                clear hK K
                try simp only [Act.put, List.setIfInBounds_toArray, List.set_cons_zero, List.set_cons_succ]
                refine wpAnyH_ready (rs := [4]) (by kernel_rfl) (by simp) (AllReadyH.cons rfl (fun K hK => ?_) AllReadyH.nil)
                go_simp
                refine hK.out _ _ HS2.out (fun hHeld => ?_)
                clear hK K
                try simp only [Act.put, List.setIfInBounds_toArray, List.set_cons_zero, List.set_cons_succ]
                refine wpAnyH_ready (rs := [9]) (by kernel_rfl) (by simp) (AllReadyH.cons rfl (fun K hK => ?_) AllReadyH.nil)
                refine step_append_lies _ (by rfl) _ _ 51 (by rfl) (H + 7) 58 i0 _ 2 32 Tryz.underlying51 hi0 hz0 hz1 hz2 rfl (by omega) (.slice adl lines.length capl) lines.length _ (by rfl) ((HRow.out.alloc _).drew)
                  ⟨V2.heap.size, 0, none⟩ 1 1 [.slice ad0 ps.length c0', .int .i64 ((pre.length : Int) + 1)] (by rfl) (by rfl) HNews.out HO1.out (by omega) (by unfold maxLen; omega) (by omega) (by simp; omega) (V2.heap.size + 1) (by simp) ?_
                intro g2 cap2 w5 hown5 hgrow5 _ _
                obtain ⟨⟨x1, x2, x3, x4⟩, x5⟩ := HAP.out g2 cap2 w5 hown5 hgrow5
                have HX5 := Lib.hid x5
                clear hown5 hgrow5 x5
                refine hK.out _ _ ⟨x3, x4⟩ (fun hHeld => ?_)
                clear hK K
                try simp only [Act.put, List.setIfInBounds_toArray, List.set_cons_zero, List.set_cons_succ]
                refine wpAnyH_take (i := 10) (v := ?v10b) rfl (by kernel_rfl) (by kernel_rfl) (by kernel_rfl) (fun _ _ _ h => h) (Or.inl ⟨by rfl, ?hy10b⟩) hHeld ?rest10b
                case hy10b => (rintro W' ⟨s1, s2⟩; go_simp <;> with_reducible rfl)
                try simp only [Act.put, List.setIfInBounds_toArray, List.set_cons_zero, List.set_cons_succ]
                refine wpAnyH_take (i := 11) (v := ?v11b) rfl (by kernel_rfl) (by kernel_rfl) (by kernel_rfl) (fun _ _ _ h => h) (Or.inl ⟨by rfl, ?hy11b⟩) hHeld ?rest11b
                case hy11b => (rintro W' ⟨s1, s2⟩; go_simp <;> with_reducible rfl)
                try simp only [Act.put, List.setIfInBounds_toArray, List.set_cons_zero, List.set_cons_succ]
                refine wpAnyH_ready (rs := [12]) (by kernel_rfl) (by simp) (AllReadyH.cons rfl (fun K hK => ?_) AllReadyH.nil)
                go_simp
                refine hK.out _ _ ⟨(World.cell?_setCell_other _ _ _ _ (by simp <;> omega)).trans x3, (World.cell?_setCell_other _ _ _ _ (by simp <;> omega)).trans x4⟩ (fun hHeld => ?_)
                clear hK K
                refine wpAnyH_done (by kernel_rfl) ?_ _
                exact HX5.out.fin HGO2.out HD.out HLL.out (by have := HLN.out; simp; omega) ⟨#[], []⟩
  case done =>
    rintro D W hD ⟨⟨⟨labs, lines⟩, ⟨hgo, -, -⟩, hrd⟩, ⟨q0, q1, q2, q3⟩, hf⟩ hK
    simp only at hgo hrd
    rw [List.drop_eq_nil_of_le (Nat.le_refl _)] at hgo
    have HGO : Hid (firstP s = .ok (labs, lines)) := Lib.hid (by rw [HS.out, hgo]; rfl)
    have c1 := q1.cell
    have f1 := q1.frozen
    have c2 := q2.cell
    have f2 := q2.frozen
    have HRD2 := Lib.hid hrd
    have HF := Lib.hid hf
    have HK := Lib.hid hK
    have H1 := Lib.hid q1
    have H2 := Lib.hid q2
    clear hgo hrd q0 q1 q2 q3 hf hK
    gi_wp2
    have hrd1 : RdAt ((W.setCell ⟨H + 1, 0, none⟩ (.int .i64 0)).setCell ⟨H + 1 + 1, 0, none⟩ (.bool true)) (H + 7) b m labs lines := (HRD2.out.setCell (by omega) (by omega) (by omega) _).setCell (by omega) (by omega) (by omega) _
    have hb1 := (H1.out.set (.int .i64 0)).other (B' := H + 1 + 1) (by omega) (.bool true)
    have hb2 := (H2.out.other (B' := H + 1) (by omega) (.int .i64 0)).set (.bool true)
    have hK' := ((KeepsOthers.setCell W ⟨H + 1, 0, none⟩ (.int .i64 0)).trans (KeepsOthers.setCell _ ⟨H + 1 + 1, 0, none⟩ (.bool true))).same D _ HK.out rfl
    have hf1 : FrB n₀ b W ((W.setCell ⟨H + 1, 0, none⟩ (.int .i64 0)).setCell ⟨H + 1 + 1, 0, none⟩ (.bool true)) := (FrB.setCell _ _ (by omega) (by omega)).trans (FrB.setCell _ _ (by omega) (by omega))
    refine ⟨by simp, .inl ⟨_, _, rfl, run_takeDeferred hK', ?_⟩⟩
    have p1 := hb1.kept (grownBy_putObj' _ D (.deferred none)) (by intro e; cases e; omega)
    have p2 := hb2.kept (grownBy_putObj' _ D (.deferred none)) (by intro e; cases e; omega)
    have d1 := p1.cell
    have d2 := p2.cell
    refine ⟨.tuple #[.int .i64 0, .bool true], ?_, ?_⟩
    · simp [results, Tryz.results12, go_sem, d1, d2]
    · refine ⟨HF0.out.trans (HF.out.trans (hf1.trans (frB_grown (FrB.refl _ _ _) (grownBy_putObj' _ D (.deferred none)) ?_ ?_ ?_))), ?_⟩
      · have := HF.out.below.size; simp; omega
      · have := HF.out.below.size; simp; omega
      · intro r e; cases e; omega
      · rw [HGO.out]
        refine ⟨rfl, ?_⟩
        rw [HW.out]
        exact hrd1.kept fun k hk hc => World.putObj_heap_other (fun e => by
          subst e
          rcases hc with rfl | rfl | ⟨_, cs, t, _, hc⟩
          · omega
          · omega
          · rw [hK'] at hc; cases hc)
  case stop =>
    rintro D c pre W hD ⟨⟨rfl, k, hk, hb1⟩, hb2, hf⟩ hK
    have HGO : Hid (firstP s = .error k) := Lib.hid (by rw [HS.out, hk])
    clear hk
    gi_wp2
    refine ⟨by simp, .inl ⟨_, _, rfl, run_takeDeferred hK, ?_⟩⟩
    have d1 := (hb1.kept (grownBy_putObj' _ D (.deferred none)) (by intro e; cases e; omega)).cell
    have d2 := (hb2.kept (grownBy_putObj' _ D (.deferred none)) (by intro e; cases e; omega)).cell
    refine ⟨.tuple #[.int .i64 (k : Int), .bool false], ?_, ?_⟩
    · simp [results, Tryz.results12, go_sem, d1, d2]
    · refine ⟨HF0.out.trans (hf.trans (frB_grown (FrB.refl _ _ _) (grownBy_putObj' _ D (.deferred none)) ?_ ?_ ?_)), ?_⟩
      · have := hf.below.size; omega
      · have := hf.below.size; omega
      · intro r e; cases e; omega
      · rw [HGO.out]

end Go.Proofs.YtapjfcljbdlnkaaGreatDoor
