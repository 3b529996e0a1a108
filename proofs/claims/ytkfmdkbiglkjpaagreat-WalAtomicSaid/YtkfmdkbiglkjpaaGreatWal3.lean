/- wal.home. -/
import Derived.Test.YtkfmdkbiglkjpaaGreatWal2
namespace Go.Proofs.YtkfmdkbiglkjpaaGreat
open Go Go.RowKit Go.Lib
attribute [local go_sem ↓] wp_bslice exec_load_data exec_load_put exec_store_data exec_store_put
set_option maxRecDepth 100000

/-- one step, and if that was done the next -/
def DS.bind (r : Bool × DS) (f : DS → Bool × DS) : Bool × DS := if r.1 then f r.2 else r
theorem bind_no {r : Bool × DS} {f : DS → Bool × DS} (h : r.1 = false) : DS.bind r f = (false, r.2) := by
  obtain ⟨b, t⟩ := r
  simp only at h
  subst h; rfl
theorem bind_yes {r : Bool × DS} {f : DS → Bool × DS} (h : r.1 = true) : DS.bind r f = f r.2 := by
  obtain ⟨b, t⟩ := r
  simp only at h
  subst h; rfl
def DS.writes : DS → List PutV → Bool × DS
  | s, [] => (true, s)
  | s, p :: l => DS.bind (s.write p.1.toNat p.2) fun t => t.writes l
def DS.home (s : DS) (l : List PutV) : Bool × DS := DS.bind (s.writes l) fun s1 => DS.bind (s1.flush (l.map (·.1.toNat))) fun s2 => DS.bind (s2.write 1 zeroD) fun s3 => s3.flush [1]
/-- not much has been done -/
structure DS.sm (s : DS) (N c : Nat) : Prop where
  len : s.L.length = N
  wai : s.W.length ≤ c
  lft : s.left ≤ 1099511627776
  don : s.dn ≤ c
theorem DS.sm.ok {s : DS} {N c : Nat} (h : s.sm N c) (h0 : 0 < N) (h1 : N ≤ 1000) (hc : c ≤ 50000) : s.ok := ⟨by rw [h.len]; exact h0, by rw [h.len]; exact h1, Nat.le_trans h.wai hc, h.lft, Nat.le_trans h.don (by omega)⟩
theorem DS.sm.mono {s : DS} {N c c' : Nat} (h : s.sm N c) (hc : c ≤ c') : s.sm N c' := ⟨h.len, Nat.le_trans h.wai hc, h.lft, Nat.le_trans h.don hc⟩
theorem sm_write {s : DS} {N c : Nat} (b : Nat) (x : Dat) (h : s.sm N c) : (s.write b x).2.sm N (c + 1) := by
  unfold DS.write
  split
  · exact h.mono (by omega)
  · refine ⟨h.len, ?_, by have := h.lft; simp only; omega, by have := h.don; simp only; omega⟩
    have := h.wai
    simp; omega
theorem sm_flush1 {s : DS} {N c : Nat} (b : Nat) (h : s.sm N c) : (s.flush1 b).2.sm N (c + 1) := by
  unfold DS.flush1
  split
  · exact h.mono (by omega)
  · refine ⟨by simp only [settleL_len]; exact h.len, ?_, by have := h.lft; simp only; omega, by have := h.don; simp only; omega⟩
    have := h.wai
    have := settleW_len s.W b
    simp only; omega
theorem sm_flush {N : Nat} : ∀ (bs : List Nat) {s : DS} {c : Nat}, s.sm N c → (s.flush bs).2.sm N (c + bs.length)
  | [], _, _, h => h
  | b :: bs, s, c, h => by
    rw [DS.flush]
    split
    · have := sm_flush bs (sm_flush1 b h)
      rw [List.length_cons, show c + (bs.length + 1) = c + 1 + bs.length by omega]; exact this
    · exact h.mono (by simp)
theorem sm_writes {N : Nat} : ∀ (l : List PutV) {s : DS} {c : Nat}, s.sm N c → (s.writes l).2.sm N (c + l.length)
  | [], _, _, h => h
  | p :: l, s, c, h => by
    rw [DS.writes, DS.bind]
    split
    · have := sm_writes l (sm_write p.1.toNat p.2 h)
      rw [List.length_cons, show c + (l.length + 1) = c + 1 + l.length by omega]; exact this
    · exact (sm_write p.1.toNat p.2 h).mono (by simp)
/-- one block flushed, out of a slice made for it -/
theorem flush_one (F : Nat → Prop) (X D b : Nat) (s : DS) (w : World) (hs : s.ok) (hb : b < s.L.length) (h : Dv w F X D s) :
    Calls Tryz.prog 22 #[.pointer (some ⟨X, 0, none⟩), .slice (some ⟨w.heap.size, 0, none⟩) 1 1] (w.alloc (.cells #[.int .i64 (b : Int)] 3)) fun e w' => e = .returned (.bool (s.flush [b]).1) ∧ Dvs w F X D (s.flush [b]).2 w' := by
  have hbl : Below w.heap.size w (w.alloc (.cells #[.int .i64 (b : Int)] 3)) := (Below.refl _ _).alloc (Nat.le_refl _) _
  have hk : KReads (w.alloc (.cells #[.int .i64 (b : Int)] 3)) (some ⟨w.heap.size, 0, none⟩) [b] := fun j x hx => by
    have hj : j = 0 := by have := (List.getElem?_eq_some_iff.1 hx).1; simp at this; exact this
    subst hj
    obtain rfl : b = x := by simpa using hx
    exact ⟨w.heap.size, 0, rfl, by rw [cell_of_row _ _ _ _ _ _ (heap_alloc_last w _)]; rfl⟩
  refine (dev_flush F X D _ 1 [b] s _ hs (fun x hx => by rw [List.mem_singleton.1 hx]; exact hb) (by simp) (h.below hbl) hk (fun g off e => ?_)).mono ?_
  · obtain ⟨rfl, rfl⟩ : w.heap.size = g ∧ 0 = off := by simpa using e
    exact ⟨by simp, fun hf => by have := h.bd _ hf; omega, fun e => by have := h.dev.lt; omega⟩
  · rintro e w' ⟨he, hv⟩
    exact ⟨he, Dvs.comp (F1 := F) (fun k h => .inl h) (Keeps.of_below hbl) hv⟩
/-- a rule for the walk: a block of noughts, unopened -/
theorem exec_build0 {d : Tmp} {ty : TypeId} {p : String} {af : Array Edge} {gd : Option (Tmp × Bool)} {ρ : Operand → Value} {w : World} :
    (execOp ρ { dst := some d, op := .build 49 #[], type := ty, pos := p, after := af, guard := gd }).run Tryz.prog w = .ok (.value (.agg (dC zeroD).toArray)) w := by
  have hz : z64 = (dC zeroD).toArray := by simp [z64, dC, zeroD]
  unfold execOp
  have h : (Instr.build 49 #[]).run Tryz.prog w = .ok (.agg (dC zeroD).toArray) w := by
    unfold Instr.build
    rw [← hz]
    simp [Sem.run_bind, data_zero, run_underlying Tryz.underlying49, Instr.fill, Value.cells]
    rfl
  simp [h]
attribute [local go_sem ↓] exec_build0
theorem keeps_comp {w w1 w2 : World} {F F1 : Nat → Prop} {X : Nat} (hF : ∀ k, F1 k → F k ∨ newIn w w1 k) (hk : Keeps (fun k => F k ∨ k = X) w w1) (hk2 : Keeps (fun k => F1 k ∨ k = X) w1 w2) : Keeps (fun k => F k ∨ k = X) w w2 :=
  ⟨hk2.os.trans hk.os, hk2.tape.trans hk.tape, hk2.output.trans hk.output, Nat.le_trans hk.size hk2.size, fun k hk1 hf => (hk2.block k (Nat.lt_of_lt_of_le hk1 hk.size) fun h1 => by
    rcases h1 with h1 | h1
    · rcases hF k h1 with h3 | h3
      · exact hf (.inl h3)
      · have := h3.1; omega
    · exact hf (.inr h1)).trans (hk.block k hk1 hf)⟩
theorem Dv.move {w w' : World} {F : Nat → Prop} {X D : Nat} {s : DS} (h : Dv w F X D s) (hs : w.heap.size ≤ w'.heap.size) (hk : ∀ k, k < w.heap.size → F k ∨ k = X → w'.heap[k]? = w.heap[k]?) : Dv w' F X D s :=
  ⟨h.dev.on (hk X h.dev.lt (.inr rfl)), h.dsk.on fun k hl hf => hk k hl (.inl hf), h.nx, fun k hf => Nat.lt_of_lt_of_le (h.bd k hf) hs⟩
structure HmI (w : World) (F : Nat → Prop) (X D N c : Nat) (s : DS) (l : List PutV) (i : Nat) (t : DS) (wr : World) (F1 : Nat → Prop) (adb : Option Addr) (capb : Nat) : Prop where
  hF : ∀ k, F1 k → F k ∨ newIn w wr k
  dv : Dv wr F1 X D t
  kp : Keeps (fun k => F k ∨ k = X) w wr
  eq : s.writes l = t.writes (l.drop i)
  sm : t.sm N (c + i)
  row : wr.ownsRow w.heap.size 3 1 (.slice adb i capb) i (kC ((l.take i).map (·.1.toNat)))
  far : ∀ k, (Value.slice adb i capb).ownBlock = some k → ¬ F1 k
set_option maxHeartbeats 6400000 in
theorem wal_home (F : Nat → Prop) (X D N c : Nat) (ad : Option Addr) (cap : Nat) (l : List PutV) (s : DS) (w : World) (hs : s.sm N c) (hN : 2 ≤ N) (hN2 : N ≤ 1000) (hc : c ≤ 10000) (hl : l.length ≤ 16) (hb : ∀ p ∈ l, ∃ b : Nat, p.1 = (b : Int) ∧ b < N) (h : Dv w F X D s) (hp : PReads w ad cap l) (hin : PIn w F X ad) :
    Calls Tryz.prog 25 #[.pointer (some ⟨X, 0, none⟩), .slice ad l.length cap] w fun e w' => e = .returned (.bool (s.home l).1) ∧ Dvs w F X D (s.home l).2 w' := by
  have HP := Lib.hid hp
  have HS := Lib.hid hs
  have HH := Lib.hid h
  have HB := Lib.hid hb
  have HIN := Lib.hid hin
  obtain ⟨m, hm⟩ : ∃ m, m = l.length := ⟨_, rfl⟩
  have HM := Lib.hid hm
  have hcap : m ≤ cap := hm ▸ hp.len
  have hcm := hp.max
  obtain ⟨i0, hi0, hz0, hz1, hz2⟩ := info_parts int_info
  rw [← hm] at hl ⊢
  clear h hm hp hs hb hin
  go_enter Tryz.func25, Tryz.ntmps25
  go_wp2_with fail
  go_loopg [5, 10] m (fun k u v wr => ∃ (i : Nat) (t : DS) (F1 : Nat → Prop) (adb : Option Addr) (capb : Nat), k + i = m ∧ v = .int .i64 (i : Int) ∧ u = .slice adb i capb ∧ HmI w F X D N c s l i t wr F1 adb capb)
  case atStart => exact ⟨0, s, F, none, 0, by simp, rfl, rfl, fun k h => .inl h, HH.out, Keeps.refl _ _, rfl, HS.out, World.ownsRow_nil _ _ _ _, fun k e => by cases e⟩
  case round =>
    obtain ⟨i, t, F1, adb, capb, hk, rfl, rfl, hI⟩ := hrel
    have hk := Lib.hid hk
    have HI := Lib.hid hI
    clear hI
    by_cases hi : i < m
    · have hi1 : (i : Int) < (m : Int) := by omega
      have hi3 : (0 : Int) ≤ (i : Int) := by omega
      have wr1 : IntKind.i64.wrap ((i : Int) + 1) = (i : Int) + 1 := by rw [IntKind.wrap_i64] <;> omega
      obtain ⟨⟨pz, d⟩, hp⟩ : ∃ p, l[i]? = some p := ⟨l[i]'(by have := HM.out; omega), List.getElem?_eq_getElem _⟩
      obtain ⟨b, hpb, hbN⟩ := HB.out _ (List.mem_of_getElem? hp)
      simp only at hpb
      subst hpb
      have hd64 := HP.out.d64 _ (List.mem_of_getElem? hp)
      simp only at hd64
      obtain ⟨g, rfl, hr⟩ := HP.out.at' i _ hp
      obtain ⟨hgl, hgF, hgX⟩ := HIN.out g rfl
      have hr2 : wr.rangeAt g (i * 65) (pC ((b : Int), d)) := fun j v hv => (World.cell?_of_block (a := ⟨g, i * 65 + j, none⟩) (HI.out.kp.block g hgl fun h => by rcases h with h | h; exact hgF h; exact hgX h)).trans (hr j v hv)
      obtain ⟨hdo, hdk, hag, hth, hpt, hbx, hbl, hsz⟩ := put_round hr2 hd64
      obtain ⟨c0, hrg⟩ := put_cell hbx
      simp only at c0 hrg
      obtain ⟨hdo2, hdk2⟩ := dat_range hrg (by rw [dC_len, hd64] : (dC d).length = 64)
      obtain ⟨w1, hw1⟩ : ∃ w1, w1 = wr.alloc (.cells (pC ((b : Int), d)).toArray 60) := ⟨_, rfl⟩
      rw [← hw1] at hpt hbx hbl hsz c0 hdo2 hdk2
      have HDW := Lib.hid (dev_write F1 X D b d t w1 (HI.out.sm.ok (by omega) hN2 (by have := hk.out; omega)) (by rw [HI.out.sm.len]; exact hbN) hd64 (HI.out.dv.below hbl))
      have hdrop : l.drop i = ((b : Int), d) :: l.drop (i + 1) := by
        rw [List.drop_eq_getElem_cons (by have := HM.out; omega)]
        congr 1
        exact (List.getElem?_eq_some_iff.1 hp).2
      have HWE : Hid (s.writes l = DS.bind (t.write b d) fun t' => t'.writes (l.drop (i + 1))) := Lib.hid (by rw [HI.out.eq, hdrop]; rfl)
      have HTK : Hid ((l.take (i + 1)).map (·.1.toNat) = (l.take i).map (·.1.toNat) ++ [b]) := Lib.hid (by rw [List.take_add_one, hp]; simp)
      have HX := Lib.hid (And.intro hbx (And.intro hbl hsz))
      have HW1 := Lib.hid hw1
      have HV1 : Hid (∀ s2 w2, Dvs w1 F1 X D s2 w2 → Dvs w F X D s2 w2) := Lib.hid fun s2 w2 h2 => Dvs.comp (F1 := F1) (fun k hf => by
          rcases HI.out.hF k hf with h | h
          · exact .inl h
          · exact .inr ⟨h.1, by have := h.2; omega⟩) (HI.out.kp.trans (Keeps.of_below hbl)) h2
      clear hr hr2 hp hgl hgF hgX hrg hbx hbl hw1 hdrop
      cases hwd : (t.write b d).1 with
      | false =>
        rw [hwd] at HDW
        have HE : Hid (s.home l = (false, (t.write b d).2)) := Lib.hid (by
          have e1 : s.writes l = (false, (t.write b d).2) := by rw [HWE.out, bind_no hwd]
          unfold DS.home; rw [e1]; rfl)
        clear hwd
        go_wp2_with fail
        refine HDW.out.mono ?_
        rintro e w2 ⟨rfl, hv⟩
        have HV := Lib.hid (HV1.out _ _ hv)
        clear hv
        go_wp2_with fail
        go_ret
        rw [HE.out]
        exact ⟨rfl, HV.out⟩
      | true =>
        rw [hwd] at HDW
        have HE : Hid (s.writes l = (t.write b d).2.writes (l.drop (i + 1))) := Lib.hid (by rw [HWE.out, bind_yes hwd])
        clear hwd
        go_wp2_with fail
        refine HDW.out.mono ?_
        rintro e w2 ⟨rfl, F2, hF2, hd2, hk2⟩
        have hRl : wr.heap.size < w1.heap.size := by have := HX.out.2.2; omega
        have hRF : ¬ (F1 wr.heap.size ∨ wr.heap.size = X) := fun h => by
          rcases h with h | h
          · have := HI.out.dv.bd _ h; omega
          · have := HI.out.dv.dev.lt; omega
        have c2 : w2.cell? ⟨wr.heap.size, 0, none⟩ = some (.int .i64 (b : Int)) := by
          rw [World.cell?_of_block (a := ⟨wr.heap.size, 0, none⟩) (hk2.block _ hRl hRF)]; exact c0
        have hXw : X < w.heap.size := HH.out.dev.lt
        have hrk : ∀ r, (Value.slice adb i capb).ownBlock = some r → w.heap.size ≤ r ∧ r < wr.heap.size ∧ ¬ F1 r ∧ r ≠ X ∧ ¬ F2 r := fun r e => by
          have h1 := own_lt HI.out.row r e
          refine ⟨h1.1, h1.2, HI.out.far r e, by omega, fun h2 => ?_⟩
          rcases hF2 r h2 with h | h
          · exact HI.out.far r e h
          · have := h.1; omega
        have hrow2 : w2.ownsRow w.heap.size 3 1 (.slice adb i capb) i (kC ((l.take i).map (·.1.toNat))) := own_move HI.out.row (Nat.le_refl _) fun k e => by
          obtain ⟨q1, q2, q3, q4, q5⟩ := hrk k e
          exact (hk2.block k (by omega) fun h => by rcases h with h | h; exact q3 h; exact q4 h).trans (HX.out.2.1.block k q2)
        have hba : Below w2.heap.size w2 (w2.alloc (.cells #[.int .i64 (b : Int)] 3)) := (Below.refl _ _).alloc (Nat.le_refl _) _
        have HRO := Lib.hid (own_on hrow2 hba)
        have HNW := Lib.hid (World.news_of_block (w := w2.alloc (.cells #[.int .i64 (b : Int)] 3)) (B := w2.heap.size) (cs := #[.int .i64 (b : Int)]) (t := 3) (fr := (0, 0)) (heap_alloc_last _ _))
        have hF12 : ∀ k, F1 k → F k ∨ newIn w w1 k := fun k hf => by
          rcases HI.out.hF k hf with h | h
          · exact .inl h
          · exact .inr ⟨h.1, by have := h.2; omega⟩
        have hkw2 : Keeps (fun k => F k ∨ k = X) w w2 := keeps_comp hF12 (HI.out.kp.trans (Keeps.of_below HX.out.2.1)) hk2
        have hsz2 := hkw2.size
        have HNX : Hid (∀ (g2 cap2 : Nat) (w5 : World), w5.ownsRow w.heap.size 3 1 (.slice (some ⟨g2, 0, none⟩) (i + 1) cap2) (i + 1) (kC ((l.take i).map (·.1.toNat)) ++ [.int .i64 (b : Int)]) → (w2.alloc (.cells #[.int .i64 (b : Int)] 3)).grownBy w5 (Value.slice adb i capb).ownBlock → ((Value.slice adb i capb).ownBlock = some g2 ∨ g2 = w2.heap.size + 1) →
            HmI w F X D N c s l (i + 1) (t.write b d).2 w5 F2 (some ⟨g2, 0, none⟩) cap2) := Lib.hid fun g2 cap2 w5 ho hg hat => by
          have hsz5 : w2.heap.size + 1 ≤ w5.heap.size := by have := hg.size; simpa using this
          have hst : ∀ k, k < w2.heap.size → (Value.slice adb i capb).ownBlock ≠ some k → w5.heap[k]? = w2.heap[k]? := fun k hk hne => (hg.block k (by simp; omega) (Ne.symm hne)).trans (hba.block k hk)
          refine ⟨fun k hf => ?_, hd2.move (by omega) fun k hk hf => hst k hk fun e => ?_, ⟨hg.os.trans hkw2.os, hg.tape.trans hkw2.tape, hg.output.trans hkw2.output, by omega, fun k hk hf => (hst k (by omega) fun e => by have := (hrk k e).1; omega).trans (hkw2.block k hk hf)⟩, HE.out, by have := sm_write b d HI.out.sm; rwa [Nat.add_assoc] at this, ?_, fun k e => ?_⟩
          · rcases hF2 k hf with h | h
            · rcases HI.out.hF k h with h | h
              · exact .inl h
              · exact .inr ⟨h.1, by have := h.2; have := hk2.size; omega⟩
            · exact .inr ⟨by have := h.1; have := HI.out.kp.size; omega, by have := h.2; omega⟩
          · rcases hf with h | h
            · exact (hrk k e).2.2.2.2 h
            · exact (hrk k e).2.2.2.1 h
          · rw [HTK.out, kC_snoc]; exact ho
          · obtain rfl : g2 = k := by simpa [Value.ownBlock] using e
            rcases hat with h | h
            · exact (hrk g2 h).2.2.2.2
            · intro hf
              have := hd2.bd g2 hf
              omega
        clear hRl hRF hrk hrow2 hba hF12 hkw2 hF2 hd2 hk2
        go_wp2_with (first
          | (at_builtin; refine wpList_append_lies _ rfl _ _ _ rfl w.heap.size 3 i0 _ 1 8 Tryz.underlying45 hi0 hz0 hz1 hz2 rfl (by omega) (.slice adb i capb) i _ rfl HRO.out ⟨w2.heap.size, 0, none⟩ 1 1 [.int .i64 (b : Int)] rfl (by simp) HNW.out (fun v hv => by obtain rfl := List.mem_singleton.1 hv; rfl) (by omega) (by unfold maxLen; omega) (by omega) (by simp; omega) (w2.heap.size + 1) (by simp) ?_; intro g2 cap2 w5 hown5 hgrow5 hat5 _; have HX5 := Lib.hid (HNX.out g2 cap2 w5 hown5 hgrow5 hat5); clear hown5 hgrow5 hat5)
          | fail)
        go_roundg (gk - 1)
        case measure => have := hk.out; omega
        case rel => exact ⟨i + 1, _, F2, _, cap2, by have := hk.out; omega, by simp, rfl, HX5.out⟩
    · have hi1 : ¬ (i : Int) < (m : Int) := by omega
      obtain rfl : i = m := by have := hk.out; omega
      have hlm : (l.map (·.1.toNat)).length = i := by rw [List.length_map]; exact HM.out.symm
      have htk : l.take i = l := by rw [HM.out, List.take_length]
      have hwe : s.writes l = (true, t) := by rw [HI.out.eq, List.drop_of_length_le (by rw [HM.out]; exact Nat.le_refl _)]; rfl
      have hrow := HI.out.row
      rw [htk] at hrow
      have hbN : ∀ b ∈ l.map (·.1.toNat), b < N := fun b hb => by
        obtain ⟨p, hp, rfl⟩ := List.mem_map.1 hb
        obtain ⟨b, e, hlt⟩ := HB.out p hp
        rw [e]; simpa using hlt
      have HFL := dev_flush F1 X D adb capb (l.map (·.1.toNat)) t wr (HI.out.sm.ok (by omega) hN2 (by omega)) (fun b hb => by rw [HI.out.sm.len]; exact hbN b hb) (by rw [hlm]; omega) HI.out.dv (KReads.of_row hrow) (fun g off e => by
        have h1 := own_lt HI.out.row g (by rw [e]; rfl)
        refine ⟨h1.2, HI.out.far g (by rw [e]; rfl), by have := HH.out.dev.lt; omega⟩)
      rw [hlm] at HFL
      have hsm2 := sm_flush (l.map (·.1.toNat)) HI.out.sm
      rw [hlm] at hsm2
      have HSM := Lib.hid hsm2
      have HWE := Lib.hid hwe
      have V1 : Hid (∀ s2 w2, Dvs wr F1 X D s2 w2 → Dvs w F X D s2 w2) := Lib.hid fun s2 w2 h2 => Dvs.comp HI.out.hF HI.out.kp h2
      obtain ⟨r, hr⟩ : ∃ r, r = t.flush (l.map (·.1.toNat)) := ⟨_, rfl⟩
      rw [← hr] at HFL HSM
      have HR := Lib.hid hr
      obtain ⟨r1, t2⟩ := r
      simp only at HFL HSM
      have HF := Lib.hid HFL
      clear hlm htk hwe hrow hbN HFL hsm2 hr
      cases r1 with
      | false =>
        have HE : Hid (s.home l = (false, t2)) := Lib.hid (by unfold DS.home; rw [HWE.out, bind_yes rfl]; simp only; rw [← HR.out]; rfl)
        go_wp2_with fail
        refine HF.out.mono ?_
        rintro e w2 ⟨rfl, hv⟩
        have HV := Lib.hid (V1.out _ _ hv)
        clear hv
        go_wp2_with fail
        go_ret
        rw [HE.out]
        exact ⟨rfl, HV.out⟩
      | true =>
        have HE1 : Hid (s.home l = DS.bind (t2.write 1 zeroD) fun s3 => s3.flush [1]) := Lib.hid (by unfold DS.home; rw [HWE.out, bind_yes rfl]; simp only; rw [← HR.out]; rfl)
        go_wp2_with fail
        refine HF.out.mono ?_
        rintro e w2 ⟨rfl, F2, hF2, hd2, hk2⟩
        have HHD := Lib.hid (super_header w2)
        have hdw := dev_write F2 X D 1 zeroD t2 w2 (HSM.out.ok (by omega) hN2 (by omega)) (by rw [HSM.out.len]; omega) rfl hd2
        have V2 : Hid (∀ s2 w3, Dvs w2 F2 X D s2 w3 → Dvs w F X D s2 w3) := Lib.hid fun s2 w3 h2 => V1.out _ _ (Dvs.comp hF2 hk2 h2)
        have HSM3 := Lib.hid (sm_write 1 zeroD HSM.out)
        obtain ⟨r, hr⟩ : ∃ r, r = t2.write 1 zeroD := ⟨_, rfl⟩
        rw [← hr] at hdw HSM3
        have HR3 := Lib.hid hr
        obtain ⟨r1, t3⟩ := r
        simp only at hdw HSM3
        have HDW := Lib.hid hdw
        clear hF2 hd2 hk2 hdw hr
        go_wp2_with fail
        refine HHD.out.mono ?_
        rintro e w' ⟨rfl, hw'⟩
        rw [hw']
        clear hw' w'
        cases r1 with
        | false =>
          have HE : Hid (s.home l = (false, t3)) := Lib.hid (by rw [HE1.out, ← HR3.out]; rfl)
          go_wp2_with fail
          refine HDW.out.mono ?_
          rintro e w3 ⟨rfl, hv⟩
          have HV := Lib.hid (V2.out _ _ hv)
          clear hv
          go_wp2_with fail
          go_ret
          rw [HE.out]
          exact ⟨rfl, HV.out⟩
        | true =>
          have HE : Hid (s.home l = t3.flush [1]) := Lib.hid (by rw [HE1.out, ← HR3.out]; rfl)
          go_wp2_with fail
          refine HDW.out.mono ?_
          rintro e w3 ⟨rfl, F3, hF3, hd3, hk3⟩
          have HH3 := Lib.hid (super_header w3)
          have HFO := Lib.hid (flush_one F3 X D 1 t3 w3 (HSM3.out.ok (by omega) hN2 (by omega)) (by rw [HSM3.out.len]; omega) hd3)
          have V3 : Hid (∀ s2 w4, Dvs w3 F3 X D s2 w4 → Dvs w F X D s2 w4) := Lib.hid fun s2 w4 h2 => V2.out _ _ (Dvs.comp hF3 hk3 h2)
          clear hF3 hd3 hk3
          go_wp2_with fail
          refine HH3.out.mono ?_
          rintro e w' ⟨rfl, hw'⟩
          rw [hw']
          clear hw' w'
          go_wp2_with fail
          refine HFO.out.mono ?_
          rintro e w4 ⟨rfl, hv⟩
          have HV := Lib.hid (V3.out _ _ hv)
          clear hv
          go_wp2_with fail
          go_ret
          rw [HE.out]
          exact ⟨rfl, HV.out⟩
end Go.Proofs.YtkfmdkbiglkjpaaGreat
