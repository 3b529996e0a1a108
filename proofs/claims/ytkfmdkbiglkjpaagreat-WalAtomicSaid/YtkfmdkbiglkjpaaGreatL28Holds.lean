/- The law's holds: all blocks from 18 on hold what the twin's do, or what was written. -/
import Derived.Test.YtkfmdkbiglkjpaaGreatL28At
import Derived.Test.YtkfmdkbiglkjpaaGreatL28Atom2
namespace Go.Proofs.YtkfmdkbiglkjpaaGreat
open Go Go.RowKit Go.Lib
attribute [local go_sem ↓] exec_alloc_data exec_store_data exec_load_data exec_neq_data exec_load_b64
set_option maxRecDepth 100000

def holdsB (L L' : List Dat) (l : List PutV) : Bool := (List.range L.length).all fun b => decide (b < 18) || decide (L.getD b zeroD = newB l (L'.getD b zeroD) b)
theorem newB_take_succ {l : List PutV} {i : Nat} {p : PutV} (hp : l[i]? = some p) (z : Dat) (b : Nat) : newB (l.take (i + 1)) z b = if p.1 = (b : Int) then p.2 else newB (l.take i) z b := by
  have h : l.take (i + 1) = l.take i ++ [p] := by rw [List.take_add_one, hp]; rfl
  unfold newB
  rw [h, List.foldl_append]; rfl
theorem newB_len {l : List PutV} (hl : ∀ p ∈ l, p.2.length = 64) : ∀ {z : Dat} (b : Nat), z.length = 64 → (newB l z b).length = 64 := by
  induction l with
  | nil => exact fun b h => h
  | cons p l ih =>
    intro z b h
    rw [newB_cons]
    refine ih (fun q hq => hl q (by simp [hq])) b ?_
    split
    · exact hl p (by simp)
    · exact h
/-- want's block, as far as the writes have been looked at -/
structure WtI (w : World) (V : Nat) (l : List PutV) (z : Dat) (b i : Nat) (wr : World) : Prop where
  bl : Below V w wr
  row : wr.heap[V]? = some (.cells (dC (newB (l.take i) z b)).toArray 49 (0, 0))
set_option maxHeartbeats 6400000 in
theorem law_holds (F F' : Nat → Prop) (D D' : Nat) (L L' : List Dat) (ad : Option Addr) (cap : Nat) (l : List PutV) (w : World) (hN : 18 ≤ L.length) (hN2 : L.length ≤ 1000) (hLL : L'.length = L.length) (hl : l.length ≤ 1000)
    (hd : DiskAt w F D L []) (hd' : DiskAt w F' D' L' []) (hq : QReads w ad cap l) :
    Calls Tryz.prog 12 #[.pointer (some ⟨D, 0, none⟩), .pointer (some ⟨D', 0, none⟩), .slice ad l.length cap] w fun e w' => e = .returned (.bool (holdsB L L' l)) ∧ Below w.heap.size w w' := by
  obtain ⟨n, hn⟩ : ∃ n, n = L.length := ⟨_, rfl⟩
  obtain ⟨m, hm⟩ : ∃ m, m = l.length := ⟨_, rfl⟩
  have HD := Lib.hid (And.intro hd hd')
  have HQ := Lib.hid hq
  have HN := Lib.hid (And.intro hn (And.intro hLL hm))
  have HL : Hid (∀ w', Below w.heap.size w w' → Calls Tryz.prog 26 #[.pointer (some ⟨D, 0, none⟩)] w' fun e w'' => e = .returned (.int .i64 (n : Int)) ∧ w'' = w') := Lib.hid fun w' hb => by
    have := disk_len F D L [] w' (hd.below hb)
    rwa [← hn] at this
  have HR : Hid (∀ (b : Nat) w', b < n → Below w.heap.size w w' → Calls Tryz.prog 18 #[.pointer (some ⟨D, 0, none⟩), .int .i64 (b : Int)] w' fun e w'' => e = .returned (.tuple #[.agg (dC (L.getD b zeroD)).toArray, .bool true]) ∧ Below w'.heap.size w' w'') := Lib.hid fun b w' hb hbl =>
    disk_read F D L [] b (by omega) (by omega) (by simp) w' (hd.below hbl)
  have HR' : Hid (∀ (b : Nat) w', b < n → Below w.heap.size w w' → Calls Tryz.prog 18 #[.pointer (some ⟨D', 0, none⟩), .int .i64 (b : Int)] w' fun e w'' => e = .returned (.tuple #[.agg (dC (L'.getD b zeroD)).toArray, .bool true]) ∧ Below w'.heap.size w' w'') := Lib.hid fun b w' hb hbl =>
    disk_read F' D' L' [] b (by omega) (by omega) (by simp) w' (hd'.below hbl)
  rw [← hm]
  rw [← hn] at hN hN2
  rw [← hm] at hl
  clear hd hd' hq hn hm hLL
  go_enter Tryz.func12, Tryz.ntmps12
  go_wp2_with fail
  go_loopg [7] (n - 18) (fun k v wr => ∃ b : Nat, k + b = n ∧ v = .int .i64 (b : Int) ∧ 18 ≤ b ∧ (∀ c, 18 ≤ c → c < b → L.getD c zeroD = newB l (L'.getD c zeroD) c) ∧ Below w.heap.size w wr)
  case atStart => exact ⟨18, by omega, rfl, Nat.le_refl _, fun c h1 h2 => by omega, Below.refl _ _⟩
  case round =>
    obtain ⟨b, hk, rfl, hb18, hall, hbl⟩ := hrel
    have hk := Lib.hid hk
    have HA := Lib.hid (And.intro hb18 hall)
    have HB := Lib.hid hbl
    clear hall hbl
    go_wp2_with fail
    refine (HL.out wr HB.out).mono ?_
    rintro e w' ⟨rfl, hw'⟩
    rw [hw']
    clear hw' w'
    by_cases hb : b < n
    · have hb1 : (b : Int) < (n : Int) := by omega
      have hr' := HR'.out b wr hb HB.out
      have hz : (L'.getD b zeroD).length = 64 := by
        rw [List.getD_eq_getElem?_getD, List.getElem?_eq_getElem (by have := HN.out; omega)]
        exact HD.out.2.lz _ (List.getElem_mem _)
      have hz2 : (L.getD b zeroD).length = 64 := by
        rw [List.getD_eq_getElem?_getD, List.getElem?_eq_getElem (by have := HN.out; omega)]
        exact HD.out.1.lz _ (List.getElem_mem _)
      obtain ⟨z, hzz⟩ : ∃ z, z = L'.getD b zeroD := ⟨_, rfl⟩
      rw [← hzz] at hr' hz
      have HZ := Lib.hid (And.intro hzz hz)
      have hag := agg_ok (cs := dC z) (n := 64) (by rw [dC_len, hz]) (dC_one z)
      have HRR := Lib.hid hr'
      have HZ2 := Lib.hid hz2
      clear hr' hzz hz hz2
      go_wp2_with fail
      refine HRR.out.mono ?_
      rintro e w1 ⟨rfl, hb1'⟩
      have hth := there_row (n := 64) (heap_alloc_last w1 (.cells z64 49)) rfl
      have hpt := putAt_new 49 data_size w1 49 z64 (dC z).toArray rfl (by simp [dC_len, HZ.out.2]) (all_oneCell_toArray (dC_one z))
      obtain ⟨W1, hW1⟩ : ∃ W1, W1 = w1.alloc (.cells (dC z).toArray 49) := ⟨_, rfl⟩
      rw [← hW1] at hpt
      have hg1 : W1.heap[w1.heap.size]? = some (.cells (dC z).toArray 49 (0, 0)) := by rw [hW1]; exact heap_alloc_last _ _
      have hsz : W1.heap.size = w1.heap.size + 1 := by rw [hW1]; simp
      have hbW : Below wr.heap.size wr W1 := by rw [hW1]; exact hb1'.alloc hb1'.size _
      obtain ⟨V, hV⟩ : ∃ V, V = w1.heap.size := ⟨_, rfl⟩
      have H1 := Lib.hid (And.intro (HB.out.trans (hbW.mono HB.out.size)) (And.intro hg1 (And.intro hsz hb1'.size)))
      have HW1 := Lib.hid hW1
      clear hb1' hg1 hsz hbW hW1
      go_wp2_with fail
      obtain ⟨G0, hG0⟩ : ∃ G0, G0 = gk := ⟨_, rfl⟩
      have HG0 := Lib.hid hG0
      clear hG0
      go_loopg [10] m (fun k v wq => ∃ i : Nat, k + i = m ∧ v = .int .i64 (i : Int) ∧ WtI W1 w1.heap.size l z b i wq)
      case atStart => exact ⟨0, by simp, rfl, Below.refl _ _, H1.out.2.1⟩
      case round =>
        obtain ⟨i, hk2, rfl, hI⟩ := hrel
        have hk2 := Lib.hid hk2
        have HI := Lib.hid hI
        have hbq : Below w.heap.size w wr := H1.out.1.trans (hI.bl.mono (Nat.le_trans HB.out.size H1.out.2.2.2))
        have HBQ := Lib.hid hbq
        clear hI
        by_cases hi : i < m
        · have hi1 : (i : Int) < (m : Int) := by omega
          have hi3 : (0 : Int) ≤ (i : Int) := by omega
          have wr1 : IntKind.i64.wrap ((i : Int) + 1) = (i : Int) + 1 := by rw [IntKind.wrap_i64] <;> omega
          obtain ⟨⟨pz, d⟩, hp⟩ : ∃ p, l[i]? = some p := ⟨l[i]'(by have := HN.out; omega), List.getElem?_eq_getElem _⟩
          have hqq := HQ.out.below hbq
          have hd64 := hqq.d64 _ (List.mem_of_getElem? hp)
          obtain ⟨g, o, rfl, hr⟩ := hqq.at' i _ hp
          have hnb := newB_take_succ hp z b
          have c0 : wr.cell? ⟨g, o + i * 65, none⟩ = some (.int .i64 pz) := hr 0 _ rfl
          have hrg : wr.rangeAt g (o + i * 65 + 1) (dC d) := fun j v hv => by
            have := hr (j + 1) v (by simpa [pC] using hv)
            rwa [show o + i * 65 + (j + 1) = o + i * 65 + 1 + j by omega] at this
          simp only at hd64
          obtain ⟨hdo, hdk⟩ := dat_range hrg (by rw [dC_len, hd64] : (dC d).length = 64)
          have hcap : (i : Int) ≤ (cap : Int) := by have := HQ.out.len; have := HN.out; omega
          by_cases hpb : pz = (b : Int)
          · have k7 : (pz == (b : Int)) = true := beq_iff_eq.2 hpb
            rw [if_pos hpb] at hnb
            have hag := agg_ok (cs := dC d) (n := 64) (by rw [dC_len, hd64]) (dC_one d)
            have hth := there_row (n := 64) HI.out.row (by simp [dC_len, newB_len (l := l.take i) (fun q hq => HQ.out.d64 q (List.mem_of_mem_take hq)) b HZ.out.2])
            have hpt := putAt_row 49 data_size wr w1.heap.size _ _ (dC d).toArray HI.out.row (by simp [dC_len, newB_len (l := l.take i) (fun q hq => HQ.out.d64 q (List.mem_of_mem_take hq)) b HZ.out.2]) (by simp [dC_len, hd64]) (all_oneCell_toArray (dC_one d))
            have hsr := setRow_heap wr w1.heap.size _ (dC d).toArray _ _ HI.out.row
            have hnb2 : newB (l.take (i + 1)) z b = d := hnb
            have HWI : Hid (WtI W1 w1.heap.size l z b (i + 1) (wr.setRow w1.heap.size (dC d).toArray)) := Lib.hid ⟨below_setRow HI.out.bl (Nat.le_refl _) _, by rw [hnb2]; exact hsr⟩
            clear hr hrg hqq hp hnb hnb2 hsr hpb
            go_wp2_with fail
            go_roundg (gk - 1)
            case measure => have := hk2.out; omega
            case rel => exact ⟨i + 1, by have := hk2.out; omega, by simp, HWI.out⟩
          · have k7 : (pz == (b : Int)) = false := beq_eq_false_iff_ne.2 hpb
            rw [if_neg hpb] at hnb
            have HWI : Hid (WtI W1 w1.heap.size l z b (i + 1) wr) := Lib.hid ⟨HI.out.bl, by rw [hnb]; exact HI.out.row⟩
            clear hr hrg hqq hp hnb hpb
            go_wp2_with fail
            go_roundg (gk - 1)
            case measure => have := hk2.out; omega
            case rel => exact ⟨i + 1, by have := hk2.out; omega, by simp, HWI.out⟩
        · have hi1 : ¬ (i : Int) < (m : Int) := by omega
          obtain rfl : i = m := by have := hk2.out; omega
          have htk : l.take i = l := by rw [HN.out.2.2, List.take_length]
          have hrow := HI.out.row
          rw [htk] at hrow
          have hr2 := HR.out b wr hb hbq
          obtain ⟨y, hy⟩ : ∃ y, y = L.getD b zeroD := ⟨_, rfl⟩
          have hy64 := HZ2.out
          rw [← hy] at hr2 hy64
          have HY := Lib.hid (And.intro hy hy64)
          obtain ⟨x, hx⟩ : ∃ x, x = newB l z b := ⟨_, rfl⟩
          have hx64 : x.length = 64 := by rw [hx]; exact newB_len HQ.out.d64 b HZ.out.2
          rw [← hx] at hrow
          have HX := Lib.hid (And.intro hx hx64)
          have HRW := Lib.hid hrow
          have HR2 := Lib.hid hr2
          have hag := agg_ok (cs := dC y) (n := 64) (by rw [dC_len, hy64]) (dC_one y)
          have hd1 := isDat_dC hy64
          have hd2 := isDat_dC hx64
          have hde := datEq_dC y x
          have HVL : Hid (w1.heap.size < wr.heap.size) := Lib.hid (Array.getElem?_eq_some_iff.1 hrow).1
          clear hrow hr2 htk hy hy64 hx hx64
          go_wp2_with fail
          refine HR2.out.mono ?_
          rintro e w3 ⟨rfl, hb3⟩
          have hth := there_row (n := 64) (heap_alloc_last w3 (.cells z64 49)) rfl
          have hpt := putAt_new 49 data_size w3 49 z64 (dC y).toArray rfl (by simp [dC_len, HY.out.2]) (all_oneCell_toArray (dC_one y))
          obtain ⟨W3, hW3⟩ : ∃ W3, W3 = w3.alloc (.cells (dC y).toArray 49) := ⟨_, rfl⟩
          rw [← hW3] at hpt
          have hbw : Below wr.heap.size wr W3 := by rw [hW3]; exact hb3.alloc hb3.size _
          have hg2 : W3.heap[w3.heap.size]? = some (.cells (dC y).toArray 49 (0, 0)) := by rw [hW3]; exact heap_alloc_last _ _
          have hg1 : W3.heap[w1.heap.size]? = some (.cells (dC x).toArray 49 (0, 0)) := (hbw.block _ HVL.out).trans HRW.out
          have hr1 : W3.rangeAt w1.heap.size 0 (dC x) := fun j v hv => by rw [Nat.zero_add, cell_of_row W3 _ j _ _ _ hg1, List.getElem?_toArray]; exact hv
          have hr2 : W3.rangeAt w3.heap.size 0 (dC y) := fun j v hv => by rw [Nat.zero_add, cell_of_row W3 _ j _ _ _ hg2, List.getElem?_toArray]; exact hv
          obtain ⟨hdo1, hdk1⟩ := dat_range hr1 (by rw [dC_len, HX.out.2] : (dC x).length = 64)
          obtain ⟨hdo2, hdk2⟩ := dat_range hr2 (by rw [dC_len, HY.out.2] : (dC y).length = 64)
          have HB3 := Lib.hid (HBQ.out.trans (hbw.mono HBQ.out.size))
          have HW3 := Lib.hid hW3
          clear hr1 hr2 hg1 hg2 hbw hW3 hb3
          by_cases hxy : y = x
          · rw [decide_eq_true hxy] at hde
            have HXY := Lib.hid hxy
            clear hxy
            go_wp2_with fail
            go_roundg (G0 - 1)
            case measure => have := hk.out; have := HG0.out; omega
            case rel => exact ⟨b + 1, by have := hk.out; have := HG0.out; omega, by simp, by omega, fun c h1 h2 => by
              by_cases h : c = b
              · subst h; rw [← HZ.out.1, ← HX.out.1, ← HY.out.1]; exact HXY.out
              · exact HA.out.2 c h1 (by omega), HB3.out⟩
          · rw [decide_eq_false hxy] at hde
            have HE : Hid (holdsB L L' l = false) := Lib.hid (Bool.eq_false_iff.2 fun h => hxy (by
              have h1 := List.all_eq_true.1 h b (List.mem_range.2 (by have := HN.out.1; omega))
              rw [Bool.or_eq_true, decide_eq_true_eq, decide_eq_true_eq] at h1
              rcases h1 with h1 | h1
              · omega
              · rw [HY.out.1, HX.out.1, HZ.out.1]; exact h1))
            clear hxy
            go_wp2_with fail
            go_ret
            exact ⟨by rw [HE.out]; rfl, HB3.out⟩
    · have hb1 : ¬ (b : Int) < (n : Int) := by omega
      obtain rfl : b = n := by have := hk.out; omega
      have HE : Hid (holdsB L L' l = true) := Lib.hid (List.all_eq_true.2 fun c hc => by
        have hc := List.mem_range.1 hc
        rw [Bool.or_eq_true, decide_eq_true_eq, decide_eq_true_eq]
        by_cases h18 : c < 18
        · exact .inl h18
        · exact .inr (HA.out.2 c (by omega) (by have := HN.out.1; omega)))
      go_wp2_with fail
      go_ret
      exact ⟨by rw [HE.out]; rfl, HB.out⟩
end Go.Proofs.YtkfmdkbiglkjpaaGreat
