/- The law's does. -/
import Derived.Test.YtonmppchbdffcaaGreatC27Read
import Derived.Test.YtonmppchbdffcaaGreatC27Of
import Derived.Test.YtonmppchbdffcaaGreatC27State
namespace Go.Proofs.YtonmppchbdffcaaGreat
open Go Go.RowKit Go.Lib Go.Maps
attribute [local go_sem ↓] exec_alloc_data exec_store_data exec_load_data exec_build0
set_option maxRecDepth 100000

/-- the cache, the deed, the state, side by side -/
structure All (w : World) (C X D md mc T mo S n left dn : Nat) (r : Int) (nd no nc : Nat) (Dd Do Dc : DataW Unit) (ds : List Dat) (bs : List Bool) : Prop where
  ca : CaAt w C X md mc r
  tx : TxAt w T C mo
  dd : MapAt w md nd Dd
  oo : MapAt w mo no Do
  cc : MapAt w mc nc Dc
  st : StAt w S ds bs
  dev : DevAt w X D n left dn
  n1 : md ≠ mc
  n2 : md ≠ mo
  n3 : mc ≠ mo
theorem StAt.ne {w : World} {S : Nat} {ds : List Dat} {bs : List Bool} (h : StAt w S ds bs) {b : Nat} {cs : Array Value} {t : TypeId} {fr : Nat × Nat} (hb : w.heap[b]? = some (.cells cs t fr)) (hz : cs.size ≠ 1170) : S ≠ b := fun e => by
  obtain ⟨cs', h1, h2, -⟩ := h.mem
  rw [e, hb] at h1
  cases h1
  exact hz h2
theorem StAt.nem {w : World} {S : Nat} {ds : List Dat} {bs : List Bool} (h : StAt w S ds bs) {b n : Nat} {D : DataW Unit} (hm : MapAt w b n D) : S ≠ b := fun e => by
  obtain ⟨cs', h1, -⟩ := h.mem
  obtain ⟨es, clock, hb, -⟩ := hm
  rw [e, hb] at h1
  cases h1
theorem All.below {w w' : World} {C X D md mc T mo S n left dn : Nat} {r : Int} {nd no nc : Nat} {Dd Do Dc : DataW Unit} {ds : List Dat} {bs : List Bool} (h : All w C X D md mc T mo S n left dn r nd no nc Dd Do Dc ds bs) (hb : Below w.heap.size w w') : All w' C X D md mc T mo S n left dn r nd no nc Dd Do Dc ds bs :=
  ⟨(hb.block C h.ca.lt).trans h.ca, (hb.block T h.tx.lt).trans h.tx, h.dd.on (hb.block md h.dd.lt), h.oo.on (hb.block mo h.oo.lt), h.cc.on (hb.block mc h.cc.lt), h.st.on (hb.block S h.st.lt), h.dev.on (hb.block X h.dev.lt), h.n1, h.n2, h.n3⟩
theorem All.turn {w w' : World} {C X D md mc T mo S n left dn : Nat} {r : Int} {nd no nc : Nat} {Dd Do Dc : DataW Unit} {ds ds' : List Dat} {bs bs' : List Bool} (h : All w C X D md mc T mo S n left dn r nd no nc Dd Do Dc ds bs) (hk : Keeps (· = S) w w') (hs : StAt w' S ds' bs') : All w' C X D md mc T mo S n left dn r nd no nc Dd Do Dc ds' bs' :=
  ⟨(hk.block C h.ca.lt fun e => h.st.ne h.ca (by simp) e.symm).trans h.ca, (hk.block T h.tx.lt fun e => h.st.ne h.tx (by simp) e.symm).trans h.tx, h.dd.on (hk.block md h.dd.lt fun e => h.st.nem h.dd e.symm), h.oo.on (hk.block mo h.oo.lt fun e => h.st.nem h.oo e.symm), h.cc.on (hk.block mc h.cc.lt fun e => h.st.nem h.cc e.symm), hs, h.dev.on (hk.block X h.dev.lt fun e => h.st.ne h.dev (by simp) e.symm), h.n1, h.n2, h.n3⟩
theorem MapAt.nec {w : World} {b n : Nat} {D : DataW Unit} (hm : MapAt w b n D) {c : Nat} {cs : Array Value} {t : TypeId} {fr : Nat × Nat} (hc : w.heap[c]? = some (.cells cs t fr)) : c ≠ b := fun e => by
  obtain ⟨es, clock, hb, -⟩ := hm
  rw [← e, hc] at hb
  cases hb
theorem All.own {w w' : World} {C X D md mc T mo S n left dn : Nat} {r : Int} {nd no no' nc : Nat} {Dd Do Do' Dc : DataW Unit} {ds : List Dat} {bs : List Bool} (h : All w C X D md mc T mo S n left dn r nd no nc Dd Do Dc ds bs) (hk : Keeps (· = mo) w w') (hm : MapAt w' mo no' Do') : All w' C X D md mc T mo S n left dn r nd no' nc Dd Do' Dc ds bs :=
  ⟨(hk.block C h.ca.lt fun e => h.ca.ne h.oo e).trans h.ca, (hk.block T h.tx.lt fun e => h.tx.ne h.oo e).trans h.tx, h.dd.on (hk.block md h.dd.lt fun e => h.n2 e), hm, h.cc.on (hk.block mc h.cc.lt fun e => h.n3 e), h.st.on (hk.block S h.st.lt fun e => h.st.nem h.oo e), h.dev.on (hk.block X h.dev.lt fun e => h.oo.nec h.dev e), h.n1, h.n2, h.n3⟩
/-- what a deed may touch -/
def Mine (md mo S : Nat) (k : Nat) : Prop := k = md ∨ k = mo ∨ k = S

set_option maxHeartbeats 6400000 in
theorem does_write (C X D md mc T mo S left dn : Nat) (r : Int) (nd no nc : Nat) (Dd Do Dc : DataW Unit) (ds : List Dat) (bs : List Bool) (kind : Int) (b : Nat) (ad : Option Addr) (cap : Nat) (l : List UInt8) (w : World)
    (h : All w C X D md mc T mo S 6 left dn r nd no nc Dd Do Dc ds bs) (hk : kind = 0 ∨ kind = 1 ∨ kind = 2 ∨ kind = 3 ∨ kind = 4) (hb : b < 6) (hno : no ≤ 100000) (hy : YReads w ad cap l) (hyS : ∀ g o, ad = some ⟨g, o, none⟩ → 0 < l.length → g ≠ S) :
    Calls Tryz.prog 9 #[.pointer (some ⟨C, 0, none⟩), .pointer (some ⟨T, 0, none⟩), .pointer (some ⟨S, 0, none⟩), .agg #[.int .i64 kind, .int .i64 (b : Int), .slice ad l.length cap]] w fun e w' =>
      e = .returned (.tuple #[.pointer (some ⟨T, 0, none⟩), .bool true]) ∧ All w' C X D md mc T mo S 6 left dn r nd (no + 1) nc Dd (Do.put (.int .i64 (b : Int)) (.lit (.string (ofD l)))) Dc (ds.set (12 + b) (ofD l)) (bs.set (12 + b) true) ∧ Keeps (Mine md mo S) w w' := by
  obtain ⟨n, hn⟩ : ∃ n, n = l.length := ⟨_, rfl⟩
  obtain ⟨w0, hw0⟩ : ∃ w0, w0 = w.alloc (.cells #[.int .i64 kind, .int .i64 (b : Int), .slice ad n cap] 44) := ⟨_, rfl⟩
  have hb0 : Below w.heap.size w w0 := by rw [hw0]; exact (Below.refl _ _).alloc (Nat.le_refl _) _
  have hg0 : w0.heap[w.heap.size]? = some (.cells #[.int .i64 kind, .int .i64 (b : Int), .slice ad n cap] 44 (0, 0)) := by rw [hw0]; exact heap_alloc_last _ _
  have hs0 : w0.heap.size = w.heap.size + 1 := by rw [hw0]; simp
  have HBX : Hid (∀ w', Below w0.heap.size w0 w' → w'.cell? ⟨w.heap.size, 0, none⟩ = some (.int .i64 kind) ∧ w'.cell? ⟨w.heap.size, 1, none⟩ = some (.int .i64 (b : Int)) ∧ w'.cell? ⟨w.heap.size, 2, none⟩ = some (.slice ad n cap) ∧ Below w.heap.size w w') := Lib.hid fun w' hb => by
    have hg : w'.heap[w.heap.size]? = _ := (hb.block _ (by omega)).trans hg0
    exact ⟨by rw [cell_of_row _ _ 0 _ _ _ hg]; rfl, by rw [cell_of_row _ _ 1 _ _ _ hg]; rfl, by rw [cell_of_row _ _ 2 _ _ _ hg]; rfl, hb0.trans (hb.mono hb0.size)⟩
  have HO : Hid (∀ w', Below w0.heap.size w0 w' → Calls Tryz.prog 11 #[.slice ad n cap] w' fun e w'' => e = .returned (.agg (dC (ofD l)).toArray) ∧ Below w'.heap.size w' w'' ∧ Below w0.heap.size w0 w'') := Lib.hid fun w' hb => by
    rw [hn]
    refine (ref_of ad cap l w' (hy.below (hb0.trans (hb.mono hb0.size)))).mono ?_
    rintro e w'' ⟨he, h2⟩
    exact ⟨he, h2, hb.trans (h2.mono hb.size)⟩
  have HO2 : Hid (∀ W2 w', Keeps (· = S) w0 W2 → Below W2.heap.size W2 w' → Calls Tryz.prog 11 #[.slice ad n cap] w' fun e w'' => e = .returned (.agg (dC (ofD l)).toArray) ∧ Below W2.heap.size W2 w'') := Lib.hid fun W2 w' hk hb => by
    have hy2 : YReads W2 ad cap l := (hy.below hb0).on fun g o e h0 => hk.block g (by have := hy.lt g o e h0; have := hb0.size; omega) (hyS g o e h0)
    rw [hn]
    refine (ref_of ad cap l w' (hy2.below hb)).mono ?_
    rintro e w'' ⟨he, h2⟩
    exact ⟨he, hb.trans (h2.mono hb.size)⟩
  have H := Lib.hid h
  have HB0 := Lib.hid (And.intro hb0 hs0)
  have hx64 : (ofD l).length = 64 := ofI_len _ _
  rw [← hn]
  generalize ofD l = x at *
  have HX := Lib.hid hx64
  have hone := dC_one x
  have hl64 : (dC x).length = 64 := by rw [dC_len, hx64]
  have HTS : Hid (∀ w', Below w0.heap.size w0 w' → w'.there S (768 + b * 64) 64) := Lib.hid fun w' hb' => by
    obtain ⟨cs, q1, q2, -, -⟩ := (h.st.on (((hb0.trans (hb'.mono hb0.size))).block S h.st.lt)).mem
    exact fun j hj => ⟨by rw [cell_of_row w' S _ _ _ _ q1, Array.getElem?_eq_getElem (by omega)]; rfl, frozen_of_row w' S _ _ _ q1⟩
  have hSl := h.st.lt
  have HSK : Hid (∀ w', Below w0.heap.size w0 w' → (w'.setCells S (768 + b * 64) (dC x)).cell? ⟨w.heap.size, 1, none⟩ = some (.int .i64 (b : Int)) ∧ (w'.setCells S (768 + b * 64) (dC x)).cell? ⟨w.heap.size, 2, none⟩ = some (.slice ad n cap)) := Lib.hid fun w' hb' => by
    obtain ⟨-, q1, q2, -⟩ := HBX.out w' hb'
    have q3 : (w'.setCells S (768 + b * 64) (dC x)).heap[w.heap.size]? = w'.heap[w.heap.size]? := heap_setCells_other _ _ _ _ _ (by omega)
    exact ⟨(World.cell?_of_block (a := ⟨w.heap.size, 1, none⟩) q3).trans q1, (World.cell?_of_block (a := ⟨w.heap.size, 2, none⟩) q3).trans q2⟩
  have hds := data_size
  have k1 : (0 : Int) ≤ (b : Int) := by omega
  have k2 : (b : Int) < 6 := by omega
  have k3 : (6 : Int) > (b : Int) := by omega
  obtain ⟨c0, c1, c2, -⟩ := HBX.out w0 (Below.refl _ _)
  have aw0 := hw0.symm
  have HNO := Lib.hid (And.intro hno hb)
  clear h hb0 hg0 hs0 hw0 hy hyS hno hn
  rcases hk with rfl | rfl | rfl | rfl | rfl
  all_goals
    go_enter Tryz.func9, Tryz.ntmps9
    go_wp2_with fail
    go_region_held3 (fun w' => w'.cell? ⟨w.heap.size, 1, none⟩ = some (.int .i64 (b : Int)) ∧ w'.cell? ⟨w.heap.size, 2, none⟩ = some (.slice ad n cap))
      (first | exact ⟨(HBX.out _ (Below.refl _ _).drew).2.1, (HBX.out _ (Below.refl _ _).drew).2.2.1⟩ | exact ⟨(HBX.out _ hbo2).2.1, (HBX.out _ hbo2).2.2.1⟩ | exact HSK.out _ hbo2)
      (first | (go_at_call 11; refine (HO.out _ (Below.refl _ _).drew).mono ?_; rintro e w' ⟨rfl, hbo, hbo2⟩; have hths := HTS.out _ hbo2))
    -- the state, written; then its flag
    have hall := (H.out.below HB0.out.1).below hbo2
    have e768 : 768 + b * 64 = 64 * (12 + b) := by omega
    obtain ⟨hsp, hkp⟩ := hall.st.put (i := 12 + b) (by omega) HX.out
    have hpe : putAt w' (.pointer (some ⟨S, 64 * (12 + b), none⟩)) (dC x).toArray = w'.setCells S (768 + b * 64) (dC x) := by rw [e768]; simp [putAt]
    rw [hpe] at hsp hkp
    have hall1 := hall.turn hkp hsp
    have hkb : Below w0.heap.size w0 w' := hbo2
    obtain ⟨W1, hW1⟩ : ∃ W1, W1 = w'.setCells S (768 + b * 64) (dC x) := ⟨_, rfl⟩
    rw [← hW1] at hall1 hkp ⊢
    have hsk := HSK.out w' hbo2
    rw [← hW1] at hsk
    obtain ⟨c11, c12⟩ := hsk
    have hfl : ∃ u, W1.cell? ⟨S, 1152 + (12 + b), none⟩ = some (.bool u) ∧ W1.frozen? ⟨S, 1152 + (12 + b), none⟩ = false := by
      have hl := hall1.st.bl
      exact ⟨_, hall1.st.flag (List.getElem?_eq_getElem (by omega : 12 + b < bs.length))⟩
    obtain ⟨u, q1, q2⟩ := hfl
    rw [show 1152 + (12 + b) = 1164 + b by omega] at q1 q2
    obtain ⟨hsm, hkm⟩ := (hall1.below (Below.refl _ _).drew).st.mark (i := 12 + b) (by omega) true
    rw [show 1152 + (12 + b) = 1164 + b by omega] at hsm hkm
    have hall2 := (hall1.below (Below.refl _ _).drew).turn hkm hsm
    have HK12 := Lib.hid (((Keeps.of_below (hkb)).mono (fun k e => e) : Keeps (· = S) w0 w').trans (hkp.trans ((Keeps.of_below (Below.refl _ _).drew).trans hkm)))
    have HA2 := Lib.hid hall2
    have HW1 := Lib.hid hW1
    clear hall hsp hkp hpe hall1 hkb hW1 hsm hkm hall2 hbo hbo2 hths e768
    go_wp2_with fail
    refine reg_still_tail 7 (by kernel_rfl) (by kernel_rfl) ?_
    simp only [List.take_succ_cons, List.take_zero, List.drop_succ_cons, List.drop_zero]
    repeat still_step
    refine wpStill_nil ?_
    go_wp2_with fail
    -- the deed's Write
    obtain ⟨W2, hW2⟩ : ∃ W2, W2 = (W1.setCell ⟨S, 1164 + b, none⟩ (.bool true)).drew := ⟨_, rfl⟩
    have hA2 := HA2.out
    have hk12 := HK12.out
    rw [show W1.drew.setCell ⟨S, 1164 + b, none⟩ (.bool true) = (W1.setCell ⟨S, 1164 + b, none⟩ (.bool true)).drew from World.setCell_drew _ _, ← hW2] at hA2 hk12
    rw [← hW2]
    have HA3 := Lib.hid hA2
    have HK3 := Lib.hid hk12
    have HO3 : Hid (∀ w', Below W2.heap.size W2 w' → Calls Tryz.prog 11 #[.slice ad n cap] w' fun e w'' => e = .returned (.agg (dC x).toArray) ∧ Below W2.heap.size W2 w'') := Lib.hid fun w' hb => HO2.out W2 w' HK3.out hb
    have HTW : Hid (∀ w', Below W2.heap.size W2 w' → Calls Tryz.prog 27 #[.pointer (some ⟨T, 0, none⟩), .int .i64 (b : Int), .agg (dC x).toArray] w' fun e w'' => e = .returned (.bool true) ∧ All w'' C X D md mc T mo S 6 left dn r nd (no + 1) nc Dd (Do.put (.int .i64 (b : Int)) (.lit (.string x))) Dc (ds.set (12 + b) x) (bs.set (12 + b) true) ∧ Keeps (· = mo) W2 w'') := Lib.hid fun w' hb => by
      have ha := HA3.out.below hb
      refine (tx_write T C X md mc mo no 6 left dn D r Do b x w' ha.tx ha.ca ha.dev ha.oo HNO.out.1 HNO.out.2 (by omega) HX.out).mono ?_
      rintro e w'' ⟨he, hm, hkk⟩
      exact ⟨he, ha.own hkk hm, (Keeps.of_below hb).trans hkk⟩
    have HSX : Hid (∀ w', Keeps (· = mo) W2 w' → w'.cell? ⟨w.heap.size, 1, none⟩ = some (.int .i64 (b : Int)) ∧ w'.cell? ⟨w.heap.size, 2, none⟩ = some (.slice ad n cap)) := Lib.hid fun w' hk => by
      have hne : w.heap.size ≠ S := fun e => by have := H.out.st.lt; omega
      have hnm : w.heap.size ≠ mo := fun e => by have := H.out.oo.lt; omega
      have q0 := HBX.out w0 (Below.refl _ _)
      have q1 : w'.heap[w.heap.size]? = w0.heap[w.heap.size]? := (hk.block _ (by have := HK3.out.size; have := HB0.out.2; omega) hnm).trans (HK3.out.block _ (by have := HB0.out.2; omega) hne)
      exact ⟨(World.cell?_of_block (a := ⟨w.heap.size, 1, none⟩) q1).trans q0.2.1, (World.cell?_of_block (a := ⟨w.heap.size, 2, none⟩) q1).trans q0.2.2.1⟩
    clear hA2 hk12 hW2 q1 q2 c11 c12 hds hone hl64 hSl
    go_region_held3 (fun w' => w'.cell? ⟨w.heap.size, 1, none⟩ = some (.int .i64 (b : Int)) ∧ w'.cell? ⟨w.heap.size, 2, none⟩ = some (.slice ad n cap))
      (first | exact HSX.out _ (Keeps.of_below (Below.refl _ _).drew) | exact HSX.out _ (Keeps.of_below hbq) | exact HSX.out _ hkq)
      (first | (go_at_call 11; refine (HO3.out _ (Below.refl _ _).drew).mono ?_; rintro e w' ⟨rfl, hbq⟩) | (go_at_call 27; refine (HTW.out _ hbq).mono ?_; rintro e w'' ⟨rfl, haq, hkq⟩))
    have HQ := Lib.hid (And.intro haq hkq)
    clear haq hkq hbq
    go_wp2_with fail
    go_ret2
    refine ⟨rfl, HQ.out.1, ?_⟩
    have e1 : Keeps (Mine md mo S) w w0 := Keeps.of_below HB0.out.1
    exact (e1.trans (HK3.out.mono fun k e => .inr (.inr e))).trans (HQ.out.2.mono fun k e => .inr (.inl e))
end Go.Proofs.YtonmppchbdffcaaGreat
