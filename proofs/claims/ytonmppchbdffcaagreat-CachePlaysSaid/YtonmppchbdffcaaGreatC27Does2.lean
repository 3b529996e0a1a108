/- The law's does: End. -/
import Derived.Test.YtonmppchbdffcaaGreatC27Does
namespace Go.Proofs.YtonmppchbdffcaaGreat
open Go Go.RowKit Go.Lib Go.Maps
attribute [local go_sem ↓] exec_alloc_data exec_store_data exec_load_data exec_build0
set_option maxRecDepth 100000

/-- the state behind i rounds of End's loop -/
def endI (ds : List Dat) (bs : List Bool) : Nat → List Dat × List Bool
  | 0 => (ds, bs)
  | i + 1 => if (endI ds bs i).2.getD (12 + i) false = true then ((endI ds bs i).1.set (6 + i) ((endI ds bs i).1.getD (12 + i) zeroD), ((endI ds bs i).2.set (6 + i) true).set (12 + i) false) else endI ds bs i
theorem All.ended {w w' : World} {C X D md mc T mo S n left dn : Nat} {r : Int} {nd nd' no no' nc : Nat} {Dd Dd' Do Do' Dc : DataW Unit} {ds : List Dat} {bs : List Bool} (h : All w C X D md mc T mo S n left dn r nd no nc Dd Do Dc ds bs) (hk : Keeps (fun k => k = md ∨ k = mo) w w') (hd : MapAt w' md nd' Dd') (hm : MapAt w' mo no' Do') : All w' C X D md mc T mo S n left dn r nd' no' nc Dd' Do' Dc ds bs :=
  ⟨(hk.block C h.ca.lt fun e => e.elim (h.ca.ne h.dd) (h.ca.ne h.oo)).trans h.ca, (hk.block T h.tx.lt fun e => e.elim (h.tx.ne h.dd) (h.tx.ne h.oo)).trans h.tx, hd, hm, h.cc.on (hk.block mc h.cc.lt fun e => e.elim (fun e => h.n1 e.symm) h.n3), h.st.on (hk.block S h.st.lt fun e => e.elim (h.st.nem h.dd) (h.st.nem h.oo)), h.dev.on (hk.block X h.dev.lt fun e => e.elim (h.dd.nec h.dev) (h.oo.nec h.dev)), h.n1, h.n2, h.n3⟩
/-- one step of the state: a block written, two flags -/
theorem All.step {w : World} {C X D md mc T mo S n left dn : Nat} {r : Int} {nd no nc : Nat} {Dd Do Dc : DataW Unit} {ds : List Dat} {bs : List Bool} (h : All w C X D md mc T mo S n left dn r nd no nc Dd Do Dc ds bs) {i : Nat} (hi : i < 6) {y : Dat} (hy : ds[12 + i]? = some y) :
    ∃ W1, thereOk 64 w (.pointer (some ⟨S, 384 + i * 64, none⟩)) = true ∧ putAt w (.pointer (some ⟨S, 384 + i * 64, none⟩)) (dC y).toArray = W1 ∧ datOf 64 w (.pointer (some ⟨S, 768 + i * 64, none⟩)) = dC y ∧ datOk 64 w (.pointer (some ⟨S, 768 + i * 64, none⟩)) = true ∧ y.length = 64 ∧
      (∃ u, W1.cell? ⟨S, 1158 + i, none⟩ = some (.bool u)) ∧ W1.frozen? ⟨S, 1158 + i, none⟩ = false ∧ (∃ u, (W1.setCell ⟨S, 1158 + i, none⟩ (.bool true)).cell? ⟨S, 1164 + i, none⟩ = some (.bool u)) ∧ (W1.setCell ⟨S, 1158 + i, none⟩ (.bool true)).frozen? ⟨S, 1164 + i, none⟩ = false ∧
      All ((W1.setCell ⟨S, 1158 + i, none⟩ (.bool true)).setCell ⟨S, 1164 + i, none⟩ (.bool false)) C X D md mc T mo S n left dn r nd no nc Dd Do Dc (ds.set (6 + i) y) ((bs.set (6 + i) true).set (12 + i) false) ∧
      Keeps (· = S) w ((W1.setCell ⟨S, 1158 + i, none⟩ (.bool true)).setCell ⟨S, 1164 + i, none⟩ (.bool false)) := by
  have e1 : 384 + i * 64 = 64 * (6 + i) := by omega
  have e2 : 768 + i * 64 = 64 * (12 + i) := by omega
  have e3 : 1158 + i = 1152 + (6 + i) := by omega
  have e4 : 1164 + i = 1152 + (12 + i) := by omega
  have hy64 := h.st.dz y (List.mem_of_getElem? hy)
  obtain ⟨hdo, hdk⟩ := dat_range (h.st.data hy) (by rw [dC_len, hy64] : (dC y).length = 64)
  obtain ⟨h1, k1⟩ := h.st.put (i := 6 + i) (by omega) hy64
  have hbl := h.st.bl
  obtain ⟨f1, f2⟩ := h1.flag (List.getElem?_eq_getElem (by omega : 6 + i < bs.length))
  obtain ⟨h2, k2⟩ := h1.mark (i := 6 + i) (by omega) true
  obtain ⟨f3, f4⟩ := h2.flag (List.getElem?_eq_getElem (by rw [List.length_set]; omega : 12 + i < (bs.set (6 + i) true).length))
  obtain ⟨h3, k3⟩ := h2.mark (i := 12 + i) (by omega) false
  rw [e1, e2, e3, e4]
  exact ⟨_, h.st.there (by omega), rfl, hdo, hdk, hy64, ⟨_, f1⟩, f2, ⟨_, f3⟩, f4, h.turn (k1.trans (k2.trans k3)) h3, k1.trans (k2.trans k3)⟩
set_option maxHeartbeats 6400000 in
theorem does_end (C X D md mc T mo S left dn : Nat) (r : Int) (nd no nc : Nat) (Dd Do Dc : DataW Unit) (ds : List Dat) (bs : List Bool) (b : Int) (ad : Option Addr) (cap n : Nat) (w : World)
    (h : All w C X D md mc T mo S 6 left dn r nd no nc Dd Do Dc ds bs) (hno : nd + no ≤ 100000) :
    Calls Tryz.prog 9 #[.pointer (some ⟨C, 0, none⟩), .pointer (some ⟨T, 0, none⟩), .pointer (some ⟨S, 0, none⟩), .agg #[.int .i64 5, .int .i64 b, .slice ad n cap]] w fun e w' =>
      e = .returned (.tuple #[.pointer (some ⟨T, 0, none⟩), .bool true]) ∧ All w' C X D md mc T mo S 6 left dn r (nd + no) 0 nc (Lib.mergeD Dd Do) (.map []) Dc (endI ds bs 6).1 (endI ds bs 6).2 ∧ Keeps (Mine md mo S) w w' := by
  obtain ⟨w0, hw0⟩ : ∃ w0, w0 = w.alloc (.cells #[.int .i64 5, .int .i64 b, .slice ad n cap] 44) := ⟨_, rfl⟩
  have hb0 : Below w.heap.size w w0 := by rw [hw0]; exact (Below.refl _ _).alloc (Nat.le_refl _) _
  have hg0 : w0.heap[w.heap.size]? = some (.cells #[.int .i64 5, .int .i64 b, .slice ad n cap] 44 (0, 0)) := by rw [hw0]; exact heap_alloc_last _ _
  have c0 : w0.cell? ⟨w.heap.size, 0, none⟩ = some (.int .i64 5) := by rw [cell_of_row _ _ 0 _ _ _ hg0]; rfl
  have c1 : w0.cell? ⟨w.heap.size, 1, none⟩ = some (.int .i64 b) := by rw [cell_of_row _ _ 1 _ _ _ hg0]; rfl
  have h0 := h.below hb0
  have HE := Lib.hid (tx_end T C X md mc mo nd no r Dd Do w0 h0.tx h0.ca h0.dd h0.oo h0.n2 hno)
  have H0 := Lib.hid (And.intro h0 hb0)
  have aw0 := hw0.symm
  clear h hb0 hg0 h0 hw0
  have hbb : (0 ≤ b ∧ b < 6) ∨ b < 0 ∨ (0 ≤ b ∧ ¬ b < 6) := by omega
  go_enter Tryz.func9, Tryz.ntmps9
  rcases hbb with ⟨b1, b2⟩ | b1 | ⟨b1, b2⟩
  all_goals try (have b3 : ¬ 0 ≤ b := by omega)
  all_goals
    go_wp2_with fail
    refine HE.out.mono ?_
    rintro e w1 ⟨rfl, hd1, hm1, hk1⟩
    have HA1 := Lib.hid (And.intro (H0.out.1.ended hk1 hd1 hm1) ((Keeps.of_below H0.out.2 : Keeps (Mine md mo S) w w0).trans (hk1.mono fun k e => e.elim .inl fun e => .inr (.inl e))))
    clear hd1 hm1 hk1 c0 c1
    go_wp2_with fail
    go_loopg [11] 6 (fun k v wr => ∃ i : Nat, k + i = 6 ∧ v = .int .i64 (i : Int) ∧ All wr C X D md mc T mo S 6 left dn r (nd + no) 0 nc (Lib.mergeD Dd Do) (.map []) Dc (endI ds bs i).1 (endI ds bs i).2 ∧ Keeps (Mine md mo S) w wr)
    case atStart => exact ⟨0, by simp, rfl, HA1.out.1, HA1.out.2⟩
    case round =>
      obtain ⟨i, hk, rfl, hA, hK⟩ := hrel
      have hk := Lib.hid hk
      have HA := Lib.hid (And.intro hA hK)
      by_cases hi : i < 6
      · have hi1 : (i : Int) < 6 := by omega
        have hi3 : (0 : Int) ≤ (i : Int) := by omega
        have wr1 : IntKind.i64.wrap ((i : Int) + 1) = (i : Int) + 1 := by rw [IntKind.wrap_i64] <;> omega
        have hbl := hA.st.bl
        have hdl := hA.st.dl
        obtain ⟨f1, -⟩ := hA.st.flag (List.getElem?_eq_getElem (by omega : 12 + i < (endI ds bs i).2.length))
        rw [show 1152 + (12 + i) = 1164 + i by omega] at f1
        have hgu : (endI ds bs i).2.getD (12 + i) false = (endI ds bs i).2[12 + i]'(by omega) := by rw [List.getD_eq_getElem?_getD, List.getElem?_eq_getElem (by omega)]; rfl
        have hdr := (hA.below (Below.refl _ _).drew).step hi (List.getElem?_eq_getElem (by omega : 12 + i < (endI ds bs i).1.length))
        have hgy : (endI ds bs i).1.getD (12 + i) zeroD = (endI ds bs i).1[12 + i]'(by omega) := by rw [List.getD_eq_getElem?_getD, List.getElem?_eq_getElem (by omega)]; rfl
        have HE1 : Hid (endI ds bs (i + 1) = if (endI ds bs i).2.getD (12 + i) false = true then ((endI ds bs i).1.set (6 + i) ((endI ds bs i).1.getD (12 + i) zeroD), ((endI ds bs i).2.set (6 + i) true).set (12 + i) false) else endI ds bs i) := Lib.hid rfl
        rw [hgu, hgy] at HE1
        generalize (endI ds bs i).2[12 + i] = u at f1 HE1
        generalize (endI ds bs i).1[12 + i] = y at hdr HE1
        clear hA hK hgu hgy
        cases u with
        | false =>
          have HN : Hid (endI ds bs (i + 1) = endI ds bs i) := Lib.hid (by rw [HE1.out]; rfl)
          clear hdr
          go_wp2_with fail
          go_roundg (gk - 1)
          case measure => have := hk.out; omega
          case rel => exact ⟨i + 1, by have := hk.out; omega, by simp, by rw [HN.out]; exact HA.out.1, HA.out.2⟩
        | true =>
          have HN : Hid (endI ds bs (i + 1) = ((endI ds bs i).1.set (6 + i) y, ((endI ds bs i).2.set (6 + i) true).set (12 + i) false)) := Lib.hid (by rw [HE1.out]; rfl)
          obtain ⟨W1, th1, pt1, do1, dk1, hy64, ⟨u1, g1⟩, g2, ⟨u2, g3⟩, g4, hAn, hKn⟩ := hdr
          have ag1 := agg_ok (cs := dC y) (n := 64) (by rw [dC_len, hy64]) (dC_one y)
          have HAN := Lib.hid (And.intro hAn hKn)
          clear hAn hKn
          go_wp2_with fail
          refine reg_still_tail 13 (by kernel_rfl) (by kernel_rfl) ?_
          simp only [List.take_succ_cons, List.take_zero, List.drop_succ_cons, List.drop_zero]
          repeat still_step
          refine wpStill_nil ?_
          go_wp2_with fail
          go_roundg (gk - 1)
          case measure => have := hk.out; omega
          case rel => exact ⟨i + 1, by have := hk.out; omega, by simp, by rw [HN.out]; exact HAN.out.1, (HA.out.2.trans (Keeps.of_below (Below.refl _ _).drew)).trans (HAN.out.2.mono fun k e => .inr (.inr e))⟩
      · have hi1 : ¬ (i : Int) < 6 := by omega
        obtain rfl : i = 6 := by have := hk.out; omega
        clear hA hK
        go_wp2_with fail
        go_ret2
        exact ⟨rfl, HA.out.1, HA.out.2⟩
end Go.Proofs.YtonmppchbdffcaaGreat
