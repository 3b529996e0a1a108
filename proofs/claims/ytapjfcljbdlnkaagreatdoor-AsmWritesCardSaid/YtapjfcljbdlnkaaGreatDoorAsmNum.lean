/- asm.number, asm.register. -/
import Derived.Test.YtapjfcljbdlnkaaGreatDoorAsmSmall
import Derived.Lib.AtoiErrMem
namespace Go.Proofs.YtapjfcljbdlnkaaGreatDoor
open Go Go.RowKit Go.Lib
set_option maxRecDepth 100000

/-- the library's two errors of numbers are there -/
structure Errs (w : World) : Prop where
  syn : ∃ ev, w.cell? ⟨4, 0, none⟩ = some ev ∧ (ev = .nilIface ∨ ∃ te pe, ev = .iface te pe)
  rng : ∃ ev, w.cell? ⟨5, 0, none⟩ = some ev ∧ (ev = .nilIface ∨ ∃ te pe, ev = .iface te pe)
theorem Errs.on {w w' : World} (h : Errs w) (hb : Below w.heap.size w w') : Errs w' := by
  obtain ⟨⟨e1, a1, b1⟩, ⟨e2, a2, b2⟩⟩ := h
  exact ⟨⟨e1, (hb.cell (World.block_lt_of_cell? _ _ a1)).trans a1, b1⟩, ⟨e2, (hb.cell (World.block_lt_of_cell? _ _ a2)).trans a2, b2⟩⟩

/-- a number, and whether it is one -/
def numP (s : List UInt8) : Int × Bool := match Lib.parseIntB 64 s with
  | .ok v => (v, decimalP s)
  | .range => (Lib.intSat 64 s, false)
  | _ => (0, false)

theorem parse_int (s : List UInt8) (hs : s.length ≤ 100000) (w : World) (he : Errs w) :
    Calls Tryz.prog 57 #[.string (bs s), .int .i64 10, .int .i64 64] w fun e w' => ∃ v er, e = .returned (.tuple #[.int .i64 v, er]) ∧ Below w.heap.size w w' ∧
      ((er = .nilIface ∧ numP s = (v, decimalP s)) ∨ ((∃ t p, er = .iface t p) ∧ numP s = (v, false))) := by
  have hsz : (bs s).size = s.length := bs_size s
  cases hp : Lib.parseIntB 64 s with
  | ok v =>
    refine (Tryz.strconv_ParseInt_10_at64_ok (bs s) (by omega) v (by rw [bs_data]; exact hp) w).mono ?_
    rintro e w' ⟨rfl, hw⟩
    refine ⟨v, _, rfl, ?_, .inl ⟨rfl, by simp [numP, hp]⟩⟩
    rcases hw with rfl | ⟨t, rfl⟩
    · exact Below.refl _ _
    · exact Lib.bytesWorld_below _ _ _
  | range =>
    obtain ⟨ev, h1, h2⟩ := he.rng
    refine (Tryz.strconv_ParseInt_10_at64_range (bs s) (by omega) (by rw [bs_data]; exact hp) ev w h1 h2).mono ?_
    rintro e w' ⟨N, rfl, _, _, hb⟩
    exact ⟨_, _, rfl, hb, .inr ⟨⟨_, _, rfl⟩, by simp [numP, hp, bs_data]⟩⟩
  | _ =>
    obtain ⟨ev, h1, h2⟩ := he.syn
    refine (Any.strconv_ParseInt_10_at64_syntax Tryz.laysC174 (bs s) (by omega) (by rw [bs_data]; exact hp) ev w h1 h2).mono ?_
    rintro e w' ⟨N, rfl, _, _, hb⟩
    exact ⟨_, _, rfl, hb, .inr ⟨⟨_, _, rfl⟩, by simp [numP, hp]⟩⟩

set_option maxHeartbeats 1600000 in
theorem number_any (s : List UInt8) (hs : s.length ≤ 100000) (w : World) (he : Errs w) :
    Calls Tryz.prog 35 #[.string (bs s)] w fun e w' => e = .returned (.tuple #[.int .i64 (numP s).1, .bool (numP s).2]) ∧ Below w.heap.size w w' := by
  have HP := Lib.hid (parse_int s hs w he)
  have HD := Lib.hid (fun w => decimal_ok s hs w)
  clear he
  go_enter Tryz.func35, Tryz.ntmps35
  go_wp2_with fail
  refine HP.out.mono ?_
  rintro e w1 ⟨v, er, rfl, hb, hc⟩
  have HB := Lib.hid hb
  clear hb
  rcases hc with ⟨rfl, hn⟩ | ⟨⟨t, p, rfl⟩, hn⟩
  · have HN := Lib.hid hn
    clear hn
    go_wp2_with fail
    refine (HD.out _).mono ?_
    rintro e w2 ⟨rfl, hb2⟩
    have HB2 := Lib.hid (HB.out.trans (hb2.mono HB.out.size))
    clear hb2
    go_wp2_with fail
    go_ret2
    rw [HN.out]
    exact ⟨rfl, HB2.out⟩
  · have HN := Lib.hid hn
    clear hn
    go_wp2_with fail
    go_ret2
    rw [HN.out]
    exact ⟨rfl, HB.out⟩

/-- a register's number, and whether it is one -/
def regP (s : List UInt8) : Int × Bool := ((numP (Lib.trimPrefix s [114])).1, Lib.hasPrefix s [114] && (numP (Lib.trimPrefix s [114])).2 && decide (0 ≤ (numP (Lib.trimPrefix s [114])).1) && decide ((numP (Lib.trimPrefix s [114])).1 < 16))
set_option maxHeartbeats 1600000 in
theorem register_any (s : List UInt8) (hs : s.length ≤ 100000) (w : World) (he : Errs w) :
    Calls Tryz.prog 37 #[.string (bs s)] w fun e w' => e = .returned (.tuple #[.int .i64 (regP s).1, .bool (regP s).2]) ∧ Below w.heap.size w w' := by
  obtain ⟨d, hd⟩ : ∃ d, d = Lib.trimPrefix s [114] := ⟨_, rfl⟩
  have hdl : d.length ≤ 100000 := by rw [hd]; have := trimPrefix_len s [114]; omega
  obtain ⟨b, hb⟩ : ∃ b, b = Lib.hasPrefix s [114] := ⟨_, rfl⟩
  have HT := Lib.hid (show ∀ w, Calls Tryz.prog 59 #[.string (bs s), .string ⟨#[114]⟩] w fun e w' => e = .returned (.tuple #[.string (bs d), .bool b]) ∧ w' = w from fun w => by
    have h := Tryz.strings_CutPrefix (bs s) ⟨#[114]⟩ w
    rw [bs_data, ← hd, ← hb] at h
    exact h)
  have HN := Lib.hid (number_any d hdl w he)
  obtain ⟨n, hn⟩ : ∃ n, n = (numP d).1 := ⟨_, rfl⟩
  obtain ⟨o, ho⟩ : ∃ o, o = (numP d).2 := ⟨_, rfl⟩
  have HR : Hid (regP s = (n, b && o && decide (0 ≤ n) && decide (n < 16))) := Lib.hid (by rw [hn, ho, hb, hd]; rfl)
  rw [← hn, ← ho] at HN
  clear hd hb hn ho he
  have hq : (b = false ∧ (b && o && decide (0 ≤ n) && decide (n < 16)) = false) ∨ (b = true ∧ o = false ∧ (b && o && decide (0 ≤ n) && decide (n < 16)) = false) ∨ (b = true ∧ o = true ∧ n < 0 ∧ (b && o && decide (0 ≤ n) && decide (n < 16)) = false) ∨
      (b = true ∧ o = true ∧ 0 ≤ n ∧ n < 16 ∧ (b && o && decide (0 ≤ n) && decide (n < 16)) = true) ∨ (b = true ∧ o = true ∧ 0 ≤ n ∧ ¬ n < 16 ∧ (b && o && decide (0 ≤ n) && decide (n < 16)) = false) := by
    cases b <;> cases o <;> simp <;> omega
  go_enter Tryz.func37, Tryz.ntmps37
  go_wp2_with fail
  refine (HT.out _).mono ?_
  rintro e w1 ⟨rfl, rfl⟩
  go_wp2_with fail
  refine HN.out.mono ?_
  rintro e w2 ⟨rfl, hb2⟩
  have HB2 := Lib.hid hb2
  have HQ := Lib.hid hq
  clear hb2 hq
  rcases HQ.out with ⟨rfl, h⟩ | ⟨rfl, rfl, h⟩ | ⟨rfl, rfl, k1, h⟩ | ⟨rfl, rfl, k1, k2, h⟩ | ⟨rfl, rfl, k1, k2, h⟩
  all_goals
    have H := Lib.hid h
    clear h
    go_wp2_with fail
    go_ret2
    rw [HR.out, H.out]
    first
      | exact ⟨rfl, HB2.out⟩
      | (have k3 : decide (n < 16) = false := decide_eq_false (by omega)
         simp only [k3]
         exact ⟨rfl, HB2.out⟩)
end Go.Proofs.YtapjfcljbdlnkaaGreatDoor
