/- onionskinlaw43.right: steps that may be, few. -/
import Derived.Test.YtdhpagdfigghfaaGreatDoorScAwake
namespace Go.Proofs.YtdhpagdfigghfaaGreatDoor
open Go.RowKit Go.Lib
set_option maxRecDepth 100000

/-- a step as it came in: its cells, its bytes -/
structure In3 where
  k : Int
  n : Int
  y : Value
  l : List UInt8
def ArgAt (w : World) (v : Value) (xs : List In3) : Prop := ∃ b off cap, xs.length ≤ cap ∧ cap ≤ maxLen ∧ (v = .slice (some ⟨b, off, none⟩) xs.length cap ∨ ((∃ ad c0, v = .slice ad 0 c0) ∧ xs = [])) ∧
  ∀ i x, xs[i]? = some x → w.cell? ⟨b, off + i * 3, none⟩ = some (.int .i64 x.k) ∧ w.cell? ⟨b, off + i * 3 + 1, none⟩ = some (.int .i64 x.n) ∧ w.cell? ⟨b, off + i * 3 + 2, none⟩ = some x.y ∧ Reads w x.y x.l
/-- cells that are these steps -/
def CellsAt (w : World) (xs : List Value) (ss : List Ln) : Prop :=
  ∀ i x, ss[i]? = some x → ∃ y, xs[3 * i]? = some (.int .i64 x.kind) ∧ xs[3 * i + 1]? = some (.int .i64 x.num) ∧ xs[3 * i + 2]? = some y ∧ Reads w y x.bytes
theorem CellsAt.on {w w' : World} {xs : List Value} {ss : List Ln} (h : CellsAt w xs ss) (hb : Below w.heap.size w w') : CellsAt w' xs ss := by
  intro i x hx
  obtain ⟨y, h1, h2, h3, h4⟩ := h i x hx
  exact ⟨y, h1, h2, h3, h4.on hb⟩
theorem CellsAt.snoc {w : World} {xs : List Value} {ss : List Ln} (h : CellsAt w xs ss) (hl : xs.length = 3 * ss.length) (x : Ln) (y : Value) (hy : Reads w y x.bytes) : CellsAt w (xs ++ [.int .i64 x.kind, .int .i64 x.num, y]) (ss ++ [x]) := by
  intro i z hz
  rcases Nat.lt_or_ge i ss.length with hlt | hge
  · rw [List.getElem?_append_left hlt] at hz
    obtain ⟨v, e1, e2, e3, e4⟩ := h i z hz
    exact ⟨v, by rw [List.getElem?_append_left (by omega)]; exact e1, by rw [List.getElem?_append_left (by omega)]; exact e2, by rw [List.getElem?_append_left (by omega)]; exact e3, e4⟩
  · have hi : i = ss.length := by
      have := (List.getElem?_eq_some_iff.1 hz).1
      simp at this; omega
    subst hi
    rw [List.getElem?_append_right (by omega)] at hz
    simp at hz
    subst hz
    refine ⟨y, ?_, ?_, ?_, hy⟩
    · rw [List.getElem?_append_right (by omega), hl, Nat.sub_self]; rfl
    · rw [List.getElem?_append_right (by omega), hl, show 3 * ss.length + 1 - 3 * ss.length = 1 by omega]; rfl
    · rw [List.getElem?_append_right (by omega), hl, show 3 * ss.length + 2 - 3 * ss.length = 2 by omega]; rfl

theorem and_le (a : Int) (m : Nat) (hm : m < 9223372036854775808) (h3 : (BitVec.ofInt 64 (m : Int)).toNat = m) : ∃ n : Nat, bits .and .i64 a m = (n : Int) ∧ n ≤ m := by
  have hx : (BitVec.ofInt 64 a).toNat &&& m ≤ m := Nat.and_le_right
  refine ⟨(BitVec.ofInt 64 a).toNat &&& m, ?_, hx⟩
  show IntKind.i64.wrap ((BitVec.ofInt 64 a &&& BitVec.ofInt 64 m).toNat : Int) = _
  rw [BitVec.toNat_and, h3, IntKind.wrap_i64]
  omega
theorem and_four (a : Int) : ∃ n : Nat, bits .and .i64 a 3 = (n : Int) ∧ n ≤ 3 := and_le a 3 (by decide) (by decide)
theorem and_many (a : Int) : ∃ n : Nat, bits .and .i64 a 4095 = (n : Int) ∧ n ≤ 4095 := and_le a 4095 (by decide) (by decide)

theorem wrap_one (r : Nat) (h : r ≤ 4095) : wrap64 (1 + (r : Int)) = 1 + (r : Int) := by unfold wrap64; omega
theorem wrap_one' (r : Nat) (h : r ≤ 4095) : IntKind.i64.wrap (1 + (r : Int)) = 1 + (r : Int) := by rw [IntKind.wrap_i64]; omega

/-- the step that 'right' makes of one that came in -/
noncomputable def In3.ln (x : In3) : Ln :=
  if bits .and .i64 x.k 3 = 0 then .trn (1 + bits .and .i64 x.n 4095).toNat (Lib.itoa (1 + bits .and .i64 x.n 4095))
  else if bits .and .i64 x.k 3 = 1 then .typ (x.l.take 64) else .shw

theorem refstep_info : (Tryz.prog.info? 50).map (fun i => (i.zero, i.size, i.bytes)) = some (some (.agg #[.int .i64 0, .int .i64 0, .slice none 0 0]), 3, 40) := by kernel_rfl

theorem news3 (w : World) (a b c : Value) (t u : TypeId) : ∀ (j : Nat) v, [a, b, c][j]? = some v → ((w.alloc (.cells #[a, b, c] t)).alloc (.cells #[a, b, c] u)).cell? ((⟨w.heap.size + 1, 0, none⟩ : Addr).add j) = some v :=
  World.news_of_block (w := (w.alloc (.cells #[a, b, c] t)).alloc (.cells #[a, b, c] u)) (B := w.heap.size + 1) (cs := #[a, b, c]) (t := u) (fr := (0, 0)) (by
    have := heap_alloc_new (w.alloc (.cells #[a, b, c] t)) (.cells #[a, b, c] u)
    simp only [World.size_alloc] at this
    exact this)
theorem ones3 (k n : Int) (y : Value) (hy : y.oneCell' = true) : ∀ u ∈ [Value.int .i64 k, .int .i64 n, y], u.oneCell' = true := by
  intro u hu
  simp only [List.mem_cons, List.not_mem_nil, or_false] at hu
  rcases hu with rfl | rfl | rfl
  · rfl
  · rfl
  · exact hy

set_option maxHeartbeats 6400000 in
theorem right_any (v : Value) (xs : List In3) (w : World) (hv : ArgAt w v xs) :
    Calls Tryz.prog 12 #[v] w fun e w' => ∃ u cs, e = .returned u ∧ w'.ownsRow w.heap.size 50 3 u (xs.take 30).length cs ∧ CellsAt w' cs ((xs.take 30).map In3.ln) ∧ Below w.heap.size w w' := by
  obtain ⟨b, off, cap, hcap, hmax, hv1, hv2⟩ := hv
  obtain ⟨ad, cp, rfl, had⟩ : ∃ ad cp, v = .slice ad xs.length cp ∧ (xs ≠ [] → ad = some ⟨b, off, none⟩) := by
    rcases hv1 with h | ⟨⟨ad0, c0, h⟩, h2⟩
    · exact ⟨_, _, h, fun _ => rfl⟩
    · subst h2; exact ⟨ad0, c0, h, fun e => absurd rfl e⟩
  have HV := Lib.hid hv2
  have HA := Lib.hid had
  obtain ⟨i0, hi0, hz0, hz1, hz2⟩ := info_parts refstep_info
  clear hv1 hv2 had
  go_enter Tryz.func12, Tryz.ntmps12
  go_wp2_with fail
  go_loopg [3, 4] (xs.take 30).length (fun k u s wr => ∃ (i : Nat) (cs : List Value), k + i = (xs.take 30).length ∧ s = .int .i64 (i : Int) ∧ wr.ownsRow w.heap.size 50 3 u i cs ∧ CellsAt w cs ((xs.take i).map In3.ln) ∧ Below w.heap.size w wr)
  case atStart => exact ⟨0, [], by simp, rfl, World.ownsRow_nil _ _ _ _, (fun i x h => by simp at h), Below.refl _ _⟩
  case round =>
    obtain ⟨i, cs, hk, rfl, hown, hcs, hb⟩ := hrel
    have hlen : (xs.take 30).length = min 30 xs.length := by simp
    have hk := Lib.hid (by rw [hlen] at hk; exact hk : gk + i = min 30 xs.length)
    have HO := Lib.hid hown
    have HC := Lib.hid hcs
    have HB := Lib.hid hb
    by_cases hi : i < min 30 xs.length
    · have hi1 : (i : Int) < (xs.length : Int) := by omega
      have hi2 : (i : Int) < 30 := by omega
      have hi3 : (0 : Int) ≤ (i : Int) := by omega
      have hne : xs ≠ [] := by intro e; subst e; simp at hi
      obtain rfl := HA.out hne
      obtain ⟨x, hx⟩ : ∃ x, xs[i]? = some x := ⟨xs[i], List.getElem?_eq_getElem (by omega)⟩
      obtain ⟨k1, k2, k3, k4⟩ := HV.out i x hx
      have d1 := (hb.cell (World.block_lt_of_cell? _ _ k1)).trans k1
      have d2 := (hb.cell (World.block_lt_of_cell? _ _ k2)).trans k2
      have d3 := (hb.cell (World.block_lt_of_cell? _ _ k3)).trans k3
      have hlt := World.block_lt_of_cell? _ _ d1
      have hne2 := Nat.ne_of_lt hlt
      have wr1 : IntKind.i64.wrap ((i : Int) + 1) = (i : Int) + 1 := by rw [IntKind.wrap_i64]; omega
      obtain ⟨q, hq, hq3⟩ := and_four x.k
      have HR := Lib.hid k4
      have hx := Lib.hid hx
      clear hown hcs hb k1 k2 k3 k4
      have HQ := Lib.hid (show q = 0 ∨ q = 1 ∨ q = 2 ∨ q = 3 by omega)
      clear hq3
      rcases HQ.out with h0 | h1 | h2 | h3
      · subst h0
        obtain ⟨r, hr, hr2⟩ := and_many x.n
        have hr3 := wrap_one r hr2
        have hr4 := wrap_one' r hr2
        have HR2 := Lib.hid (And.intro hr hq)
        go_wp2_with (at_builtin; refine wpList_append_lies _ rfl _ _ _ rfl w.heap.size 50 i0 _ 3 40 Tryz.underlying33 hi0 hz0 hz1 hz2 rfl (by omega) u3 i cs rfl ((HO.out.alloc _).alloc _) ⟨wr.heap.size + 1, 0, none⟩ 1 1 [.int .i64 (0), .int .i64 (1 + (r : Int)), .slice none 0 0] rfl rfl (news3 wr _ _ _ _ _) (ones3 _ _ _ (by rfl)) (by omega) (by simp [maxLen]; omega) (by omega) (by have := HB.out.size; simp only [World.size_alloc]; omega) (wr.heap.size + 2) (by simp) ?_)
        intro g cap1 w1 hown1 hgrow hat hlt1
        have H1 := Lib.hid (And.intro hown1 hgrow)
        clear hown1 hgrow hat hlt1
        go_wp2_with fail
        obtain ⟨hown1, hgrow⟩ := H1.out
        have hbw : Below wr.heap.size wr ((wr.alloc (.cells #[.int .i64 (0), .int .i64 (1 + (r : Int)), .slice none 0 0] 50)).alloc (.cells #[.int .i64 (0), .int .i64 (1 + (r : Int)), .slice none 0 0] 50)) := ((Below.refl _ _).alloc (Nat.le_refl _) _).alloc (by simp) _
        have hb1 : Below w.heap.size w w1 := (HB.out.trans (hbw.mono HB.out.size)).grown hgrow (by have := HB.out.size; have := hbw.size; omega) (fun k hk => (own_lt HO.out k hk).1)
        go_roundg (gk - 1)
        case measure => have := hk.out; omega
        case rel =>
          have hxl : cs.length = 3 * ((xs.take i).map In3.ln).length := by rw [HO.out.1]; simp; omega
          refine ⟨i + 1, _, by have := hk.out; rw [hlen]; omega, by simp, hown1, ?_, hb1⟩
          have hln : (xs.take (i + 1)).map In3.ln = (xs.take i).map In3.ln ++ [x.ln] := by rw [List.take_add_one, hx.out]; simp
          have e : x.ln = .trn (1 + r) (Lib.itoa ((1 + r : Nat) : Int)) := by
              unfold In3.ln; rw [HR2.out.1, HR2.out.2, if_pos (by decide)]
              have e1 : (1 + (r : Int)) = ((1 + r : Nat) : Int) := by omega
              rw [e1, Int.toNat_natCast]
          rw [hln, e]
          exact HC.out.snoc hxl (.trn (1 + r) (Lib.itoa ((1 + r : Nat) : Int))) _ (⟨0, 0, 0, Nat.le_refl _, .inr ⟨⟨_, _, rfl⟩, rfl⟩, fun j x hx => by simp [Ln.bytes] at hx⟩)
      · subst h1
        have HQ1 := Lib.hid hq
        obtain ⟨yb, yo, yc, hyn, hyv, hyr⟩ := HR.out
        have HY := Lib.hid hyr
        clear hyr
        have eq1 : x.ln = .typ (x.l.take 64) := by unfold In3.ln; rw [HQ1.out, if_neg (by decide), if_pos (by decide)]
        rcases hyv with hyv | ⟨⟨ad0, c0, hyv⟩, hyl⟩
        · by_cases h64 : 64 < x.l.length
          · have h65 : (64 : Int) < (x.l.length : Int) := by omega
            have h66 : (64 : Int) ≤ (yc : Int) := by omega
            go_wp2_with (at_builtin; refine wpList_append_lies _ rfl _ _ _ rfl w.heap.size 50 i0 _ 3 40 Tryz.underlying33 hi0 hz0 hz1 hz2 rfl (by omega) u3 i cs rfl ((HO.out.alloc _).alloc _) ⟨wr.heap.size + 1, 0, none⟩ 1 1 [.int .i64 (1), .int .i64 (0), .slice (some ⟨yb, yo, none⟩) 64 yc] rfl rfl (news3 wr _ _ _ _ _) (ones3 _ _ _ (by rfl)) (by omega) (by simp [maxLen]; omega) (by omega) (by have := HB.out.size; simp only [World.size_alloc]; omega) (wr.heap.size + 2) (by simp) ?_)
            intro g cap1 w1 hown1 hgrow hat hlt1
            have H1 := Lib.hid (And.intro hown1 hgrow)
            clear hown1 hgrow hat hlt1
            go_wp2_with fail
            obtain ⟨hown1, hgrow⟩ := H1.out
            have hbw : Below wr.heap.size wr ((wr.alloc (.cells #[.int .i64 (1), .int .i64 (0), .slice (some ⟨yb, yo, none⟩) 64 yc] 50)).alloc (.cells #[.int .i64 (1), .int .i64 (0), .slice (some ⟨yb, yo, none⟩) 64 yc] 50)) := ((Below.refl _ _).alloc (Nat.le_refl _) _).alloc (by simp) _
            have hb1 : Below w.heap.size w w1 := (HB.out.trans (hbw.mono HB.out.size)).grown hgrow (by have := HB.out.size; have := hbw.size; omega) (fun k hk => (own_lt HO.out k hk).1)
            go_roundg (gk - 1)
            case measure => have := hk.out; omega
            case rel =>
              have hxl : cs.length = 3 * ((xs.take i).map In3.ln).length := by rw [HO.out.1]; simp; omega
              refine ⟨i + 1, _, by have := hk.out; rw [hlen]; omega, by simp, hown1, ?_, hb1⟩
              have hln : (xs.take (i + 1)).map In3.ln = (xs.take i).map In3.ln ++ [x.ln] := by rw [List.take_add_one, hx.out]; simp
              have e : x.ln = .typ (x.l.take 64) := eq1
              rw [hln, e]
              exact HC.out.snoc hxl (.typ (x.l.take 64)) _ (⟨yb, yo, yc, by simp [Ln.bytes]; omega, .inl (by simp [Ln.bytes]; omega), fun j u hu => HY.out j u (by rw [show (Ln.typ (x.l.take 64)).bytes = x.l.take 64 from rfl, List.getElem?_take] at hu; split at hu; exact hu; cases hu)⟩)
          · have h65 : ¬ (64 : Int) < (x.l.length : Int) := by omega
            have h67 : x.l.take 64 = x.l := List.take_of_length_le (by omega)
            go_wp2_with (at_builtin; refine wpList_append_lies _ rfl _ _ _ rfl w.heap.size 50 i0 _ 3 40 Tryz.underlying33 hi0 hz0 hz1 hz2 rfl (by omega) u3 i cs rfl ((HO.out.alloc _).alloc _) ⟨wr.heap.size + 1, 0, none⟩ 1 1 [.int .i64 (1), .int .i64 (0), .slice (some ⟨yb, yo, none⟩) x.l.length yc] rfl rfl (news3 wr _ _ _ _ _) (ones3 _ _ _ (by rfl)) (by omega) (by simp [maxLen]; omega) (by omega) (by have := HB.out.size; simp only [World.size_alloc]; omega) (wr.heap.size + 2) (by simp) ?_)
            intro g cap1 w1 hown1 hgrow hat hlt1
            have H1 := Lib.hid (And.intro hown1 hgrow)
            clear hown1 hgrow hat hlt1
            go_wp2_with fail
            obtain ⟨hown1, hgrow⟩ := H1.out
            have hbw : Below wr.heap.size wr ((wr.alloc (.cells #[.int .i64 (1), .int .i64 (0), .slice (some ⟨yb, yo, none⟩) x.l.length yc] 50)).alloc (.cells #[.int .i64 (1), .int .i64 (0), .slice (some ⟨yb, yo, none⟩) x.l.length yc] 50)) := ((Below.refl _ _).alloc (Nat.le_refl _) _).alloc (by simp) _
            have hb1 : Below w.heap.size w w1 := (HB.out.trans (hbw.mono HB.out.size)).grown hgrow (by have := HB.out.size; have := hbw.size; omega) (fun k hk => (own_lt HO.out k hk).1)
            go_roundg (gk - 1)
            case measure => have := hk.out; omega
            case rel =>
              have hxl : cs.length = 3 * ((xs.take i).map In3.ln).length := by rw [HO.out.1]; simp; omega
              refine ⟨i + 1, _, by have := hk.out; rw [hlen]; omega, by simp, hown1, ?_, hb1⟩
              have hln : (xs.take (i + 1)).map In3.ln = (xs.take i).map In3.ln ++ [x.ln] := by rw [List.take_add_one, hx.out]; simp
              have e : x.ln = .typ x.l := eq1.trans (by rw [h67])
              rw [hln, e]
              exact HC.out.snoc hxl (.typ x.l) _ (⟨yb, yo, yc, hyn, .inl rfl, HY.out⟩)
        · have h67 : x.l.take 64 = x.l := by rw [hyl]; rfl
          go_wp2_with (at_builtin; refine wpList_append_lies _ rfl _ _ _ rfl w.heap.size 50 i0 _ 3 40 Tryz.underlying33 hi0 hz0 hz1 hz2 rfl (by omega) u3 i cs rfl ((HO.out.alloc _).alloc _) ⟨wr.heap.size + 1, 0, none⟩ 1 1 [.int .i64 (1), .int .i64 (0), .slice ad0 0 c0] rfl rfl (news3 wr _ _ _ _ _) (ones3 _ _ _ (by rfl)) (by omega) (by simp [maxLen]; omega) (by omega) (by have := HB.out.size; simp only [World.size_alloc]; omega) (wr.heap.size + 2) (by simp) ?_)
          intro g cap1 w1 hown1 hgrow hat hlt1
          have H1 := Lib.hid (And.intro hown1 hgrow)
          clear hown1 hgrow hat hlt1
          go_wp2_with fail
          obtain ⟨hown1, hgrow⟩ := H1.out
          have hbw : Below wr.heap.size wr ((wr.alloc (.cells #[.int .i64 (1), .int .i64 (0), .slice ad0 0 c0] 50)).alloc (.cells #[.int .i64 (1), .int .i64 (0), .slice ad0 0 c0] 50)) := ((Below.refl _ _).alloc (Nat.le_refl _) _).alloc (by simp) _
          have hb1 : Below w.heap.size w w1 := (HB.out.trans (hbw.mono HB.out.size)).grown hgrow (by have := HB.out.size; have := hbw.size; omega) (fun k hk => (own_lt HO.out k hk).1)
          go_roundg (gk - 1)
          case measure => have := hk.out; omega
          case rel =>
            have hxl : cs.length = 3 * ((xs.take i).map In3.ln).length := by rw [HO.out.1]; simp; omega
            refine ⟨i + 1, _, by have := hk.out; rw [hlen]; omega, by simp, hown1, ?_, hb1⟩
            have hln : (xs.take (i + 1)).map In3.ln = (xs.take i).map In3.ln ++ [x.ln] := by rw [List.take_add_one, hx.out]; simp
            have e : x.ln = .typ x.l := eq1.trans (by rw [h67])
            rw [hln, e]
            exact HC.out.snoc hxl (.typ x.l) _ (⟨0, 0, 0, by simp [Ln.bytes, hyl], .inr ⟨⟨_, _, rfl⟩, hyl⟩, fun j u hu => by simp [Ln.bytes, hyl] at hu⟩)
      · subst h2
        have HQ1 := Lib.hid hq
        go_wp2_with (at_builtin; refine wpList_append_lies _ rfl _ _ _ rfl w.heap.size 50 i0 _ 3 40 Tryz.underlying33 hi0 hz0 hz1 hz2 rfl (by omega) u3 i cs rfl ((HO.out.alloc _).alloc _) ⟨wr.heap.size + 1, 0, none⟩ 1 1 [.int .i64 (2), .int .i64 (0), .slice none 0 0] rfl rfl (news3 wr _ _ _ _ _) (ones3 _ _ _ (by rfl)) (by omega) (by simp [maxLen]; omega) (by omega) (by have := HB.out.size; simp only [World.size_alloc]; omega) (wr.heap.size + 2) (by simp) ?_)
        intro g cap1 w1 hown1 hgrow hat hlt1
        have H1 := Lib.hid (And.intro hown1 hgrow)
        clear hown1 hgrow hat hlt1
        go_wp2_with fail
        obtain ⟨hown1, hgrow⟩ := H1.out
        have hbw : Below wr.heap.size wr ((wr.alloc (.cells #[.int .i64 (2), .int .i64 (0), .slice none 0 0] 50)).alloc (.cells #[.int .i64 (2), .int .i64 (0), .slice none 0 0] 50)) := ((Below.refl _ _).alloc (Nat.le_refl _) _).alloc (by simp) _
        have hb1 : Below w.heap.size w w1 := (HB.out.trans (hbw.mono HB.out.size)).grown hgrow (by have := HB.out.size; have := hbw.size; omega) (fun k hk => (own_lt HO.out k hk).1)
        go_roundg (gk - 1)
        case measure => have := hk.out; omega
        case rel =>
          have hxl : cs.length = 3 * ((xs.take i).map In3.ln).length := by rw [HO.out.1]; simp; omega
          refine ⟨i + 1, _, by have := hk.out; rw [hlen]; omega, by simp, hown1, ?_, hb1⟩
          have hln : (xs.take (i + 1)).map In3.ln = (xs.take i).map In3.ln ++ [x.ln] := by rw [List.take_add_one, hx.out]; simp
          have e : x.ln = .shw := by unfold In3.ln; rw [HQ1.out, if_neg (by decide), if_neg (by decide)]
          rw [hln, e]
          exact HC.out.snoc hxl (.shw) _ (⟨0, 0, 0, Nat.le_refl _, .inr ⟨⟨_, _, rfl⟩, rfl⟩, fun j x hx => by simp [Ln.bytes] at hx⟩)
      · subst h3
        have HQ1 := Lib.hid hq
        go_wp2_with (at_builtin; refine wpList_append_lies _ rfl _ _ _ rfl w.heap.size 50 i0 _ 3 40 Tryz.underlying33 hi0 hz0 hz1 hz2 rfl (by omega) u3 i cs rfl ((HO.out.alloc _).alloc _) ⟨wr.heap.size + 1, 0, none⟩ 1 1 [.int .i64 (2), .int .i64 (0), .slice none 0 0] rfl rfl (news3 wr _ _ _ _ _) (ones3 _ _ _ (by rfl)) (by omega) (by simp [maxLen]; omega) (by omega) (by have := HB.out.size; simp only [World.size_alloc]; omega) (wr.heap.size + 2) (by simp) ?_)
        intro g cap1 w1 hown1 hgrow hat hlt1
        have H1 := Lib.hid (And.intro hown1 hgrow)
        clear hown1 hgrow hat hlt1
        go_wp2_with fail
        obtain ⟨hown1, hgrow⟩ := H1.out
        have hbw : Below wr.heap.size wr ((wr.alloc (.cells #[.int .i64 (2), .int .i64 (0), .slice none 0 0] 50)).alloc (.cells #[.int .i64 (2), .int .i64 (0), .slice none 0 0] 50)) := ((Below.refl _ _).alloc (Nat.le_refl _) _).alloc (by simp) _
        have hb1 : Below w.heap.size w w1 := (HB.out.trans (hbw.mono HB.out.size)).grown hgrow (by have := HB.out.size; have := hbw.size; omega) (fun k hk => (own_lt HO.out k hk).1)
        go_roundg (gk - 1)
        case measure => have := hk.out; omega
        case rel =>
          have hxl : cs.length = 3 * ((xs.take i).map In3.ln).length := by rw [HO.out.1]; simp; omega
          refine ⟨i + 1, _, by have := hk.out; rw [hlen]; omega, by simp, hown1, ?_, hb1⟩
          have hln : (xs.take (i + 1)).map In3.ln = (xs.take i).map In3.ln ++ [x.ln] := by rw [List.take_add_one, hx.out]; simp
          have e : x.ln = .shw := by unfold In3.ln; rw [HQ1.out, if_neg (by decide), if_neg (by decide)]
          rw [hln, e]
          exact HC.out.snoc hxl (.shw) _ (⟨0, 0, 0, Nat.le_refl _, .inr ⟨⟨_, _, rfl⟩, rfl⟩, fun j x hx => by simp [Ln.bytes] at hx⟩)
    · have hi1 : i = min 30 xs.length := by have := hk.out; omega
      have hi5 : ¬ ((i : Int) < (xs.length : Int) ∧ (i : Int) < 30) := by omega
      by_cases hi6 : (i : Int) < (xs.length : Int)
      · have hi7 : ¬ (i : Int) < 30 := by omega
        go_wp2_with fail
        go_ret
        exact ⟨_, rfl, cs, by have h := HO.out; rw [hi1] at h; exact h, by have h := HC.out.on HB.out; rw [hi1, ← List.take_eq_take_min, List.map_take] at h; exact h, HB.out⟩
      · go_wp2_with fail
        go_ret
        exact ⟨_, rfl, cs, by have h := HO.out; rw [hi1] at h; exact h, by have h := HC.out.on HB.out; rw [hi1, ← List.take_eq_take_min, List.map_take] at h; exact h, HB.out⟩

end Go.Proofs.YtdhpagdfigghfaaGreatDoor
