/- onionskinref03.Read. -/
import Derived.Test.YtapjfcljbdlnkaaGreatDoorRef03g
import Derived.Test.YtapjfcljbdlnkaaGreatDoorAsmBound
namespace Go.Proofs.YtapjfcljbdlnkaaGreatDoor
open Go Go.RowKit Go.Lib
set_option maxRecDepth 100000

def refGo (labs : List (List UInt8 × Nat)) (lines : List (List (List UInt8) × Nat)) (a : Nat) : List (List UInt8) → Except Nat (List (List UInt8 × Nat) × List (List (List UInt8) × Nat))
  | [] => .ok (labs, lines)
  | l :: r =>
    match partsR l with
    | [] => refGo labs lines (a + 1) r
    | p :: ps =>
      if p.getLast? = some 58 then
        if (look labs p.dropLast).isSome = true ∨ p.dropLast = [] then .error (a + 1)
        else refGo (labs ++ [(p.dropLast, lines.length)]) (if ps = [] then lines else lines ++ [(ps, a + 1)]) (a + 1) r
      else refGo labs (lines ++ [(p :: ps, a + 1)]) (a + 1) r
theorem refGo_none {l : List UInt8} (h : partsR l = []) (labs : List (List UInt8 × Nat)) (lines : List (List (List UInt8) × Nat)) (a : Nat) (r : List (List UInt8)) : refGo labs lines a (l :: r) = refGo labs lines (a + 1) r := by
  simp only [refGo, h]
theorem refGo_word {l p : List UInt8} {ps : List (List UInt8)} (h : partsR l = p :: ps) (hs : ¬ p.getLast? = some 58) (labs : List (List UInt8 × Nat)) (lines : List (List (List UInt8) × Nat)) (a : Nat) (r : List (List UInt8)) : refGo labs lines a (l :: r) = refGo labs (lines ++ [(p :: ps, a + 1)]) (a + 1) r := by
  simp only [refGo, h, if_neg hs]
theorem refGo_bad {l p : List UInt8} {ps : List (List UInt8)} (h : partsR l = p :: ps) (hs : p.getLast? = some 58) (labs : List (List UInt8 × Nat)) (hb : (look labs p.dropLast).isSome = true ∨ p.dropLast = []) (lines : List (List (List UInt8) × Nat)) (a : Nat) (r : List (List UInt8)) : refGo labs lines a (l :: r) = .error (a + 1) := by
  simp only [refGo, h, if_pos hs, if_pos hb]
theorem refGo_lab {l p : List UInt8} {ps : List (List UInt8)} (h : partsR l = p :: ps) (hs : p.getLast? = some 58) (labs : List (List UInt8 × Nat)) (hb : ¬ ((look labs p.dropLast).isSome = true ∨ p.dropLast = [])) (lines : List (List (List UInt8) × Nat)) (a : Nat) (r : List (List UInt8)) :
    refGo labs lines a (l :: r) = refGo (labs ++ [(p.dropLast, lines.length)]) (if ps = [] then lines else lines ++ [(ps, a + 1)]) (a + 1) r := by
  simp only [refGo, h, if_pos hs, if_neg hb]
def readRGo (labs : List (List UInt8 × Nat)) : Nat → List Int → List (List (List UInt8) × Nat) → List Int × Int × Int
  | _, out, [] => (out, 0, 0)
  | i, out, (ps, a) :: r =>
    match wordR labs i ps with
    | none => ([], (a : Int), 19)
    | some v => if 512 ≤ out.length then ([], (a : Int), 22) else readRGo labs (i + 1) (out ++ [v]) r
theorem readRGo_none {labs : List (List UInt8 × Nat)} {i : Nat} {out : List Int} {ps : List (List UInt8)} {a : Nat} {r : List (List (List UInt8) × Nat)} (h : wordR labs i ps = none) : readRGo labs i out ((ps, a) :: r) = ([], (a : Int), 19) := by
  simp only [readRGo, h]
theorem readRGo_big {labs : List (List UInt8 × Nat)} {i : Nat} {out : List Int} {ps : List (List UInt8)} {a : Nat} {v : Int} {r : List (List (List UInt8) × Nat)} (h : wordR labs i ps = some v) (hl : 512 ≤ out.length) : readRGo labs i out ((ps, a) :: r) = ([], (a : Int), 22) := by
  simp only [readRGo, h, if_pos hl]
theorem readRGo_some {labs : List (List UInt8 × Nat)} {i : Nat} {out : List Int} {ps : List (List UInt8)} {a : Nat} {v : Int} {r : List (List (List UInt8) × Nat)} (h : wordR labs i ps = some v) (hl : ¬ 512 ≤ out.length) : readRGo labs i out ((ps, a) :: r) = readRGo labs (i + 1) (out ++ [v]) r := by
  simp only [readRGo, h, if_neg hl]
def readR (s : List UInt8) : List Int × Int × Int :=
  match refGo [] [] 0 (linesR s) with
  | .error k => ([], (k : Int), 19)
  | .ok x => readRGo x.1 0 [] x.2

def labV (labs : List (List UInt8 × Nat)) : List Value := labs.flatMap fun y => [.string (bs y.1), .int .i64 (y.2 : Int)]
theorem labV_snoc (labs : List (List UInt8 × Nat)) (nm : List UInt8) (n : Nat) : labV (labs ++ [(nm, n)]) = labV labs ++ [.string (bs nm), .int .i64 (n : Int)] := by simp [labV]
theorem labV_at : ∀ (labs : List (List UInt8 × Nat)) (j : Nat) (y : List UInt8 × Nat), labs[j]? = some y → (labV labs)[j * 2]? = some (.string (bs y.1)) ∧ (labV labs)[j * 2 + 1]? = some (.int .i64 (y.2 : Int)) := by
  intro labs
  induction labs with
  | nil => intro j y h; simp at h
  | cons x labs ih =>
    intro j y h
    cases j with
    | zero =>
      simp only [List.getElem?_cons_zero, Option.some.injEq] at h
      subst h
      exact ⟨rfl, rfl⟩
    | succ j =>
      obtain ⟨h1, h2⟩ := ih j y (by simpa using h)
      have e : (j + 1) * 2 = j * 2 + 1 + 1 := by omega
      rw [e]
      exact ⟨by simpa [labV] using h1, by simpa [labV] using h2⟩
def nats (l : List Nat) : List Value := l.map fun (x : Nat) => Value.int .i64 (x : Int)
/-- what stands in Read -/
structure RL (W : World) (lo : Nat) (vl vw va vn : Value) (labs : List (List UInt8 × Nat)) (ws : List (Value × List (List UInt8))) (az : List Nat) (lines : List (List UInt8)) : Prop where
  lab : W.ownsRow lo 67 2 vl labs.length (labV labs)
  wd : W.ownsRow lo 56 1 vw ws.length (ws.map (·.1))
  nm : W.ownsRow lo 3 1 va az.length (nats az)
  ln : W.ownsRow lo 9 1 vn lines.length (strs lines)
  pl : ∀ x ∈ ws, PartsIn W lo x.1 x.2
def Keeps (T : TypeId) (W W' : World) : Prop := ∀ (k : Nat) (cs : Array Value), W.heap[k]? = some (.cells cs T (0, 0)) → W'.heap[k]? = W.heap[k]?
theorem row_keeps {W W' : World} {lo n sz : Nat} {v : Value} {T : TypeId} {xs : List Value} (h : W.ownsRow lo T sz v n xs) (hk : Keeps T W W') : W'.ownsRow lo T sz v n xs := by
  obtain ⟨ad, cap, rfl, _⟩ := own_len h
  exact own_move h (Nat.le_refl _) fun k e => by
    obtain ⟨_, cs, hc⟩ := row_block h k e
    exact hk k cs hc
theorem keeps_below {W W' : World} {T : TypeId} (h : Below W.heap.size W W') : Keeps T W W' := fun k _ hc => h.block k (Array.getElem?_eq_some_iff.1 hc).1
theorem RL.below {W W' : World} {lo : Nat} {vl vw va vn : Value} {labs : List (List UInt8 × Nat)} {ws : List (Value × List (List UInt8))} {az : List Nat} {lines : List (List UInt8)} (h : RL W lo vl vw va vn labs ws az lines) (hb : Below W.heap.size W W') : RL W' lo vl vw va vn labs ws az lines :=
  ⟨row_keeps h.lab (keeps_below hb), row_keeps h.wd (keeps_below hb), row_keeps h.nm (keeps_below hb), row_keeps h.ln (keeps_below hb), fun x hx => (h.pl x hx).kept fun k _ _ hc => hb.block k (Array.getElem?_eq_some_iff.1 hc).1⟩
/-- behind an append to a row -/
theorem app_keeps {V w1 : World} {lo n sz : Nat} {v : Value} {T T' : TypeId} {xs : List Value} {ys : Array Value} (h : V.ownsRow lo T sz v n xs) (hg : (V.alloc (.cells ys T)).grownBy w1 v.ownBlock) (hT : T' ≠ T) : Keeps T' V w1 := by
  obtain ⟨ad, cap, rfl, _⟩ := own_len h
  exact fun k cs hc => by
    have hkl := (Array.getElem?_eq_some_iff.1 hc).1
    refine (hg.block k (by simp; omega) (fun e => ?_)).trans (Below.heap_alloc V _ k hkl)
    obtain ⟨_, cs', hc'⟩ := row_block h k e.symm
    rw [hc] at hc'
    injection hc' with e1
    injection e1 with _ e2 _
    exact hT e2
theorem app_below {V w1 : World} {lo n sz n₀ : Nat} {v : Value} {T : TypeId} {xs : List Value} {ys : Array Value} {w : World} (h : V.ownsRow lo T sz v n xs) (hg : (V.alloc (.cells ys T)).grownBy w1 v.ownBlock) (hb : Below n₀ w V) (h1 : n₀ ≤ lo) (h2 : n₀ ≤ V.heap.size) : Below n₀ w w1 ∧ V.heap.size ≤ w1.heap.size :=
  ⟨(hb.alloc h2 _).grown hg (by simp; omega) (fun k e => Nat.le_trans h1 (own_lt h k e).1), by have := hg.size; simp at this; omega⟩
theorem RL.app_lab {V w1 : World} {lo g cap n : Nat} {vl vw va vn : Value} {labs : List (List UInt8 × Nat)} {ws : List (Value × List (List UInt8))} {az : List Nat} {lines : List (List UInt8)} {nm : List UInt8} {ys : Array Value} (h : RL V lo vl vw va vn labs ws az lines)
    (ho : w1.ownsRow lo 67 2 (.slice (some ⟨g, 0, none⟩) (labs.length + 1) cap) (labs.length + 1) (labV labs ++ [.string (bs nm), .int .i64 (n : Int)])) (hg : (V.alloc (.cells ys 67)).grownBy w1 vl.ownBlock) :
    RL w1 lo (.slice (some ⟨g, 0, none⟩) (labs.length + 1) cap) vw va vn (labs ++ [(nm, n)]) ws az lines :=
  ⟨by rw [labV_snoc]; simpa using ho, row_keeps h.wd (app_keeps h.lab hg (by decide)), row_keeps h.nm (app_keeps h.lab hg (by decide)), row_keeps h.ln (app_keeps h.lab hg (by decide)), fun x hx => (h.pl x hx).kept fun k cs _ hc => app_keeps h.lab hg (by decide) k cs hc⟩
theorem RL.app_wd {V w1 : World} {lo g cap : Nat} {vl vw va vn pv : Value} {labs : List (List UInt8 × Nat)} {ws : List (Value × List (List UInt8))} {az : List Nat} {lines : List (List UInt8)} {ps : List (List UInt8)} {ys : Array Value} (h : RL V lo vl vw va vn labs ws az lines) (hp : PartsIn V lo pv ps)
    (ho : w1.ownsRow lo 56 1 (.slice (some ⟨g, 0, none⟩) (ws.length + 1) cap) (ws.length + 1) (ws.map (·.1) ++ [pv])) (hg : (V.alloc (.cells ys 56)).grownBy w1 vw.ownBlock) :
    RL w1 lo vl (.slice (some ⟨g, 0, none⟩) (ws.length + 1) cap) va vn labs (ws ++ [(pv, ps)]) az lines :=
  ⟨row_keeps h.lab (app_keeps h.wd hg (by decide)), by simpa using ho, row_keeps h.nm (app_keeps h.wd hg (by decide)), row_keeps h.ln (app_keeps h.wd hg (by decide)), fun x hx => by
    rcases List.mem_append.1 hx with hx | hx
    · exact (h.pl x hx).kept fun k cs _ hc => app_keeps h.wd hg (by decide) k cs hc
    · simp only [List.mem_singleton] at hx
      subst hx
      exact hp.kept fun k cs _ hc => app_keeps h.wd hg (by decide) k cs hc⟩
theorem RL.app_nm {V w1 : World} {lo g cap n : Nat} {vl vw va vn : Value} {labs : List (List UInt8 × Nat)} {ws : List (Value × List (List UInt8))} {az : List Nat} {lines : List (List UInt8)} {ys : Array Value} (h : RL V lo vl vw va vn labs ws az lines)
    (ho : w1.ownsRow lo 3 1 (.slice (some ⟨g, 0, none⟩) (az.length + 1) cap) (az.length + 1) (nats az ++ [.int .i64 (n : Int)])) (hg : (V.alloc (.cells ys 3)).grownBy w1 va.ownBlock) :
    RL w1 lo vl vw (.slice (some ⟨g, 0, none⟩) (az.length + 1) cap) vn labs ws (az ++ [n]) lines :=
  ⟨row_keeps h.lab (app_keeps h.nm hg (by decide)), row_keeps h.wd (app_keeps h.nm hg (by decide)), by simpa [nats] using ho, row_keeps h.ln (app_keeps h.nm hg (by decide)), fun x hx => (h.pl x hx).kept fun k cs _ hc => app_keeps h.nm hg (by decide) k cs hc⟩
theorem RL.labsAt {W : World} {lo : Nat} {vl vw va vn : Value} {labs : List (List UInt8 × Nat)} {ws : List (Value × List (List UInt8))} {az : List Nat} {lines : List (List UInt8)} (h : RL W lo vl vw va vn labs ws az lines) : LabsAt W vl labs := by
  by_cases h0 : 0 < labs.length
  · obtain ⟨g, cap, rfl, _, hc⟩ := own_cell h.lab h0
    refine ⟨_, cap, rfl, fun j y hy => ⟨g, 0, rfl, ?_, ?_⟩⟩
    · rw [Nat.zero_add]; exact hc _ _ (labV_at labs j y hy).1
    · rw [Nat.zero_add]; exact hc _ _ (labV_at labs j y hy).2
  · obtain ⟨ad, cap, rfl, _⟩ := own_len h.lab
    refine ⟨ad, cap, rfl, fun j y hy => ?_⟩
    have := (List.getElem?_eq_some_iff.1 hy).1
    omega
/-- parts that Parts handed back -/
theorem parts_of_row {W : World} {lo lo' : Nat} {v : Value} {ps : List (List UInt8)} (h : W.ownsRow lo' 9 1 v ps.length (strs ps)) (hlo : lo ≤ lo') (hne : ps ≠ []) : PartsIn W lo v ps := by
  obtain ⟨g0, cap0, e0, _, hc⟩ := own_cell h (List.length_pos_iff.2 hne)
  rcases h.2 with ⟨_, h1⟩ | ⟨g, cap, cur, h1, h2, h3, h4, h5, h6, h7⟩
  · exact absurd (List.length_eq_zero_iff.1 h1) hne
  · rw [h1] at e0
    cases e0
    exact ⟨g0, 0, cap0, h1, h4, by omega, hne, by omega, ⟨cur, h3⟩, fun j x hx => by
      rw [Nat.zero_add]; exact hc j _ (by simp [strs, hx])⟩
theorem label_info : (Tryz.prog.info? 67).map (fun i => (i.zero, i.size, i.bytes)) = some (some (.agg #[.string ⟨#[]⟩, .int .i64 0]), 2, 24) := by kernel_rfl
theorem strs_info : (Tryz.prog.info? 56).map (fun i => (i.zero, i.size, i.bytes)) = some (some (.slice none 0 0), 1, 24) := by kernel_rfl

set_option maxHeartbeats 12800000 in
theorem ref_read (s : List UInt8) (hs : s.length ≤ 100000) (w : World) :
    Calls Tryz.prog 7 #[.string (bs s)] w (ReadPost w (readR s)) := by
  obtain ⟨i0, hi0, hz0, hz1, hz2⟩ := info_parts u32_info
  obtain ⟨i1, hi1, hw0, hw1, hw2⟩ := info_parts label_info
  obtain ⟨i2, hi2, hy0, hy1, hy2⟩ := info_parts strs_info
  obtain ⟨i3, hi3, hx0, hx1, hx2⟩ := info_parts int_info
  have HLI := Lib.hid (ref_lines s (by omega) w)
  have HRR : Hid (readR s = match refGo [] [] 0 (linesR s) with
    | .error k => ([], (k : Int), 19)
    | .ok x => readRGo x.1 0 [] x.2) := Lib.hid rfl
  have hLb : ∀ l ∈ linesR s, l.length ≤ 100000 := fun l hl => by
    have : l ∈ cutAt 10 s := by
      unfold linesR at hl
      split at hl
      · exact List.dropLast_subset _ hl
      · exact hl
    have := cutAt_len 10 s l this
    omega
  have hLn : (linesR s).length ≤ 100001 := by
    have h1 := cutAt_count 10 s
    have h2 : s.count 10 ≤ s.length := List.count_le_length
    unfold linesR
    split
    · simp; omega
    · omega
  generalize linesR s = LN at HLI HRR hLb hLn
  obtain ⟨lo, hlo'⟩ : ∃ lo, lo = w.heap.size := ⟨_, rfl⟩
  have HLO := Lib.hid hlo'
  have hlo : lo ≤ lo := Nat.le_refl _
  obtain ⟨N, hN⟩ : ∃ N, N = LN.length := ⟨_, rfl⟩
  rw [← hN] at hLn
  have HN := Lib.hid hN
  have HLB := Lib.hid hLb
  clear hlo' hN hLb
  go_enter Tryz.func7, Tryz.ntmps7
  go_wp2_with fail
  refine HLI.out.mono ?_
  rintro e W0 ⟨vn, rfl, hln, hb0⟩
  rw [← HN.out, ← HLO.out] at hln
  rw [← HLO.out] at hb0
  obtain ⟨adn, cn, rfl, hnm⟩ := own_len hln
  have HLN := Lib.hid hln
  have HB0 : Hid (Below lo w W0 ∧ lo ≤ W0.heap.size) := Lib.hid ⟨hb0, by have := hb0.size; have := HLO.out; omega⟩
  clear hln hb0 HLI
  go_wp2_with fail
  go_loopg [6, 7, 8, 9] N (fun k v6 v7 v8 v9 wr => ∃ (i : Nat) (labs : List (List UInt8 × Nat)) (ws : List (Value × List (List UInt8))) (az : List Nat), k + i = N ∧ v9 = .int .i64 (i : Int) ∧ ws.length = az.length ∧ refGo [] [] 0 LN = refGo labs ((ws.map (·.2)).zip az) i (LN.drop i) ∧ RL wr lo v6 v7 v8 (.slice adn N cn) labs ws az LN ∧ (Below lo w wr ∧ lo ≤ wr.heap.size) ∧ labs.length ≤ i ∧ az.length ≤ i ∧ (∀ y ∈ labs, y.2 ≤ i) ∧ (∀ x ∈ ws, x.2.length ≤ 200000 ∧ ∀ p ∈ x.2, p.length ≤ 100000))
  case atStart => exact ⟨0, [], [], [], by omega, rfl, rfl, rfl, ⟨World.ownsRow_nil _ _ _ _, World.ownsRow_nil _ _ _ _, World.ownsRow_nil _ _ _ _, by rw [← HN.out]; exact HLN.out, fun x hx => (by cases hx)⟩, HB0.out, by simp, by simp, fun y hy => (by cases hy), fun x hx => (by cases hx)⟩
  case round =>
    obtain ⟨i, labs, ws, az, hk, rfl, hwa, hgo, hrl, hbw, hb1, hb2, hb3, hb4⟩ := hrel
    obtain ⟨adl, cl, rfl, hml⟩ := own_len hrl.lab
    obtain ⟨adw, cw, rfl, hmw⟩ := own_len hrl.wd
    obtain ⟨ada, ca, rfl, hma⟩ := own_len hrl.nm
    have hk := Lib.hid hk
    have HWA := Lib.hid hwa
    have HGO := Lib.hid hgo
    have HRL := Lib.hid hrl
    have HBW := Lib.hid hbw
    have H3 := Lib.hid hb3
    have H4 := Lib.hid hb4
    have hwl : ws.length ≤ i := by omega
    have hii0 : (0 : Int) ≤ (i : Int) := by omega
    have hiN : i ≤ N := by have := hk.out; omega
    have wr1 : IntKind.i64.wrap ((i : Int) + 1) = (i : Int) + 1 := by rw [IntKind.wrap_i64] <;> omega
    clear hwa hgo hrl hbw hb3 hb4
    by_cases hi : i < N
    · have hiI : (i : Int) < (N : Int) := by omega
      obtain ⟨l, hl⟩ : ∃ l, LN[i]? = some l := ⟨LN[i]'(by have := HN.out; omega), List.getElem?_eq_getElem _⟩
      have HDR : Hid (LN.drop i = l :: LN.drop (i + 1)) := Lib.hid (by
        obtain ⟨h1, h2⟩ := List.getElem?_eq_some_iff.1 hl
        rw [List.drop_eq_getElem_cons h1, h2])
      have hll := HLB.out l (List.mem_of_getElem? hl)
      have HPA := Lib.hid (ref_parts l (by omega) wr)
      have hN0 : 0 < N := by omega
      obtain ⟨gn, cn', hsn, _, hcn⟩ := own_cell HRL.out.ln (by have := HN.out; omega)
      obtain ⟨rfl, rfl⟩ : adn = some ⟨gn, 0, none⟩ ∧ cn = cn' := by cases hsn; exact ⟨rfl, rfl⟩
      have dl := hcn i (.string (bs l)) (by simp [strs, hl])
      have HPB : Hid (∀ x ∈ partsR l, x ≠ [] ∧ x.length ≤ 100000) := Lib.hid fun x hx => by
        have h1 := fieldsQ_mem blankR _ [] x hx
        have tl := (List.takeWhile_prefix (p := (· != (59 : UInt8))) (l := l)).length_le
        exact ⟨h1.1, by have := h1.2; simp at this; omega⟩
      have HPN : Hid ((partsR l).length ≤ 100001) := Lib.hid (by
        have := fieldsQ_lenR blankR (l.takeWhile (· != 59)) []
        have tl := (List.takeWhile_prefix (p := (· != (59 : UInt8))) (l := l)).length_le
        unfold partsR fieldsB; omega)
      clear hl hsn hcn
      go_wp2_with fail
      refine HPA.out.mono ?_
      rintro e W1 ⟨pv, rfl, hpr, hb1'⟩
      have hs1 := hb1'.size
      have HRL1 := Lib.hid (HRL.out.below hb1')
      have HBW1 : Hid (Below lo w W1 ∧ lo ≤ W1.heap.size) := Lib.hid ⟨HBW.out.1.trans (hb1'.mono HBW.out.2), by have := HBW.out.2; omega⟩
      have HUP : Hid (∀ y ∈ labs, y.2 ≤ i + 1) := Lib.hid fun y hy => Nat.le_succ_of_le (H3.out y hy)
      clear hb1' HPA
      cases hps : partsR l with
      | nil =>
        rw [hps] at hpr
        obtain ⟨ad9, c9, rfl, _⟩ := own_len hpr
        have HG : Hid (refGo [] [] 0 LN = refGo labs ((ws.map (·.2)).zip az) (i + 1) (LN.drop (i + 1))) := Lib.hid (by rw [HGO.out, HDR.out, refGo_none hps])
        clear hps hpr
        go_wp2_with fail
        go_region
        go_wp2_with fail
        go_roundg (gk - 1)
        case measure => have := hk.out; omega
        case rel => exact ⟨i + 1, labs, ws, az, by have := hk.out; omega, by simp, HWA.out, HG.out, HRL1.out.below (Below.refl _ _).drew, ⟨HBW1.out.1.drew, HBW1.out.2⟩, by omega, by omega, HUP.out, H4.out⟩
      | cons p ps =>
        have hpin := parts_of_row (lo := lo) hpr HBW.out.2 (by rw [hps]; simp)
        rw [hps] at hpin hpr HPB HPN
        obtain ⟨g9, c9, rfl, _, hc9⟩ := own_cell hpr (by simp)
        have d9 := hc9 0 (.string (bs p)) rfl
        obtain ⟨hn5, hn6, hn7, -, htl⟩ := parts_tail hpin
        obtain ⟨n5, hn5'⟩ : ∃ n5, n5 = (p :: ps).length := ⟨_, rfl⟩
        have HN5 := Lib.hid hn5'
        have HN50 : Hid (n5 = ps.length + 1) := Lib.hid hn5'
        rw [← hn5'] at hpin hn6 ⊢
        have k1 : (0 : Int) < (n5 : Int) := by have := HN50.out; omega
        have k2 : 0 < n5 := by omega
        have k3 : (1 : Int) ≤ (n5 : Int) := by omega
        have k4 : (n5 : Int) ≤ (c9 : Int) := by omega
        have HTL := Lib.hid htl
        have HPI := Lib.hid hpin
        obtain ⟨hpne, hpl⟩ := HPB.out p (by simp)
        obtain ⟨q, x, rfl⟩ : ∃ q x, p = q ++ [x] := ⟨p.dropLast, p.getLast hpne, (List.dropLast_concat_getLast hpne).symm⟩
        have hlast : (q ++ [x]).getLast? = some x := by simp
        have hdl : (q ++ [x]).dropLast = q := by simp
        obtain ⟨p, hp⟩ : ∃ p, p = q ++ [x] := ⟨_, rfl⟩
        obtain ⟨M, hM⟩ : ∃ M, M = q.length := ⟨_, rfl⟩
        have hpM : p.length = M + 1 := by rw [hp, hM]; simp
        obtain ⟨P, hP⟩ : ∃ P, P = M + 1 := ⟨_, rfl⟩
        have hszp : (bs p).size = P := by rw [bs_size, hpM, hP]
        have hg := bs_get p M x (by rw [hp, hM]; simp)
        have hex : (bs p).extract 0 M = bs q := by rw [bs_piece, hp, hM]; simp
        rw [← hp] at hlast hdl d9 HPI HPB HPN HN5 hps hpl
        have hPl : P ≤ 100000 := by omega
        have wr2 : IntKind.i64.wrap ((P : Int) - 1) = (M : Int) := by rw [IntKind.wrap_i64] <;> omega
        have m1 : (M : Int) < (P : Int) := by omega
        have m2 : M < P := by omega
        have m3 : (0 : Int) ≤ (M : Int) := by omega
        have m4 : (M : Int) ≤ (P : Int) := by omega
        have m5 : M ≤ P := by omega
        have HPS := Lib.hid hps
        have hql : q.length ≤ 1000000 := by omega
        have hTq := bs_list q
        clear hps hpr hc9 hn5 hn5' htl hpin hn7 hpne hp hM hpM hP
        by_cases hx : x = 58
        · subst hx
          have HRL2 : Hid (RL W1.drew.drew lo (.slice adl labs.length cl) (.slice adw ws.length cw) (.slice ada az.length ca) (.slice (some ⟨gn, 0, none⟩) N cn) labs ws az LN) := Lib.hid (HRL1.out.below (Below.refl _ _).drew.drew)
          have HBW2 : Hid (Below lo w W1.drew.drew ∧ lo ≤ W1.drew.drew.heap.size) := Lib.hid ⟨HBW1.out.1.drew.drew, HBW1.out.2⟩
          have HFI := Lib.hid (ref_find (.slice adl labs.length cl) labs (by omega) q W1.drew.drew HRL2.out.labsAt)
          have HLK : Hid ((look labs q).isSome = (look labs q).isSome) := Lib.hid rfl
          cases hlk : look labs q with
          | some at9 =>
            have HE : Hid (readR s = ([], ((i + 1 : Nat) : Int), 19)) := Lib.hid (by
              rw [HRR.out, HGO.out, HDR.out, refGo_bad HPS.out hlast labs (by rw [hdl, hlk]; exact .inl rfl)])
            rw [hlk] at HFI
            simp only [Option.getD_some, Option.isSome_some] at HFI
            clear hlk HLK hlast
            go_wp2_with fail
            go_region
            go_wp2_with fail
            go_region
            go_wp2_with fail
            refine HFI.out.mono ?_
            rintro e w2 ⟨rfl, hw2⟩
            rw [hw2]
            clear hw2 w2
            go_wp2_with fail
            go_ret3
            rw [HE.out]
            exact ⟨.slice none 0 0, rfl, World.ownsRow_nil _ _ _ _, by rw [← HLO.out]; exact HBW2.out.1⟩
          | none =>
            rw [hlk] at HFI
            simp only [Option.getD_none, Option.isSome_none] at HFI
            by_cases hq0 : q = []
            · have HE : Hid (readR s = ([], ((i + 1 : Nat) : Int), 19)) := Lib.hid (by
                rw [HRR.out, HGO.out, HDR.out, refGo_bad HPS.out hlast labs (by rw [hdl]; exact .inr hq0)])
              have e1 : (q == []) = true := by rw [hq0]; rfl
              clear hlk HLK hlast hq0
              go_wp2_with fail
              go_region
              go_wp2_with fail
              go_region
              go_wp2_with fail
              refine HFI.out.mono ?_
              rintro e w2 ⟨rfl, hw2⟩
              rw [hw2]
              clear hw2 w2
              go_wp2_with fail
              go_ret3
              rw [HE.out]
              exact ⟨.slice none 0 0, rfl, World.ownsRow_nil _ _ _ _, by rw [← HLO.out]; exact HBW2.out.1⟩
            · have e1 : (q == []) = false := by simpa using hq0
              have HG : Hid (refGo [] [] 0 LN = refGo (labs ++ [(q, ((ws.map (·.2)).zip az).length)]) (if ps = [] then (ws.map (·.2)).zip az else (ws.map (·.2)).zip az ++ [(ps, i + 1)]) (i + 1) (LN.drop (i + 1))) := Lib.hid (by
                rw [HGO.out, HDR.out, refGo_lab HPS.out hlast labs (by rw [hdl, hlk]; simp [hq0]), hdl])
              have hzl : ((ws.map (·.2)).zip az).length = ws.length := by rw [List.length_zip, List.length_map, HWA.out, Nat.min_self]
              rw [hzl] at HG
              have HTL2 : Hid (ps ≠ [] → PartsIn W1.drew.drew lo (.slice (some ⟨g9, 0 + 1, none⟩) ps.length (c9 - 1)) ps) := Lib.hid fun hne => (HTL.out hne).kept fun k cs _ hc => rfl
              have HP4 := Lib.hid (fun W1 => World.news_of_block (w := W1.alloc (.cells #[.string (bs q), .int .i64 (ws.length : Int)] 67)) (B := W1.heap.size) (cs := #[.string (bs q), .int .i64 (ws.length : Int)]) (t := 67) (fr := (0, 0)) (heap_alloc_new W1 _))
              have HO4 : Hid (∀ u ∈ [Value.string (bs q), Value.int .i64 (ws.length : Int)], u.oneCell' = true) := Lib.hid (by
                intro u hu
                simp only [List.mem_cons, List.not_mem_nil, or_false] at hu
                rcases hu with rfl | rfl <;> rfl)
              clear hlk HLK hlast hq0 hzl
              go_wp2_with fail
              go_region
              go_wp2_with fail
              go_region
              go_wp2_with fail
              refine HFI.out.mono ?_
              rintro e w2 ⟨rfl, hw2⟩
              rw [hw2]
              clear hw2 w2 HFI
              generalize W1.drew.drew = Wb at HRL2 HBW2 HTL2 ⊢
              have HP4 := Lib.hid (HP4.out Wb)
              go_wp2_with (at_builtin; refine wpList_append_lies _ rfl _ _ 62 rfl lo 67 i1 _ 2 24 Tryz.underlying62 hi1 hw0 hw1 hw2 rfl (by decide) (.slice adl labs.length cl) labs.length (labV labs) rfl (HRL2.out.lab.alloc _) ⟨Wb.heap.size, 0, none⟩ 1 1 [.string (bs q), .int .i64 (ws.length : Int)] rfl rfl HP4.out HO4.out (by omega) (by unfold maxLen; omega) (by omega) (by have := HBW2.out.2; simp; omega) (Wb.heap.size + 1) (by simp) ?_)
              intro g4 cap4 w4 hown4 hgrow4 _ _
              have h4 := HRL2.out.app_lab hown4 hgrow4
              have hb4 := app_below HRL2.out.lab hgrow4 HBW2.out.1 hlo HBW2.out.2
              have HRL4 := Lib.hid h4
              have HBW4 := Lib.hid (And.intro hb4.1 (Nat.le_trans HBW2.out.2 hb4.2))
              have HTL4 : Hid (ps ≠ [] → PartsIn w4 lo (.slice (some ⟨g9, 0 + 1, none⟩) ps.length (c9 - 1)) ps) := Lib.hid fun hne => (HTL2.out hne).kept fun k cs _ hc => app_keeps HRL2.out.lab hgrow4 (by decide) k cs hc
              have HUP4 : Hid (∀ y ∈ labs ++ [(q, ws.length)], y.2 ≤ i + 1) := Lib.hid fun y hy => by
                rcases List.mem_append.1 hy with hy | hy
                · exact HUP.out y hy
                · simp only [List.mem_singleton] at hy
                  subst hy
                  exact Nat.le_succ_of_le hwl
              clear hown4 hgrow4 h4 hb4
              by_cases hps0 : ps = []
              · have HG2 : Hid (refGo [] [] 0 LN = refGo (labs ++ [(q, ws.length)]) ((ws.map (·.2)).zip az) (i + 1) (LN.drop (i + 1))) := Lib.hid (by rw [HG.out, if_pos hps0])
                have hn51 : n5 = 1 := by have := HN50.out; rw [hps0] at this; simpa using this
                clear hps0
                subst hn51
                go_wp2_with fail
                all_goals
                  go_roundg (gk - 1)
                  case measure => have := hk.out; omega
                  case rel => exact ⟨i + 1, labs ++ [(q, ws.length)], ws, az, by have := hk.out; omega, by simp, HWA.out, HG2.out, by simpa using HRL4.out, HBW4.out, by simp; omega, by omega, HUP4.out, H4.out⟩
              · have HG2 : Hid (refGo [] [] 0 LN = refGo (labs ++ [(q, ws.length)]) (((ws ++ [(Value.slice (some ⟨g9, 1, none⟩) ps.length (c9 - 1), ps)]).map (·.2)).zip (az ++ [i + 1])) (i + 1) (LN.drop (i + 1))) := Lib.hid (by
                  rw [HG.out, if_neg hps0, List.map_append, List.zip_append (by rw [List.length_map, HWA.out])]; rfl)
                have hpl2 : 0 < ps.length := List.length_pos_iff.2 hps0
                have HTL5 := Lib.hid (HTL4.out hps0)
                obtain ⟨m9, hm9⟩ : ∃ m9, m9 = ps.length := ⟨_, rfl⟩
                have hn52 : n5 - 1 = m9 := by have := HN50.out; omega
                have hc92 : ¬ c9 = 1 := by have := HN50.out; omega
                have hc93 : (c9 == 1) = false := by simpa using hc92
                have hm90 : (0 : Int) < (m9 : Int) := by omega
                have HM9 := Lib.hid hm9
                rw [← hm9] at HTL5 HG2
                rw [Nat.zero_add] at HTL5
                have HPB2 : Hid (ps.length ≤ 200000 ∧ ∀ p ∈ ps, p.length ≤ 100000) := Lib.hid ⟨by have := HPN.out; simp at this; omega, fun y hy => (HPB.out y (by simp [hy])).2⟩
                clear hps0 hpl2 hm9 HG
                have HP5 := Lib.hid (World.news_of_block (w := w4.alloc (.cells #[.slice (some ⟨g9, 1, none⟩) m9 (c9 - 1)] 56)) (B := w4.heap.size) (cs := #[.slice (some ⟨g9, 1, none⟩) m9 (c9 - 1)]) (t := 56) (fr := (0, 0)) (heap_alloc_new w4 _))
                have HO5 : Hid (∀ u ∈ [(.slice (some ⟨g9, 1, none⟩) m9 (c9 - 1) : Value)], u.oneCell' = true) := Lib.hid (by
                  intro u hu
                  simp only [List.mem_cons, List.not_mem_nil, or_false] at hu
                  subst hu; rfl)
                go_wp2_with (at_builtin; refine wpList_append_lies _ rfl _ _ 63 rfl lo 56 i2 _ 1 24 Tryz.underlying63 hi2 hy0 hy1 hy2 rfl (by decide) (.slice adw ws.length cw) ws.length (ws.map (·.1)) rfl (HRL4.out.wd.alloc _) ⟨w4.heap.size, 0, none⟩ 1 1 [.slice (some ⟨g9, 1, none⟩) m9 (c9 - 1)] rfl rfl HP5.out HO5.out (by omega) (by unfold maxLen; omega) (by omega) (by have := HBW4.out.2; simp; omega) (w4.heap.size + 1) (by simp) ?_)
                intro g5 cap5 w5 hown5 hgrow5 _ _
                have h5 := HRL4.out.app_wd (by rw [HM9.out]; rw [HM9.out] at HTL5; exact HTL5.out) hown5 hgrow5
                have hb5 := app_below HRL4.out.wd hgrow5 HBW4.out.1 hlo HBW4.out.2
                have H5 := Lib.hid h5
                have HB5 := Lib.hid (And.intro hb5.1 (Nat.le_trans HBW4.out.2 hb5.2))
                have HP6 := Lib.hid (World.news_of_block (w := w5.alloc (.cells #[.int .i64 ((i : Int) + 1)] 3)) (B := w5.heap.size) (cs := #[.int .i64 ((i : Int) + 1)]) (t := 3) (fr := (0, 0)) (heap_alloc_new w5 _))
                have HO6 : Hid (∀ u ∈ [Value.int .i64 ((i : Int) + 1)], u.oneCell' = true) := Lib.hid (by
                  intro u hu
                  simp only [List.mem_cons, List.not_mem_nil, or_false] at hu
                  subst hu; rfl)
                clear hown5 hgrow5 h5 hb5
                go_wp2_with (at_builtin; refine wpList_append_lies _ rfl _ _ 64 rfl lo 3 i3 _ 1 8 Tryz.underlying64 hi3 hx0 hx1 hx2 rfl (by decide) (.slice ada az.length ca) az.length (nats az) rfl (H5.out.nm.alloc _) ⟨w5.heap.size, 0, none⟩ 1 1 [.int .i64 ((i : Int) + 1)] rfl rfl HP6.out HO6.out (by omega) (by unfold maxLen; omega) (by omega) (by have := HB5.out.2; simp; omega) (w5.heap.size + 1) (by simp) ?_)
                intro g6 cap6 w6 hown6 hgrow6 _ _
                have h6 := H5.out.app_nm (n := i + 1) hown6 hgrow6
                have hb6 := app_below H5.out.nm hgrow6 HB5.out.1 hlo HB5.out.2
                have H6 := Lib.hid h6
                have HB6 := Lib.hid (And.intro hb6.1 (Nat.le_trans HB5.out.2 hb6.2))
                clear hown6 hgrow6 h6 hb6
                go_wp2_with fail
                go_roundg (gk - 1)
                case measure => have := hk.out; omega
                case rel => exact ⟨i + 1, labs ++ [(q, ws.length)], ws ++ [(Value.slice (some ⟨g9, 1, none⟩) m9 (c9 - 1), ps)], az ++ [i + 1], by have := hk.out; omega, by simp, by simp [HWA.out], HG2.out, by simpa using H6.out, HB6.out, by simp; omega, by simp; omega, HUP4.out, fun y hy => by
                  rcases List.mem_append.1 hy with hy | hy
                  · exact H4.out y hy
                  · simp only [List.mem_singleton] at hy
                    subst hy
                    exact HPB2.out⟩
        · have hxn : x.toNat ≠ 58 := fun e => hx (UInt8.toNat_inj.1 e)
          have e1 : ((x.toNat : Int) == 58) = false := beq_eq_false_iff_ne.2 (by omega)
          have HG2 : Hid (refGo [] [] 0 LN = refGo labs (((ws ++ [(Value.slice (some ⟨g9, 0, none⟩) n5 c9, p :: ps)]).map (·.2)).zip (az ++ [i + 1])) (i + 1) (LN.drop (i + 1))) := Lib.hid (by
            rw [HGO.out, HDR.out, refGo_word HPS.out (by rw [hlast]; simpa using hx), List.map_append, List.zip_append (by rw [List.length_map, HWA.out])]; rfl)
          have HPB2 : Hid ((p :: ps).length ≤ 200000 ∧ ∀ y ∈ p :: ps, y.length ≤ 100000) := Lib.hid ⟨by have := HPN.out; omega, fun y hy => (HPB.out y hy).2⟩
          have HRL2 : Hid (RL W1.drew lo (.slice adl labs.length cl) (.slice adw ws.length cw) (.slice ada az.length ca) (.slice (some ⟨gn, 0, none⟩) N cn) labs ws az LN) := Lib.hid (HRL1.out.below (Below.refl _ _).drew)
          have HBW2 : Hid (Below lo w W1.drew ∧ lo ≤ W1.drew.heap.size) := Lib.hid ⟨HBW1.out.1.drew, HBW1.out.2⟩
          have HPI2 : Hid (PartsIn W1.drew lo (.slice (some ⟨g9, 0, none⟩) n5 c9) (p :: ps)) := Lib.hid (HPI.out.kept fun k cs _ hc => rfl)
          clear hx hxn hlast hdl
          go_wp2_with fail
          go_region
          generalize W1.drew = Wb at HRL2 HBW2 HPI2 ⊢
          have HP5 := Lib.hid (World.news_of_block (w := Wb.alloc (.cells #[.slice (some ⟨g9, 0, none⟩) n5 c9] 56)) (B := Wb.heap.size) (cs := #[.slice (some ⟨g9, 0, none⟩) n5 c9]) (t := 56) (fr := (0, 0)) (heap_alloc_new Wb _))
          have HO5 : Hid (∀ u ∈ [(.slice (some ⟨g9, 0, none⟩) n5 c9 : Value)], u.oneCell' = true) := Lib.hid (by
            intro u hu
            simp only [List.mem_cons, List.not_mem_nil, or_false] at hu
            subst hu; rfl)
          go_wp2_with (at_builtin; refine wpList_append_lies _ rfl _ _ 63 rfl lo 56 i2 _ 1 24 Tryz.underlying63 hi2 hy0 hy1 hy2 rfl (by decide) (.slice adw ws.length cw) ws.length (ws.map (·.1)) rfl (HRL2.out.wd.alloc _) ⟨Wb.heap.size, 0, none⟩ 1 1 [.slice (some ⟨g9, 0, none⟩) n5 c9] rfl rfl HP5.out HO5.out (by omega) (by unfold maxLen; omega) (by omega) (by have := HBW2.out.2; simp; omega) (Wb.heap.size + 1) (by simp) ?_)
          intro g5 cap5 w5 hown5 hgrow5 _ _
          have h5 := HRL2.out.app_wd HPI2.out hown5 hgrow5
          have hb5 := app_below HRL2.out.wd hgrow5 HBW2.out.1 hlo HBW2.out.2
          have H5 := Lib.hid h5
          have HB5 := Lib.hid (And.intro hb5.1 (Nat.le_trans HBW2.out.2 hb5.2))
          have HP6 := Lib.hid (World.news_of_block (w := w5.alloc (.cells #[.int .i64 ((i : Int) + 1)] 3)) (B := w5.heap.size) (cs := #[.int .i64 ((i : Int) + 1)]) (t := 3) (fr := (0, 0)) (heap_alloc_new w5 _))
          have HO6 : Hid (∀ u ∈ [Value.int .i64 ((i : Int) + 1)], u.oneCell' = true) := Lib.hid (by
            intro u hu
            simp only [List.mem_cons, List.not_mem_nil, or_false] at hu
            subst hu; rfl)
          clear hown5 hgrow5 h5 hb5
          go_wp2_with (at_builtin; refine wpList_append_lies _ rfl _ _ 64 rfl lo 3 i3 _ 1 8 Tryz.underlying64 hi3 hx0 hx1 hx2 rfl (by decide) (.slice ada az.length ca) az.length (nats az) rfl (H5.out.nm.alloc _) ⟨w5.heap.size, 0, none⟩ 1 1 [.int .i64 ((i : Int) + 1)] rfl rfl HP6.out HO6.out (by omega) (by unfold maxLen; omega) (by omega) (by have := HB5.out.2; simp; omega) (w5.heap.size + 1) (by simp) ?_)
          intro g6 cap6 w6 hown6 hgrow6 _ _
          have h6 := H5.out.app_nm (n := i + 1) hown6 hgrow6
          have hb6 := app_below H5.out.nm hgrow6 HB5.out.1 hlo HB5.out.2
          have H6 := Lib.hid h6
          have HB6 := Lib.hid (And.intro hb6.1 (Nat.le_trans HB5.out.2 hb6.2))
          clear hown6 hgrow6 h6 hb6
          go_wp2_with fail
          go_roundg (gk - 1)
          case measure => have := hk.out; omega
          case rel => exact ⟨i + 1, labs, ws ++ [(Value.slice (some ⟨g9, 0, none⟩) n5 c9, p :: ps)], az ++ [i + 1], by have := hk.out; omega, by simp, by simp [HWA.out], HG2.out, by simpa using H6.out, HB6.out, by omega, by simp; omega, HUP.out, fun y hy => by
            rcases List.mem_append.1 hy with hy | hy
            · exact H4.out y hy
            · simp only [List.mem_singleton] at hy
              subst hy
              exact HPB2.out⟩
    · have hiI : ¬ (i : Int) < (N : Int) := by omega
      have HRE : Hid (readR s = readRGo labs 0 [] ((ws.map (·.2)).zip az)) := Lib.hid (by
        rw [HRR.out, HGO.out, List.drop_eq_nil_of_le (by have := HN.out; omega)]
        rfl)
      have HLV : Hid (∀ s v, look labs s = some v → v ≤ 200000) := Lib.hid fun s v h => by
        obtain ⟨y, hy, rfl⟩ := look_mem h
        have := H3.out y hy
        omega
      obtain ⟨n, hn⟩ : ∃ n, n = ws.length := ⟨_, rfl⟩
      obtain ⟨W2, hW2⟩ : ∃ W2, W2 = wr := ⟨_, rfl⟩
      rw [← hW2] at HRL HBW ⊢
      have HNW := Lib.hid hn
      rw [← hn] at hwl
      have HLS : Hid (W2.heap.size = W2.heap.size) := Lib.hid rfl
      clear hW2 HGO hn
      try rw [← HNW.out]
      go_wp2_with fail
      try rw [← HNW.out]
      go_loopg [14, 15] n (fun k v14 v15 wr => ∃ (j : Nat) (out : List Int) (ad1 : Option Addr) (c1 : Nat), k + j = n ∧ v14 = .slice ad1 out.length c1 ∧ v15 = .int .i64 (j : Int) ∧ out.length ≤ 512 ∧ readR s = readRGo labs j out (((ws.map (·.2)).zip az).drop j) ∧
        wr.ownsRow W2.heap.size 39 1 (.slice ad1 out.length c1) out.length (u32s out) ∧ Below W2.heap.size W2 wr ∧ W2.heap.size ≤ wr.heap.size)
      case atStart => exact ⟨0, [], none, 0, by omega, rfl, rfl, by simp, by rw [HRE.out]; rfl, World.ownsRow_nil _ _ _ _, Below.refl _ _, Nat.le_refl _⟩
      case round =>
        obtain ⟨j, out, ad1, c1, hk2, rfl, rfl, hol, hgo, hrow, hB, hsw⟩ := hrel
        have hk2 := Lib.hid hk2
        have HGO := Lib.hid hgo
        have HRW := Lib.hid hrow
        have HBR := Lib.hid hB
        have HR2 := Lib.hid (HRL.out.below hB)
        have HBB : Hid (Below lo w wr ∧ lo ≤ wr.heap.size) := Lib.hid ⟨HBW.out.1.trans (hB.mono HBW.out.2), Nat.le_trans HBW.out.2 hsw⟩
        have wr3 : IntKind.i64.wrap ((j : Int) + 1) = (j : Int) + 1 := by rw [IntKind.wrap_i64]; have := hk2.out; omega
        have hjj0 : (0 : Int) ≤ (j : Int) := by omega
        clear hgo hrow hB
        by_cases hj : j < n
        · have hj1 : (j : Int) < (n : Int) := by omega
          have hjw : j < ws.length := by have := HNW.out; omega
          obtain ⟨x, hx⟩ : ∃ x, ws[j]? = some x := ⟨ws[j], List.getElem?_eq_getElem hjw⟩
          obtain ⟨a, ha⟩ : ∃ a, az[j]? = some a := ⟨az[j]'(by have := HWA.out; omega), List.getElem?_eq_getElem _⟩
          obtain ⟨pv, ps⟩ := x
          have HDR : Hid (((ws.map (·.2)).zip az).drop j = (ps, a) :: ((ws.map (·.2)).zip az).drop (j + 1)) := Lib.hid (by
            have h0 : ((ws.map (·.2)).zip az)[j]? = some (ps, a) := by
              rw [List.getElem?_zip_eq_some]
              exact ⟨by rw [List.getElem?_map, hx]; rfl, ha⟩
            obtain ⟨h1, h2⟩ := List.getElem?_eq_some_iff.1 h0
            rw [List.drop_eq_getElem_cons h1, h2])
          obtain ⟨gw, cw', hsw', _, hcw⟩ := own_cell HR2.out.wd (by omega)
          obtain ⟨rfl, rfl⟩ : adw = some ⟨gw, 0, none⟩ ∧ cw = cw' := by cases hsw'; exact ⟨rfl, rfl⟩
          have d1 := hcw j pv (by rw [List.getElem?_map, hx]; rfl)
          have hna : az.length = n := by have := HWA.out; have := HNW.out; omega
          have hja : j < az.length := by omega
          have hja1 : (j : Int) < (az.length : Int) := by omega
          obtain ⟨ga, ca', hsa', _, hca⟩ := own_cell HR2.out.nm (by omega)
          obtain ⟨rfl, rfl⟩ : ada = some ⟨ga, 0, none⟩ ∧ ca = ca' := by cases hsa'; exact ⟨rfl, rfl⟩
          have d2 := hca j (.int .i64 (a : Int)) (by simp [nats, ha])
          have hpin := HR2.out.pl _ (List.mem_of_getElem? hx)
          obtain ⟨hg1, hg2⟩ := H4.out _ (List.mem_of_getElem? hx)
          obtain ⟨g1, off1, cp1, hpv, _, _, hpne, _, _, hpc⟩ := hpin
          simp only at hpv hpne hpc hg1 hg2
          obtain ⟨pn, hpn⟩ : ∃ pn, pn = ps.length := ⟨_, rfl⟩
          have HWD := Lib.hid (ref_word j g1 off1 cp1 labs (.slice adl labs.length cl) ps wr hpne hpc hg2 hg1 HR2.out.labsAt (by omega) HLV.out (by omega))
          have hKA : ∀ W, Below wr.heap.size wr W → W.cell? ⟨ga, j, none⟩ = some (.int .i64 (a : Int)) := fun W hb => (hb.cell (World.block_lt_of_cell? _ _ d2)).trans d2
          have HKA := Lib.hid hKA
          rw [← hpn] at HWD hpv
          subst hpv
          clear hna hx ha hsw' hcw hsa' hca hg1 hg2 hpc hpne hpn hKA hjw
          go_wp2_with fail
          refine HWD.out.mono ?_
          rintro e w4 ⟨⟨v, rfl, hv⟩, hb4⟩
          have d3 := HKA.out w4 hb4
          have hr4 := own_on HRW.out hb4
          have HR4 := Lib.hid hr4
          have hs4 := hb4.size
          have HB4 : Hid (Below lo w w4 ∧ lo ≤ w4.heap.size) := Lib.hid ⟨HBB.out.1.trans (hb4.mono HBB.out.2), by have := HBB.out.2; omega⟩
          have HBR4 : Hid (Below W2.heap.size W2 w4 ∧ W2.heap.size ≤ w4.heap.size) := Lib.hid ⟨HBR.out.trans (hb4.mono hsw), by omega⟩
          clear hb4 hr4
          cases hwp : wordR labs j ps with
          | none =>
            have HEQ : Hid (readR s = ([], (a : Int), 19)) := Lib.hid (by rw [HGO.out, HDR.out, readRGo_none hwp])
            clear hv hwp
            go_wp2_with fail
            go_region
            go_wp2_with fail
            go_ret3
            rw [HEQ.out]
            exact ⟨.slice none 0 0, rfl, World.ownsRow_nil _ _ _ _, by rw [← HLO.out]; exact HB4.out.1.drew⟩
          | some z =>
            obtain rfl := hv z hwp
            by_cases hbig : 512 ≤ out.length
            · have HEQ : Hid (readR s = ([], (a : Int), 22)) := Lib.hid (by rw [HGO.out, HDR.out, readRGo_big hwp hbig])
              have k1 : (512 : Int) ≤ (out.length : Int) := by omega
              clear hv hwp hbig
              go_wp2_with fail
              go_region
              go_wp2_with fail
              go_ret3
              rw [HEQ.out]
              exact ⟨.slice none 0 0, rfl, World.ownsRow_nil _ _ _ _, by rw [← HLO.out]; exact HB4.out.1.drew⟩
            · have HEQ : Hid (readR s = readRGo labs (j + 1) (out ++ [v]) (((ws.map (·.2)).zip az).drop (j + 1))) := Lib.hid (by rw [HGO.out, HDR.out, readRGo_some hwp hbig])
              have k1 : ¬ (512 : Int) ≤ (out.length : Int) := by omega
              have hol2 : out.length + 1 ≤ 512 := by omega
              have HNews := Lib.hid (World.news_of_block (w := w4.alloc (.cells #[.int .u32 v] 39)) (B := w4.heap.size) (cs := #[.int .u32 v]) (t := 39) (fr := (0, 0)) (heap_alloc_new w4 _))
              have HO1 : Hid (∀ u ∈ [Value.int .u32 v], u.oneCell' = true) := Lib.hid (by
                intro u hu
                simp only [List.mem_cons, List.not_mem_nil, or_false] at hu
                subst hu; rfl)
              clear hv hwp hbig
              go_wp2_with (at_builtin; refine wpList_append_lies _ rfl _ _ 23 rfl W2.heap.size 39 i0 _ 1 4 Tryz.underlying23 hi0 hz0 hz1 hz2 rfl (by omega) (.slice ad1 out.length c1) out.length (u32s out) rfl (HR4.out.alloc _) ⟨w4.heap.size, 0, none⟩ 1 1 [.int .u32 v] rfl rfl HNews.out HO1.out (by omega) (by unfold maxLen; omega) (by omega) (by simp; omega) (w4.heap.size + 1) (by simp) ?_)
              intro g2 cap2 w5 hown5 hgrow5 _ _
              have hb5 := app_below HR4.out hgrow5 HBR4.out.1 (Nat.le_refl _) HBR4.out.2
              have HQ5 := Lib.hid (And.intro hown5 (And.intro hb5.1 (Nat.le_trans HBR4.out.2 hb5.2)))
              clear hown5 hgrow5 hb5
              go_wp2_with fail
              go_roundg (gk - 1)
              case measure => have := hk2.out; omega
              case rel => exact ⟨j + 1, out ++ [v], some ⟨g2, 0, none⟩, cap2, by have := hk2.out; omega, by simp, by simp, by simp; omega, HEQ.out, by rw [u32s_snoc]; simpa using HQ5.out.1, HQ5.out.2.1, HQ5.out.2.2⟩
        · have hj1 : ¬ (j : Int) < (n : Int) := by omega
          have HEQ : Hid (readR s = (out, 0, 0)) := Lib.hid (by
            rw [HGO.out, List.drop_eq_nil_of_le (by have := HNW.out; rw [List.length_zip, List.length_map]; omega)]
            rfl)
          go_wp2_with fail
          go_ret3
          rw [HEQ.out]
          exact ⟨_, rfl, own_weak HRW.out (by have := HBW.out.2; have := HLO.out; omega), by rw [← HLO.out]; exact HBB.out.1⟩
end Go.Proofs.YtapjfcljbdlnkaaGreatDoor
