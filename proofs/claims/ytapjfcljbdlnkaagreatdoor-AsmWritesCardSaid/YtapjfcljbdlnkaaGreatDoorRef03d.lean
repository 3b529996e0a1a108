/- onionskinref03.Number, plain. -/
import Derived.Test.YtapjfcljbdlnkaaGreatDoorRef03c
import Derived.Test.YtapjfcljbdlnkaaGreatDoorAsmWord
namespace Go.Proofs.YtapjfcljbdlnkaaGreatDoor
open Go Go.RowKit Go.Lib
set_option maxRecDepth 100000

/-- what digits say -/
def valR (l : List UInt8) : Nat := l.foldl (fun n b => 10 * n + (b.toNat - 48)) 0
theorem valR_snoc (l : List UInt8) (x : UInt8) : valR (l ++ [x]) = 10 * valR l + (x.toNat - 48) := by simp [valR]
theorem valR_lt (l : List UInt8) (h : l.all digitB = true) : valR l < 10 ^ l.length := by
  obtain ⟨m, hm⟩ : ∃ m, m = l.reverse := ⟨_, rfl⟩
  have hl : l = m.reverse := by rw [hm, List.reverse_reverse]
  subst hl
  clear hm
  induction m with
  | nil => simp [valR]
  | cons x m ih =>
    rw [List.reverse_cons] at h ⊢
    rw [List.all_append, Bool.and_eq_true] at h
    have hx : digitB x = true := by simpa using h.2
    have hd : 48 ≤ x.toNat ∧ x.toNat ≤ 57 := by simpa [digitB] using hx
    have := ih h.1
    rw [valR_snoc, List.length_append, List.length_singleton, Nat.pow_succ]
    omega
/-- a number, as the reference has it -/
def numR (s : List UInt8) : Int × Bool :=
  let t := Lib.trimPrefix s [45]
  if t = [] ∨ 12 < t.length ∨ (t.head? = some 48 ∧ 1 < s.length) then (0, false)
  else if t.all digitB then (if t.length < s.length then -(valR t : Int) else (valR t : Int), true)
  else (0, false)
/-- is a text a number, however great? -/
def plainR (s : List UInt8) : Bool :=
  let t := Lib.trimPrefix s [45]
  if t = [] ∨ t.head? = some 48 then false else t.all digitB
theorem take_all_next {t : List UInt8} {i : Nat} {x : UInt8} (h : (t.take i).all digitB = true) (hx : t[i]? = some x) (hd : digitB x = true) : (t.take (i + 1)).all digitB = true := by
  rw [List.take_add_one, hx, List.all_append, h]; simpa using hd
theorem take_val_next {t : List UInt8} {i : Nat} {x : UInt8} (hx : t[i]? = some x) : valR (t.take (i + 1)) = 10 * valR (t.take i) + (x.toNat - 48) := by
  rw [List.take_add_one, hx]; exact valR_snoc _ _
theorem not_all {t : List UInt8} {i : Nat} {x : UInt8} (hx : t[i]? = some x) (hd : digitB x = false) : t.all digitB = false := by
  rw [List.all_eq_false]
  exact ⟨x, List.mem_of_getElem? hx, by simp [hd]⟩

set_option maxHeartbeats 6400000 in
theorem ref_plain (s : List UInt8) (hs : s.length ≤ 1000000) (w : World) :
    Calls Tryz.prog 45 #[.string (bs s)] w fun e w' => e = .returned (.bool (plainR s)) ∧ w' = w := by
  obtain ⟨t, ht⟩ : ∃ t, t = Lib.trimPrefix s [45] := ⟨_, rfl⟩
  have htl : t.length ≤ 1000000 := by rw [ht]; have := trimPrefix_len s [45]; omega
  have hsz := bs_size s
  have hTs := bs_list s
  have HP : Hid (plainR s = if t = [] ∨ t.head? = some 48 then false else t.all digitB) := Lib.hid (by rw [ht]; rfl)
  go_enter Tryz.func45, Tryz.ntmps45
  refine seq_mid_p (fun a' w' => a' = { tmps := (.string (bs s) :: undef :: .bool false :: undef :: undef :: undef :: undef :: undef :: undef :: undef :: undef :: undef :: undef :: undef :: undef :: undef :: undef :: undef :: undef :: undef :: undef :: undef :: undef :: undef :: undef :: undef :: undef :: undef :: undef :: undef :: undef :: undef :: undef :: undef :: undef :: undef :: undef :: undef :: []).toArray, defers := [] } ∧ w' = w) ?_ ?_
  · go_wp2_with fail
    exact ⟨trivial, trivial⟩
  rintro a' w' ⟨rfl, hw'⟩
  rw [hw']
  clear hw' w'
  refine seq_mid_p (fun a' w' => ActIs a' (fun z => { tmps := (.string (bs t) :: undef :: .bool false :: undef :: (z 4) :: (z 5) :: (z 6) :: (z 7) :: (z 8) :: (z 9) :: (z 10) :: (z 11) :: (z 12) :: (z 13) :: undef :: undef :: undef :: undef :: undef :: undef :: undef :: undef :: undef :: undef :: undef :: undef :: undef :: undef :: undef :: undef :: undef :: undef :: undef :: undef :: undef :: undef :: undef :: undef :: []).toArray, defers := [] }) ∧ w' = w) ?_ ?_
  · cases s with
    | nil =>
      obtain rfl : t = [] := ht
      go_wp2_with fail
      first | exact ⟨mid_z rfl, trivial⟩ | exact mid_z rfl
    | cons x r =>
      have hg := bs_get (x :: r) 0 x rfl
      have e0 : (0 : Int) < ((x :: r).length : Int) := by simp only [List.length_cons]; omega
      by_cases hx : x = 45
      · subst hx
        obtain rfl : t = r := by rw [ht]; simp [Lib.trimPrefix, Lib.hasPrefix]
        have h9 : (bs (45 :: t)).extract 1 (bs (45 :: t)).size = bs t := by apply bs_inj; simp [bs, ByteArray.size]
        have h9' : (bs (45 :: t)).extract 1 (t.length + 1) = bs t := by apply bs_inj; simp [bs, ByteArray.size]
        have h8 : 1 ≤ (bs (45 :: t)).size := by rw [hsz]; simp
        have h7 : (1 : Int) ≤ ((bs (45 :: t)).size : Int) := by omega
        clear ht
        go_wp2_with fail
        exact ⟨mid_z rfl, trivial⟩
      · obtain rfl : t = x :: r := by rw [ht]; simp [Lib.trimPrefix, Lib.hasPrefix, Ne.symm hx]
        have hxn : x.toNat ≠ 45 := fun e => hx (UInt8.toNat_inj.1 e)
        have e1 : ((x.toNat : Int) == 45) = false := beq_eq_false_iff_ne.2 (by omega)
        clear ht hx hxn
        go_wp2_with fail
        exact ⟨mid_z rfl, trivial⟩
  rintro a' w' ⟨⟨z, rfl⟩, hw'⟩
  rw [hw']
  clear hw' w' ht hsz hTs
  have hszt := bs_size t
  have hTt := bs_list t
  cases t with
  | nil =>
    have HE : Hid (plainR s = false) := Lib.hid (by rw [HP.out]; simp)
    go_wp2_with fail
    go_ret
    rw [HE.out]
    exact ⟨rfl, rfl⟩
  | cons y q =>
    have hg0 := bs_get (y :: q) 0 y rfl
    have hle : ((y :: q).length == 0) = false := by simp
    by_cases hy : y = 48
    · subst hy
      have HE : Hid (plainR s = false) := Lib.hid (by rw [HP.out]; simp)
      go_wp2_with fail
      go_ret
      rw [HE.out]
      exact ⟨rfl, rfl⟩
    · have HE : Hid (plainR s = (y :: q).all digitB) := Lib.hid (by rw [HP.out]; simp [hy])
      have hyn : y.toNat ≠ 48 := fun e => hy (UInt8.toNat_inj.1 e)
      have e1 : ((y.toNat : Int) == 48) = false := beq_eq_false_iff_ne.2 (by omega)
      obtain ⟨t, ht⟩ : ∃ t, t = y :: q := ⟨_, rfl⟩
      have hne : t ≠ [] := by rw [ht]; simp
      have hl0 : (t.length == 0) = false := by rw [ht]; simp
      have hl00 : ((t.length : Int) == 0) = false := by rw [ht]; simp; omega
      have hl1 : (0 : Int) < (t.length : Int) := by rw [ht]; simp only [List.length_cons]; omega
      rw [← ht] at hg0 HE hTt hszt htl ⊢
      clear hle ht hy hyn
      go_wp2_with fail
      go_loopg [3] t.length (fun k v wr => ∃ i : Nat, k + i = t.length ∧ v = .int .i64 (i : Int) ∧ (t.take i).all digitB = true ∧ wr = w)
      case atStart => exact ⟨0, by omega, rfl, rfl, rfl⟩
      case round =>
        obtain ⟨i, hk, rfl, hall, rfl⟩ := hrel
        have hk := Lib.hid hk
        have HA := Lib.hid hall
        have hi3 : (0 : Int) ≤ (i : Int) := by omega
        have wr1 : IntKind.i64.wrap ((i : Int) + 1) = (i : Int) + 1 := by rw [IntKind.wrap_i64]; have := hk.out; omega
        clear hall
        by_cases hi : i < t.length
        · have hi1 : (i : Int) < (t.length : Int) := by omega
          obtain ⟨x, hx⟩ : ∃ x, t[i]? = some x := ⟨t[i], List.getElem?_eq_getElem hi⟩
          have hg := bs_get t i x hx
          by_cases hdg : digitB x = true
          · have HN := Lib.hid (take_all_next HA.out hx hdg)
            have hdg2 : 48 ≤ x.toNat ∧ x.toNat ≤ 57 := by simpa [digitB] using hdg
            have k1 : ¬ (x.toNat : Int) < 48 := by omega
            have k2 : ¬ 57 < (x.toNat : Int) := by omega
            clear hdg hdg2 hx
            go_wp2_with fail
            go_roundg (gk - 1)
            case measure => have := hk.out; omega
            case rel => exact ⟨i + 1, by have := hk.out; omega, by simp, HN.out, rfl⟩
          · have hdf : digitB x = false := by simpa using hdg
            have HF : Hid (plainR s = false) := Lib.hid (by rw [HE.out]; exact not_all hx hdf)
            have hq : (x.toNat : Int) < 48 ∨ (¬ (x.toNat : Int) < 48 ∧ 57 < (x.toNat : Int)) := by
              have : ¬ (48 ≤ x.toNat ∧ x.toNat ≤ 57) := by simpa [digitB] using hdg
              omega
            have HQ := Lib.hid hq
            clear hdg hdf hq hx
            rcases HQ.out with k1 | ⟨k1, k2⟩
            all_goals
              go_wp2_with fail
              go_ret
              rw [HF.out]
              exact ⟨rfl, rfl⟩
        · have hi1 : ¬ (i : Int) < (t.length : Int) := by omega
          have HF : Hid (plainR s = true) := Lib.hid (by rw [HE.out]; have := HA.out; rwa [List.take_of_length_le (by omega)] at this)
          go_wp2_with fail
          go_ret
          rw [HF.out]
          exact ⟨rfl, rfl⟩

set_option maxHeartbeats 6400000 in
theorem ref_number (s : List UInt8) (hs : s.length ≤ 1000000) (w : World) :
    Calls Tryz.prog 42 #[.string (bs s)] w fun e w' => e = .returned (.tuple #[.int .i64 (numR s).1, .bool (numR s).2]) ∧ w' = w := by
  obtain ⟨t, ht⟩ : ∃ t, t = Lib.trimPrefix s [45] := ⟨_, rfl⟩
  have htl : t.length ≤ s.length := by rw [ht]; exact trimPrefix_len s [45]
  have hsz := bs_size s
  have hTs := bs_list s
  have HP : Hid (numR s = if t = [] ∨ 12 < t.length ∨ (t.head? = some 48 ∧ 1 < s.length) then (0, false) else if t.all digitB then (if t.length < s.length then -(valR t : Int) else (valR t : Int), true) else (0, false)) := Lib.hid (by rw [ht]; rfl)
  go_enter Tryz.func42, Tryz.ntmps42
  refine seq_mid_p (fun a' w' => a' = { tmps := (.string (bs s) :: undef :: .int .i64 0 :: .bool false :: undef :: undef :: undef :: undef :: undef :: undef :: undef :: undef :: undef :: undef :: undef :: undef :: undef :: undef :: undef :: undef :: undef :: undef :: undef :: undef :: undef :: undef :: undef :: undef :: undef :: undef :: undef :: undef :: undef :: undef :: undef :: undef :: undef :: undef :: undef :: undef :: undef :: undef :: undef :: undef :: undef :: undef :: undef :: undef :: undef :: undef :: undef :: undef :: undef :: undef :: undef :: undef :: undef :: undef :: undef :: undef :: undef :: undef :: undef :: undef :: undef :: undef :: undef :: undef :: []).toArray, defers := [] } ∧ w' = w) ?_ ?_
  · go_wp2_with fail
    exact ⟨trivial, trivial⟩
  rintro a' w' ⟨rfl, hw'⟩
  rw [hw']
  clear hw' w'
  refine seq_mid_p (fun a' w' => a' = { tmps := (.string (bs s) :: undef :: .int .i64 0 :: .bool false :: .string (bs s) :: undef :: undef :: .string (bs s) :: undef :: undef :: undef :: undef :: undef :: undef :: undef :: undef :: undef :: undef :: undef :: undef :: undef :: undef :: undef :: undef :: undef :: undef :: undef :: undef :: undef :: undef :: undef :: undef :: undef :: undef :: undef :: undef :: undef :: undef :: undef :: undef :: undef :: undef :: undef :: undef :: undef :: undef :: undef :: undef :: undef :: undef :: undef :: undef :: undef :: undef :: undef :: undef :: undef :: undef :: undef :: undef :: undef :: undef :: undef :: undef :: undef :: undef :: undef :: undef :: []).toArray, defers := [] } ∧ w' = w) ?_ ?_
  · go_wp2_with fail
    exact ⟨trivial, trivial⟩
  rintro a' w' ⟨rfl, hw'⟩
  rw [hw']
  clear hw' w'
  refine seq_mid_p (fun a' w' => ActIs a' (fun z => { tmps := (.string (bs s) :: undef :: .int .i64 0 :: .bool false :: .string (bs t) :: undef :: undef :: .string (bs s) :: (z 8) :: (z 9) :: (z 10) :: (z 11) :: (z 12) :: (z 13) :: (z 14) :: (z 15) :: (z 16) :: (z 17) :: undef :: undef :: undef :: undef :: undef :: undef :: undef :: undef :: undef :: undef :: undef :: undef :: undef :: undef :: undef :: undef :: undef :: undef :: undef :: undef :: undef :: undef :: undef :: undef :: undef :: undef :: undef :: undef :: undef :: undef :: undef :: undef :: undef :: undef :: undef :: undef :: undef :: undef :: undef :: undef :: undef :: undef :: undef :: undef :: undef :: undef :: undef :: undef :: undef :: undef :: []).toArray, defers := [] }) ∧ w' = w) ?_ ?_
  · cases s with
    | nil =>
      obtain rfl : t = [] := ht
      go_wp2_with fail
      first | exact ⟨mid_z rfl, trivial⟩ | exact mid_z rfl
    | cons x r =>
      have hg := bs_get (x :: r) 0 x rfl
      have e0 : (0 : Int) < ((x :: r).length : Int) := by simp only [List.length_cons]; omega
      by_cases hx : x = 45
      · subst hx
        obtain rfl : t = r := by rw [ht]; simp [Lib.trimPrefix, Lib.hasPrefix]
        have h9 : (bs (45 :: t)).extract 1 (bs (45 :: t)).size = bs t := by apply bs_inj; simp [bs, ByteArray.size]
        have h9' : (bs (45 :: t)).extract 1 (t.length + 1) = bs t := by apply bs_inj; simp [bs, ByteArray.size]
        have h8 : 1 ≤ (bs (45 :: t)).size := by rw [hsz]; simp
        have h7 : (1 : Int) ≤ ((bs (45 :: t)).size : Int) := by omega
        clear ht
        go_wp2_with fail
        exact ⟨mid_z rfl, trivial⟩
      · obtain rfl : t = x :: r := by rw [ht]; simp [Lib.trimPrefix, Lib.hasPrefix, Ne.symm hx]
        have hxn : x.toNat ≠ 45 := fun e => hx (UInt8.toNat_inj.1 e)
        have e1 : ((x.toNat : Int) == 45) = false := beq_eq_false_iff_ne.2 (by omega)
        clear ht hx hxn
        go_wp2_with fail
        exact ⟨mid_z rfl, trivial⟩
  rintro a' w' ⟨⟨z, rfl⟩, hw'⟩
  rw [hw']
  clear hw' w' ht
  have hszt := bs_size t
  have hTt := bs_list t
  obtain ⟨n, hn⟩ : ∃ n, n = s.length := ⟨_, rfl⟩
  rw [← hn] at hsz htl HP hs
  have hN0 : (0 : Int) ≤ (n : Int) := by omega
  clear hn
  refine seq_mid_p (fun a' w' => ActIs a' (fun z => { tmps := (.string (bs s) :: undef :: .int .i64 0 :: .bool false :: .string (bs t) :: undef :: undef :: .string (bs s) :: (z 8) :: (z 9) :: (z 10) :: (z 11) :: (z 12) :: (z 13) :: (z 14) :: (z 15) :: (z 16) :: (z 17) :: (z 18) :: (z 19) :: (z 20) :: (z 21) :: (z 22) :: (z 23) :: (z 24) :: (z 25) :: (z 26) :: (z 27) :: (z 28) :: (z 29) :: (z 30) :: (z 31) :: (z 32) :: (z 33) :: (z 34) :: (z 35) :: undef :: undef :: undef :: undef :: undef :: undef :: undef :: undef :: undef :: undef :: undef :: undef :: undef :: undef :: undef :: undef :: undef :: undef :: undef :: undef :: undef :: undef :: undef :: undef :: undef :: undef :: undef :: undef :: undef :: undef :: undef :: undef :: []).toArray, defers := [] }) ∧ w' = w ∧ (t ≠ [] ∧ t.length ≤ 12 ∧ (t.head? = some 48 → n ≤ 1))) ?_ ?_
  · cases t with
    | nil =>
      have HE : Hid (numR s = (0, false)) := Lib.hid (by rw [HP.out]; simp)
      go_wp2_with fail
      go_ret2
      rw [HE.out]
      exact ⟨rfl, rfl⟩
    | cons y q =>
      have hg0 := bs_get (y :: q) 0 y rfl
      obtain ⟨t, ht⟩ : ∃ t, t = y :: q := ⟨_, rfl⟩
      have hne : t ≠ [] := by rw [ht]; simp
      have hhd : t.head? = some y := by rw [ht]; rfl
      have hl0 : (t.length == 0) = false := by rw [ht]; simp
      have hl00 : ((t.length : Int) == 0) = false := by rw [ht]; simp; omega
      have hl1 : (0 : Int) < (t.length : Int) := by rw [ht]; simp only [List.length_cons]; omega
      rw [← ht] at hg0 HP hTt hszt htl ⊢
      have HNE := Lib.hid hne
      have HHD := Lib.hid hhd
      clear ht hne hhd
      by_cases h12 : 12 < t.length
      · have HE : Hid (numR s = (0, false)) := Lib.hid (by rw [HP.out, if_pos (.inr (.inl h12))])
        have k1 : (12 : Int) < (t.length : Int) := by omega
        clear h12
        go_wp2_with fail
        go_ret2
        rw [HE.out]
        exact ⟨rfl, rfl⟩
      · have k1 : ¬ (12 : Int) < (t.length : Int) := by omega
        have H12 : Hid (t.length ≤ 12) := Lib.hid (by omega)
        by_cases hy : y = 48
        · subst hy
          by_cases h1 : 1 < n
          · have HE : Hid (numR s = (0, false)) := Lib.hid (by rw [HP.out, if_pos (.inr (.inr ⟨HHD.out, h1⟩))])
            have k2 : (1 : Int) < (n : Int) := by omega
            clear h12 h1
            go_wp2_with fail
            go_ret2
            rw [HE.out]
            exact ⟨rfl, rfl⟩
          · have k2 : ¬ (1 : Int) < (n : Int) := by omega
            have HX : Hid (t ≠ [] ∧ t.length ≤ 12 ∧ (t.head? = some 48 → n ≤ 1)) := Lib.hid ⟨HNE.out, H12.out, fun _ => by omega⟩
            clear h12 h1
            go_wp2_with fail
            exact ⟨mid_z rfl, HX.out⟩
        · have hyn : y.toNat ≠ 48 := fun e => hy (UInt8.toNat_inj.1 e)
          have e1 : ((y.toNat : Int) == 48) = false := beq_eq_false_iff_ne.2 (by omega)
          have HX : Hid (t ≠ [] ∧ t.length ≤ 12 ∧ (t.head? = some 48 → n ≤ 1)) := Lib.hid ⟨HNE.out, H12.out, fun h => absurd (by have := HHD.out; rw [h] at this; cases this; rfl) hy⟩
          clear h12 hy hyn
          go_wp2_with fail
          exact ⟨mid_z rfl, HX.out⟩
  rintro a' w' ⟨⟨z, rfl⟩, hw', hX⟩
  rw [hw']
  clear hw' w'
  obtain ⟨hne, h12, hnz⟩ := hX
  have HP2 : Hid (numR s = if t.all digitB then (if t.length < n then -(valR t : Int) else (valR t : Int), true) else (0, false)) := Lib.hid (by
    rw [HP.out, if_neg]
    rintro (h | h | h)
    · exact hne h
    · omega
    · have := hnz h.1; omega)
  clear hne hnz
  go_wp2_with fail
  go_loopg [5, 6] t.length (fun k u v wr => ∃ i : Nat, k + i = t.length ∧ v = .int .i64 (i : Int) ∧ u = .int .i64 (valR (t.take i) : Int) ∧ (t.take i).all digitB = true ∧ wr = w)
  case atStart => exact ⟨0, by omega, rfl, rfl, rfl, rfl⟩
  case round =>
    obtain ⟨i, hk, rfl, rfl, hall, rfl⟩ := hrel
    have hk := Lib.hid hk
    have HA := Lib.hid hall
    have hi3 : (0 : Int) ≤ (i : Int) := by omega
    have wr1 : IntKind.i64.wrap ((i : Int) + 1) = (i : Int) + 1 := by rw [IntKind.wrap_i64]; have := hk.out; omega
    have hvl : valR (t.take i) < 10 ^ 12 := by
      refine Nat.lt_of_lt_of_le (valR_lt _ hall) (Nat.pow_le_pow_right (by omega) ?_)
      rw [List.length_take]; omega
    have hvl' : valR (t.take i) < 1000000000000 := hvl
    clear hall hvl
    by_cases hi : i < t.length
    · have hi1 : (i : Int) < (t.length : Int) := by omega
      obtain ⟨x, hx⟩ : ∃ x, t[i]? = some x := ⟨t[i], List.getElem?_eq_getElem hi⟩
      have hg := bs_get t i x hx
      by_cases hdg : digitB x = true
      · have HN := Lib.hid (take_all_next HA.out hx hdg)
        have HV := Lib.hid (take_val_next hx)
        have hdg2 : 48 ≤ x.toNat ∧ x.toNat ≤ 57 := by simpa [digitB] using hdg
        have k1 : ¬ (x.toNat : Int) < 48 := by omega
        have k2 : ¬ 57 < (x.toNat : Int) := by omega
        obtain ⟨v, hv⟩ : ∃ v, v = valR (t.take i) := ⟨_, rfl⟩
        rw [← hv] at hvl' HV ⊢
        have w1 : IntKind.i64.wrap (10 * (v : Int)) = 10 * (v : Int) := by rw [IntKind.wrap_i64] <;> omega
        have w2 : IntKind.u8.wrap ((x.toNat : Int) - 48) = ((x.toNat - 48 : Nat) : Int) := by rw [IntKind.wrap_u8]; omega
        have w3 : IntKind.i64.wrap (10 * (v : Int) + ((x.toNat - 48 : Nat) : Int)) = 10 * (v : Int) + ((x.toNat - 48 : Nat) : Int) := by rw [IntKind.wrap_i64] <;> omega
        have w4 : IntKind.i64.wrap ((x.toNat - 48 : Nat) : Int) = ((x.toNat - 48 : Nat) : Int) := by rw [IntKind.wrap_i64] <;> omega
        clear hdg hdg2 hx hv
        go_wp2_with fail
        go_roundg (gk - 1)
        case measure => have := hk.out; omega
        case rel => exact ⟨i + 1, by have := hk.out; omega, by simp, by rw [HV.out]; simp, HN.out, rfl⟩
      · have hdf : digitB x = false := by simpa using hdg
        have HF : Hid (numR s = (0, false)) := Lib.hid (by rw [HP2.out, not_all hx hdf]; rfl)
        have hq : (x.toNat : Int) < 48 ∨ (¬ (x.toNat : Int) < 48 ∧ 57 < (x.toNat : Int)) := by
          have : ¬ (48 ≤ x.toNat ∧ x.toNat ≤ 57) := by simpa [digitB] using hdg
          omega
        have HQ := Lib.hid hq
        clear hdg hdf hq hx
        rcases HQ.out with k1 | ⟨k1, k2⟩
        all_goals
          go_wp2_with fail
          go_ret2
          rw [HF.out]
          exact ⟨rfl, rfl⟩
    · have hi1 : ¬ (i : Int) < (t.length : Int) := by omega
      have hti : t.take i = t := List.take_of_length_le (by omega)
      have HA2 : Hid (t.all digitB = true) := Lib.hid (by have := HA.out; rwa [hti] at this)
      rw [hti] at hvl' ⊢
      have HTI := Lib.hid hti
      clear hti
      by_cases hlt : t.length < n
      · have HF : Hid (numR s = (-(valR t : Int), true)) := Lib.hid (by rw [HP2.out, HA2.out, if_pos rfl, if_pos hlt])
        have k2 : (t.length : Int) < (n : Int) := by omega
        have w1 : IntKind.i64.wrap (-(valR t : Int)) = -(valR t : Int) := by rw [IntKind.wrap_i64] <;> omega
        clear hlt
        go_wp2_with fail
        go_ret2
        rw [HF.out]
        exact ⟨rfl, rfl⟩
      · have HF : Hid (numR s = ((valR t : Int), true)) := Lib.hid (by rw [HP2.out, HA2.out, if_pos rfl, if_neg hlt])
        have k2 : ¬ (t.length : Int) < (n : Int) := by omega
        clear hlt
        go_wp2_with fail
        go_ret2
        rw [HF.out]
        exact ⟨rfl, rfl⟩
end Go.Proofs.YtapjfcljbdlnkaaGreatDoor

