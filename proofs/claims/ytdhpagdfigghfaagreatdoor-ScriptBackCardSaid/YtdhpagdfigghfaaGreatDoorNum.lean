/- script.number and script.hex at texts as they are printed. -/
import Derived.Test.YtdhpagdfigghfaaGreatDoorShelf
import Derived.Test.YtdhpagdfigghfaaGreatDoorStep
import Derived.Test.YtdhpagdfigghfaaGreatDoorCut
import Derived.Lib.AtoiErrMem
import Derived.Deep.LoopGhost
import Derived.Deep.RegionHeld3
namespace Go.Proofs.YtdhpagdfigghfaaGreatDoor
open Go.RowKit Go.Lib
set_option maxRecDepth 100000

/-- strconv.Itoa at n, whatever lies in memory behind w. -/
def ItoaAt (w : World) (n : Nat) (l : List UInt8) : Prop := ∀ w1, Below w.heap.size w w1 → Calls Tryz.prog 25 #[.int .i64 n] w1 fun e w' => e = .returned (.string (bs l)) ∧ Below w1.heap.size w1 w'

theorem itoa_small_at (n : Nat) (hn : n < 100) (w : World) : ItoaAt w n (Lib.decDigits n) := fun w1 _ => by
  refine (Tryz.strconv_Itoa_small n hn w1).mono ?_
  rintro e w' ⟨rfl, rfl⟩
  exact ⟨rfl, Below.refl _ _⟩

set_option maxHeartbeats 800000 in
theorem number_ok (l : List UInt8) (n : Nat) (most : Int) (hn : (n : Int) ≤ most) (hl : l.length ≤ 18) (ha : Lib.atoi l = some (n : Int)) (w : World) (hi : ItoaAt w n l) :
    Calls Tryz.prog 34 #[.string (bs l), .int .i64 most] w fun e w' => e = .returned (.tuple #[.int .i64 n, .bool true]) ∧ Below w.heap.size w w' := by
  have HA := Lib.hid (fun w => Tryz.strconv_Atoi (bs l) n (by rw [bs_size]; exact hl) (by rw [bs_data]; exact ha) w)
  have HI := Lib.hid hi
  have hn0 : (0 : Int) ≤ (n : Int) := Int.natCast_nonneg _
  clear ha hi
  go_enter Tryz.func34, Tryz.ntmps34
  go_wp2_with fail
  refine (HA.out _).mono ?_
  rintro e w1 ⟨rfl, t, hw1⟩
  have hb1 := Lib.hid (show Below w.heap.size w w1 by rw [hw1]; exact bytesWorld_below _ _ _)
  clear hw1
  go_wp2_with fail
  refine (HI.out _ hb1.out).mono ?_
  rintro e w2 ⟨rfl, hb2⟩
  have hb2 := Lib.hid hb2
  go_wp2
  go_ret2
  exact ⟨rfl, hb1.out.trans (hb2.out.mono hb1.out.size)⟩

/-- A digit of a hexadecimal number. -/
def hd (k : Nat) : UInt8 := if k < 10 then UInt8.ofNat (48 + k) else UInt8.ofNat (87 + k)
def hexL : List UInt8 → List UInt8
  | [] => []
  | x :: l => hd (x.toNat / 16) :: hd (x.toNat % 16) :: hexL l
theorem bs_get {l : List UInt8} {i k : Nat} {x : UInt8} (h : l[i]? = some x) (hk : k = i) {hb : k < (bs l).size} : (bs l)[k]'hb = x := by
  subst hk
  obtain ⟨h1, h2⟩ := List.getElem?_eq_some_iff.1 h
  exact h2
theorem hexL_len : ∀ l, (hexL l).length = 2 * l.length
  | [] => rfl
  | x :: l => by simp only [hexL, List.length_cons, hexL_len l]; omega
theorem hexL_even : ∀ (l : List UInt8) (i : Nat) (x : UInt8), l[i]? = some x → (hexL l)[2 * i]? = some (hd (x.toNat / 16)) ∧ (hexL l)[2 * i + 1]? = some (hd (x.toNat % 16))
  | [], i, x, h => by simp at h
  | y :: l, 0, x, h => by simp at h; subst h; exact ⟨rfl, rfl⟩
  | y :: l, i + 1, x, h => by
    have := hexL_even l i x (by simpa using h)
    rw [show 2 * (i + 1) = 2 * i + 1 + 1 by omega]
    simpa [hexL] using this
theorem hd_index : ∀ k, k < 16 → Lib.indexByte [48, 49, 50, 51, 52, 53, 54, 55, 56, 57, 97, 98, 99, 100, 101, 102] (hd k) = (k : Int) := by decide
theorem hd_val (k : Nat) (hk : k < 16) : ((hd k).toNat : Int).toNat.toUInt8 = hd k := by
  have : ∀ k, k < 16 → ((hd k).toNat : Int).toNat.toUInt8 = hd k := by decide
  exact this k hk

theorem byte_info : (Tryz.prog.info? 5).map (fun i => (i.zero, i.size, i.bytes)) = some (some (.int .u8 0), 1, 1) := by kernel_rfl
theorem below_grown {w wr w1 : World} {base : Nat} {e : TypeId} {size : Nat} {v : Value} {n : Nat} {xs : List Value} {o : Obj} (hb : Below base w wr) (hown : wr.ownsRow base e size v n xs)
    (hg : (wr.alloc o).drew.grownBy w1 v.ownBlock) (hs : base ≤ wr.heap.size := by omega) : Below base w w1 := by
  refine hb.trans ⟨hg.os, hg.tape, hg.output, ?_, ?_⟩
  · have := hg.size
    have e : (wr.alloc o).drew.heap.size = wr.heap.size + 1 := by simp
    omega
  · intro k hk
    have e : (wr.alloc o).drew.heap.size = wr.heap.size + 1 := by simp
    rw [hg.block k (by omega) ?_]
    · exact Below.heap_alloc wr o k (by omega)
    · rcases hown.2 with ⟨h, _⟩ | ⟨g, cap, cur, h, hbg, _⟩
      · rw [h]; simp [Value.ownBlock]
      · rw [h]; simp [Value.ownBlock]; omega
/-- bytes as cells -/
def bcells (l : List UInt8) : List Value := l.map fun x => .int .u8 x.toNat

set_option maxHeartbeats 1600000 in
theorem hex_ok (l : List UInt8) (hl : l.length ≤ 64) (w : World) :
    Calls Tryz.prog 35 #[.string (bs (hexL l))] w fun e w' => ∃ v, e = .returned (.tuple #[v, .bool true]) ∧ w'.ownsRow w.heap.size 5 1 v l.length (bcells l) ∧ Below w.heap.size w w' := by
  have hsz : (bs (hexL l)).size = 2 * l.length := by rw [bs_size, hexL_len]
  obtain ⟨i0, hi0, hz0, hz1, hz2⟩ := info_parts byte_info
  have h1 : ((2 * (l.length : Int)) % 2) = 0 := by omega
  have h2 : ¬ 128 < 2 * (l.length : Int) := by omega
  go_enter Tryz.func35, Tryz.ntmps35
  go_wp2_with fail
  go_loopg [4, 5] l.length (fun k v u wr => ∃ i : Nat, k + i = l.length ∧ u = .int .i64 (2 * (i : Int)) ∧ wr.ownsRow w.heap.size 5 1 v i (bcells (l.take i)) ∧ Below w.heap.size w wr)
  case atStart => exact ⟨0, by simp, rfl, World.ownsRow_nil _ _ _ _, Below.refl _ _⟩
  case round =>
    obtain ⟨i, hk, rfl, hown, hb⟩ := hrel
    have hown := Lib.hid hown
    have hb := Lib.hid hb
    have hk := Lib.hid hk
    have hj0 : (0 : Int) ≤ 2 * (i : Int) := by omega
    by_cases hi : i < l.length
    · have hi1 : 2 * (i : Int) < 2 * (l.length : Int) := by omega
      go_wp2_with fail
      have hi2 : 2 * (i : Int) + 1 < 2 * (l.length : Int) := by omega
      have hi3 : (0 : Int) ≤ 2 * (i : Int) + 1 := by omega
      have hi4 : IntKind.i64.wrap (2 * (i : Int) + 1) = 2 * (i : Int) + 1 := by rw [IntKind.wrap_i64]; omega
      obtain ⟨x, hx⟩ : ∃ x, l[i]? = some x := ⟨l[i], List.getElem?_eq_getElem hi⟩
      obtain ⟨p, hp⟩ : ∃ p, p = x.toNat / 16 := ⟨_, rfl⟩
      obtain ⟨q, hq⟩ : ∃ q, q = x.toNat % 16 := ⟨_, rfl⟩
      have hx256 : x.toNat < 256 := x.toNat_lt
      obtain ⟨e1, e2⟩ := hexL_even l i x hx
      rw [← hp] at e1
      rw [← hq] at e2
      have g1 : ∀ h, indexByte [48, 49, 50, 51, 52, 53, 54, 55, 56, 57, 97, 98, 99, 100, 101, 102] ((bs (hexL l))[(2 * (i : Int)).toNat]'h) = (p : Int) := fun h => by
        rw [bs_get e1 (by omega)]; exact hd_index p (by omega)
      have g2 : ∀ h, indexByte [48, 49, 50, 51, 52, 53, 54, 55, 56, 57, 97, 98, 99, 100, 101, 102] ((bs (hexL l))[(2 * (i : Int) + 1).toNat]'h) = (q : Int) := fun h => by
        rw [bs_get e2 (by omega)]; exact hd_index q (by omega)
      have p0 : (0 : Int) ≤ (p : Int) := Int.natCast_nonneg _
      have q0 : (0 : Int) ≤ (q : Int) := Int.natCast_nonneg _
      have n0 : ¬ ((p : Int) < 0) := by omega
      have n1 : ¬ ((q : Int) < 0) := by omega
      have w1 : IntKind.i64.wrap (16 * (p : Int)) = 16 * (p : Int) := by rw [IntKind.wrap_i64]; omega
      have w2 : IntKind.i64.wrap (16 * (p : Int) + (q : Int)) = 16 * (p : Int) + (q : Int) := by rw [IntKind.wrap_i64]; omega
      have w3 : IntKind.u8.wrap (16 * (p : Int) + (q : Int)) = (x.toNat : Int) := by rw [IntKind.wrap_u8]; omega
      have w4 : IntKind.i64.wrap (2 * (i : Int) + 2) = 2 * (i : Int) + 2 := by rw [IntKind.wrap_i64]; omega
      have hx := Lib.hid hx
      have hpq := Lib.hid (And.intro hp hq)
      clear hp hq e1 e2
      have HN := Lib.hid (World.news_of_block (w := (wr.alloc (.cells #[.int .u8 x.toNat] 5)).drew) (B := wr.heap.size) (cs := #[.int .u8 x.toNat]) (t := 5) (fr := (0, 0)) (heap_alloc_new wr _))
      have HO := Lib.hid (show ∀ u ∈ [Value.int .u8 x.toNat], u.oneCell' = true by intro u hu; simp only [List.mem_cons, List.not_mem_nil, or_false] at hu; subst hu; rfl)
      go_region_held3 (fun w' => w' = wr.drew) (first | rfl | assumption) (first | (go_at_call 51; refine (Tryz.strings_IndexByte _ _ _).mono ?_; rintro e w' ⟨rfl, rfl⟩))
      all_goals
        go_wp2_with (at_builtin; refine wpList_append_lies _ rfl _ _ _ rfl w.heap.size 5 i0 _ 1 1 Tryz.underlying40 hi0 hz0 hz1 hz2 rfl (by omega) u4 i (bcells (l.take i)) rfl ((hown.out.alloc _).drew) ⟨wr.heap.size, 0, none⟩ 1 1 [.int .u8 x.toNat] rfl rfl HN.out HO.out (by omega) (by simp [maxLen]; omega) (by omega) (by simp; have := hb.out.size; omega) (wr.heap.size + 1) (by simp) ?_)
        intro g cap w1 hown1 hgrow hat hlt1
        have H1 := Lib.hid (And.intro hown1 (And.intro hgrow (And.intro hat hlt1)))
        clear hown1 hgrow hat hlt1
        go_wp2_with fail
        obtain ⟨hown1, hgrow, hat, hlt1⟩ := H1.out
        have hk := hk.out
        go_roundg (gk - 1)
        case measure => omega
        case rel =>
          refine ⟨i + 1, by omega, by simp; omega, ?_, below_grown hb.out hown.out hgrow hb.out.size⟩
          have hx := hx.out
          rw [List.take_add_one, hx]
          simpa [bcells] using hown1
    · have hi1 : ¬ 2 * (i : Int) < 2 * (l.length : Int) := by omega
      go_wp2_with fail
      go_ret2
      have hil : i = l.length := by have := hk.out; omega
      subst hil
      refine ⟨u4, rfl, ?_, hb.out⟩
      have := hown.out
      rwa [List.take_length] at this

end Go.Proofs.YtdhpagdfigghfaaGreatDoor
