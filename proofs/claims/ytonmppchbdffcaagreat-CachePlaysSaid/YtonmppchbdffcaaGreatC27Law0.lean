/- What the walk of CacheDone asks: b & 3; a state of noughts; a deed's cells; one write waiting. -/
import Derived.Test.YtonmppchbdffcaaGreatC27Does4
import Derived.Test.YtonmppchbdffcaaGreatC27Awake2
import Derived.Laws.Bits128
namespace Go.Proofs.YtonmppchbdffcaaGreat
open Go Go.RowKit Go.Lib Go.Maps
set_option maxRecDepth 100000

theorem and3 (n : Int) : bits .and .i64 n 3 = n % 4 := by
  have h3 : (BitVec.ofInt 64 3).toNat = 2 ^ 2 - 1 := by decide
  have key : (BitVec.ofInt 64 n &&& BitVec.ofInt 64 3).toNat = (n % ((2 ^ 64 : Nat) : Int)).toNat % 2 ^ 2 := by
    rw [BitVec.toNat_and, BitVec.toNat_ofInt, h3, Nat.and_two_pow_sub_one_eq_mod]
  show IntKind.i64.wrap ((BitVec.ofInt 64 n &&& BitVec.ofInt 64 3).toNat : Nat) = n % 4
  rw [key, IntKind.wrap_i64]
  omega
def zSt : Array Value := (List.replicate 1152 (Value.int .u8 0) ++ List.replicate 18 (Value.bool false)).toArray
theorem st_zero (w : World) : (zeroValue 40).run Tryz.prog w = .ok (.agg zSt) w := (zero_of_info (n := 1170) (by kernel_rfl)).1 w
theorem exec_build0_st {d : Tmp} {ty : TypeId} {p : String} {af : Array Edge} {gd : Option (Tmp × Bool)} {ρ : Operand → Value} {w : World} :
    (execOp ρ { dst := some d, op := .build 40 #[], type := ty, pos := p, after := af, guard := gd }).run Tryz.prog w = .ok (.value (.agg zSt)) w := by
  unfold execOp
  have h : (Instr.build 40 #[]).run Tryz.prog w = .ok (.agg zSt) w := by
    unfold Instr.build
    have hz := st_zero w
    generalize zSt = ZZ at *
    simp [Sem.run_bind, hz, run_underlying Tryz.underlying40, Instr.fill, Value.cells]
  simp [h]
theorem st_fresh (w : World) : StAt (w.alloc (.cells zSt 40)) w.heap.size (List.replicate 18 zeroD) (List.replicate 18 false) := by
  refine ⟨⟨zSt, heap_alloc_last _ _, by simp [zSt], fun i d hd j v hv => ?_, fun i b hb => ?_⟩, by simp, by simp, fun d hd => ?_⟩
  · obtain ⟨hi, rfl⟩ : i < 18 ∧ zeroD = d := by
      rw [List.getElem?_replicate] at hd
      split at hd
      · rename_i hi; exact ⟨hi, Option.some.inj hd⟩
      · cases hd
    have hj := (List.getElem?_eq_some_iff.1 hv).1
    have hj : j < 64 := by simpa [dC_len, zeroD] using hj
    have hv2 : v = .int .u8 0 := by
      simp only [dC, zeroD, List.map_replicate, List.getElem?_replicate] at hv
      rw [if_pos hj] at hv
      exact (Option.some.inj hv).symm
    rw [hv2, zSt, List.getElem?_toArray, List.getElem?_append_left (by simp; omega), List.getElem?_replicate, if_pos (by omega)]
  · obtain ⟨hi, rfl⟩ : i < 18 ∧ false = b := by
      rw [List.getElem?_replicate] at hb
      split at hb
      · rename_i hi; exact ⟨hi, Option.some.inj hb⟩
      · cases hb
    rw [zSt, List.getElem?_toArray, List.getElem?_append_right (by simp), List.getElem?_replicate, if_pos (by simp; omega)]
  · rw [(List.mem_replicate.1 hd).2]; rfl
theorem read_last (L : List Dat) (b : Nat) (x : Dat) : readD L [(b, x)] b = x := by
  simp [readD, lastW, wAt, List.range_succ]
/-- a deed that came in -/
structure DeedV where
  kind : Int
  b : Int
  ad : Option Addr
  cap : Nat
  l : List UInt8
structure EReads (w : World) (ad : Option Addr) (cap : Nat) (l : List DeedV) : Prop where
  len : l.length ≤ cap
  max : cap ≤ maxLen
  at' : ∀ (i : Nat) (d : DeedV), l[i]? = some d → ∃ g off, ad = some ⟨g, off, none⟩ ∧ w.cell? ⟨g, off + i * 3, none⟩ = some (.int .i64 d.kind) ∧ w.cell? ⟨g, off + i * 3 + 1, none⟩ = some (.int .i64 d.b) ∧ w.cell? ⟨g, off + i * 3 + 2, none⟩ = some (.slice d.ad d.l.length d.cap) ∧ YReads w d.ad d.cap d.l
theorem EReads.below {w w' : World} {ad : Option Addr} {cap : Nat} {l : List DeedV} (h : EReads w ad cap l) (hb : Below w.heap.size w w') : EReads w' ad cap l :=
  ⟨h.len, h.max, fun i c hc => by
    obtain ⟨g, off, e, h1, h2, h3, h4⟩ := h.at' i c hc
    have hg : g < w.heap.size := World.block_lt_of_cell? _ ⟨g, off + i * 3, none⟩ h1
    exact ⟨g, off, e, (World.cell?_of_block (a := ⟨g, off + i * 3, none⟩) (hb.block g hg)).trans h1, (World.cell?_of_block (a := ⟨g, off + i * 3 + 1, none⟩) (hb.block g hg)).trans h2, (World.cell?_of_block (a := ⟨g, off + i * 3 + 2, none⟩) (hb.block g hg)).trans h3, h4.below hb⟩⟩
/-- ANY deed: what is the cache's, the deed's and the state's stays so, and nothing else turns -/
theorem does_any (C X D md mc T mo S left dn : Nat) (r : Int) (nd no nc : Nat) (Dd Do Dc : DataW Unit) (ds : List Dat) (bs : List Bool) (d : DeedV) (w : World)
    (h : All w C X D md mc T mo S 6 left dn r nd no nc Dd Do Dc ds bs) (hno : nd + no ≤ 1000) (hy : YReads w d.ad d.cap d.l) (hyS : ∀ g o, d.ad = some ⟨g, o, none⟩ → 0 < d.l.length → g ≠ S) :
    Calls Tryz.prog 9 #[.pointer (some ⟨C, 0, none⟩), .pointer (some ⟨T, 0, none⟩), .pointer (some ⟨S, 0, none⟩), .agg #[.int .i64 d.kind, .int .i64 d.b, .slice d.ad d.l.length d.cap]] w fun e w' =>
      ∃ T' mo' nd' no' Dd' Do' ds' bs', e = .returned (.tuple #[.pointer (some ⟨T', 0, none⟩), .bool true]) ∧ All w' C X D md mc T' mo' S 6 left dn r nd' no' nc Dd' Do' Dc ds' bs' ∧ nd' + no' ≤ nd + no + 1 ∧ (mo' = mo ∨ w.heap.size ≤ mo') ∧ Keeps (Mine md mo S) w w' := by
  obtain ⟨kind, b, ad, cap, l⟩ := d
  simp only at hy hyS ⊢
  by_cases hk : kind = 0 ∨ kind = 1 ∨ kind = 2 ∨ kind = 3 ∨ kind = 4
  · by_cases hb : 0 ≤ b ∧ b < 6
    · obtain ⟨b', rfl⟩ : ∃ b' : Nat, b = (b' : Int) := ⟨b.toNat, by omega⟩
      refine (does_write C X D md mc T mo S left dn r nd no nc Dd Do Dc ds bs kind b' ad cap l w h hk (by omega) (by omega) hy hyS).mono ?_
      rintro e w' ⟨he, ha, hkk⟩
      exact ⟨T, mo, nd, no + 1, _, _, _, _, he, ha, by omega, .inl rfl, hkk⟩
    · refine (does_write_no C X D md mc T mo S left dn r nd no nc Dd Do Dc ds bs kind b ad cap l w h hk hb hy).mono ?_
      rintro e w' ⟨he, hbl⟩
      exact ⟨T, mo, nd, no, _, _, _, _, he, h.below hbl, by omega, .inl rfl, Keeps.of_below hbl⟩
  · by_cases h5 : kind = 5
    · subst h5
      refine (does_end C X D md mc T mo S left dn r nd no nc Dd Do Dc ds bs b ad cap l.length w h (by omega)).mono ?_
      rintro e w' ⟨he, ha, hkk⟩
      exact ⟨T, mo, nd + no, 0, _, _, _, _, he, ha, by omega, .inl rfl, hkk⟩
    · by_cases h6 : kind = 6
      · subst h6
        refine (does_anew C X D md mc T mo S left dn r nd no nc Dd Do Dc ds bs b ad cap l.length w h).mono ?_
        rintro e w' ⟨T', mo', he, ha, hmo, hkk⟩
        exact ⟨T', mo', nd, 0, _, _, _, _, he, ha, by omega, .inr hmo, hkk⟩
      · refine (does_none C T S kind b ad cap l.length w (by omega)).mono ?_
        rintro e w' ⟨he, hbl⟩
        exact ⟨T, mo, nd, no, _, _, _, _, he, h.below hbl, by omega, .inl rfl, Keeps.of_below hbl⟩
end Go.Proofs.YtonmppchbdffcaaGreat
