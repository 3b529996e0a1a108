/- CachePlays: what stands through the main loop, and each call of it. -/
import Derived.Test.YtonmppchbdffcaaGreatC27Pl
import Derived.Test.YtonmppchbdffcaaGreatC27Cost
import Derived.Test.YtonmppchbdffcaaGreatC27Blocks
namespace Go.Proofs.YtonmppchbdffcaaGreat
open Go Go.RowKit Go.Lib Go.Maps
set_option maxRecDepth 100000

theorem row_ne {w : World} {a b : Nat} {cs ds : Array Value} {t u : TypeId} {fr gr : Nat × Nat} (h : w.heap[a]? = some (.cells cs t fr)) (h' : w.heap[b]? = some (.cells ds u gr)) (hz : cs.size ≠ ds.size) : a ≠ b := fun e => by
  rw [e, h'] at h
  cases h
  exact hz rfl
/-- where the blocks lie -/
structure PF (B E S C md mc : Nat) (F : Nat → Prop) (L : List Dat) : Prop where
  be : B ≤ E
  bs : B ≤ S
  se : S < E
  emd : E ≤ md
  emc : E ≤ mc
  ec : E ≤ C
  ff : ∀ k, F k → B ≤ k ∧ k < E ∧ k ≠ S
  l6 : L.length = 6
structure P2 (E S C X D md mc : Nat) (F : Nat → Prop) (L : List Dat) (w : World) (n q T mo nd no nc : Nat) (r : Int) (Dd Do Dc : DataW Unit) (ds : List Dat) (bs : List Bool) (wr : World) : Prop where
  al : All wr C X D md mc T mo S 6 1099511627776 0 r nd no nc Dd Do Dc ds bs
  pl : Pl Dd Do ds bs L
  cl : Cl Dc L r
  dv : Dv wr F X D ⟨L, [], 1099511627776, 0⟩
  sz : nd + no ≤ n
  qz : nc ≤ q
  mo : E ≤ mo
  bl : Below w.heap.size w wr
variable {E S C X D md mc : Nat} {F : Nat → Prop} {L : List Dat} {w : World} {n q T mo nd no nc : Nat} {r : Int} {Dd Do Dc : DataW Unit} {ds : List Dat} {bs : List Bool} {wr : World}
theorem P2.below {w' : World} (h : P2 E S C X D md mc F L w n q T mo nd no nc r Dd Do Dc ds bs wr) (hb : Below wr.heap.size wr w') : P2 E S C X D md mc F L w n q T mo nd no nc r Dd Do Dc ds bs w' :=
  ⟨h.al.below hb, h.pl, h.cl, h.dv.below hb, h.sz, h.qz, h.mo, h.bl.trans (hb.mono h.bl.size)⟩
theorem P2.le {q' : Nat} (h : P2 E S C X D md mc F L w n q T mo nd no nc r Dd Do Dc ds bs wr) (hq : q ≤ q') : P2 E S C X D md mc F L w n q' T mo nd no nc r Dd Do Dc ds bs wr :=
  ⟨h.al, h.pl, h.cl, h.dv, h.sz, by have := h.qz; omega, h.mo, h.bl⟩
theorem P2.rd {w' : World} {nc' q' : Nat} {r' : Int} {Dc' : DataW Unit} (hf : PF w.heap.size E S C md mc F L) (h : P2 E S C X D md mc F L w n q T mo nd no nc r Dd Do Dc ds bs wr) (hk : Keeps (fun k => k = C ∨ k = mc) wr w') (hca : CaAt w' C X md mc r') (hmm : MapAt w' mc nc' Dc') (hcl : Cl Dc' L r') (hq : nc' ≤ q') :
    P2 E S C X D md mc F L w n q' T mo nd no nc' r' Dd Do Dc' ds bs w' := by
  have a := h.al
  have hdev := a.dev.on (hk.block X a.dev.lt fun e => e.elim (row_ne a.dev a.ca (by simp)) (a.cc.nec a.dev))
  refine ⟨⟨hca, (hk.block T a.tx.lt fun e => e.elim (row_ne a.tx a.ca (by simp)) (a.tx.ne a.cc)).trans a.tx, a.dd.on (hk.block md a.dd.lt fun e => e.elim (fun e => a.ca.ne a.dd e.symm) a.n1), a.oo.on (hk.block mo a.oo.lt fun e => e.elim (fun e => a.ca.ne a.oo e.symm) fun e => a.n3 e.symm), hmm,
    a.st.on (hk.block S a.st.lt fun e => e.elim (a.st.ne a.ca (by simp)) (a.st.nem a.cc)), hdev, a.n1, a.n2, a.n3⟩, h.pl, hcl, ⟨by have := hf.l6; simpa [this] using hdev, h.dv.dsk.on fun k hkl hfk => hk.block k hkl fun e => ?_, h.dv.nx, fun k hfk => Nat.lt_of_lt_of_le (h.dv.bd k hfk) hk.size⟩, h.sz, hq, h.mo, h.bl.trans (hk.below (fun k e => ?_) h.bl.size)⟩
  · have := hf.ff k hfk
    have := hf.ec
    have := hf.emc
    omega
  · have := hf.be
    have := hf.ec
    have := hf.emc
    omega
theorem does_p2 (hf : PF w.heap.size E S C md mc F L) (h : P2 E S C X D md mc F L w n q T mo nd no nc r Dd Do Dc ds bs wr) (hn : n ≤ 1000) (d : DeedV) (hy : YReads wr d.ad d.cap d.l) (hyS : ∀ g o, d.ad = some ⟨g, o, none⟩ → 0 < d.l.length → g ≠ S) :
    Calls Tryz.prog 9 #[.pointer (some ⟨C, 0, none⟩), .pointer (some ⟨T, 0, none⟩), .pointer (some ⟨S, 0, none⟩), .agg #[.int .i64 d.kind, .int .i64 d.b, .slice d.ad d.l.length d.cap]] wr fun e w' =>
      ∃ T' mo' nd' no' Dd' Do' ds' bs', e = .returned (.tuple #[.pointer (some ⟨T', 0, none⟩), .bool true]) ∧ P2 E S C X D md mc F L w (n + 1) q T' mo' nd' no' nc r Dd' Do' Dc ds' bs' w' := by
  refine (does_pl C X D md mc T mo S 1099511627776 0 r nd no nc Dd Do Dc ds bs L d wr h.al h.pl (by have := h.sz; omega) hy hyS).mono ?_
  rintro e w' ⟨T', mo', nd', no', Dd', Do', ds', bs', he, ha, hp, hz, hmo, hk⟩
  have hb1 := h.bl.size
  have hE : E ≤ wr.heap.size := Nat.le_trans h.mo (Nat.le_of_lt h.al.oo.lt)
  refine ⟨T', mo', nd', no', Dd', Do', ds', bs', he, ha, hp, h.cl, ⟨by have := hf.l6; simpa [this] using ha.dev, h.dv.dsk.on fun k hkl hfk => hk.block k hkl fun e => ?_, h.dv.nx, fun k hfk => Nat.lt_of_lt_of_le (h.dv.bd k hfk) hk.size⟩, by have := h.sz; omega, h.qz, by have := h.mo; rcases hmo with e | e <;> omega, h.bl.trans (hk.below (fun k e => ?_) h.bl.size)⟩
  · have := hf.ff k hfk
    have := hf.emd
    have := h.mo
    rcases e with e | e | e <;> omega
  · have := hf.emd
    have := h.mo
    have := hf.bs
    have := hf.be
    rcases e with e | e | e <;> omega
theorem read_p2 (hf : PF w.heap.size E S C md mc F L) (h : P2 E S C X D md mc F L w n q T mo nd no nc r Dd Do Dc ds bs wr) (hq : q ≤ 100000) {b : Nat} (hb : b < 6) :
    Calls Tryz.prog 13 #[.pointer (some ⟨C, 0, none⟩), .int .i64 (b : Int)] wr fun e w' => e = .returned (.tuple #[.agg (dC (atS ds bs b false)).toArray, .bool true]) ∧ (∃ r' nc' Dc', P2 E S C X D md mc F L w n (q + 1) T mo nd no nc' r' Dd Do Dc' ds bs w') ∧ Keeps (fun k => k = C ∨ k = mc) wr w' := by
  refine (read_pl F C X D md mc nd nc b r Dd Do Dc ds bs L 1099511627776 0 wr h.al.ca h.al.dd h.al.cc (by have := h.qz; omega) h.pl h.cl hf.l6 hb (by decide) (by decide) (by decide) h.dv).mono ?_
  rintro e w' ⟨he, ⟨r', nc', Dc', ha, hm, hcl, hz⟩, hk⟩
  exact ⟨he, ⟨r', nc', Dc', h.rd hf hk ha hm hcl (by have := h.qz; omega)⟩, hk⟩
theorem tread_p2 (hf : PF w.heap.size E S C md mc F L) (h : P2 E S C X D md mc F L w n q T mo nd no nc r Dd Do Dc ds bs wr) (hq : q ≤ 100000) {b : Nat} (hb : b < 6) :
    Calls Tryz.prog 17 #[.pointer (some ⟨T, 0, none⟩), .int .i64 (b : Int)] wr fun e w' => e = .returned (.tuple #[.agg (dC (atS ds bs b true)).toArray, .bool true]) ∧ (∃ r' nc' Dc', P2 E S C X D md mc F L w n (q + 1) T mo nd no nc' r' Dd Do Dc' ds bs w') ∧ Keeps (fun k => k = C ∨ k = mc) wr w' := by
  refine (tread_pl F T C X D md mc mo nd nc no b S r Dd Do Dc ds bs L 1099511627776 0 wr h.al.tx h.al.oo h.al.st h.al.ca h.al.dd h.al.cc (by have := h.qz; omega) h.pl h.cl hf.l6 hb (by decide) (by decide) (by decide) h.dv).mono ?_
  rintro e w' ⟨he, ⟨r', nc', Dc', ha, hm, hcl, hz⟩, hk⟩
  exact ⟨he, ⟨r', nc', Dc', h.rd hf hk ha hm hcl (by have := h.qz; omega)⟩, hk⟩
theorem Rep.out {D : DataW Unit} {f : Nat → Option Dat} (h : Rep D f) {x : Int} (hx : ¬ (0 ≤ x ∧ x < 6)) : Maps.has D (.int .i64 x) = false := by
  cases e : Maps.has D (.int .i64 x)
  · rfl
  · obtain ⟨b, hb, e⟩ := h.kb _ e
    simp at e
    omega
theorem read_out_p2 (h : P2 E S C X D md mc F L w n q T mo nd no nc r Dd Do Dc ds bs wr) {b : Int} (hb : ¬ (0 ≤ b ∧ b < 6)) (hb1 : -1000 ≤ b ∧ b ≤ 1000) :
    Calls Tryz.prog 13 #[.pointer (some ⟨C, 0, none⟩), .int .i64 b] wr fun e w' => e = .returned (.tuple #[.agg (dC zeroD).toArray, .bool false]) ∧ Below wr.heap.size wr w' := by
  obtain ⟨fc, hr, -⟩ := h.cl.rep
  exact cache_read_out C X D md mc nd nc 6 1099511627776 0 b r Dd Dc wr h.al.ca h.al.dd h.al.cc h.al.dev (by omega) hb1 (h.pl.d.out hb) (hr.out hb)
theorem tread_out_p2 (h : P2 E S C X D md mc F L w n q T mo nd no nc r Dd Do Dc ds bs wr) {b : Int} (hb : ¬ (0 ≤ b ∧ b < 6)) (hb1 : -1000 ≤ b ∧ b ≤ 1000) :
    Calls Tryz.prog 17 #[.pointer (some ⟨T, 0, none⟩), .int .i64 b] wr fun e w' => e = .returned (.tuple #[.agg (dC zeroD).toArray, .bool false]) ∧ Below wr.heap.size wr w' := by
  refine (tx_read_thru T C mo no mc b Do zeroD false (fun w'' => Below wr.heap.size wr w'') wr h.al.tx h.al.oo hb1 rfl h.al.ca.lt h.al.cc.lt (h.pl.o.out hb) fun w' hbl => ?_).mono ?_
  · refine (read_out_p2 (h.below hbl) hb hb1).mono ?_
    rintro e w'' ⟨he, hx⟩
    exact ⟨he, hbl.trans (hx.mono hbl.size), Keeps.of_below hx⟩
  · rintro e w' ⟨he, ⟨w'', hp, hz, hbl⟩, -⟩
    exact ⟨he, hp.trans hbl⟩
def kI (bs : List Bool) (row : Nat) : List Int := (setN bs row 6).map fun (b : Nat) => (b : Int)
theorem keys_rowF (ds : List Dat) (bs : List Bool) (row : Nat) : keysOf (rowF ds bs row) = kI bs row := by
  unfold keysOf kI setN
  congr 2
  funext b
  unfold rowF
  split
  · rename_i e; simpa using e.symm
  · rename_i e; simpa using e
theorem kI_len (bs : List Bool) (row : Nat) : (kI bs row).length = (setN bs row 6).length := by unfold kI; rw [List.length_map]
theorem kI_le (bs : List Bool) (row : Nat) : (kI bs row).length ≤ 6 := by rw [kI_len]; exact setN_len bs row 6
theorem dirty_p2 (h : P2 E S C X D md mc F L w n q T mo nd no nc r Dd Do Dc ds bs wr) (hn : n ≤ 1000) :
    Calls Tryz.prog 14 #[.pointer (some ⟨C, 0, none⟩)] wr fun e w' => (∃ ad cap, e = .returned (.slice ad (kI bs 1).length cap) ∧ IReads w' ad (kI bs 1)) ∧ Below wr.heap.size wr w' := by
  refine (cache_dirty C X md mc nd r Dd wr h.al.ca h.al.dd (by have := h.sz; omega)).mono ?_
  rintro e w' ⟨ad, cap, ss, he, hp, hir, hb⟩
  obtain ⟨e1, e2⟩ := h.pl.d.keys (h.al.dd.canon intK) hp
  rw [keys_rowF] at e1 e2
  rw [e1] at hir
  exact ⟨⟨ad, cap, by rw [he, e2], hir⟩, hb⟩
theorem own_p2 (h : P2 E S C X D md mc F L w n q T mo nd no nc r Dd Do Dc ds bs wr) (hn : n ≤ 1000) :
    Calls Tryz.prog 21 #[.pointer (some ⟨T, 0, none⟩)] wr fun e w' => (∃ ad cap, e = .returned (.slice ad (kI bs 2).length cap) ∧ IReads w' ad (kI bs 2)) ∧ Below wr.heap.size wr w' := by
  refine (tx_own T C mo no Do wr h.al.tx h.al.oo (by have := h.sz; omega)).mono ?_
  rintro e w' ⟨ad, cap, ss, he, hp, hir, hb⟩
  obtain ⟨e1, e2⟩ := h.pl.o.keys (h.al.oo.canon intK) hp
  rw [keys_rowF] at e1 e2
  rw [e1] at hir
  exact ⟨⟨ad, cap, by rw [he, e2], hir⟩, hb⟩
theorem blocks_p2 (h : P2 E S C X D md mc F L w n q T mo nd no nc r Dd Do Dc ds bs wr) (row : Nat) (hrow : row < 3) :
    Calls Tryz.prog 20 #[.pointer (some ⟨S, 0, none⟩), .int .i64 (row : Int)] wr fun e w' => (∃ ad cap, e = .returned (.slice ad (kI bs row).length cap) ∧ IReads w' ad (kI bs row)) ∧ Below wr.heap.size wr w' := by
  refine (state_blocks S row ds bs wr h.al.st hrow).mono ?_
  rintro e w' ⟨ad, cap, he, ho, hb⟩
  refine ⟨⟨ad, cap, by rw [he, kI_len], fun j x hx => ?_⟩, hb⟩
  have hlt : j < (setN bs row 6).length := by rw [← kI_len bs row]; exact (List.getElem?_eq_some_iff.1 hx).1
  obtain ⟨g, cap', hsl, -, hcell⟩ := own_cell ho (by omega)
  cases hsl
  refine ⟨g, 0, rfl, ?_⟩
  rw [Nat.zero_add]
  refine hcell j _ ?_
  unfold kI at hx
  rw [List.getElem?_map, Option.map_eq_some_iff] at hx
  obtain ⟨y, hy, rfl⟩ := hx
  unfold kC
  rw [List.getElem?_map, hy]
  rfl
/-- how many blocks the deed costs -/
def costB (bs : List Bool) (i : Nat) : Nat := ((List.range i).filter fun b => bs.getD (12 + b) false && !bs.getD (6 + b) false).length
theorem costB_succ (bs : List Bool) (i : Nat) : costB bs (i + 1) = costB bs i + if (bs.getD (12 + i) false && !bs.getD (6 + i) false) = true then 1 else 0 := by
  unfold costB
  rw [List.range_succ, List.filter_append, List.length_append]
  cases h : (bs.getD (12 + i) false && !bs.getD (6 + i) false) <;> simp only [List.filter_cons, List.filter_nil, h] <;> simp
theorem costB_le (bs : List Bool) (i : Nat) : costB bs i ≤ i := by
  unfold costB
  exact Nat.le_trans (List.length_filter_le _ _) (by simp)
theorem cost_same {Dd Do : DataW Unit} {ds : List Dat} {bs : List Bool} {L : List Dat} (h : Pl Dd Do ds bs L) : costN Dd (kI bs 2) = costB bs 6 := by
  unfold costN kI setN costB
  rw [List.filter_map, List.length_map, List.filter_filter]
  congr 1
  refine List.filter_congr fun b hb => ?_
  have hb6 := List.mem_range.1 hb
  simp only [Function.comp_def, h.d.hs b hb6]
  have e : (rowF ds bs 1 b).isSome = bs.getD (6 + b) false := by
    unfold rowF
    split
    · rename_i e; simpa using e.symm
    · rename_i e; simpa using e
  rw [e, Bool.and_comm]
theorem cost_p2 (h : P2 E S C X D md mc F L w n q T mo nd no nc r Dd Do Dc ds bs wr) (hn : n ≤ 1000) :
    Calls Tryz.prog 22 #[.pointer (some ⟨T, 0, none⟩)] wr fun e w' => e = .returned (.int .i64 (costB bs 6 : Int)) ∧ Below wr.heap.size wr w' := by
  refine (tx_cost T C X md mc mo nd no r Dd Do (kI bs 2) wr h.al.tx h.al.ca h.al.dd h.al.oo (by have := h.sz; omega) (fun ss hp => ?_) (fun x hx => ?_) (by have := kI_le bs 2; omega)).mono ?_
  · have := h.pl.o.keys (h.al.oo.canon intK) hp
    rwa [keys_rowF] at this
  · unfold kI setN at hx
    obtain ⟨y, hy, rfl⟩ := List.mem_map.1 hx
    have := List.mem_range.1 (List.mem_filter.1 hy).1
    omega
  · rintro e w' ⟨he, hb⟩
    exact ⟨by rw [he, cost_same h.pl], hb⟩
theorem waiting_p2 (h : P2 E S C X D md mc F L w n q T mo nd no nc r Dd Do Dc ds bs wr) :
    Calls Tryz.prog 23 #[.pointer (some ⟨D, 0, none⟩)] wr fun e w' => e = .returned (.slice none 0 0) ∧ w' = wr := disk_waiting0 F D L wr h.dv.dsk
theorem reads_p2 (h : P2 E S C X D md mc F L w n q T mo nd no nc r Dd Do Dc ds bs wr) :
    Calls Tryz.prog 24 #[.pointer (some ⟨C, 0, none⟩)] wr fun e w' => e = .returned (.int .i64 r) ∧ w' = wr := cache_reads C X md mc r wr h.al.ca
theorem P2.r6 (h : P2 E S C X D md mc F L w n q T mo nd no nc r Dd Do Dc ds bs wr) : r ≤ 6 := by
  obtain ⟨fc, hr, -⟩ := h.cl.rep
  have := (hr.size (h.al.cc.canon intK)).2
  have := h.cl.cnt
  omega
theorem P2.flags (h : P2 E S C X D md mc F L w n q T mo nd no nc r Dd Do Dc ds bs wr) {b : Nat} (hb : b < 6) : wr.cell? ⟨S, 1164 + b, none⟩ = some (.bool (bs.getD (12 + b) false)) ∧ wr.cell? ⟨S, 1158 + b, none⟩ = some (.bool (bs.getD (6 + b) false)) := by
  have hbl := h.al.st.bl
  obtain ⟨f2, -⟩ := h.al.st.flag (List.getElem?_eq_getElem (by omega : 12 + b < bs.length))
  obtain ⟨f1, -⟩ := h.al.st.flag (List.getElem?_eq_getElem (by omega : 6 + b < bs.length))
  have g2 : bs.getD (12 + b) false = bs[12 + b]'(by omega) := by rw [List.getD_eq_getElem?_getD, List.getElem?_eq_getElem (by omega)]; rfl
  have g1 : bs.getD (6 + b) false = bs[6 + b]'(by omega) := by rw [List.getD_eq_getElem?_getD, List.getElem?_eq_getElem (by omega)]; rfl
  rw [← g2, show 1152 + (12 + b) = 1164 + b by omega] at f2
  rw [← g1, show 1152 + (6 + b) = 1158 + b by omega] at f1
  exact ⟨f2, f1⟩
end Go.Proofs.YtonmppchbdffcaaGreat
