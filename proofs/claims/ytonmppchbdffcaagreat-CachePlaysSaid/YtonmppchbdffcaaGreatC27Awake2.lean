/- Chapter 27's example. -/
import Derived.Test.YtonmppchbdffcaaGreatC27Awake
namespace Go.Proofs.YtonmppchbdffcaaGreat
open Go Go.RowKit Go.Lib Go.Maps
set_option maxRecDepth 100000

def z63 : Array Value := (List.replicate 63 (Value.int .u8 0)).toArray
def one (c : UInt8) : Dat := c :: List.replicate 63 0
def oneZ (v : Value) : Value := .agg (v.cells ++ z63)
theorem oneZ_int (c : UInt8) : oneZ (.int .u8 (c.toNat : Int)) = .agg (dC (one c)).toArray := by
  have hz : z63 = (dC (List.replicate 63 0)).toArray := by simp [z63, dC]
  have hc : (Value.int .u8 (c.toNat : Int)).cells = #[.int .u8 (c.toNat : Int)] := rfl
  unfold oneZ
  rw [hz, hc]
  have : ∀ l : List Value, #[Value.int .u8 (c.toNat : Int)] ++ l.toArray = (Value.int .u8 (c.toNat : Int) :: l).toArray := fun l => by simp
  rw [this]
  rfl
set_option maxHeartbeats 1600000 in
theorem build_one (u : Value) (hu : u.cells.size = 1) (w : World) :
    (Instr.build 34 #[(0, u)]).run Tryz.prog w = .ok (oneZ u) w := by
  obtain ⟨c, hc⟩ : ∃ c, u.cells = #[c] := Array.size_eq_one_iff.1 hu
  have hs5 := Tryz.sizeOf5
  have hz : z64.size = 64 := rfl
  have hzc : (Value.agg z64).cells = z64 := rfl
  have hne : z64 ≠ #[] := fun h => by have h := congrArg Array.size h; rw [hz] at h; cases h
  have hzz : z64 = #[.int .u8 0] ++ z63 := by kernel_rfl
  unfold Instr.build oneZ
  rw [hc]
  have hdz := data_zero w
  generalize z64 = ZZ at *
  rw [Sem.run_bind, hdz]
  simp [Sem.run_bind, run_underlying Tryz.underlying34, hs5, Instr.fill, hz, hc, hzc, hne]
  rw [hzz]
  refine Array.ext_getElem? fun k => ?_
  rcases k with _ | k
  · simp [Array.getElem?_append]
  · rw [Array.getElem?_setIfInBounds_ne (by omega), Array.getElem?_append_right (by simp), Array.getElem?_append_right (by simp)]; rfl
theorem wp_build_one {d : Tmp} {v : Value} {ty : TypeId} {p : String} {af : Array Edge} {a : Act} {w : World} {K : Act → World → Prop} {Q : Exit → Act → World → Prop} (hu : v.cells.size = 1) :
    Oper.wp Tryz.prog { dst := some d, op := .build 34 #[(0, .const v)], type := ty, pos := p, after := af, guard := none } a w K Q = K (a.put (some d) (oneZ v)) w := by
  have h := build_one v hu w
  have he : a.eval (.const v) = v := rfl
  unfold Oper.wp execOp
  simp [h, he, Oper.upon]
attribute [local go_sem ↓] wp_build_one
set_option maxHeartbeats 6400000 in
theorem law_awake (w : World) : Calls Tryz.prog 15 #[] w fun e w' => e = .returned (.bool true) ∧ Below w.heap.size w w' := by
  have h1 := oneZ_int 1
  simp only [show ((1 : UInt8).toNat : Int) = 1 from rfl] at h1
  go_enter Tryz.func15, Tryz.ntmps15
  go_wp2_with fail
  refine (disk_new 5 (by decide) (by decide) w).mono ?_
  rintro e wa ⟨D, rfl, hda, hba⟩
  have HA := Lib.hid (And.intro hda hba)
  clear hda hba
  go_wp2_with fail
  refine (dev_of _ D _ _ wa HA.out.1).mono ?_
  rintro e wb ⟨rfl, hxb, hbb⟩
  rw [List.length_replicate] at hxb
  obtain ⟨X, hX⟩ : ∃ X, X = wa.heap.size := ⟨_, rfl⟩
  rw [← hX] at hxb ⊢
  have HB := Lib.hid (And.intro hxb (HA.out.2.trans (hbb.mono HA.out.2.size)))
  clear hxb hbb hX
  go_wp2_with fail
  refine (cache_new X wb).mono ?_
  rintro e wc ⟨C, md, mc, rfl, hca, hmd, hmc, hn1, o1, o2, o3, hbc⟩
  have HC := Lib.hid (And.intro hca (And.intro hmd (And.intro (HB.out.1.on (hbc.block X HB.out.1.lt)) (HB.out.2.trans (hbc.mono HB.out.2.size)))))
  have HO := Lib.hid (And.intro o1 (And.intro o3 HB.out.2.size))
  clear hca hmd hmc hn1 o1 o2 o3 hbc
  go_wp2_with fail
  refine (cache_begin C wc).mono ?_
  rintro e wd ⟨T, mo, rfl, htx, hmo, p1, p2, hbd⟩
  have HD := Lib.hid (And.intro (HC.out.1) (And.intro hbd (And.intro htx (And.intro hmo (And.intro p1 p2)))))
  have HCD : Hid (CaAt wd C X md mc 0 ∧ MapAt wd md 0 (.map []) ∧ DevAt wd X D 5 1099511627776 0 ∧ Below w.heap.size w wd) := Lib.hid ⟨(hbd.block C HC.out.1.lt).trans HC.out.1, HC.out.2.1.on (hbd.block md HC.out.2.1.lt), HC.out.2.2.1.on (hbd.block X HC.out.2.2.1.lt), HC.out.2.2.2.trans (hbd.mono HC.out.2.2.2.size)⟩
  clear htx hmo p1 p2 hbd
  go_wp2_with fail
  refine (tx_write T C X md mc mo 0 5 1099511627776 0 D 0 (.map []) 3 (one 1) wd HD.out.2.2.1 HCD.out.1 HCD.out.2.2.1 HD.out.2.2.2.1 (by omega) (by omega) (by omega) rfl).mono ?_
  rintro e we ⟨rfl, hmo, hke⟩
  have hmdl := HC.out.2.1.lt
  have hnm : md ≠ mo := fun e => by have := HD.out.2.2.2.2.1; omega
  have HE : Hid (CaAt we C X md mc 0 ∧ TxAt we T C mo ∧ MapAt we md 0 (.map []) ∧ MapAt we mo 1 (.map [(.int .i64 3, .lit (.string (one 1)))]) ∧ Below w.heap.size w we) := Lib.hid ⟨(hke.block C HCD.out.1.lt fun e => HCD.out.1.ne HD.out.2.2.2.1 e).trans HCD.out.1, (hke.block T HD.out.2.2.1.lt fun e => HD.out.2.2.1.ne HD.out.2.2.2.1 e).trans HD.out.2.2.1, HCD.out.2.1.on (hke.block md HCD.out.2.1.lt fun e => hnm e), hmo, HCD.out.2.2.2.trans (hke.below (fun k e => by rw [e]; have := HD.out.2.2.2.2.1; have := HC.out.2.2.2.size; omega) HCD.out.2.2.2.size)⟩
  have HNM := Lib.hid hnm
  clear hmo hke hmdl hnm h1
  go_wp2_with fail
  refine (cache_dirty C X md mc 0 0 (.map []) we HE.out.1 HE.out.2.2.1 (by omega)).mono ?_
  rintro e wf ⟨ad, cap, ss, rfl, hss, -, hbf⟩
  obtain rfl : ss = [] := List.Perm.eq_nil hss
  have HF : Hid (CaAt wf C X md mc 0 ∧ TxAt wf T C mo ∧ MapAt wf md 0 (.map []) ∧ MapAt wf mo 1 (.map [(.int .i64 3, .lit (.string (one 1)))]) ∧ Below w.heap.size w wf) := Lib.hid ⟨(hbf.block C HE.out.1.lt).trans HE.out.1, (hbf.block T HE.out.2.1.lt).trans HE.out.2.1, HE.out.2.2.1.on (hbf.block md HE.out.2.2.1.lt), HE.out.2.2.2.1.on (hbf.block mo HE.out.2.2.2.1.lt), HE.out.2.2.2.2.trans (hbf.mono HE.out.2.2.2.2.size)⟩
  clear hss hbf
  simp only [List.length_nil]
  go_wp2_with fail
  refine (tx_end T C X md mc mo 0 1 0 (.map []) (.map [(.int .i64 3, .lit (.string (one 1)))]) wf HF.out.2.1 HF.out.1 HF.out.2.2.1 HF.out.2.2.2.1 HNM.out (by omega)).mono ?_
  rintro e wg ⟨rfl, hmd, hmo, hkg⟩
  have HG : Hid (CaAt wg C X md mc 0 ∧ MapAt wg md 1 (.map [(.int .i64 3, .lit (.string (one 1)))]) ∧ Below w.heap.size w wg) := Lib.hid ⟨(hkg.block C HF.out.1.lt fun e => e.elim (HF.out.1.ne HF.out.2.2.1) (HF.out.1.ne HF.out.2.2.2.1)).trans HF.out.1, hmd, HF.out.2.2.2.2.trans (hkg.below (fun k e => by
    have q1 := HD.out.2.2.2.2.1
    have q2 := HC.out.2.2.2.size
    have q3 := HO.out
    rcases e with e | e <;> omega) HF.out.2.2.2.2.size)⟩
  clear hmd hmo hkg
  go_wp2_with fail
  refine (cache_dirty C X md mc 1 0 _ wg HG.out.1 HG.out.2.1 (by omega)).mono ?_
  rintro e wh ⟨ad2, cap2, ss, rfl, hss, hir, hbh⟩
  obtain rfl : ss = [3] := List.perm_singleton.1 hss
  have HH := Lib.hid (And.intro hir (HG.out.2.2.trans (hbh.mono HG.out.2.2.size)))
  clear hss hir hbh
  simp only [List.length_singleton]
  go_wp2_with fail
  have hbl : Below wh.heap.size wh (wh.alloc (.cells #[.int .i64 3] 3)) := (Below.refl _ _).alloc (Nat.le_refl _) _
  have hir : IReads wh ad2 [3] := by have := HH.out.1; simpa using this
  have hi2 : IReads (wh.alloc (.cells #[.int .i64 3] 3)) (some ⟨wh.heap.size, 0, none⟩) [3] := fun j x hx => by
    refine ⟨_, _, rfl, ?_⟩
    rw [Nat.zero_add, cell_of_row _ _ j _ _ _ (heap_alloc_last wh (.cells #[.int .i64 3] 3))]
    rcases j with _ | j
    · simp at hx; subst hx; rfl
    · simp at hx
  refine (same_ints ad2 (some ⟨wh.heap.size, 0, none⟩) cap2 1 [3] [3] (by simp) _ (hir.below hbl) hi2).mono ?_
  rintro e wi ⟨rfl, hbi⟩
  have HI := Lib.hid (HH.out.2.trans ((hbl.trans (hbi.mono hbl.size)).mono HH.out.2.size))
  clear hir hi2 hbi hbl
  rw [decide_eq_true rfl]
  go_wp2_with fail
  go_ret
  exact ⟨rfl, HI.out⟩
end Go.Proofs.YtonmppchbdffcaaGreat
