/- CachePlays: a deed, a read of the cache, a read of the deed, with what they hold. -/
import Derived.Test.YtonmppchbdffcaaGreatC27Plain
import Derived.Test.YtonmppchbdffcaaGreatC27TxRead
namespace Go.Proofs.YtonmppchbdffcaaGreat
open Go Go.RowKit Go.Lib Go.Maps
set_option maxRecDepth 100000

/-- ANY deed, with what the maps hold -/
theorem does_pl (C X D md mc T mo S left dn : Nat) (r : Int) (nd no nc : Nat) (Dd Do Dc : DataW Unit) (ds : List Dat) (bs : List Bool) (L : List Dat) (d : DeedV) (w : World)
    (h : All w C X D md mc T mo S 6 left dn r nd no nc Dd Do Dc ds bs) (hp : Pl Dd Do ds bs L) (hno : nd + no ≤ 1000) (hy : YReads w d.ad d.cap d.l) (hyS : ∀ g o, d.ad = some ⟨g, o, none⟩ → 0 < d.l.length → g ≠ S) :
    Calls Tryz.prog 9 #[.pointer (some ⟨C, 0, none⟩), .pointer (some ⟨T, 0, none⟩), .pointer (some ⟨S, 0, none⟩), .agg #[.int .i64 d.kind, .int .i64 d.b, .slice d.ad d.l.length d.cap]] w fun e w' =>
      ∃ T' mo' nd' no' Dd' Do' ds' bs', e = .returned (.tuple #[.pointer (some ⟨T', 0, none⟩), .bool true]) ∧ All w' C X D md mc T' mo' S 6 left dn r nd' no' nc Dd' Do' Dc ds' bs' ∧ Pl Dd' Do' ds' bs' L ∧ nd' + no' ≤ nd + no + 1 ∧ (mo' = mo ∨ w.heap.size ≤ mo') ∧ Keeps (Mine md mo S) w w' := by
  obtain ⟨kind, b, ad, cap, l⟩ := d
  simp only at hy hyS ⊢
  by_cases hk : kind = 0 ∨ kind = 1 ∨ kind = 2 ∨ kind = 3 ∨ kind = 4
  · by_cases hb : 0 ≤ b ∧ b < 6
    · obtain ⟨b', rfl⟩ : ∃ b' : Nat, b = (b' : Int) := ⟨b.toNat, by omega⟩
      refine (does_write C X D md mc T mo S left dn r nd no nc Dd Do Dc ds bs kind b' ad cap l w h hk (by omega) (by omega) hy hyS).mono ?_
      rintro e w' ⟨he, ha, hkk⟩
      exact ⟨T, mo, nd, no + 1, _, _, _, _, he, ha, hp.write (by omega) _, by omega, .inl rfl, hkk⟩
    · refine (does_write_no C X D md mc T mo S left dn r nd no nc Dd Do Dc ds bs kind b ad cap l w h hk hb hy).mono ?_
      rintro e w' ⟨he, hbl⟩
      exact ⟨T, mo, nd, no, _, _, _, _, he, h.below hbl, hp, by omega, .inl rfl, Keeps.of_below hbl⟩
  · by_cases h5 : kind = 5
    · subst h5
      refine (does_end C X D md mc T mo S left dn r nd no nc Dd Do Dc ds bs b ad cap l.length w h (by omega)).mono ?_
      rintro e w' ⟨he, ha, hkk⟩
      exact ⟨T, mo, nd + no, 0, _, _, _, _, he, ha, hp.ended (h.oo.canon intK), by omega, .inl rfl, hkk⟩
    · by_cases h6 : kind = 6
      · subst h6
        refine (does_anew C X D md mc T mo S left dn r nd no nc Dd Do Dc ds bs b ad cap l.length w h).mono ?_
        rintro e w' ⟨T', mo', he, ha, hmo, hkk⟩
        exact ⟨T', mo', nd, 0, _, _, _, _, he, ha, hp.anew, by omega, .inr hmo, hkk⟩
      · refine (does_none C T S kind b ad cap l.length w (by omega)).mono ?_
        rintro e w' ⟨he, hbl⟩
        exact ⟨T, mo, nd, no, _, _, _, _, he, h.below hbl, hp, by omega, .inl rfl, Keeps.of_below hbl⟩
/-- the clean blocks: what the dev holds -/
structure Cl (Dc : DataW Unit) (L : List Dat) (r : Int) : Prop where
  rep : ∃ fc, Rep Dc fc ∧ ∀ b d, b < 6 → fc b = some d → d = L.getD b zeroD
  cnt : r = Maps.size Dc
theorem Cl.put {Dc : DataW Unit} {L : List Dat} {r : Int} (h : Cl Dc L r) (ht : Tidy Dc) {b : Nat} (hb : b < 6) (hn : Maps.has Dc (.int .i64 (b : Int)) = false) : Cl (Dc.put (.int .i64 (b : Int)) (.lit (.string (L.getD b zeroD)))) L (r + 1) := by
  obtain ⟨fc, hr, hf⟩ := h.rep
  refine ⟨⟨_, hr.put hb _, fun c d hc hd => ?_⟩, ?_⟩
  · split at hd
    · rename_i e; rw [e]; exact (Option.some.inj hd).symm
    · exact hf c d hc hd
  · rw [Maps.size_put ht, if_neg (by rw [hn]; simp), h.cnt]
    simp
/-- what the cache reads -/
def seen (ds : List Dat) (bs : List Bool) (b : Nat) : Dat := atS ds bs b false
theorem read_pl (F : Nat → Prop) (C X D md mc nd nc b : Nat) (r : Int) (Dd Do Dc : DataW Unit) (ds : List Dat) (bs : List Bool) (L : List Dat) (left dn : Nat) (w : World) (hC : CaAt w C X md mc r) (hd : MapAt w md nd Dd) (hc : MapAt w mc nc Dc) (hn : nc ≤ 100000)
    (hp : Pl Dd Do ds bs L) (hcl : Cl Dc L r) (hL : L.length = 6) (hb : b < 6) (hl : 0 < left) (hl2 : left ≤ 1099511627776) (hdn : dn ≤ 500000) (hv : Dv w F X D ⟨L, [], left, dn⟩) :
    Calls Tryz.prog 13 #[.pointer (some ⟨C, 0, none⟩), .int .i64 (b : Int)] w fun e w' => e = .returned (.tuple #[.agg (dC (atS ds bs b false)).toArray, .bool true]) ∧ (∃ r' nc' Dc', CaAt w' C X md mc r' ∧ MapAt w' mc nc' Dc' ∧ Cl Dc' L r' ∧ nc' ≤ nc + 1) ∧ Keeps (fun k => k = C ∨ k = mc) w w' := by
  have hrd := (hp.read hb).1
  obtain ⟨fc, hr, hf⟩ := hcl.rep
  have hsz := (hr.size (hc.canon intK)).2
  cases h1 : rowF ds bs 1 b with
  | some x =>
    rw [h1] at hrd
    simp only [Option.getD_some] at hrd
    refine (cache_read_dirty C X md mc nd b r Dd x w hC hd (by omega) (by rw [hp.d.hs b hb, h1]; rfl) (hp.d.at' b x hb h1)).mono ?_
    rintro e w' ⟨he, hbl⟩
    rw [hrd]
    exact ⟨he, ⟨r, nc, Dc, (hbl.block C hC.lt).trans hC, hc.on (hbl.block mc hc.lt), hcl, by omega⟩, Keeps.of_below hbl⟩
  | none =>
    rw [h1] at hrd
    simp only [Option.getD_none] at hrd
    have h0 : Maps.has Dd (.int .i64 (b : Int)) = false := by rw [hp.d.hs b hb, h1]; rfl
    cases h2 : fc b with
    | some x =>
      have hx := hf b x hb h2
      refine (cache_read_clean C X md mc nd nc b r Dd Dc x w hC hd hc (by omega) h0 (by rw [hr.hs b hb, h2]; rfl) (hr.at' b x hb h2)).mono ?_
      rintro e w' ⟨he, hbl⟩
      rw [hrd, ← hx]
      exact ⟨he, ⟨r, nc, Dc, (hbl.block C hC.lt).trans hC, hc.on (hbl.block mc hc.lt), hcl, by omega⟩, Keeps.of_below hbl⟩
    | none =>
      have hno : Maps.has Dc (.int .i64 (b : Int)) = false := by rw [hr.hs b hb, h2]; rfl
      have hcnt := hcl.cnt
      refine (cache_read_dev F C X D md mc nd nc b r ⟨L, [], left, dn⟩ Dd Dc w hC hd hc hn (by omega) h0 hno (by omega) ⟨by simp [hL], by simp [hL], by simp, hl2, hdn⟩ (by simp [hL]; exact hb) hl hv).mono ?_
      rintro e w' ⟨he, ha, hm, hkk⟩
      have e1 : readD L [] b = L.getD b zeroD := rfl
      simp only [e1] at he hm
      rw [hrd]
      exact ⟨he, ⟨r + 1, nc + 1, _, ha, hm, hcl.put (hc.tidy intK) hb hno, by omega⟩, hkk⟩
theorem rowF_len {w : World} {S : Nat} {ds : List Dat} {bs : List Bool} (h : StAt w S ds bs) {row b : Nat} (hb : 6 * row + b < 18) {x : Dat} (hx : rowF ds bs row b = some x) : x.length = 64 := by
  unfold rowF at hx
  split at hx
  · cases hx
    rw [List.getD_eq_getElem?_getD, List.getElem?_eq_getElem (by rw [h.dl]; exact hb)]
    exact h.dz _ (List.getElem_mem _)
  · cases hx
/-- what the deed reads -/
theorem tread_pl (F : Nat → Prop) (T C X D md mc mo nd nc no b S : Nat) (r : Int) (Dd Do Dc : DataW Unit) (ds : List Dat) (bs : List Bool) (L : List Dat) (left dn : Nat) (w : World) (hT : TxAt w T C mo) (hm : MapAt w mo no Do) (hst : StAt w S ds bs) (hC : CaAt w C X md mc r) (hd : MapAt w md nd Dd) (hc : MapAt w mc nc Dc) (hn : nc ≤ 100000)
    (hp : Pl Dd Do ds bs L) (hcl : Cl Dc L r) (hL : L.length = 6) (hb : b < 6) (hl : 0 < left) (hl2 : left ≤ 1099511627776) (hdn : dn ≤ 500000) (hv : Dv w F X D ⟨L, [], left, dn⟩) :
    Calls Tryz.prog 17 #[.pointer (some ⟨T, 0, none⟩), .int .i64 (b : Int)] w fun e w' => e = .returned (.tuple #[.agg (dC (atS ds bs b true)).toArray, .bool true]) ∧ (∃ r' nc' Dc', CaAt w' C X md mc r' ∧ MapAt w' mc nc' Dc' ∧ Cl Dc' L r' ∧ nc' ≤ nc + 1) ∧ Keeps (fun k => k = C ∨ k = mc) w w' := by
  have hrd := (hp.read hb).2
  cases h1 : rowF ds bs 2 b with
  | some x =>
    rw [h1] at hrd
    simp only [Option.getD_some] at hrd
    refine (tx_read_own T C mo no b Do x w hT hm (by omega) (by rw [hp.o.hs b hb, h1]; rfl) (hp.o.at' b x hb h1)).mono ?_
    rintro e w' ⟨he, hbl⟩
    rw [hrd]
    exact ⟨he, ⟨r, nc, Dc, (hbl.block C hC.lt).trans hC, hc.on (hbl.block mc hc.lt), hcl, by omega⟩, Keeps.of_below hbl⟩
  | none =>
    rw [h1] at hrd
    simp only [Option.getD_none] at hrd
    refine (tx_read_thru T C mo no mc (b : Int) Do (atS ds bs b false) true (fun w'' => (∃ r' nc' Dc', CaAt w'' C X md mc r' ∧ MapAt w'' mc nc' Dc' ∧ Cl Dc' L r' ∧ nc' ≤ nc + 1)) w hT hm (by omega) (atS_len hst hb false) hC.lt hc.lt (by rw [hp.o.hs b hb, h1]; rfl) fun w' hbl => ?_).mono ?_
    · refine (read_pl F C X D md mc nd nc b r Dd Do Dc ds bs L left dn w' ((hbl.block C hC.lt).trans hC) (hd.on (hbl.block md hd.lt)) (hc.on (hbl.block mc hc.lt)) hn hp hcl hL hb hl hl2 hdn (hv.below hbl)).mono ?_
      rintro e w'' ⟨he, hx, hk⟩
      exact ⟨he, hx, hk⟩
    · rintro e w' ⟨he, ⟨w'', ⟨r', nc', Dc', ha, hmm, hcc, hle⟩, hsz, hbl⟩, hk⟩
      rw [hrd]
      exact ⟨he, ⟨r', nc', Dc', (hbl.block C hC.lt).trans ha, hmm.on (hbl.block mc hc.lt), hcc, hle⟩, hk⟩
end Go.Proofs.YtonmppchbdffcaaGreat
