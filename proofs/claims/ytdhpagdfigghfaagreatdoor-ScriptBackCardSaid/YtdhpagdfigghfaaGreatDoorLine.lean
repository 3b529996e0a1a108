/- (*script.reader).line at a line that is a step. -/
import Derived.Test.YtdhpagdfigghfaaGreatDoorNum
namespace Go.Proofs.YtdhpagdfigghfaaGreatDoor
open Go.RowKit Go.Lib
set_option maxRecDepth 100000

/-- A line that is a step: it shows, takes turns (a number and its numeral), types bytes. -/
inductive Ln where
  | shw
  | trn (n : Nat) (l : List UInt8)
  | typ (l : List UInt8)
def Ln.parts : Ln → List (List UInt8)
  | .shw => [[115, 104, 111, 119]]
  | .trn _ l => [[116, 117, 114, 110], l]
  | .typ l => [[116, 121, 112, 101], hexL l]
def Ln.kind : Ln → Int
  | .shw => 2
  | .trn _ _ => 0
  | .typ _ => 1
def Ln.num : Ln → Nat
  | .trn n _ => n
  | _ => 0
def Ln.bytes : Ln → List UInt8
  | .typ l => l
  | _ => []
/-- It may be, at a world (Itoa's table). -/
def Ln.Ok (w : World) : Ln → Prop
  | .shw => True
  | .trn n l => 0 < n ∧ n ≤ 4096 ∧ l.length ≤ 18 ∧ Lib.atoi l = some (n : Int) ∧ ItoaAt w n l
  | .typ l => l.length ≤ 64

theorem RdAt.below {w w1 : World} {b : Nat} {d f t fl bk stp lns at_ : Value} (h : RdAt w b d f t fl bk stp lns at_) (hb : Below w.heap.size w w1) : RdAt w1 b d f t fl bk stp lns at_ := (hb.block b h.lt).trans h

/-- bytes in a row of its own -/
def BytesAt (w : World) (B : Nat) (y : Value) (l : List UInt8) : Prop := w.ownsRow B 5 1 y l.length (bcells l)

set_option maxHeartbeats 1600000 in
theorem line_show (g cap : Nat) (rd : Value) (w : World) (Post : Int → World → Prop)
    (h0 : w.cell? ⟨g, 0, none⟩ = some (.string ⟨#[115, 104, 111, 119]⟩))
    (hs : Calls Tryz.prog 31 #[rd, .agg #[.int .i64 2, .int .i64 0, .slice none 0 0]] w fun e w' => ∃ c, e = .returned (.int .i64 c) ∧ Post c w') :
    Calls Tryz.prog 17 #[rd, .slice (some ⟨g, 0, none⟩) 1 cap] w fun e w' => ∃ c, e = .returned (.int .i64 c) ∧ Post c w' := by
  have hs := Lib.hid hs
  go_enter Tryz.func17, Tryz.ntmps17
  go_wp2_with fail
  refine hs.out.mono ?_
  rintro e w1 ⟨c, rfl, hp⟩
  go_wp2_with fail
  go_ret
  exact ⟨c, rfl, hp⟩

set_option maxHeartbeats 3200000 in
theorem line_turn (g cap : Nat) (rd : Value) (n : Nat) (l : List UInt8) (w : World) (Post : Int → World → Prop) (hx : (Ln.trn n l).Ok w)
    (h0 : w.cell? ⟨g, 0, none⟩ = some (.string ⟨#[116, 117, 114, 110]⟩)) (h1 : w.cell? ⟨g, 1, none⟩ = some (.string (bs l)))
    (hs : ∀ w1, Below w.heap.size w w1 → Calls Tryz.prog 31 #[rd, .agg #[.int .i64 0, .int .i64 n, .slice none 0 0]] w1 fun e w' => ∃ c, e = .returned (.int .i64 c) ∧ Post c w') :
    Calls Tryz.prog 17 #[rd, .slice (some ⟨g, 0, none⟩) 2 cap] w fun e w' => ∃ c, e = .returned (.int .i64 c) ∧ Post c w' := by
  have hs := Lib.hid hs
  obtain ⟨x1, x2, x3, x4, x5⟩ := hx
  have HN := Lib.hid (number_ok l n 4096 (by omega) x3 x4 w x5)
  have y1 : 0 < (n : Int) := by omega
  clear x4 x5
  go_enter Tryz.func17, Tryz.ntmps17
  go_wp2_with fail
  refine HN.out.mono ?_
  rintro e w1 ⟨rfl, hb⟩
  have hb := Lib.hid hb
  go_wp2_with fail
  refine (hs.out w1 hb.out).mono ?_
  rintro e w2 ⟨c, rfl, hp⟩
  have hp := Lib.hid hp
  go_wp2_with fail
  go_ret
  exact ⟨c, rfl, hp.out⟩

set_option maxHeartbeats 3200000 in
theorem line_type (g cap : Nat) (rd : Value) (l : List UInt8) (w : World) (Post : Int → World → Prop) (hx : (Ln.typ l).Ok w)
    (h0 : w.cell? ⟨g, 0, none⟩ = some (.string ⟨#[116, 121, 112, 101]⟩)) (h1 : w.cell? ⟨g, 1, none⟩ = some (.string (bs (hexL l))))
    (hs : ∀ w1 y, Below w.heap.size w w1 → BytesAt w1 w.heap.size y l → Calls Tryz.prog 31 #[rd, .agg #[.int .i64 1, .int .i64 0, y]] w1 fun e w' => ∃ c, e = .returned (.int .i64 c) ∧ Post c w') :
    Calls Tryz.prog 17 #[rd, .slice (some ⟨g, 0, none⟩) 2 cap] w fun e w' => ∃ c, e = .returned (.int .i64 c) ∧ Post c w' := by
  have hs := Lib.hid hs
  have HN := Lib.hid (hex_ok l hx w)
  go_enter Tryz.func17, Tryz.ntmps17
  go_wp2_with fail
  refine HN.out.mono ?_
  rintro e w1 ⟨y, rfl, hy, hb⟩
  obtain ⟨ad, cap1, rfl, -⟩ := own_len hy
  have hy := Lib.hid hy
  have hb := Lib.hid hb
  go_wp2_with fail
  refine (hs.out w1 _ hb.out hy.out).mono ?_
  rintro e w2 ⟨c, rfl, hp⟩
  have hp := Lib.hid hp
  go_wp2_with fail
  go_ret
  exact ⟨c, rfl, hp.out⟩

end Go.Proofs.YtdhpagdfigghfaaGreatDoor
