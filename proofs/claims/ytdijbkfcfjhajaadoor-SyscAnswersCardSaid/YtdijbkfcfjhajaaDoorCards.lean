/-
  DERIVED. GIVEN WITH THE SEED: THE CARDS: each row of YtdijbkfcfjhajaaDoorRows.lean that lists a variable, with what it lists TIED to the program's text (the seventh form; the later family's looks); each row that meets fmt, with fmt's text TOLD by the authors' own Lean function (tested against real Go, not proved from fmt's source: count such statements apart). THE CARD IS WHAT COUNTS. Prove the row's statement (the work); the ties are given (YtdijbkfcfjhajaaDoorTie.lean); close each card by the builder's one call (the guide's Derived/Test/ToyasCard.lean, 'card_holds'). Laid BY PROGRAM, IN A SANDBOX (cutbox-door.mjs). By AI agents, Wed Nov 11 2026. No macro, syntax, notation, axiom, sorry.
-/
import Derived.Test.YtdijbkfcfjhajaaDoorRows
import GoSem.ClaimSeven
namespace Go.Proofs.YtdijbkfcfjhajaaDoor
namespace Rows

/-- THE TIED CARD OF 'onionskinlaw38.SyscPrints'. -/
def syscPrintsCard : Claim7 := { stood := { row := syscPrintsRow, standIns := [], harness := (true, "6a0cf718e265ef5faa80e75f42f3ebec064ca4268ef4051f71761ac8eebf8188"), looks := false }, kinds := [], alts := [], laidByText := true, laidKinds := [.data, .data, .data], laidTests := true, laidLooks := .later }
def SyscPrintsCardSaid : Prop := Claim7.holds Tryd.pinned (.plain (OpenSpec.ofChange syscPrintsSpec)) syscPrintsCard

/-- THE TIED CARD OF 'onionskinlaw38.SyscErrors'. -/
def syscErrorsCard : Claim7 := { stood := { row := syscErrorsRow, standIns := [], harness := (true, "6a0cf718e265ef5faa80e75f42f3ebec064ca4268ef4051f71761ac8eebf8188"), looks := false }, kinds := [], alts := [], laidByText := true, laidKinds := [.data, .data, .data], laidTests := true, laidLooks := .later }
def SyscErrorsCardSaid : Prop := Claim7.holds Tryd.pinned (.plain (OpenSpec.ofChange syscErrorsSpec)) syscErrorsCard

/-- THE TIED CARD OF 'onionskinlaw38.SyscAsks'. -/
def syscAsksCard : Claim7 := { stood := { row := syscAsksRow, standIns := [], harness := (true, "6a0cf718e265ef5faa80e75f42f3ebec064ca4268ef4051f71761ac8eebf8188"), looks := false }, kinds := [], alts := [], laidByText := true, laidKinds := [.data, .data, .data], laidTests := true, laidLooks := .later }
def SyscAsksCardSaid : Prop := Claim7.holds Tryd.pinned (.plain (OpenSpec.ofChange syscAsksSpec)) syscAsksCard

/-- THE TIED CARD OF 'onionskinlaw38.SyscAnswers'. -/
def syscAnswersCard : Claim7 := { stood := { row := syscAnswersRow, standIns := [], harness := (true, "6a0cf718e265ef5faa80e75f42f3ebec064ca4268ef4051f71761ac8eebf8188"), looks := false }, kinds := [], alts := [], laidByText := true, laidKinds := [.data, .data, .data], laidTests := true, laidLooks := .later }
def SyscAnswersCardSaid : Prop := Claim7.holds Tryd.pinned (.plain (OpenSpec.ofChange syscAnswersSpec)) syscAnswersCard

/-- THE SECOND FORM's CARD OF 'onionskinlaw38.SyscPrints'. -/
def syscPrintsUptoCard : Claim7 := { stood := { row := syscPrintsUptoRow, standIns := [], harness := (true, "6a0cf718e265ef5faa80e75f42f3ebec064ca4268ef4051f71761ac8eebf8188"), looks := false }, kinds := [], alts := [], laidByText := true, laidKinds := [.data, .data, .data], laidTests := true, laidLooks := .later }
def SyscPrintsUptoCardSaid : Prop := Claim7.holds Tryd.pinned (.plain (OpenSpec.upto syscPrintsSpec)) syscPrintsUptoCard

/-- THE SECOND FORM's CARD OF 'onionskinlaw38.SyscErrors'. -/
def syscErrorsUptoCard : Claim7 := { stood := { row := syscErrorsUptoRow, standIns := [], harness := (true, "6a0cf718e265ef5faa80e75f42f3ebec064ca4268ef4051f71761ac8eebf8188"), looks := false }, kinds := [], alts := [], laidByText := true, laidKinds := [.data, .data, .data], laidTests := true, laidLooks := .later }
def SyscErrorsUptoCardSaid : Prop := Claim7.holds Tryd.pinned (.plain (OpenSpec.upto syscErrorsSpec)) syscErrorsUptoCard

/-- THE SECOND FORM's CARD OF 'onionskinlaw38.SyscAsks'. -/
def syscAsksUptoCard : Claim7 := { stood := { row := syscAsksUptoRow, standIns := [], harness := (true, "6a0cf718e265ef5faa80e75f42f3ebec064ca4268ef4051f71761ac8eebf8188"), looks := false }, kinds := [], alts := [], laidByText := true, laidKinds := [.data, .data, .data], laidTests := true, laidLooks := .later }
def SyscAsksUptoCardSaid : Prop := Claim7.holds Tryd.pinned (.plain (OpenSpec.upto syscAsksSpec)) syscAsksUptoCard

/-- THE SECOND FORM's CARD OF 'onionskinlaw38.SyscAnswers'. -/
def syscAnswersUptoCard : Claim7 := { stood := { row := syscAnswersUptoRow, standIns := [], harness := (true, "6a0cf718e265ef5faa80e75f42f3ebec064ca4268ef4051f71761ac8eebf8188"), looks := false }, kinds := [], alts := [], laidByText := true, laidKinds := [.data, .data, .data], laidTests := true, laidLooks := .later }
def SyscAnswersUptoCardSaid : Prop := Claim7.holds Tryd.pinned (.plain (OpenSpec.upto syscAnswersSpec)) syscAnswersUptoCard
end Rows
end Go.Proofs.YtdijbkfcfjhajaaDoor
