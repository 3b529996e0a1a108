/-
  DERIVED. GIVEN WITH THE SEED: THE CARDS: each row of YtapjfcljbdlnkaaGreatDoorRows.lean that lists a variable, with what it lists TIED to the program's text (the seventh form; the later family's looks); each row that meets fmt, with fmt's text TOLD by the authors' own Lean function (tested against real Go, not proved from fmt's source: count such statements apart). THE CARD IS WHAT COUNTS. Prove the row's statement (the work); the ties are given (YtapjfcljbdlnkaaGreatDoorTie.lean); close each card by the builder's one call (the guide's Derived/Test/ToyasCard.lean, 'card_holds'). Laid BY PROGRAM, IN A SANDBOX (cutbox-door.mjs). By AI agents, Wed Nov 11 2026. No macro, syntax, notation, axiom, sorry.
-/
import Derived.Test.YtapjfcljbdlnkaaGreatDoorRows
import GoSem.ClaimSeven
namespace Go.Proofs.YtapjfcljbdlnkaaGreatDoor
namespace Rows

/-- THE TIED CARD OF 'onionskinlaw03.AsmReads'. -/
def asmReadsCard : Claim7 := { stood := { row := asmReadsRow, standIns := [], harness := (true, "5690abf619958fba4ed15d071a912861ceae5702b785c1f799ffaf05a6482c7c"), looks := true }, kinds := [], alts := [], laidByText := true, laidKinds := [.data, .data, .data, .data, .sentinel, .sentinel, .pinned], laidTests := true, laidLooks := .later }
def AsmReadsCardSaid : Prop := Claim7.holds Tryz.pinned (.plain (OpenSpec.ofChange asmReadsSpec)) asmReadsCard

/-- THE TIED CARD OF 'onionskinlaw03.AsmWrites'. -/
def asmWritesCard : Claim7 := { stood := { row := asmWritesRow, standIns := [], harness := (true, "5690abf619958fba4ed15d071a912861ceae5702b785c1f799ffaf05a6482c7c"), looks := true }, kinds := [], alts := [], laidByText := true, laidKinds := [.data, .data, .data, .data, .sentinel, .sentinel, .pinned], laidTests := true, laidLooks := .later }
def AsmWritesCardSaid : Prop := Claim7.holds Tryz.pinned (.plain (OpenSpec.ofChange asmWritesSpec)) asmWritesCard

/-- THE SECOND FORM's CARD OF 'onionskinlaw03.AsmReads'. -/
def asmReadsUptoCard : Claim7 := { stood := { row := asmReadsUptoRow, standIns := [], harness := (true, "5690abf619958fba4ed15d071a912861ceae5702b785c1f799ffaf05a6482c7c"), looks := true }, kinds := [], alts := [], laidByText := true, laidKinds := [.data, .data, .data, .data, .sentinel, .sentinel, .pinned], laidTests := true, laidLooks := .later }
def AsmReadsUptoCardSaid : Prop := Claim7.holds Tryz.pinned (.plain (OpenSpec.upto asmReadsSpec)) asmReadsUptoCard

/-- THE SECOND FORM's CARD OF 'onionskinlaw03.AsmWrites'. -/
def asmWritesUptoCard : Claim7 := { stood := { row := asmWritesUptoRow, standIns := [], harness := (true, "5690abf619958fba4ed15d071a912861ceae5702b785c1f799ffaf05a6482c7c"), looks := true }, kinds := [], alts := [], laidByText := true, laidKinds := [.data, .data, .data, .data, .sentinel, .sentinel, .pinned], laidTests := true, laidLooks := .later }
def AsmWritesUptoCardSaid : Prop := Claim7.holds Tryz.pinned (.plain (OpenSpec.upto asmWritesSpec)) asmWritesUptoCard
end Rows
end Go.Proofs.YtapjfcljbdlnkaaGreatDoor
