/-
  DERIVED. GIVEN WITH THE SEED: THE CARDS: each row of YtapjfcljbdlnkaaDoorRows.lean that lists a variable, with what it lists TIED to the program's text (the seventh form; the later family's looks); each row that meets fmt, with fmt's text TOLD by the authors' own Lean function (tested against real Go, not proved from fmt's source: count such statements apart). THE CARD IS WHAT COUNTS. Prove the row's statement (the work); the ties are given (YtapjfcljbdlnkaaDoorTie.lean); close each card by the builder's one call (the guide's Derived/Test/ToyasCard.lean, 'card_holds'). Laid BY PROGRAM, IN A SANDBOX (cutbox-door.mjs). By AI agents, Wed Nov 11 2026. No macro, syntax, notation, axiom, sorry.
-/
import Derived.Test.YtapjfcljbdlnkaaDoorRows
import GoSem.ClaimSeven
namespace Go.Proofs.YtapjfcljbdlnkaaDoor
namespace Rows

/-- THE TIED CARD OF 'onionskinlaw40.ShellParses'. -/
def shellParsesCard : Claim7 := { stood := { row := shellParsesRow, standIns := [], harness := (true, "237655bb94c4f95a083ce0781900d5ad19d516e59670b69ddd29056757d6daad"), looks := true }, kinds := [], alts := [], laidByText := true, laidKinds := [.data, .pinned], laidTests := true, laidLooks := .later }
def ShellParsesCardSaid : Prop := Claim7.holds Tryd.pinned (.plain (OpenSpec.ofChange shellParsesSpec)) shellParsesCard

/-- THE TIED CARD OF 'onionskinlaw03.AsmMost'. -/
def asmMostCard : Claim7 := { stood := { row := asmMostRow, standIns := [], harness := (true, "237655bb94c4f95a083ce0781900d5ad19d516e59670b69ddd29056757d6daad"), looks := true }, kinds := [], alts := [], laidByText := true, laidKinds := [.data, .data, .data, .data, .sentinel, .sentinel, .pinned], laidTests := true, laidLooks := .later }
def AsmMostCardSaid : Prop := Claim7.holds Tryd.pinned (.plain (OpenSpec.ofChange asmMostSpec)) asmMostCard

/-- THE SECOND FORM's CARD OF 'onionskinlaw40.ShellParses'. -/
def shellParsesUptoCard : Claim7 := { stood := { row := shellParsesUptoRow, standIns := [], harness := (true, "237655bb94c4f95a083ce0781900d5ad19d516e59670b69ddd29056757d6daad"), looks := true }, kinds := [], alts := [], laidByText := true, laidKinds := [.data, .pinned], laidTests := true, laidLooks := .later }
def ShellParsesUptoCardSaid : Prop := Claim7.holds Tryd.pinned (.plain (OpenSpec.upto shellParsesSpec)) shellParsesUptoCard

/-- THE SECOND FORM's CARD OF 'onionskinlaw03.AsmMost'. -/
def asmMostUptoCard : Claim7 := { stood := { row := asmMostUptoRow, standIns := [], harness := (true, "237655bb94c4f95a083ce0781900d5ad19d516e59670b69ddd29056757d6daad"), looks := true }, kinds := [], alts := [], laidByText := true, laidKinds := [.data, .data, .data, .data, .sentinel, .sentinel, .pinned], laidTests := true, laidLooks := .later }
def AsmMostUptoCardSaid : Prop := Claim7.holds Tryd.pinned (.plain (OpenSpec.upto asmMostSpec)) asmMostUptoCard
end Rows
end Go.Proofs.YtapjfcljbdlnkaaDoor
