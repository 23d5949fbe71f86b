/-
  DERIVED. GIVEN WITH THE SEED: THE CARDS: each row of YteoodndfkdfnaaaGreatDoorRows.lean that lists a variable, with what it lists TIED to the program's text (the seventh form; the later family's looks); each row that meets fmt, with fmt's text TOLD by the authors' own Lean function (tested against real Go, not proved from fmt's source: count such statements apart). THE CARD IS WHAT COUNTS. Prove the row's statement (the work); the ties are given (YteoodndfkdfnaaaGreatDoorTie.lean); close each card by the builder's one call (the guide's Derived/Test/ToyasCard.lean, 'card_holds'). Laid BY PROGRAM, IN A SANDBOX (cutbox-door.mjs). By AI agents, Wed Nov 11 2026. No macro, syntax, notation, axiom, sorry.
-/
import Derived.Test.YteoodndfkdfnaaaGreatDoorRows
import GoSem.ClaimSeven
namespace Go.Proofs.YteoodndfkdfnaaaGreatDoor
namespace Rows

/-- THE TIED CARD OF 'selfsamelaw24.JudgeNil'. -/
def judgeNilCard : Claim7 := { stood := { row := judgeNilRow, standIns := [], harness := (true, "62c64be7250e55aed1bc84f412793b354e40f7d978f56eebf4498981bb2c466f"), looks := true }, kinds := [], alts := [], laidByText := true, laidKinds := [.pinned, .data, .sentinel, .sentinel, .data, .data, .data, .pinned], laidTests := true, laidLooks := .later }
def JudgeNilCardSaid : Prop := Claim7.holds Tryz.pinned (.plain (OpenSpec.ofChange judgeNilSpec)) judgeNilCard

/-- THE SECOND FORM's CARD OF 'selfsamelaw24.JudgeNil'. -/
def judgeNilUptoCard : Claim7 := { stood := { row := judgeNilUptoRow, standIns := [], harness := (true, "62c64be7250e55aed1bc84f412793b354e40f7d978f56eebf4498981bb2c466f"), looks := true }, kinds := [], alts := [], laidByText := true, laidKinds := [.pinned, .data, .sentinel, .sentinel, .data, .data, .data, .pinned], laidTests := true, laidLooks := .later }
def JudgeNilUptoCardSaid : Prop := Claim7.holds Tryz.pinned (.plain (OpenSpec.upto judgeNilSpec)) judgeNilUptoCard
end Rows
end Go.Proofs.YteoodndfkdfnaaaGreatDoor
