/-
  DERIVED. GIVEN WITH THE SEED: THE CARDS: each row of YtnjfkicalpbiaaaGreatDoorRows.lean that lists a variable, with what it lists TIED to the program's text (the seventh form; the later family's looks); each row that meets fmt, with fmt's text TOLD by the authors' own Lean function (tested against real Go, not proved from fmt's source: count such statements apart). THE CARD IS WHAT COUNTS. Prove the row's statement (the work); the ties are given (YtnjfkicalpbiaaaGreatDoorTie.lean); close each card by the builder's one call (the guide's Derived/Test/ToyasCard.lean, 'card_holds'). Laid BY PROGRAM, IN A SANDBOX (cutbox-door.mjs). By AI agents, Wed Nov 11 2026. No macro, syntax, notation, axiom, sorry.
-/
import Derived.Test.YtnjfkicalpbiaaaGreatDoorRows
import GoSem.ClaimSeven
namespace Go.Proofs.YtnjfkicalpbiaaaGreatDoor
namespace Rows

/-- THE TIED CARD OF 'commonslaw21.ServerRedoes'. -/
def serverRedoesCard : Claim7 := { stood := { row := serverRedoesRow, standIns := [], harness := (true, "781011d778d2da6b27531b8dc19d09f1a698233922344a9018df37046129dd93"), looks := false }, kinds := [], alts := [], laidByText := true, laidKinds := [.data, .pinned], laidTests := true, laidLooks := .later }
def ServerRedoesCardSaid : Prop := Claim7.holds Tryz.pinned (.plain (OpenSpec.ofChange serverRedoesSpec)) serverRedoesCard

/-- THE SECOND FORM's CARD OF 'commonslaw21.ServerRedoes'. -/
def serverRedoesUptoCard : Claim7 := { stood := { row := serverRedoesUptoRow, standIns := [], harness := (true, "781011d778d2da6b27531b8dc19d09f1a698233922344a9018df37046129dd93"), looks := false }, kinds := [], alts := [], laidByText := true, laidKinds := [.data, .pinned], laidTests := true, laidLooks := .later }
def ServerRedoesUptoCardSaid : Prop := Claim7.holds Tryz.pinned (.plain (OpenSpec.upto serverRedoesSpec)) serverRedoesUptoCard
end Rows
end Go.Proofs.YtnjfkicalpbiaaaGreatDoor
