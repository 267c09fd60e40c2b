/-
  DERIVED. GIVEN WITH THE SEED: THE CARDS: each row of YtglpfpdomnllkaaGreatDoorRows.lean that lists a variable, with what it lists TIED to the program's text (the seventh form; the later family's looks); each row that meets fmt, with fmt's text TOLD by the authors' own Lean function (tested against real Go, not proved from fmt's source: count such statements apart). THE CARD IS WHAT COUNTS. Prove the row's statement (the work); the ties are given (YtglpfpdomnllkaaGreatDoorTie.lean); close each card by the builder's one call (the guide's Derived/Test/ToyasCard.lean, 'card_holds'). Laid BY PROGRAM, IN A SANDBOX (cutbox-door.mjs). By AI agents, Wed Nov 11 2026. No macro, syntax, notation, axiom, sorry.
-/
import Derived.Test.YtglpfpdomnllkaaGreatDoorRows
import GoSem.ClaimSeven
namespace Go.Proofs.YtglpfpdomnllkaaGreatDoor
namespace Rows

/-- THE TIED CARD OF 'beckettop.TopThimbleCrossed'. -/
def topThimbleCrossedCard : Claim7 := { stood := { row := topThimbleCrossedRow, standIns := [], harness := (true, "517b4ba83a5a0ff8a3cfb056ff85efcec6c49a3b426921aa1a372b22310bea6e"), looks := false }, kinds := [], alts := [], laidByText := true, laidKinds := [.data, .data, .data, .data, .pinned], laidTests := true, laidLooks := .later }
def TopThimbleCrossedCardSaid : Prop := Claim7.holds Tryz.pinned (.plain (OpenSpec.ofChange topThimbleCrossedSpec)) topThimbleCrossedCard

/-- THE SECOND FORM's CARD OF 'beckettop.TopThimbleCrossed'. -/
def topThimbleCrossedUptoCard : Claim7 := { stood := { row := topThimbleCrossedUptoRow, standIns := [], harness := (true, "517b4ba83a5a0ff8a3cfb056ff85efcec6c49a3b426921aa1a372b22310bea6e"), looks := false }, kinds := [], alts := [], laidByText := true, laidKinds := [.data, .data, .data, .data, .pinned], laidTests := true, laidLooks := .later }
def TopThimbleCrossedUptoCardSaid : Prop := Claim7.holds Tryz.pinned (.plain (OpenSpec.upto topThimbleCrossedSpec)) topThimbleCrossedUptoCard
end Rows
end Go.Proofs.YtglpfpdomnllkaaGreatDoor
