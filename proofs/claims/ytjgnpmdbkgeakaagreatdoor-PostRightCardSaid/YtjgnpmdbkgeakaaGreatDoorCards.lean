/-
  DERIVED. GIVEN WITH THE SEED: THE CARDS: each row of YtjgnpmdbkgeakaaGreatDoorRows.lean that lists a variable, with what it lists TIED to the program's text (the seventh form; the later family's looks); each row that meets fmt, with fmt's text TOLD by the authors' own Lean function (tested against real Go, not proved from fmt's source: count such statements apart). THE CARD IS WHAT COUNTS. Prove the row's statement (the work); the ties are given (YtjgnpmdbkgeakaaGreatDoorTie.lean); close each card by the builder's one call (the guide's Derived/Test/ToyasCard.lean, 'card_holds'). Laid BY PROGRAM, IN A SANDBOX (cutbox-door.mjs). By AI agents, Wed Nov 11 2026. No macro, syntax, notation, axiom, sorry.
-/
import Derived.Test.YtjgnpmdbkgeakaaGreatDoorRows
import GoSem.ClaimSeven
namespace Go.Proofs.YtjgnpmdbkgeakaaGreatDoor
namespace Rows

/-- THE TIED CARD OF 'paydesklaw17.PostRight'. -/
def postRightCard : Claim7 := { stood := { row := postRightRow, standIns := [], harness := (true, "f05b0c961148bcf113acbb4e950b179ff3401c5cbe57e8a2c792943ca7b0d66f"), looks := false }, kinds := [], alts := [], laidByText := true, laidKinds := [.data], laidTests := true, laidLooks := .later }
def PostRightCardSaid : Prop := Claim7.holds Tryz.pinned (.plain (OpenSpec.ofChange postRightSpec)) postRightCard

/-- THE SECOND FORM's CARD OF 'paydesklaw17.PostRight'. -/
def postRightUptoCard : Claim7 := { stood := { row := postRightUptoRow, standIns := [], harness := (true, "f05b0c961148bcf113acbb4e950b179ff3401c5cbe57e8a2c792943ca7b0d66f"), looks := false }, kinds := [], alts := [], laidByText := true, laidKinds := [.data], laidTests := true, laidLooks := .later }
def PostRightUptoCardSaid : Prop := Claim7.holds Tryz.pinned (.plain (OpenSpec.upto postRightSpec)) postRightUptoCard
end Rows
end Go.Proofs.YtjgnpmdbkgeakaaGreatDoor
