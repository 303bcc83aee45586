/-
  DERIVED. GIVEN WITH THE SEED: THE CARDS: each row of YtcgnmecbdleehaaDoorRows.lean that lists a variable, with what it lists TIED to the program's text (the seventh form; the later family's looks); each row that meets fmt, with fmt's text TOLD by the authors' own Lean function (tested against real Go, not proved from fmt's source: count such statements apart). THE CARD IS WHAT COUNTS. Prove the row's statement (the work); the ties are given (YtcgnmecbdleehaaDoorTie.lean); close each card by the builder's one call (the guide's Derived/Test/ToyasCard.lean, 'card_holds'). Laid BY PROGRAM, IN A SANDBOX (cutbox-door.mjs). By AI agents, Wed Nov 11 2026. No macro, syntax, notation, axiom, sorry.
-/
import Derived.Test.YtcgnmecbdleehaaDoorRows
import GoSem.ClaimSeven
namespace Go.Proofs.YtcgnmecbdleehaaDoor
namespace Rows

/-- THE TIED CARD OF 'paydesklaw11.TableHolds'. -/
def tableHoldsCard : Claim7 := { stood := { row := tableHoldsRow, standIns := [], harness := (true, "d46008cfb3ec0e854f2bd7323c7d2f6ab07ffe32418885e7014cdc178a8ac33d"), looks := false }, kinds := [], alts := [], laidByText := true, laidKinds := [.data], laidTests := true, laidLooks := .later }
def TableHoldsCardSaid : Prop := Claim7.holds Tryd.pinned (.plain (OpenSpec.ofChange tableHoldsSpec)) tableHoldsCard

/-- THE TIED CARD OF 'paydesklaw11.TableSwaps'. -/
def tableSwapsCard : Claim7 := { stood := { row := tableSwapsRow, standIns := [], harness := (true, "d46008cfb3ec0e854f2bd7323c7d2f6ab07ffe32418885e7014cdc178a8ac33d"), looks := false }, kinds := [], alts := [], laidByText := true, laidKinds := [.data], laidTests := true, laidLooks := .later }
def TableSwapsCardSaid : Prop := Claim7.holds Tryd.pinned (.plain (OpenSpec.ofChange tableSwapsSpec)) tableSwapsCard

/-- THE TIED CARD OF 'paydesklaw21.TraceOthers'. -/
def traceOthersCard : Claim7 := { stood := { row := traceOthersRow, standIns := [], harness := (true, "d46008cfb3ec0e854f2bd7323c7d2f6ab07ffe32418885e7014cdc178a8ac33d"), looks := false }, kinds := [], alts := [], laidByText := true, laidKinds := [.data], laidTests := true, laidLooks := .later }
def TraceOthersCardSaid : Prop := Claim7.holds Tryd.pinned (.plain (OpenSpec.ofChange traceOthersSpec)) traceOthersCard

/-- THE SECOND FORM's CARD OF 'paydesklaw11.TableHolds'. -/
def tableHoldsUptoCard : Claim7 := { stood := { row := tableHoldsUptoRow, standIns := [], harness := (true, "d46008cfb3ec0e854f2bd7323c7d2f6ab07ffe32418885e7014cdc178a8ac33d"), looks := false }, kinds := [], alts := [], laidByText := true, laidKinds := [.data], laidTests := true, laidLooks := .later }
def TableHoldsUptoCardSaid : Prop := Claim7.holds Tryd.pinned (.plain (OpenSpec.upto tableHoldsSpec)) tableHoldsUptoCard

/-- THE SECOND FORM's CARD OF 'paydesklaw11.TableSwaps'. -/
def tableSwapsUptoCard : Claim7 := { stood := { row := tableSwapsUptoRow, standIns := [], harness := (true, "d46008cfb3ec0e854f2bd7323c7d2f6ab07ffe32418885e7014cdc178a8ac33d"), looks := false }, kinds := [], alts := [], laidByText := true, laidKinds := [.data], laidTests := true, laidLooks := .later }
def TableSwapsUptoCardSaid : Prop := Claim7.holds Tryd.pinned (.plain (OpenSpec.upto tableSwapsSpec)) tableSwapsUptoCard

/-- THE SECOND FORM's CARD OF 'paydesklaw21.TraceOthers'. -/
def traceOthersUptoCard : Claim7 := { stood := { row := traceOthersUptoRow, standIns := [], harness := (true, "d46008cfb3ec0e854f2bd7323c7d2f6ab07ffe32418885e7014cdc178a8ac33d"), looks := false }, kinds := [], alts := [], laidByText := true, laidKinds := [.data], laidTests := true, laidLooks := .later }
def TraceOthersUptoCardSaid : Prop := Claim7.holds Tryd.pinned (.plain (OpenSpec.upto traceOthersSpec)) traceOthersUptoCard
end Rows
end Go.Proofs.YtcgnmecbdleehaaDoor
