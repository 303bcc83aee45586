/-
  NARROWER THAN 'FOR EVERY INPUT', by the rows' own cells (each row's printed sentence says how): TableHolds: laid · TableSwaps: laid · TraceOthers: laid.
  DERIVED. THE GIVEN ROWS OF THIS SEAT. 3 by the template 'for every input the law returns true; each argument reads behind the call as it read before'; 0 by the template 'total and deterministic' (their statements: YtcgnmecbdleehaaDoorTotals.lean).
  GIVEN WITH THE SEED: the statements are not yours to turn. If you find one false, say at which input.
  Laid BY PROGRAM, IN A SANDBOX (cutbox-rows.mjs): the forced cells as the released guide's own fill.sh prints them over the translation 93aa195d02c52192… (all of the seat's roots in one cut). By AI agents, Wed Nov 11 2026. No macro, syntax, notation, axiom, sorry.
-/
import Derived.Test.YtcgnmecbdleehaaDoorChecked
import GoSem.Claim
import GoSem.ClaimJoined
import GoSem.ClaimMapViews
import Derived.JoinedTies
import Derived.KernelRfl
namespace Go.Proofs.YtcgnmecbdleehaaDoor
/- THE CELL 'sum', in the pinned program and in every row, IS THE sha256 OF THE DUMP (.gsa) THAT YtcgnmecbdleehaaDoorProg.lean LOADS. Nothing in Lean hashes anything: it is a label: what it is worth is what the hold of that sum in a sandbox is worth. -/
noncomputable def Tryd.pinned : Pinned := { name := "ytcgnmecbdleehaadoor", sum := "93aa195d02c521922b41af0e562bf96c354db8cb85414059569205834bff4159", checked := Tryd.checked }
namespace Rows
def none {H : Type} : Left H := { results := [], args := [] }

/- WHAT THE LISTED PACKAGE-LEVEL VARIABLES READ AS WHEN THE CALL BEGINS. Each datum BY PROGRAM (the guide's laid-datum.mjs) off the statement by which the dump's own 'gosem.cut.vars' lays the variable. In a bare row this is a premise. The card (YtcgnmecbdleehaaDoorCards.lean) ties it to the program's text. -/
def laid_paydesk_deal_types {H : Type} : DataW H := .agg [.lit (.string []), .lit (.string [48, 49, 48, 48]), .lit (.string [48, 49, 49, 48]), .lit (.string [48, 52, 48, 48]), .lit (.string [48, 52, 49, 48]), .lit (.string [48, 52, 50, 48]), .lit (.string [48, 52, 50, 49]), .lit (.string [48, 52, 51, 48])]

/-- 'paydesklaw11.TableHolds': WHATEVER THE INPUT: true; the input reads as it did. -/
def tableHoldsSpec : ChangeSpec := { name := "tableHolds", fn := fun _ => fun
  | [d1, d2, d3, d4] => { results := [.lit (.bool true)], args := [d1, d2, d3, d4] }
  | _ => none }
def tableHoldsRow : OpenClaim := { program := "ytcgnmecbdleehaadoor", sum := "93aa195d02c521922b41af0e562bf96c354db8cb85414059569205834bff4159", func := "paydesk/paydesklaw11.TableHolds", spec := "tableHolds", inPlace := ["slices.overlaps[paydesk/api.Entry]"], unfollowed := true, recurses := true, named := ["paydesk/deal.types"], apart := false, laid := [("paydesk/deal.types", laid_paydesk_deal_types)] }
def TableHoldsSaid : Prop := tableHoldsRow.holds Tryd.pinned (OpenSpec.ofChange tableHoldsSpec)

/-- ITS FALSE NEIGHBOUR: 'it returns false'. Refute it at one input. -/
def tableHoldsWrong : ChangeSpec := { name := "tableHolds", fn := fun _ => fun
  | [d1, d2, d3, d4] => { results := [.lit (.bool false)], args := [d1, d2, d3, d4] }
  | _ => none }
def TableHoldsWrongFalsely : Prop := tableHoldsRow.holds Tryd.pinned (OpenSpec.ofChange tableHoldsWrong)

/-- 'paydesklaw11.TableSwaps': WHATEVER THE INPUT: true; the input reads as it did. -/
def tableSwapsSpec : ChangeSpec := { name := "tableSwaps", fn := fun _ => fun
  | [d1, d2, d3, d4] => { results := [.lit (.bool true)], args := [d1, d2, d3, d4] }
  | _ => none }
def tableSwapsRow : OpenClaim := { program := "ytcgnmecbdleehaadoor", sum := "93aa195d02c521922b41af0e562bf96c354db8cb85414059569205834bff4159", func := "paydesk/paydesklaw11.TableSwaps", spec := "tableSwaps", inPlace := ["slices.overlaps[paydesk/api.Entry]"], unfollowed := true, recurses := true, named := ["paydesk/deal.types"], apart := false, laid := [("paydesk/deal.types", laid_paydesk_deal_types)] }
def TableSwapsSaid : Prop := tableSwapsRow.holds Tryd.pinned (OpenSpec.ofChange tableSwapsSpec)

/-- ITS FALSE NEIGHBOUR: 'it returns false'. Refute it at one input. -/
def tableSwapsWrong : ChangeSpec := { name := "tableSwaps", fn := fun _ => fun
  | [d1, d2, d3, d4] => { results := [.lit (.bool false)], args := [d1, d2, d3, d4] }
  | _ => none }
def TableSwapsWrongFalsely : Prop := tableSwapsRow.holds Tryd.pinned (OpenSpec.ofChange tableSwapsWrong)

/-- 'paydesklaw21.TraceOthers': WHATEVER THE INPUT: true; the input reads as it did. -/
def traceOthersSpec : ChangeSpec := { name := "traceOthers", fn := fun _ => fun
  | [d1, d2, d3, d4, d5] => { results := [.lit (.bool true)], args := [d1, d2, d3, d4, d5] }
  | _ => none }
def traceOthersRow : OpenClaim := { program := "ytcgnmecbdleehaadoor", sum := "93aa195d02c521922b41af0e562bf96c354db8cb85414059569205834bff4159", func := "paydesk/paydesklaw21.TraceOthers", spec := "traceOthers", unfollowed := true, recurses := true, named := ["paydesk/deal.types"], apart := false, laid := [("paydesk/deal.types", laid_paydesk_deal_types)] }
def TraceOthersSaid : Prop := traceOthersRow.holds Tryd.pinned (OpenSpec.ofChange traceOthersSpec)

/-- ITS FALSE NEIGHBOUR: 'it returns false'. Refute it at one input. -/
def traceOthersWrong : ChangeSpec := { name := "traceOthers", fn := fun _ => fun
  | [d1, d2, d3, d4, d5] => { results := [.lit (.bool false)], args := [d1, d2, d3, d4, d5] }
  | _ => none }
def TraceOthersWrongFalsely : Prop := traceOthersRow.holds Tryd.pinned (OpenSpec.ofChange traceOthersWrong)

/- THE SECOND FORM. 'bulk': how many values and letters a reading holds, each counted each time it is reached (what is shared counts as often as it is met; a slice's spare places count too). A statement '..UptoSaid' is the law's where the arguments, and the package variables that the reading takes, are together of bulk at most 1048576: NARROWER than '..Said'. Prove '..Said' where nothing that the law and all that it calls make is longer than what came in: it says more and counts as full. Else prove '..UptoSaid'. A law counts once. -/
mutual
def uptoBulk {H : Type} : DataW H → Nat
  | .lit (.string bytes) => bytes.length + 1
  | .lit _ => 1
  | .nil => 1
  | .ptr d => uptoBulk d + 1
  | .slice elems spare => uptoBulkAll elems + uptoBulkAll spare + 1
  | .agg parts => uptoBulkAll parts + 1
  | .iface _ d => uptoBulk d + 1
  | .map entries => uptoBulkEntries entries + 1
  | .held _ => 1
def uptoBulkAll {H : Type} : List (DataW H) → Nat
  | [] => 0
  | d :: r => uptoBulk d + uptoBulkAll r
def uptoBulkEntries {H : Type} : List (Lit × DataW H) → Nat
  | [] => 0
  | x :: r => uptoBulkEntry x + uptoBulkEntries r
def uptoBulkEntry {H : Type} : Lit × DataW H → Nat
  | (.string bytes, d) => bytes.length + uptoBulk d + 1
  | (_, d) => uptoBulk d + 1
 end
def uptoSmall : (H : Type) → List (DataW H) → Bool := fun _ ds => decide (uptoBulkAll ds ≤ 1048576)
def OpenSpec.upto (s : _root_.Go.ChangeSpec) : _root_.Go.OpenSpec := { _root_.Go.OpenSpec.ofChange s with cond := some uptoSmall }

/-- 'paydesklaw11.TableHolds', WHERE WHAT IT READS IS OF BULK AT MOST 1048576: true; the input reads as it did. -/
def tableHoldsUptoRow : OpenClaim := { program := "ytcgnmecbdleehaadoor", sum := "93aa195d02c521922b41af0e562bf96c354db8cb85414059569205834bff4159", func := "paydesk/paydesklaw11.TableHolds", spec := "tableHolds", inPlace := ["slices.overlaps[paydesk/api.Entry]"], unfollowed := true, recurses := true, named := ["paydesk/deal.types"], apart := false, laid := [("paydesk/deal.types", laid_paydesk_deal_types)], narrowed := true }
def TableHoldsUptoSaid : Prop := tableHoldsUptoRow.holds Tryd.pinned (OpenSpec.upto tableHoldsSpec)

/-- 'paydesklaw11.TableSwaps', WHERE WHAT IT READS IS OF BULK AT MOST 1048576: true; the input reads as it did. -/
def tableSwapsUptoRow : OpenClaim := { program := "ytcgnmecbdleehaadoor", sum := "93aa195d02c521922b41af0e562bf96c354db8cb85414059569205834bff4159", func := "paydesk/paydesklaw11.TableSwaps", spec := "tableSwaps", inPlace := ["slices.overlaps[paydesk/api.Entry]"], unfollowed := true, recurses := true, named := ["paydesk/deal.types"], apart := false, laid := [("paydesk/deal.types", laid_paydesk_deal_types)], narrowed := true }
def TableSwapsUptoSaid : Prop := tableSwapsUptoRow.holds Tryd.pinned (OpenSpec.upto tableSwapsSpec)

/-- 'paydesklaw21.TraceOthers', WHERE WHAT IT READS IS OF BULK AT MOST 1048576: true; the input reads as it did. -/
def traceOthersUptoRow : OpenClaim := { program := "ytcgnmecbdleehaadoor", sum := "93aa195d02c521922b41af0e562bf96c354db8cb85414059569205834bff4159", func := "paydesk/paydesklaw21.TraceOthers", spec := "traceOthers", unfollowed := true, recurses := true, named := ["paydesk/deal.types"], apart := false, laid := [("paydesk/deal.types", laid_paydesk_deal_types)], narrowed := true }
def TraceOthersUptoSaid : Prop := traceOthersUptoRow.holds Tryd.pinned (OpenSpec.upto traceOthersSpec)

end Rows
end Go.Proofs.YtcgnmecbdleehaaDoor
