/-
  No cell of these rows narrows 'for every input' (looked for: loops, veiled, ifaces, maps, wideKeys, modest, calm, conditions, laid).
  DERIVED. THE GIVEN ROWS OF THIS SEAT. 6 by the template 'for every input the law returns true; each argument reads behind the call as it read before'; 0 by the template 'total and deterministic' (their statements: YtjgnpmdbkgeakaaTotals.lean).
  GIVEN WITH THE SEED: the statements are not yours to turn. If you find one false, say at which input.
  Laid BY PROGRAM, IN A SANDBOX (cutbox-rows.mjs): the forced cells as the released guide's own fill.sh prints them over the translation 17cbb554d852196a… (all of the seat's roots in one cut). By AI agents, Wed Nov 11 2026. No macro, syntax, notation, axiom, sorry.
-/
import Derived.Test.YtjgnpmdbkgeakaaChecked
import GoSem.Claim
import GoSem.ClaimJoined
import GoSem.ClaimMapViews
import Derived.JoinedTies
import Derived.KernelRfl
namespace Go.Proofs.Ytjgnpmdbkgeakaa
/- THE CELL 'sum', in the pinned program and in every row, IS THE sha256 OF THE DUMP (.gsa) THAT YtjgnpmdbkgeakaaProg.lean LOADS. Nothing in Lean hashes anything: it is a label: what it is worth is what the hold of that sum in a sandbox is worth. -/
noncomputable def Try.pinned : Pinned := { name := "ytjgnpmdbkgeakaa", sum := "17cbb554d852196a3faaf304184e7c9ef1601bac0b78854f1e1f88b2c67b81f8", checked := Try.checked }
namespace Rows
def none {H : Type} : Left H := { results := [], args := [] }

/-- 'paydesklaw03.FieldRight': WHATEVER THE INPUT: true; the input reads as it did. -/
def fieldRightSpec : ChangeSpec := { name := "fieldRight", fn := fun _ => fun
  | [d1, d2, d3] => { results := [.lit (.bool true)], args := [d1, d2, d3] }
  | _ => none }
def fieldRightRow : OpenClaim := { program := "ytjgnpmdbkgeakaa", sum := "17cbb554d852196a3faaf304184e7c9ef1601bac0b78854f1e1f88b2c67b81f8", func := "paydesk/paydesklaw03.FieldRight", spec := "fieldRight", unfollowed := true, recurses := true, apart := false }
def FieldRightSaid : Prop := fieldRightRow.holds Try.pinned (OpenSpec.ofChange fieldRightSpec)

/-- ITS FALSE NEIGHBOUR: 'it returns false'. Refute it at one input. -/
def fieldRightWrong : ChangeSpec := { name := "fieldRight", fn := fun _ => fun
  | [d1, d2, d3] => { results := [.lit (.bool false)], args := [d1, d2, d3] }
  | _ => none }
def FieldRightWrongFalsely : Prop := fieldRightRow.holds Try.pinned (OpenSpec.ofChange fieldRightWrong)

/-- 'paydesklaw03.FieldBack': WHATEVER THE INPUT: true; the input reads as it did. -/
def fieldBackSpec : ChangeSpec := { name := "fieldBack", fn := fun _ => fun
  | [d1, d2, d3, d4, d5] => { results := [.lit (.bool true)], args := [d1, d2, d3, d4, d5] }
  | _ => none }
def fieldBackRow : OpenClaim := { program := "ytjgnpmdbkgeakaa", sum := "17cbb554d852196a3faaf304184e7c9ef1601bac0b78854f1e1f88b2c67b81f8", func := "paydesk/paydesklaw03.FieldBack", spec := "fieldBack", unfollowed := true, recurses := true, apart := false }
def FieldBackSaid : Prop := fieldBackRow.holds Try.pinned (OpenSpec.ofChange fieldBackSpec)

/-- ITS FALSE NEIGHBOUR: 'it returns false'. Refute it at one input. -/
def fieldBackWrong : ChangeSpec := { name := "fieldBack", fn := fun _ => fun
  | [d1, d2, d3, d4, d5] => { results := [.lit (.bool false)], args := [d1, d2, d3, d4, d5] }
  | _ => none }
def FieldBackWrongFalsely : Prop := fieldBackRow.holds Try.pinned (OpenSpec.ofChange fieldBackWrong)

/-- 'paydesklaw03.FieldKnown': WHATEVER THE INPUT: true; the input reads as it did. -/
def fieldKnownSpec : ChangeSpec := { name := "fieldKnown", fn := fun _ => fun
  | [d1, d2] => { results := [.lit (.bool true)], args := [d1, d2] }
  | _ => none }
def fieldKnownRow : OpenClaim := { program := "ytjgnpmdbkgeakaa", sum := "17cbb554d852196a3faaf304184e7c9ef1601bac0b78854f1e1f88b2c67b81f8", func := "paydesk/paydesklaw03.FieldKnown", spec := "fieldKnown", unfollowed := true, recurses := true, apart := false }
def FieldKnownSaid : Prop := fieldKnownRow.holds Try.pinned (OpenSpec.ofChange fieldKnownSpec)

/-- ITS FALSE NEIGHBOUR: 'it returns false'. Refute it at one input. -/
def fieldKnownWrong : ChangeSpec := { name := "fieldKnown", fn := fun _ => fun
  | [d1, d2] => { results := [.lit (.bool false)], args := [d1, d2] }
  | _ => none }
def FieldKnownWrongFalsely : Prop := fieldKnownRow.holds Try.pinned (OpenSpec.ofChange fieldKnownWrong)

/-- 'paydesklaw04.MessageRight': WHATEVER THE INPUT: true; the input reads as it did. -/
def messageRightSpec : ChangeSpec := { name := "messageRight", fn := fun _ => fun
  | [d1, d2, d3] => { results := [.lit (.bool true)], args := [d1, d2, d3] }
  | _ => none }
def messageRightRow : OpenClaim := { program := "ytjgnpmdbkgeakaa", sum := "17cbb554d852196a3faaf304184e7c9ef1601bac0b78854f1e1f88b2c67b81f8", func := "paydesk/paydesklaw04.MessageRight", spec := "messageRight", unfollowed := true, recurses := true, apart := false }
def MessageRightSaid : Prop := messageRightRow.holds Try.pinned (OpenSpec.ofChange messageRightSpec)

/-- ITS FALSE NEIGHBOUR: 'it returns false'. Refute it at one input. -/
def messageRightWrong : ChangeSpec := { name := "messageRight", fn := fun _ => fun
  | [d1, d2, d3] => { results := [.lit (.bool false)], args := [d1, d2, d3] }
  | _ => none }
def MessageRightWrongFalsely : Prop := messageRightRow.holds Try.pinned (OpenSpec.ofChange messageRightWrong)

/-- 'paydesklaw04.MessageBack': WHATEVER THE INPUT: true; the input reads as it did. -/
def messageBackSpec : ChangeSpec := { name := "messageBack", fn := fun _ => fun
  | [d1, d2, d3, d4] => { results := [.lit (.bool true)], args := [d1, d2, d3, d4] }
  | _ => none }
def messageBackRow : OpenClaim := { program := "ytjgnpmdbkgeakaa", sum := "17cbb554d852196a3faaf304184e7c9ef1601bac0b78854f1e1f88b2c67b81f8", func := "paydesk/paydesklaw04.MessageBack", spec := "messageBack", unfollowed := true, recurses := true, apart := false }
def MessageBackSaid : Prop := messageBackRow.holds Try.pinned (OpenSpec.ofChange messageBackSpec)

/-- ITS FALSE NEIGHBOUR: 'it returns false'. Refute it at one input. -/
def messageBackWrong : ChangeSpec := { name := "messageBack", fn := fun _ => fun
  | [d1, d2, d3, d4] => { results := [.lit (.bool false)], args := [d1, d2, d3, d4] }
  | _ => none }
def MessageBackWrongFalsely : Prop := messageBackRow.holds Try.pinned (OpenSpec.ofChange messageBackWrong)

/-- 'paydesklaw04.MessageGets': WHATEVER THE INPUT: true; the input reads as it did. -/
def messageGetsSpec : ChangeSpec := { name := "messageGets", fn := fun _ => fun
  | [d1, d2] => { results := [.lit (.bool true)], args := [d1, d2] }
  | _ => none }
def messageGetsRow : OpenClaim := { program := "ytjgnpmdbkgeakaa", sum := "17cbb554d852196a3faaf304184e7c9ef1601bac0b78854f1e1f88b2c67b81f8", func := "paydesk/paydesklaw04.MessageGets", spec := "messageGets", unfollowed := true, recurses := true, apart := false }
def MessageGetsSaid : Prop := messageGetsRow.holds Try.pinned (OpenSpec.ofChange messageGetsSpec)

/-- ITS FALSE NEIGHBOUR: 'it returns false'. Refute it at one input. -/
def messageGetsWrong : ChangeSpec := { name := "messageGets", fn := fun _ => fun
  | [d1, d2] => { results := [.lit (.bool false)], args := [d1, d2] }
  | _ => none }
def MessageGetsWrongFalsely : Prop := messageGetsRow.holds Try.pinned (OpenSpec.ofChange messageGetsWrong)

/- THE SECOND FORM. 'bulk': how many values and letters a reading holds, each counted each time it is reached (what is shared counts as often as it is met; a slice's spare places count too). A statement '..UptoSaid' is the law's where the arguments, and the package variables that the reading takes, are together of bulk at most 1048576: NARROWER than '..Said'. Prove '..Said' where nothing that the law and all that it calls make is longer than what came in: it says more and counts as full. Else prove '..UptoSaid'. A law counts once. -/
mutual
def uptoBulk {H : Type} : DataW H → Nat
  | .lit (.string bytes) => bytes.length + 1
  | .lit _ => 1
  | .nil => 1
  | .ptr d => uptoBulk d + 1
  | .slice elems spare => uptoBulkAll elems + uptoBulkAll spare + 1
  | .agg parts => uptoBulkAll parts + 1
  | .iface _ d => uptoBulk d + 1
  | .map entries => uptoBulkEntries entries + 1
  | .held _ => 1
def uptoBulkAll {H : Type} : List (DataW H) → Nat
  | [] => 0
  | d :: r => uptoBulk d + uptoBulkAll r
def uptoBulkEntries {H : Type} : List (Lit × DataW H) → Nat
  | [] => 0
  | x :: r => uptoBulkEntry x + uptoBulkEntries r
def uptoBulkEntry {H : Type} : Lit × DataW H → Nat
  | (.string bytes, d) => bytes.length + uptoBulk d + 1
  | (_, d) => uptoBulk d + 1
 end
def uptoSmall : (H : Type) → List (DataW H) → Bool := fun _ ds => decide (uptoBulkAll ds ≤ 1048576)
def OpenSpec.upto (s : _root_.Go.ChangeSpec) : _root_.Go.OpenSpec := { _root_.Go.OpenSpec.ofChange s with cond := some uptoSmall }

/-- 'paydesklaw03.FieldRight', WHERE WHAT IT READS IS OF BULK AT MOST 1048576: true; the input reads as it did. -/
def fieldRightUptoRow : OpenClaim := { program := "ytjgnpmdbkgeakaa", sum := "17cbb554d852196a3faaf304184e7c9ef1601bac0b78854f1e1f88b2c67b81f8", func := "paydesk/paydesklaw03.FieldRight", spec := "fieldRight", unfollowed := true, recurses := true, apart := false, narrowed := true }
def FieldRightUptoSaid : Prop := fieldRightUptoRow.holds Try.pinned (OpenSpec.upto fieldRightSpec)

/-- 'paydesklaw03.FieldBack', WHERE WHAT IT READS IS OF BULK AT MOST 1048576: true; the input reads as it did. -/
def fieldBackUptoRow : OpenClaim := { program := "ytjgnpmdbkgeakaa", sum := "17cbb554d852196a3faaf304184e7c9ef1601bac0b78854f1e1f88b2c67b81f8", func := "paydesk/paydesklaw03.FieldBack", spec := "fieldBack", unfollowed := true, recurses := true, apart := false, narrowed := true }
def FieldBackUptoSaid : Prop := fieldBackUptoRow.holds Try.pinned (OpenSpec.upto fieldBackSpec)

/-- 'paydesklaw03.FieldKnown', WHERE WHAT IT READS IS OF BULK AT MOST 1048576: true; the input reads as it did. -/
def fieldKnownUptoRow : OpenClaim := { program := "ytjgnpmdbkgeakaa", sum := "17cbb554d852196a3faaf304184e7c9ef1601bac0b78854f1e1f88b2c67b81f8", func := "paydesk/paydesklaw03.FieldKnown", spec := "fieldKnown", unfollowed := true, recurses := true, apart := false, narrowed := true }
def FieldKnownUptoSaid : Prop := fieldKnownUptoRow.holds Try.pinned (OpenSpec.upto fieldKnownSpec)

/-- 'paydesklaw04.MessageRight', WHERE WHAT IT READS IS OF BULK AT MOST 1048576: true; the input reads as it did. -/
def messageRightUptoRow : OpenClaim := { program := "ytjgnpmdbkgeakaa", sum := "17cbb554d852196a3faaf304184e7c9ef1601bac0b78854f1e1f88b2c67b81f8", func := "paydesk/paydesklaw04.MessageRight", spec := "messageRight", unfollowed := true, recurses := true, apart := false, narrowed := true }
def MessageRightUptoSaid : Prop := messageRightUptoRow.holds Try.pinned (OpenSpec.upto messageRightSpec)

/-- 'paydesklaw04.MessageBack', WHERE WHAT IT READS IS OF BULK AT MOST 1048576: true; the input reads as it did. -/
def messageBackUptoRow : OpenClaim := { program := "ytjgnpmdbkgeakaa", sum := "17cbb554d852196a3faaf304184e7c9ef1601bac0b78854f1e1f88b2c67b81f8", func := "paydesk/paydesklaw04.MessageBack", spec := "messageBack", unfollowed := true, recurses := true, apart := false, narrowed := true }
def MessageBackUptoSaid : Prop := messageBackUptoRow.holds Try.pinned (OpenSpec.upto messageBackSpec)

/-- 'paydesklaw04.MessageGets', WHERE WHAT IT READS IS OF BULK AT MOST 1048576: true; the input reads as it did. -/
def messageGetsUptoRow : OpenClaim := { program := "ytjgnpmdbkgeakaa", sum := "17cbb554d852196a3faaf304184e7c9ef1601bac0b78854f1e1f88b2c67b81f8", func := "paydesk/paydesklaw04.MessageGets", spec := "messageGets", unfollowed := true, recurses := true, apart := false, narrowed := true }
def MessageGetsUptoSaid : Prop := messageGetsUptoRow.holds Try.pinned (OpenSpec.upto messageGetsSpec)

end Rows
end Go.Proofs.Ytjgnpmdbkgeakaa
