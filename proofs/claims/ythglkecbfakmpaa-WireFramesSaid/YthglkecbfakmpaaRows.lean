/-
  No cell of these rows narrows 'for every input' (looked for: loops, veiled, ifaces, maps, wideKeys, modest, calm, conditions, laid).
  DERIVED. THE GIVEN ROWS OF THIS SEAT. 13 by the template 'for every input the law returns true; each argument reads behind the call as it read before'; 0 by the template 'total and deterministic' (their statements: YthglkecbfakmpaaTotals.lean).
  GIVEN WITH THE SEED: the statements are not yours to turn. If you find one false, say at which input.
  Laid BY PROGRAM, IN A SANDBOX (cutbox-rows.mjs): the forced cells as the released guide's own fill.sh prints them over the translation 327efc2d9fff3049… (all of the seat's roots in one cut). By AI agents, Wed Nov 11 2026. No macro, syntax, notation, axiom, sorry.
-/
import Derived.Test.YthglkecbfakmpaaChecked
import GoSem.Claim
import GoSem.ClaimJoined
import GoSem.ClaimMapViews
import Derived.JoinedTies
import Derived.KernelRfl
namespace Go.Proofs.Ythglkecbfakmpaa
/- THE CELL 'sum', in the pinned program and in every row, IS THE sha256 OF THE DUMP (.gsa) THAT YthglkecbfakmpaaProg.lean LOADS. Nothing in Lean hashes anything: it is a label: what it is worth is what the hold of that sum in a sandbox is worth. -/
noncomputable def Try.pinned : Pinned := { name := "ythglkecbfakmpaa", sum := "327efc2d9fff30499a4fd61fd2d0134b86bec18a9ed332b64227734a4e98fbe3", checked := Try.checked }
namespace Rows
def none {H : Type} : Left H := { results := [], args := [] }

/-- 'paydesklaw13.QueueRight': WHATEVER THE INPUT: true; the input reads as it did. -/
def queueRightSpec : ChangeSpec := { name := "queueRight", fn := fun _ => fun
  | [d1, d2, d3] => { results := [.lit (.bool true)], args := [d1, d2, d3] }
  | _ => none }
def queueRightRow : OpenClaim := { program := "ythglkecbfakmpaa", sum := "327efc2d9fff30499a4fd61fd2d0134b86bec18a9ed332b64227734a4e98fbe3", func := "paydesk/paydesklaw13.QueueRight", spec := "queueRight", apart := false }
def QueueRightSaid : Prop := queueRightRow.holds Try.pinned (OpenSpec.ofChange queueRightSpec)

/-- ITS FALSE NEIGHBOUR: 'it returns false'. Refute it at one input. -/
def queueRightWrong : ChangeSpec := { name := "queueRight", fn := fun _ => fun
  | [d1, d2, d3] => { results := [.lit (.bool false)], args := [d1, d2, d3] }
  | _ => none }
def QueueRightWrongFalsely : Prop := queueRightRow.holds Try.pinned (OpenSpec.ofChange queueRightWrong)

/-- 'paydesklaw13.QueueRow': WHATEVER THE INPUT: true; the input reads as it did. -/
def queueRowSpec : ChangeSpec := { name := "queueRow", fn := fun _ => fun
  | [d1, d2] => { results := [.lit (.bool true)], args := [d1, d2] }
  | _ => none }
def queueRowRow : OpenClaim := { program := "ythglkecbfakmpaa", sum := "327efc2d9fff30499a4fd61fd2d0134b86bec18a9ed332b64227734a4e98fbe3", func := "paydesk/paydesklaw13.QueueRow", spec := "queueRow", apart := false }
def QueueRowSaid : Prop := queueRowRow.holds Try.pinned (OpenSpec.ofChange queueRowSpec)

/-- ITS FALSE NEIGHBOUR: 'it returns false'. Refute it at one input. -/
def queueRowWrong : ChangeSpec := { name := "queueRow", fn := fun _ => fun
  | [d1, d2] => { results := [.lit (.bool false)], args := [d1, d2] }
  | _ => none }
def QueueRowWrongFalsely : Prop := queueRowRow.holds Try.pinned (OpenSpec.ofChange queueRowWrong)

/-- 'paydesklaw19.WireRight': WHATEVER THE INPUT: true; the input reads as it did. -/
def wireRightSpec : ChangeSpec := { name := "wireRight", fn := fun _ => fun
  | [d1, d2, d3] => { results := [.lit (.bool true)], args := [d1, d2, d3] }
  | _ => none }
def wireRightRow : OpenClaim := { program := "ythglkecbfakmpaa", sum := "327efc2d9fff30499a4fd61fd2d0134b86bec18a9ed332b64227734a4e98fbe3", func := "paydesk/paydesklaw19.WireRight", spec := "wireRight", apart := false }
def WireRightSaid : Prop := wireRightRow.holds Try.pinned (OpenSpec.ofChange wireRightSpec)

/-- ITS FALSE NEIGHBOUR: 'it returns false'. Refute it at one input. -/
def wireRightWrong : ChangeSpec := { name := "wireRight", fn := fun _ => fun
  | [d1, d2, d3] => { results := [.lit (.bool false)], args := [d1, d2, d3] }
  | _ => none }
def WireRightWrongFalsely : Prop := wireRightRow.holds Try.pinned (OpenSpec.ofChange wireRightWrong)

/-- 'paydesklaw19.WireFrames': WHATEVER THE INPUT: true; the input reads as it did. -/
def wireFramesSpec : ChangeSpec := { name := "wireFrames", fn := fun _ => fun
  | [d1, d2, d3] => { results := [.lit (.bool true)], args := [d1, d2, d3] }
  | _ => none }
def wireFramesRow : OpenClaim := { program := "ythglkecbfakmpaa", sum := "327efc2d9fff30499a4fd61fd2d0134b86bec18a9ed332b64227734a4e98fbe3", func := "paydesk/paydesklaw19.WireFrames", spec := "wireFrames", apart := false }
def WireFramesSaid : Prop := wireFramesRow.holds Try.pinned (OpenSpec.ofChange wireFramesSpec)

/-- ITS FALSE NEIGHBOUR: 'it returns false'. Refute it at one input. -/
def wireFramesWrong : ChangeSpec := { name := "wireFrames", fn := fun _ => fun
  | [d1, d2, d3] => { results := [.lit (.bool false)], args := [d1, d2, d3] }
  | _ => none }
def WireFramesWrongFalsely : Prop := wireFramesRow.holds Try.pinned (OpenSpec.ofChange wireFramesWrong)

/-- 'paydesklaw01.DigitRight': WHATEVER THE INPUT: true; the input reads as it did. -/
def digitRightSpec : ChangeSpec := { name := "digitRight", fn := fun _ => fun
  | [d1, d2, d3] => { results := [.lit (.bool true)], args := [d1, d2, d3] }
  | _ => none }
def digitRightRow : OpenClaim := { program := "ythglkecbfakmpaa", sum := "327efc2d9fff30499a4fd61fd2d0134b86bec18a9ed332b64227734a4e98fbe3", func := "paydesk/paydesklaw01.DigitRight", spec := "digitRight", unfollowed := true, recurses := true, apart := false }
def DigitRightSaid : Prop := digitRightRow.holds Try.pinned (OpenSpec.ofChange digitRightSpec)

/-- ITS FALSE NEIGHBOUR: 'it returns false'. Refute it at one input. -/
def digitRightWrong : ChangeSpec := { name := "digitRight", fn := fun _ => fun
  | [d1, d2, d3] => { results := [.lit (.bool false)], args := [d1, d2, d3] }
  | _ => none }
def DigitRightWrongFalsely : Prop := digitRightRow.holds Try.pinned (OpenSpec.ofChange digitRightWrong)

/-- 'paydesklaw01.DigitBack': WHATEVER THE INPUT: true; the input reads as it did. -/
def digitBackSpec : ChangeSpec := { name := "digitBack", fn := fun _ => fun
  | [d1, d2, d3, d4] => { results := [.lit (.bool true)], args := [d1, d2, d3, d4] }
  | _ => none }
def digitBackRow : OpenClaim := { program := "ythglkecbfakmpaa", sum := "327efc2d9fff30499a4fd61fd2d0134b86bec18a9ed332b64227734a4e98fbe3", func := "paydesk/paydesklaw01.DigitBack", spec := "digitBack", unfollowed := true, recurses := true, apart := false }
def DigitBackSaid : Prop := digitBackRow.holds Try.pinned (OpenSpec.ofChange digitBackSpec)

/-- ITS FALSE NEIGHBOUR: 'it returns false'. Refute it at one input. -/
def digitBackWrong : ChangeSpec := { name := "digitBack", fn := fun _ => fun
  | [d1, d2, d3, d4] => { results := [.lit (.bool false)], args := [d1, d2, d3, d4] }
  | _ => none }
def DigitBackWrongFalsely : Prop := digitBackRow.holds Try.pinned (OpenSpec.ofChange digitBackWrong)

/-- 'paydesklaw01.DigitFine': WHATEVER THE INPUT: true; the input reads as it did. -/
def digitFineSpec : ChangeSpec := { name := "digitFine", fn := fun _ => fun
  | [d1, d2, d3] => { results := [.lit (.bool true)], args := [d1, d2, d3] }
  | _ => none }
def digitFineRow : OpenClaim := { program := "ythglkecbfakmpaa", sum := "327efc2d9fff30499a4fd61fd2d0134b86bec18a9ed332b64227734a4e98fbe3", func := "paydesk/paydesklaw01.DigitFine", spec := "digitFine", unfollowed := true, recurses := true, apart := false }
def DigitFineSaid : Prop := digitFineRow.holds Try.pinned (OpenSpec.ofChange digitFineSpec)

/-- ITS FALSE NEIGHBOUR: 'it returns false'. Refute it at one input. -/
def digitFineWrong : ChangeSpec := { name := "digitFine", fn := fun _ => fun
  | [d1, d2, d3] => { results := [.lit (.bool false)], args := [d1, d2, d3] }
  | _ => none }
def DigitFineWrongFalsely : Prop := digitFineRow.holds Try.pinned (OpenSpec.ofChange digitFineWrong)

/-- 'paydesklaw05.FrameRight': WHATEVER THE INPUT: true; the input reads as it did. -/
def frameRightSpec : ChangeSpec := { name := "frameRight", fn := fun _ => fun
  | [d1, d2] => { results := [.lit (.bool true)], args := [d1, d2] }
  | _ => none }
def frameRightRow : OpenClaim := { program := "ythglkecbfakmpaa", sum := "327efc2d9fff30499a4fd61fd2d0134b86bec18a9ed332b64227734a4e98fbe3", func := "paydesk/paydesklaw05.FrameRight", spec := "frameRight", apart := false }
def FrameRightSaid : Prop := frameRightRow.holds Try.pinned (OpenSpec.ofChange frameRightSpec)

/-- ITS FALSE NEIGHBOUR: 'it returns false'. Refute it at one input. -/
def frameRightWrong : ChangeSpec := { name := "frameRight", fn := fun _ => fun
  | [d1, d2] => { results := [.lit (.bool false)], args := [d1, d2] }
  | _ => none }
def FrameRightWrongFalsely : Prop := frameRightRow.holds Try.pinned (OpenSpec.ofChange frameRightWrong)

/-- 'paydesklaw05.FrameParts': WHATEVER THE INPUT: true; the input reads as it did. -/
def framePartsSpec : ChangeSpec := { name := "frameParts", fn := fun _ => fun
  | [d1, d2] => { results := [.lit (.bool true)], args := [d1, d2] }
  | _ => none }
def framePartsRow : OpenClaim := { program := "ythglkecbfakmpaa", sum := "327efc2d9fff30499a4fd61fd2d0134b86bec18a9ed332b64227734a4e98fbe3", func := "paydesk/paydesklaw05.FrameParts", spec := "frameParts", apart := false }
def FramePartsSaid : Prop := framePartsRow.holds Try.pinned (OpenSpec.ofChange framePartsSpec)

/-- ITS FALSE NEIGHBOUR: 'it returns false'. Refute it at one input. -/
def framePartsWrong : ChangeSpec := { name := "frameParts", fn := fun _ => fun
  | [d1, d2] => { results := [.lit (.bool false)], args := [d1, d2] }
  | _ => none }
def FramePartsWrongFalsely : Prop := framePartsRow.holds Try.pinned (OpenSpec.ofChange framePartsWrong)

/-- 'paydesklaw05.FrameFeeds': WHATEVER THE INPUT: true; the input reads as it did. -/
def frameFeedsSpec : ChangeSpec := { name := "frameFeeds", fn := fun _ => fun
  | [d1, d2, d3] => { results := [.lit (.bool true)], args := [d1, d2, d3] }
  | _ => none }
def frameFeedsRow : OpenClaim := { program := "ythglkecbfakmpaa", sum := "327efc2d9fff30499a4fd61fd2d0134b86bec18a9ed332b64227734a4e98fbe3", func := "paydesk/paydesklaw05.FrameFeeds", spec := "frameFeeds", apart := false }
def FrameFeedsSaid : Prop := frameFeedsRow.holds Try.pinned (OpenSpec.ofChange frameFeedsSpec)

/-- ITS FALSE NEIGHBOUR: 'it returns false'. Refute it at one input. -/
def frameFeedsWrong : ChangeSpec := { name := "frameFeeds", fn := fun _ => fun
  | [d1, d2, d3] => { results := [.lit (.bool false)], args := [d1, d2, d3] }
  | _ => none }
def FrameFeedsWrongFalsely : Prop := frameFeedsRow.holds Try.pinned (OpenSpec.ofChange frameFeedsWrong)

/-- 'paydesklaw02.BitmapRight': WHATEVER THE INPUT: true; the input reads as it did. -/
def bitmapRightSpec : ChangeSpec := { name := "bitmapRight", fn := fun _ => fun
  | [d1, d2, d3, d4] => { results := [.lit (.bool true)], args := [d1, d2, d3, d4] }
  | _ => none }
def bitmapRightRow : OpenClaim := { program := "ythglkecbfakmpaa", sum := "327efc2d9fff30499a4fd61fd2d0134b86bec18a9ed332b64227734a4e98fbe3", func := "paydesk/paydesklaw02.BitmapRight", spec := "bitmapRight", apart := false }
def BitmapRightSaid : Prop := bitmapRightRow.holds Try.pinned (OpenSpec.ofChange bitmapRightSpec)

/-- ITS FALSE NEIGHBOUR: 'it returns false'. Refute it at one input. -/
def bitmapRightWrong : ChangeSpec := { name := "bitmapRight", fn := fun _ => fun
  | [d1, d2, d3, d4] => { results := [.lit (.bool false)], args := [d1, d2, d3, d4] }
  | _ => none }
def BitmapRightWrongFalsely : Prop := bitmapRightRow.holds Try.pinned (OpenSpec.ofChange bitmapRightWrong)

/-- 'paydesklaw02.BitmapBack': WHATEVER THE INPUT: true; the input reads as it did. -/
def bitmapBackSpec : ChangeSpec := { name := "bitmapBack", fn := fun _ => fun
  | [d1, d2, d3] => { results := [.lit (.bool true)], args := [d1, d2, d3] }
  | _ => none }
def bitmapBackRow : OpenClaim := { program := "ythglkecbfakmpaa", sum := "327efc2d9fff30499a4fd61fd2d0134b86bec18a9ed332b64227734a4e98fbe3", func := "paydesk/paydesklaw02.BitmapBack", spec := "bitmapBack", apart := false }
def BitmapBackSaid : Prop := bitmapBackRow.holds Try.pinned (OpenSpec.ofChange bitmapBackSpec)

/-- ITS FALSE NEIGHBOUR: 'it returns false'. Refute it at one input. -/
def bitmapBackWrong : ChangeSpec := { name := "bitmapBack", fn := fun _ => fun
  | [d1, d2, d3] => { results := [.lit (.bool false)], args := [d1, d2, d3] }
  | _ => none }
def BitmapBackWrongFalsely : Prop := bitmapBackRow.holds Try.pinned (OpenSpec.ofChange bitmapBackWrong)

/-- 'paydesklaw02.BitmapPuts': WHATEVER THE INPUT: true; the input reads as it did. -/
def bitmapPutsSpec : ChangeSpec := { name := "bitmapPuts", fn := fun _ => fun
  | [d1, d2, d3, d4] => { results := [.lit (.bool true)], args := [d1, d2, d3, d4] }
  | _ => none }
def bitmapPutsRow : OpenClaim := { program := "ythglkecbfakmpaa", sum := "327efc2d9fff30499a4fd61fd2d0134b86bec18a9ed332b64227734a4e98fbe3", func := "paydesk/paydesklaw02.BitmapPuts", spec := "bitmapPuts", apart := false }
def BitmapPutsSaid : Prop := bitmapPutsRow.holds Try.pinned (OpenSpec.ofChange bitmapPutsSpec)

/-- ITS FALSE NEIGHBOUR: 'it returns false'. Refute it at one input. -/
def bitmapPutsWrong : ChangeSpec := { name := "bitmapPuts", fn := fun _ => fun
  | [d1, d2, d3, d4] => { results := [.lit (.bool false)], args := [d1, d2, d3, d4] }
  | _ => none }
def BitmapPutsWrongFalsely : Prop := bitmapPutsRow.holds Try.pinned (OpenSpec.ofChange bitmapPutsWrong)

/- THE SECOND FORM. 'bulk': how many values and letters a reading holds, each counted each time it is reached (what is shared counts as often as it is met; a slice's spare places count too). A statement '..UptoSaid' is the law's where the arguments, and the package variables that the reading takes, are together of bulk at most 1048576: NARROWER than '..Said'. Prove '..Said' where nothing that the law and all that it calls make is longer than what came in: it says more and counts as full. Else prove '..UptoSaid'. A law counts once. -/
mutual
def uptoBulk {H : Type} : DataW H → Nat
  | .lit (.string bytes) => bytes.length + 1
  | .lit _ => 1
  | .nil => 1
  | .ptr d => uptoBulk d + 1
  | .slice elems spare => uptoBulkAll elems + uptoBulkAll spare + 1
  | .agg parts => uptoBulkAll parts + 1
  | .iface _ d => uptoBulk d + 1
  | .map entries => uptoBulkEntries entries + 1
  | .held _ => 1
def uptoBulkAll {H : Type} : List (DataW H) → Nat
  | [] => 0
  | d :: r => uptoBulk d + uptoBulkAll r
def uptoBulkEntries {H : Type} : List (Lit × DataW H) → Nat
  | [] => 0
  | x :: r => uptoBulkEntry x + uptoBulkEntries r
def uptoBulkEntry {H : Type} : Lit × DataW H → Nat
  | (.string bytes, d) => bytes.length + uptoBulk d + 1
  | (_, d) => uptoBulk d + 1
 end
def uptoSmall : (H : Type) → List (DataW H) → Bool := fun _ ds => decide (uptoBulkAll ds ≤ 1048576)
def OpenSpec.upto (s : _root_.Go.ChangeSpec) : _root_.Go.OpenSpec := { _root_.Go.OpenSpec.ofChange s with cond := some uptoSmall }

/-- 'paydesklaw13.QueueRight', WHERE WHAT IT READS IS OF BULK AT MOST 1048576: true; the input reads as it did. -/
def queueRightUptoRow : OpenClaim := { program := "ythglkecbfakmpaa", sum := "327efc2d9fff30499a4fd61fd2d0134b86bec18a9ed332b64227734a4e98fbe3", func := "paydesk/paydesklaw13.QueueRight", spec := "queueRight", apart := false, narrowed := true }
def QueueRightUptoSaid : Prop := queueRightUptoRow.holds Try.pinned (OpenSpec.upto queueRightSpec)

/-- 'paydesklaw13.QueueRow', WHERE WHAT IT READS IS OF BULK AT MOST 1048576: true; the input reads as it did. -/
def queueRowUptoRow : OpenClaim := { program := "ythglkecbfakmpaa", sum := "327efc2d9fff30499a4fd61fd2d0134b86bec18a9ed332b64227734a4e98fbe3", func := "paydesk/paydesklaw13.QueueRow", spec := "queueRow", apart := false, narrowed := true }
def QueueRowUptoSaid : Prop := queueRowUptoRow.holds Try.pinned (OpenSpec.upto queueRowSpec)

/-- 'paydesklaw19.WireRight', WHERE WHAT IT READS IS OF BULK AT MOST 1048576: true; the input reads as it did. -/
def wireRightUptoRow : OpenClaim := { program := "ythglkecbfakmpaa", sum := "327efc2d9fff30499a4fd61fd2d0134b86bec18a9ed332b64227734a4e98fbe3", func := "paydesk/paydesklaw19.WireRight", spec := "wireRight", apart := false, narrowed := true }
def WireRightUptoSaid : Prop := wireRightUptoRow.holds Try.pinned (OpenSpec.upto wireRightSpec)

/-- 'paydesklaw19.WireFrames', WHERE WHAT IT READS IS OF BULK AT MOST 1048576: true; the input reads as it did. -/
def wireFramesUptoRow : OpenClaim := { program := "ythglkecbfakmpaa", sum := "327efc2d9fff30499a4fd61fd2d0134b86bec18a9ed332b64227734a4e98fbe3", func := "paydesk/paydesklaw19.WireFrames", spec := "wireFrames", apart := false, narrowed := true }
def WireFramesUptoSaid : Prop := wireFramesUptoRow.holds Try.pinned (OpenSpec.upto wireFramesSpec)

/-- 'paydesklaw01.DigitRight', WHERE WHAT IT READS IS OF BULK AT MOST 1048576: true; the input reads as it did. -/
def digitRightUptoRow : OpenClaim := { program := "ythglkecbfakmpaa", sum := "327efc2d9fff30499a4fd61fd2d0134b86bec18a9ed332b64227734a4e98fbe3", func := "paydesk/paydesklaw01.DigitRight", spec := "digitRight", unfollowed := true, recurses := true, apart := false, narrowed := true }
def DigitRightUptoSaid : Prop := digitRightUptoRow.holds Try.pinned (OpenSpec.upto digitRightSpec)

/-- 'paydesklaw01.DigitBack', WHERE WHAT IT READS IS OF BULK AT MOST 1048576: true; the input reads as it did. -/
def digitBackUptoRow : OpenClaim := { program := "ythglkecbfakmpaa", sum := "327efc2d9fff30499a4fd61fd2d0134b86bec18a9ed332b64227734a4e98fbe3", func := "paydesk/paydesklaw01.DigitBack", spec := "digitBack", unfollowed := true, recurses := true, apart := false, narrowed := true }
def DigitBackUptoSaid : Prop := digitBackUptoRow.holds Try.pinned (OpenSpec.upto digitBackSpec)

/-- 'paydesklaw01.DigitFine', WHERE WHAT IT READS IS OF BULK AT MOST 1048576: true; the input reads as it did. -/
def digitFineUptoRow : OpenClaim := { program := "ythglkecbfakmpaa", sum := "327efc2d9fff30499a4fd61fd2d0134b86bec18a9ed332b64227734a4e98fbe3", func := "paydesk/paydesklaw01.DigitFine", spec := "digitFine", unfollowed := true, recurses := true, apart := false, narrowed := true }
def DigitFineUptoSaid : Prop := digitFineUptoRow.holds Try.pinned (OpenSpec.upto digitFineSpec)

/-- 'paydesklaw05.FrameRight', WHERE WHAT IT READS IS OF BULK AT MOST 1048576: true; the input reads as it did. -/
def frameRightUptoRow : OpenClaim := { program := "ythglkecbfakmpaa", sum := "327efc2d9fff30499a4fd61fd2d0134b86bec18a9ed332b64227734a4e98fbe3", func := "paydesk/paydesklaw05.FrameRight", spec := "frameRight", apart := false, narrowed := true }
def FrameRightUptoSaid : Prop := frameRightUptoRow.holds Try.pinned (OpenSpec.upto frameRightSpec)

/-- 'paydesklaw05.FrameParts', WHERE WHAT IT READS IS OF BULK AT MOST 1048576: true; the input reads as it did. -/
def framePartsUptoRow : OpenClaim := { program := "ythglkecbfakmpaa", sum := "327efc2d9fff30499a4fd61fd2d0134b86bec18a9ed332b64227734a4e98fbe3", func := "paydesk/paydesklaw05.FrameParts", spec := "frameParts", apart := false, narrowed := true }
def FramePartsUptoSaid : Prop := framePartsUptoRow.holds Try.pinned (OpenSpec.upto framePartsSpec)

/-- 'paydesklaw05.FrameFeeds', WHERE WHAT IT READS IS OF BULK AT MOST 1048576: true; the input reads as it did. -/
def frameFeedsUptoRow : OpenClaim := { program := "ythglkecbfakmpaa", sum := "327efc2d9fff30499a4fd61fd2d0134b86bec18a9ed332b64227734a4e98fbe3", func := "paydesk/paydesklaw05.FrameFeeds", spec := "frameFeeds", apart := false, narrowed := true }
def FrameFeedsUptoSaid : Prop := frameFeedsUptoRow.holds Try.pinned (OpenSpec.upto frameFeedsSpec)

/-- 'paydesklaw02.BitmapRight', WHERE WHAT IT READS IS OF BULK AT MOST 1048576: true; the input reads as it did. -/
def bitmapRightUptoRow : OpenClaim := { program := "ythglkecbfakmpaa", sum := "327efc2d9fff30499a4fd61fd2d0134b86bec18a9ed332b64227734a4e98fbe3", func := "paydesk/paydesklaw02.BitmapRight", spec := "bitmapRight", apart := false, narrowed := true }
def BitmapRightUptoSaid : Prop := bitmapRightUptoRow.holds Try.pinned (OpenSpec.upto bitmapRightSpec)

/-- 'paydesklaw02.BitmapBack', WHERE WHAT IT READS IS OF BULK AT MOST 1048576: true; the input reads as it did. -/
def bitmapBackUptoRow : OpenClaim := { program := "ythglkecbfakmpaa", sum := "327efc2d9fff30499a4fd61fd2d0134b86bec18a9ed332b64227734a4e98fbe3", func := "paydesk/paydesklaw02.BitmapBack", spec := "bitmapBack", apart := false, narrowed := true }
def BitmapBackUptoSaid : Prop := bitmapBackUptoRow.holds Try.pinned (OpenSpec.upto bitmapBackSpec)

/-- 'paydesklaw02.BitmapPuts', WHERE WHAT IT READS IS OF BULK AT MOST 1048576: true; the input reads as it did. -/
def bitmapPutsUptoRow : OpenClaim := { program := "ythglkecbfakmpaa", sum := "327efc2d9fff30499a4fd61fd2d0134b86bec18a9ed332b64227734a4e98fbe3", func := "paydesk/paydesklaw02.BitmapPuts", spec := "bitmapPuts", apart := false, narrowed := true }
def BitmapPutsUptoSaid : Prop := bitmapPutsUptoRow.holds Try.pinned (OpenSpec.upto bitmapPutsSpec)

end Rows
end Go.Proofs.Ythglkecbfakmpaa
