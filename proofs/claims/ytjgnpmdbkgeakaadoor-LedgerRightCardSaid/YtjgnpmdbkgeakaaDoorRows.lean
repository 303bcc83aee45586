/-
  NARROWER THAN 'FOR EVERY INPUT', by the rows' own cells (each row's printed sentence says how): KeyRight: laid · KeyOrder: laid · KeyShards: laid · DealRight: laid · DealBack: laid · CoreRight: laid · CoreSteps: laid · CoreOnce: laid · CoreRests: laid · ShardRight: laid · ShardSwaps: laid · LedgerRight: laid · LedgerOnce: laid · LedgerTwice: laid · DealBytes: laid · LineRight: laid · LineParts: laid · LineEvents: laid · PostBack: laid · TraceOthers: laid.
  DERIVED. THE GIVEN ROWS OF THIS SEAT. 20 by the template 'for every input the law returns true; each argument reads behind the call as it read before'; 0 by the template 'total and deterministic' (their statements: YtjgnpmdbkgeakaaDoorTotals.lean).
  GIVEN WITH THE SEED: the statements are not yours to turn. If you find one false, say at which input.
  Laid BY PROGRAM, IN A SANDBOX (cutbox-rows.mjs): the forced cells as the released guide's own fill.sh prints them over the translation b23ad6ec34e41cf2… (all of the seat's roots in one cut). By AI agents, Wed Nov 11 2026. No macro, syntax, notation, axiom, sorry.
-/
import Derived.Test.YtjgnpmdbkgeakaaDoorChecked
import GoSem.Claim
import GoSem.ClaimJoined
import GoSem.ClaimMapViews
import Derived.JoinedTies
import Derived.KernelRfl
namespace Go.Proofs.YtjgnpmdbkgeakaaDoor
/- THE CELL 'sum', in the pinned program and in every row, IS THE sha256 OF THE DUMP (.gsa) THAT YtjgnpmdbkgeakaaDoorProg.lean LOADS. Nothing in Lean hashes anything: it is a label: what it is worth is what the hold of that sum in a sandbox is worth. -/
noncomputable def Tryd.pinned : Pinned := { name := "ytjgnpmdbkgeakaadoor", sum := "b23ad6ec34e41cf2a721f22ae30df8e850cd852a9cc3423e71504db5a05de60d", checked := Tryd.checked }
namespace Rows
def none {H : Type} : Left H := { results := [], args := [] }

/- WHAT THE LISTED PACKAGE-LEVEL VARIABLES READ AS WHEN THE CALL BEGINS. Each datum BY PROGRAM (the guide's laid-datum.mjs) off the statement by which the dump's own 'gosem.cut.vars' lays the variable. In a bare row this is a premise. The card (YtjgnpmdbkgeakaaDoorCards.lean) ties it to the program's text. -/
def laid_paydesk_deal_types {H : Type} : DataW H := .agg [.lit (.string []), .lit (.string [48, 49, 48, 48]), .lit (.string [48, 49, 49, 48]), .lit (.string [48, 52, 48, 48]), .lit (.string [48, 52, 49, 48]), .lit (.string [48, 52, 50, 48]), .lit (.string [48, 52, 50, 49]), .lit (.string [48, 52, 51, 48])]

/-- 'paydesklaw07.KeyRight': WHATEVER THE INPUT: true; the input reads as it did. -/
def keyRightSpec : ChangeSpec := { name := "keyRight", fn := fun _ => fun
  | [d1, d2, d3, d4] => { results := [.lit (.bool true)], args := [d1, d2, d3, d4] }
  | _ => none }
def keyRightRow : OpenClaim := { program := "ytjgnpmdbkgeakaadoor", sum := "b23ad6ec34e41cf2a721f22ae30df8e850cd852a9cc3423e71504db5a05de60d", func := "paydesk/paydesklaw07.KeyRight", spec := "keyRight", unfollowed := true, recurses := true, named := ["paydesk/deal.types"], apart := false, laid := [("paydesk/deal.types", laid_paydesk_deal_types)] }
def KeyRightSaid : Prop := keyRightRow.holds Tryd.pinned (OpenSpec.ofChange keyRightSpec)

/-- ITS FALSE NEIGHBOUR: 'it returns false'. Refute it at one input. -/
def keyRightWrong : ChangeSpec := { name := "keyRight", fn := fun _ => fun
  | [d1, d2, d3, d4] => { results := [.lit (.bool false)], args := [d1, d2, d3, d4] }
  | _ => none }
def KeyRightWrongFalsely : Prop := keyRightRow.holds Tryd.pinned (OpenSpec.ofChange keyRightWrong)

/-- 'paydesklaw07.KeyOrder': WHATEVER THE INPUT: true; the input reads as it did. -/
def keyOrderSpec : ChangeSpec := { name := "keyOrder", fn := fun _ => fun
  | [d1, d2, d3] => { results := [.lit (.bool true)], args := [d1, d2, d3] }
  | _ => none }
def keyOrderRow : OpenClaim := { program := "ytjgnpmdbkgeakaadoor", sum := "b23ad6ec34e41cf2a721f22ae30df8e850cd852a9cc3423e71504db5a05de60d", func := "paydesk/paydesklaw07.KeyOrder", spec := "keyOrder", unfollowed := true, recurses := true, named := ["paydesk/deal.types"], apart := false, laid := [("paydesk/deal.types", laid_paydesk_deal_types)] }
def KeyOrderSaid : Prop := keyOrderRow.holds Tryd.pinned (OpenSpec.ofChange keyOrderSpec)

/-- ITS FALSE NEIGHBOUR: 'it returns false'. Refute it at one input. -/
def keyOrderWrong : ChangeSpec := { name := "keyOrder", fn := fun _ => fun
  | [d1, d2, d3] => { results := [.lit (.bool false)], args := [d1, d2, d3] }
  | _ => none }
def KeyOrderWrongFalsely : Prop := keyOrderRow.holds Tryd.pinned (OpenSpec.ofChange keyOrderWrong)

/-- 'paydesklaw07.KeyShards': WHATEVER THE INPUT: true; the input reads as it did. -/
def keyShardsSpec : ChangeSpec := { name := "keyShards", fn := fun _ => fun
  | [d1, d2, d3] => { results := [.lit (.bool true)], args := [d1, d2, d3] }
  | _ => none }
def keyShardsRow : OpenClaim := { program := "ytjgnpmdbkgeakaadoor", sum := "b23ad6ec34e41cf2a721f22ae30df8e850cd852a9cc3423e71504db5a05de60d", func := "paydesk/paydesklaw07.KeyShards", spec := "keyShards", unfollowed := true, recurses := true, named := ["paydesk/deal.types"], apart := false, laid := [("paydesk/deal.types", laid_paydesk_deal_types)] }
def KeyShardsSaid : Prop := keyShardsRow.holds Tryd.pinned (OpenSpec.ofChange keyShardsSpec)

/-- ITS FALSE NEIGHBOUR: 'it returns false'. Refute it at one input. -/
def keyShardsWrong : ChangeSpec := { name := "keyShards", fn := fun _ => fun
  | [d1, d2, d3] => { results := [.lit (.bool false)], args := [d1, d2, d3] }
  | _ => none }
def KeyShardsWrongFalsely : Prop := keyShardsRow.holds Tryd.pinned (OpenSpec.ofChange keyShardsWrong)

/-- 'paydesklaw06.DealRight': WHATEVER THE INPUT: true; the input reads as it did. -/
def dealRightSpec : ChangeSpec := { name := "dealRight", fn := fun _ => fun
  | [d1, d2, d3] => { results := [.lit (.bool true)], args := [d1, d2, d3] }
  | _ => none }
def dealRightRow : OpenClaim := { program := "ytjgnpmdbkgeakaadoor", sum := "b23ad6ec34e41cf2a721f22ae30df8e850cd852a9cc3423e71504db5a05de60d", func := "paydesk/paydesklaw06.DealRight", spec := "dealRight", unfollowed := true, recurses := true, named := ["paydesk/deal.types"], apart := false, laid := [("paydesk/deal.types", laid_paydesk_deal_types)] }
def DealRightSaid : Prop := dealRightRow.holds Tryd.pinned (OpenSpec.ofChange dealRightSpec)

/-- ITS FALSE NEIGHBOUR: 'it returns false'. Refute it at one input. -/
def dealRightWrong : ChangeSpec := { name := "dealRight", fn := fun _ => fun
  | [d1, d2, d3] => { results := [.lit (.bool false)], args := [d1, d2, d3] }
  | _ => none }
def DealRightWrongFalsely : Prop := dealRightRow.holds Tryd.pinned (OpenSpec.ofChange dealRightWrong)

/-- 'paydesklaw06.DealBack': WHATEVER THE INPUT: true; the input reads as it did. -/
def dealBackSpec : ChangeSpec := { name := "dealBack", fn := fun _ => fun
  | [d1, d2, d3] => { results := [.lit (.bool true)], args := [d1, d2, d3] }
  | _ => none }
def dealBackRow : OpenClaim := { program := "ytjgnpmdbkgeakaadoor", sum := "b23ad6ec34e41cf2a721f22ae30df8e850cd852a9cc3423e71504db5a05de60d", func := "paydesk/paydesklaw06.DealBack", spec := "dealBack", unfollowed := true, recurses := true, named := ["paydesk/deal.types"], apart := false, laid := [("paydesk/deal.types", laid_paydesk_deal_types)] }
def DealBackSaid : Prop := dealBackRow.holds Tryd.pinned (OpenSpec.ofChange dealBackSpec)

/-- ITS FALSE NEIGHBOUR: 'it returns false'. Refute it at one input. -/
def dealBackWrong : ChangeSpec := { name := "dealBack", fn := fun _ => fun
  | [d1, d2, d3] => { results := [.lit (.bool false)], args := [d1, d2, d3] }
  | _ => none }
def DealBackWrongFalsely : Prop := dealBackRow.holds Tryd.pinned (OpenSpec.ofChange dealBackWrong)

/-- 'paydesklaw12.CoreRight': WHATEVER THE INPUT: true; the input reads as it did. -/
def coreRightSpec : ChangeSpec := { name := "coreRight", fn := fun _ => fun
  | [d1, d2, d3, d4] => { results := [.lit (.bool true)], args := [d1, d2, d3, d4] }
  | _ => none }
def coreRightRow : OpenClaim := { program := "ytjgnpmdbkgeakaadoor", sum := "b23ad6ec34e41cf2a721f22ae30df8e850cd852a9cc3423e71504db5a05de60d", func := "paydesk/paydesklaw12.CoreRight", spec := "coreRight", unfollowed := true, recurses := true, named := ["paydesk/deal.types"], apart := false, laid := [("paydesk/deal.types", laid_paydesk_deal_types)] }
def CoreRightSaid : Prop := coreRightRow.holds Tryd.pinned (OpenSpec.ofChange coreRightSpec)

/-- ITS FALSE NEIGHBOUR: 'it returns false'. Refute it at one input. -/
def coreRightWrong : ChangeSpec := { name := "coreRight", fn := fun _ => fun
  | [d1, d2, d3, d4] => { results := [.lit (.bool false)], args := [d1, d2, d3, d4] }
  | _ => none }
def CoreRightWrongFalsely : Prop := coreRightRow.holds Tryd.pinned (OpenSpec.ofChange coreRightWrong)

/-- 'paydesklaw12.CoreSteps': WHATEVER THE INPUT: true; the input reads as it did. -/
def coreStepsSpec : ChangeSpec := { name := "coreSteps", fn := fun _ => fun
  | [d1, d2, d3] => { results := [.lit (.bool true)], args := [d1, d2, d3] }
  | _ => none }
def coreStepsRow : OpenClaim := { program := "ytjgnpmdbkgeakaadoor", sum := "b23ad6ec34e41cf2a721f22ae30df8e850cd852a9cc3423e71504db5a05de60d", func := "paydesk/paydesklaw12.CoreSteps", spec := "coreSteps", unfollowed := true, recurses := true, named := ["paydesk/deal.types"], apart := false, laid := [("paydesk/deal.types", laid_paydesk_deal_types)] }
def CoreStepsSaid : Prop := coreStepsRow.holds Tryd.pinned (OpenSpec.ofChange coreStepsSpec)

/-- ITS FALSE NEIGHBOUR: 'it returns false'. Refute it at one input. -/
def coreStepsWrong : ChangeSpec := { name := "coreSteps", fn := fun _ => fun
  | [d1, d2, d3] => { results := [.lit (.bool false)], args := [d1, d2, d3] }
  | _ => none }
def CoreStepsWrongFalsely : Prop := coreStepsRow.holds Tryd.pinned (OpenSpec.ofChange coreStepsWrong)

/-- 'paydesklaw12.CoreOnce': WHATEVER THE INPUT: true; the input reads as it did. -/
def coreOnceSpec : ChangeSpec := { name := "coreOnce", fn := fun _ => fun
  | [d1, d2, d3] => { results := [.lit (.bool true)], args := [d1, d2, d3] }
  | _ => none }
def coreOnceRow : OpenClaim := { program := "ytjgnpmdbkgeakaadoor", sum := "b23ad6ec34e41cf2a721f22ae30df8e850cd852a9cc3423e71504db5a05de60d", func := "paydesk/paydesklaw12.CoreOnce", spec := "coreOnce", unfollowed := true, recurses := true, named := ["paydesk/deal.types"], apart := false, laid := [("paydesk/deal.types", laid_paydesk_deal_types)] }
def CoreOnceSaid : Prop := coreOnceRow.holds Tryd.pinned (OpenSpec.ofChange coreOnceSpec)

/-- ITS FALSE NEIGHBOUR: 'it returns false'. Refute it at one input. -/
def coreOnceWrong : ChangeSpec := { name := "coreOnce", fn := fun _ => fun
  | [d1, d2, d3] => { results := [.lit (.bool false)], args := [d1, d2, d3] }
  | _ => none }
def CoreOnceWrongFalsely : Prop := coreOnceRow.holds Tryd.pinned (OpenSpec.ofChange coreOnceWrong)

/-- 'paydesklaw12.CoreRests': WHATEVER THE INPUT: true; the input reads as it did. -/
def coreRestsSpec : ChangeSpec := { name := "coreRests", fn := fun _ => fun
  | [d1, d2, d3] => { results := [.lit (.bool true)], args := [d1, d2, d3] }
  | _ => none }
def coreRestsRow : OpenClaim := { program := "ytjgnpmdbkgeakaadoor", sum := "b23ad6ec34e41cf2a721f22ae30df8e850cd852a9cc3423e71504db5a05de60d", func := "paydesk/paydesklaw12.CoreRests", spec := "coreRests", unfollowed := true, recurses := true, named := ["paydesk/deal.types"], apart := false, laid := [("paydesk/deal.types", laid_paydesk_deal_types)] }
def CoreRestsSaid : Prop := coreRestsRow.holds Tryd.pinned (OpenSpec.ofChange coreRestsSpec)

/-- ITS FALSE NEIGHBOUR: 'it returns false'. Refute it at one input. -/
def coreRestsWrong : ChangeSpec := { name := "coreRests", fn := fun _ => fun
  | [d1, d2, d3] => { results := [.lit (.bool false)], args := [d1, d2, d3] }
  | _ => none }
def CoreRestsWrongFalsely : Prop := coreRestsRow.holds Tryd.pinned (OpenSpec.ofChange coreRestsWrong)

/-- 'paydesklaw10.ShardRight': WHATEVER THE INPUT: true; the input reads as it did. -/
def shardRightSpec : ChangeSpec := { name := "shardRight", fn := fun _ => fun
  | [d1, d2, d3, d4] => { results := [.lit (.bool true)], args := [d1, d2, d3, d4] }
  | _ => none }
def shardRightRow : OpenClaim := { program := "ytjgnpmdbkgeakaadoor", sum := "b23ad6ec34e41cf2a721f22ae30df8e850cd852a9cc3423e71504db5a05de60d", func := "paydesk/paydesklaw10.ShardRight", spec := "shardRight", inPlace := ["slices.overlaps[paydesk/api.Entry]"], unfollowed := true, recurses := true, named := ["paydesk/deal.types"], apart := false, laid := [("paydesk/deal.types", laid_paydesk_deal_types)] }
def ShardRightSaid : Prop := shardRightRow.holds Tryd.pinned (OpenSpec.ofChange shardRightSpec)

/-- ITS FALSE NEIGHBOUR: 'it returns false'. Refute it at one input. -/
def shardRightWrong : ChangeSpec := { name := "shardRight", fn := fun _ => fun
  | [d1, d2, d3, d4] => { results := [.lit (.bool false)], args := [d1, d2, d3, d4] }
  | _ => none }
def ShardRightWrongFalsely : Prop := shardRightRow.holds Tryd.pinned (OpenSpec.ofChange shardRightWrong)

/-- 'paydesklaw10.ShardSwaps': WHATEVER THE INPUT: true; the input reads as it did. -/
def shardSwapsSpec : ChangeSpec := { name := "shardSwaps", fn := fun _ => fun
  | [d1, d2, d3, d4] => { results := [.lit (.bool true)], args := [d1, d2, d3, d4] }
  | _ => none }
def shardSwapsRow : OpenClaim := { program := "ytjgnpmdbkgeakaadoor", sum := "b23ad6ec34e41cf2a721f22ae30df8e850cd852a9cc3423e71504db5a05de60d", func := "paydesk/paydesklaw10.ShardSwaps", spec := "shardSwaps", inPlace := ["slices.overlaps[paydesk/api.Entry]"], unfollowed := true, recurses := true, named := ["paydesk/deal.types"], apart := false, laid := [("paydesk/deal.types", laid_paydesk_deal_types)] }
def ShardSwapsSaid : Prop := shardSwapsRow.holds Tryd.pinned (OpenSpec.ofChange shardSwapsSpec)

/-- ITS FALSE NEIGHBOUR: 'it returns false'. Refute it at one input. -/
def shardSwapsWrong : ChangeSpec := { name := "shardSwaps", fn := fun _ => fun
  | [d1, d2, d3, d4] => { results := [.lit (.bool false)], args := [d1, d2, d3, d4] }
  | _ => none }
def ShardSwapsWrongFalsely : Prop := shardSwapsRow.holds Tryd.pinned (OpenSpec.ofChange shardSwapsWrong)

/-- 'paydesklaw15.LedgerRight': WHATEVER THE INPUT: true; the input reads as it did. -/
def ledgerRightSpec : ChangeSpec := { name := "ledgerRight", fn := fun _ => fun
  | [d1, d2, d3, d4] => { results := [.lit (.bool true)], args := [d1, d2, d3, d4] }
  | _ => none }
def ledgerRightRow : OpenClaim := { program := "ytjgnpmdbkgeakaadoor", sum := "b23ad6ec34e41cf2a721f22ae30df8e850cd852a9cc3423e71504db5a05de60d", func := "paydesk/paydesklaw15.LedgerRight", spec := "ledgerRight", inPlace := ["slices.overlaps[paydesk/api.Hold]"], unfollowed := true, recurses := true, named := ["paydesk/deal.types"], apart := false, laid := [("paydesk/deal.types", laid_paydesk_deal_types)] }
def LedgerRightSaid : Prop := ledgerRightRow.holds Tryd.pinned (OpenSpec.ofChange ledgerRightSpec)

/-- ITS FALSE NEIGHBOUR: 'it returns false'. Refute it at one input. -/
def ledgerRightWrong : ChangeSpec := { name := "ledgerRight", fn := fun _ => fun
  | [d1, d2, d3, d4] => { results := [.lit (.bool false)], args := [d1, d2, d3, d4] }
  | _ => none }
def LedgerRightWrongFalsely : Prop := ledgerRightRow.holds Tryd.pinned (OpenSpec.ofChange ledgerRightWrong)

/-- 'paydesklaw15.LedgerOnce': WHATEVER THE INPUT: true; the input reads as it did. -/
def ledgerOnceSpec : ChangeSpec := { name := "ledgerOnce", fn := fun _ => fun
  | [d1, d2, d3] => { results := [.lit (.bool true)], args := [d1, d2, d3] }
  | _ => none }
def ledgerOnceRow : OpenClaim := { program := "ytjgnpmdbkgeakaadoor", sum := "b23ad6ec34e41cf2a721f22ae30df8e850cd852a9cc3423e71504db5a05de60d", func := "paydesk/paydesklaw15.LedgerOnce", spec := "ledgerOnce", inPlace := ["slices.overlaps[paydesk/api.Hold]"], unfollowed := true, recurses := true, named := ["paydesk/deal.types"], apart := false, laid := [("paydesk/deal.types", laid_paydesk_deal_types)] }
def LedgerOnceSaid : Prop := ledgerOnceRow.holds Tryd.pinned (OpenSpec.ofChange ledgerOnceSpec)

/-- ITS FALSE NEIGHBOUR: 'it returns false'. Refute it at one input. -/
def ledgerOnceWrong : ChangeSpec := { name := "ledgerOnce", fn := fun _ => fun
  | [d1, d2, d3] => { results := [.lit (.bool false)], args := [d1, d2, d3] }
  | _ => none }
def LedgerOnceWrongFalsely : Prop := ledgerOnceRow.holds Tryd.pinned (OpenSpec.ofChange ledgerOnceWrong)

/-- 'paydesklaw15.LedgerTwice': WHATEVER THE INPUT: true; the input reads as it did. -/
def ledgerTwiceSpec : ChangeSpec := { name := "ledgerTwice", fn := fun _ => fun
  | [d1, d2, d3, d4] => { results := [.lit (.bool true)], args := [d1, d2, d3, d4] }
  | _ => none }
def ledgerTwiceRow : OpenClaim := { program := "ytjgnpmdbkgeakaadoor", sum := "b23ad6ec34e41cf2a721f22ae30df8e850cd852a9cc3423e71504db5a05de60d", func := "paydesk/paydesklaw15.LedgerTwice", spec := "ledgerTwice", inPlace := ["slices.overlaps[paydesk/api.Hold]"], unfollowed := true, recurses := true, named := ["paydesk/deal.types"], apart := false, laid := [("paydesk/deal.types", laid_paydesk_deal_types)] }
def LedgerTwiceSaid : Prop := ledgerTwiceRow.holds Tryd.pinned (OpenSpec.ofChange ledgerTwiceSpec)

/-- ITS FALSE NEIGHBOUR: 'it returns false'. Refute it at one input. -/
def ledgerTwiceWrong : ChangeSpec := { name := "ledgerTwice", fn := fun _ => fun
  | [d1, d2, d3, d4] => { results := [.lit (.bool false)], args := [d1, d2, d3, d4] }
  | _ => none }
def LedgerTwiceWrongFalsely : Prop := ledgerTwiceRow.holds Tryd.pinned (OpenSpec.ofChange ledgerTwiceWrong)

/-- 'paydesklaw06.DealBytes': WHATEVER THE INPUT: true; the input reads as it did. -/
def dealBytesSpec : ChangeSpec := { name := "dealBytes", fn := fun _ => fun
  | [d1, d2, d3] => { results := [.lit (.bool true)], args := [d1, d2, d3] }
  | _ => none }
def dealBytesRow : OpenClaim := { program := "ytjgnpmdbkgeakaadoor", sum := "b23ad6ec34e41cf2a721f22ae30df8e850cd852a9cc3423e71504db5a05de60d", func := "paydesk/paydesklaw06.DealBytes", spec := "dealBytes", unfollowed := true, recurses := true, named := ["paydesk/deal.types"], apart := false, laid := [("paydesk/deal.types", laid_paydesk_deal_types)] }
def DealBytesSaid : Prop := dealBytesRow.holds Tryd.pinned (OpenSpec.ofChange dealBytesSpec)

/-- ITS FALSE NEIGHBOUR: 'it returns false'. Refute it at one input. -/
def dealBytesWrong : ChangeSpec := { name := "dealBytes", fn := fun _ => fun
  | [d1, d2, d3] => { results := [.lit (.bool false)], args := [d1, d2, d3] }
  | _ => none }
def DealBytesWrongFalsely : Prop := dealBytesRow.holds Tryd.pinned (OpenSpec.ofChange dealBytesWrong)

/-- 'paydesklaw14.LineRight': WHATEVER THE INPUT: true; the input reads as it did. -/
def lineRightSpec : ChangeSpec := { name := "lineRight", fn := fun _ => fun
  | [d1, d2, d3] => { results := [.lit (.bool true)], args := [d1, d2, d3] }
  | _ => none }
def lineRightRow : OpenClaim := { program := "ytjgnpmdbkgeakaadoor", sum := "b23ad6ec34e41cf2a721f22ae30df8e850cd852a9cc3423e71504db5a05de60d", func := "paydesk/paydesklaw14.LineRight", spec := "lineRight", unfollowed := true, recurses := true, named := ["paydesk/deal.types"], apart := false, laid := [("paydesk/deal.types", laid_paydesk_deal_types)] }
def LineRightSaid : Prop := lineRightRow.holds Tryd.pinned (OpenSpec.ofChange lineRightSpec)

/-- ITS FALSE NEIGHBOUR: 'it returns false'. Refute it at one input. -/
def lineRightWrong : ChangeSpec := { name := "lineRight", fn := fun _ => fun
  | [d1, d2, d3] => { results := [.lit (.bool false)], args := [d1, d2, d3] }
  | _ => none }
def LineRightWrongFalsely : Prop := lineRightRow.holds Tryd.pinned (OpenSpec.ofChange lineRightWrong)

/-- 'paydesklaw14.LineParts': WHATEVER THE INPUT: true; the input reads as it did. -/
def linePartsSpec : ChangeSpec := { name := "lineParts", fn := fun _ => fun
  | [d1, d2, d3] => { results := [.lit (.bool true)], args := [d1, d2, d3] }
  | _ => none }
def linePartsRow : OpenClaim := { program := "ytjgnpmdbkgeakaadoor", sum := "b23ad6ec34e41cf2a721f22ae30df8e850cd852a9cc3423e71504db5a05de60d", func := "paydesk/paydesklaw14.LineParts", spec := "lineParts", unfollowed := true, recurses := true, named := ["paydesk/deal.types"], apart := false, laid := [("paydesk/deal.types", laid_paydesk_deal_types)] }
def LinePartsSaid : Prop := linePartsRow.holds Tryd.pinned (OpenSpec.ofChange linePartsSpec)

/-- ITS FALSE NEIGHBOUR: 'it returns false'. Refute it at one input. -/
def linePartsWrong : ChangeSpec := { name := "lineParts", fn := fun _ => fun
  | [d1, d2, d3] => { results := [.lit (.bool false)], args := [d1, d2, d3] }
  | _ => none }
def LinePartsWrongFalsely : Prop := linePartsRow.holds Tryd.pinned (OpenSpec.ofChange linePartsWrong)

/-- 'paydesklaw14.LineEvents': WHATEVER THE INPUT: true; the input reads as it did. -/
def lineEventsSpec : ChangeSpec := { name := "lineEvents", fn := fun _ => fun
  | [d1, d2] => { results := [.lit (.bool true)], args := [d1, d2] }
  | _ => none }
def lineEventsRow : OpenClaim := { program := "ytjgnpmdbkgeakaadoor", sum := "b23ad6ec34e41cf2a721f22ae30df8e850cd852a9cc3423e71504db5a05de60d", func := "paydesk/paydesklaw14.LineEvents", spec := "lineEvents", unfollowed := true, recurses := true, named := ["paydesk/deal.types"], apart := false, laid := [("paydesk/deal.types", laid_paydesk_deal_types)] }
def LineEventsSaid : Prop := lineEventsRow.holds Tryd.pinned (OpenSpec.ofChange lineEventsSpec)

/-- ITS FALSE NEIGHBOUR: 'it returns false'. Refute it at one input. -/
def lineEventsWrong : ChangeSpec := { name := "lineEvents", fn := fun _ => fun
  | [d1, d2] => { results := [.lit (.bool false)], args := [d1, d2] }
  | _ => none }
def LineEventsWrongFalsely : Prop := lineEventsRow.holds Tryd.pinned (OpenSpec.ofChange lineEventsWrong)

/-- 'paydesklaw17.PostBack': WHATEVER THE INPUT: true; the input reads as it did. -/
def postBackSpec : ChangeSpec := { name := "postBack", fn := fun _ => fun
  | [d1, d2, d3, d4] => { results := [.lit (.bool true)], args := [d1, d2, d3, d4] }
  | _ => none }
def postBackRow : OpenClaim := { program := "ytjgnpmdbkgeakaadoor", sum := "b23ad6ec34e41cf2a721f22ae30df8e850cd852a9cc3423e71504db5a05de60d", func := "paydesk/paydesklaw17.PostBack", spec := "postBack", unfollowed := true, recurses := true, named := ["paydesk/deal.types"], apart := false, laid := [("paydesk/deal.types", laid_paydesk_deal_types)] }
def PostBackSaid : Prop := postBackRow.holds Tryd.pinned (OpenSpec.ofChange postBackSpec)

/-- ITS FALSE NEIGHBOUR: 'it returns false'. Refute it at one input. -/
def postBackWrong : ChangeSpec := { name := "postBack", fn := fun _ => fun
  | [d1, d2, d3, d4] => { results := [.lit (.bool false)], args := [d1, d2, d3, d4] }
  | _ => none }
def PostBackWrongFalsely : Prop := postBackRow.holds Tryd.pinned (OpenSpec.ofChange postBackWrong)

/-- 'paydesklaw21.TraceOthers': WHATEVER THE INPUT: true; the input reads as it did. -/
def traceOthersSpec : ChangeSpec := { name := "traceOthers", fn := fun _ => fun
  | [d1, d2, d3, d4, d5] => { results := [.lit (.bool true)], args := [d1, d2, d3, d4, d5] }
  | _ => none }
def traceOthersRow : OpenClaim := { program := "ytjgnpmdbkgeakaadoor", sum := "b23ad6ec34e41cf2a721f22ae30df8e850cd852a9cc3423e71504db5a05de60d", func := "paydesk/paydesklaw21.TraceOthers", spec := "traceOthers", unfollowed := true, recurses := true, named := ["paydesk/deal.types"], apart := false, laid := [("paydesk/deal.types", laid_paydesk_deal_types)] }
def TraceOthersSaid : Prop := traceOthersRow.holds Tryd.pinned (OpenSpec.ofChange traceOthersSpec)

/-- ITS FALSE NEIGHBOUR: 'it returns false'. Refute it at one input. -/
def traceOthersWrong : ChangeSpec := { name := "traceOthers", fn := fun _ => fun
  | [d1, d2, d3, d4, d5] => { results := [.lit (.bool false)], args := [d1, d2, d3, d4, d5] }
  | _ => none }
def TraceOthersWrongFalsely : Prop := traceOthersRow.holds Tryd.pinned (OpenSpec.ofChange traceOthersWrong)

/- THE SECOND FORM. 'bulk': how many values and letters a reading holds, each counted each time it is reached (what is shared counts as often as it is met; a slice's spare places count too). A statement '..UptoSaid' is the law's where the arguments, and the package variables that the reading takes, are together of bulk at most 1048576: NARROWER than '..Said'. Prove '..Said' where nothing that the law and all that it calls make is longer than what came in: it says more and counts as full. Else prove '..UptoSaid'. A law counts once. -/
mutual
def uptoBulk {H : Type} : DataW H → Nat
  | .lit (.string bytes) => bytes.length + 1
  | .lit _ => 1
  | .nil => 1
  | .ptr d => uptoBulk d + 1
  | .slice elems spare => uptoBulkAll elems + uptoBulkAll spare + 1
  | .agg parts => uptoBulkAll parts + 1
  | .iface _ d => uptoBulk d + 1
  | .map entries => uptoBulkEntries entries + 1
  | .held _ => 1
def uptoBulkAll {H : Type} : List (DataW H) → Nat
  | [] => 0
  | d :: r => uptoBulk d + uptoBulkAll r
def uptoBulkEntries {H : Type} : List (Lit × DataW H) → Nat
  | [] => 0
  | x :: r => uptoBulkEntry x + uptoBulkEntries r
def uptoBulkEntry {H : Type} : Lit × DataW H → Nat
  | (.string bytes, d) => bytes.length + uptoBulk d + 1
  | (_, d) => uptoBulk d + 1
 end
def uptoSmall : (H : Type) → List (DataW H) → Bool := fun _ ds => decide (uptoBulkAll ds ≤ 1048576)
def OpenSpec.upto (s : _root_.Go.ChangeSpec) : _root_.Go.OpenSpec := { _root_.Go.OpenSpec.ofChange s with cond := some uptoSmall }

/-- 'paydesklaw07.KeyRight', WHERE WHAT IT READS IS OF BULK AT MOST 1048576: true; the input reads as it did. -/
def keyRightUptoRow : OpenClaim := { program := "ytjgnpmdbkgeakaadoor", sum := "b23ad6ec34e41cf2a721f22ae30df8e850cd852a9cc3423e71504db5a05de60d", func := "paydesk/paydesklaw07.KeyRight", spec := "keyRight", unfollowed := true, recurses := true, named := ["paydesk/deal.types"], apart := false, laid := [("paydesk/deal.types", laid_paydesk_deal_types)], narrowed := true }
def KeyRightUptoSaid : Prop := keyRightUptoRow.holds Tryd.pinned (OpenSpec.upto keyRightSpec)

/-- 'paydesklaw07.KeyOrder', WHERE WHAT IT READS IS OF BULK AT MOST 1048576: true; the input reads as it did. -/
def keyOrderUptoRow : OpenClaim := { program := "ytjgnpmdbkgeakaadoor", sum := "b23ad6ec34e41cf2a721f22ae30df8e850cd852a9cc3423e71504db5a05de60d", func := "paydesk/paydesklaw07.KeyOrder", spec := "keyOrder", unfollowed := true, recurses := true, named := ["paydesk/deal.types"], apart := false, laid := [("paydesk/deal.types", laid_paydesk_deal_types)], narrowed := true }
def KeyOrderUptoSaid : Prop := keyOrderUptoRow.holds Tryd.pinned (OpenSpec.upto keyOrderSpec)

/-- 'paydesklaw07.KeyShards', WHERE WHAT IT READS IS OF BULK AT MOST 1048576: true; the input reads as it did. -/
def keyShardsUptoRow : OpenClaim := { program := "ytjgnpmdbkgeakaadoor", sum := "b23ad6ec34e41cf2a721f22ae30df8e850cd852a9cc3423e71504db5a05de60d", func := "paydesk/paydesklaw07.KeyShards", spec := "keyShards", unfollowed := true, recurses := true, named := ["paydesk/deal.types"], apart := false, laid := [("paydesk/deal.types", laid_paydesk_deal_types)], narrowed := true }
def KeyShardsUptoSaid : Prop := keyShardsUptoRow.holds Tryd.pinned (OpenSpec.upto keyShardsSpec)

/-- 'paydesklaw06.DealRight', WHERE WHAT IT READS IS OF BULK AT MOST 1048576: true; the input reads as it did. -/
def dealRightUptoRow : OpenClaim := { program := "ytjgnpmdbkgeakaadoor", sum := "b23ad6ec34e41cf2a721f22ae30df8e850cd852a9cc3423e71504db5a05de60d", func := "paydesk/paydesklaw06.DealRight", spec := "dealRight", unfollowed := true, recurses := true, named := ["paydesk/deal.types"], apart := false, laid := [("paydesk/deal.types", laid_paydesk_deal_types)], narrowed := true }
def DealRightUptoSaid : Prop := dealRightUptoRow.holds Tryd.pinned (OpenSpec.upto dealRightSpec)

/-- 'paydesklaw06.DealBack', WHERE WHAT IT READS IS OF BULK AT MOST 1048576: true; the input reads as it did. -/
def dealBackUptoRow : OpenClaim := { program := "ytjgnpmdbkgeakaadoor", sum := "b23ad6ec34e41cf2a721f22ae30df8e850cd852a9cc3423e71504db5a05de60d", func := "paydesk/paydesklaw06.DealBack", spec := "dealBack", unfollowed := true, recurses := true, named := ["paydesk/deal.types"], apart := false, laid := [("paydesk/deal.types", laid_paydesk_deal_types)], narrowed := true }
def DealBackUptoSaid : Prop := dealBackUptoRow.holds Tryd.pinned (OpenSpec.upto dealBackSpec)

/-- 'paydesklaw12.CoreRight', WHERE WHAT IT READS IS OF BULK AT MOST 1048576: true; the input reads as it did. -/
def coreRightUptoRow : OpenClaim := { program := "ytjgnpmdbkgeakaadoor", sum := "b23ad6ec34e41cf2a721f22ae30df8e850cd852a9cc3423e71504db5a05de60d", func := "paydesk/paydesklaw12.CoreRight", spec := "coreRight", unfollowed := true, recurses := true, named := ["paydesk/deal.types"], apart := false, laid := [("paydesk/deal.types", laid_paydesk_deal_types)], narrowed := true }
def CoreRightUptoSaid : Prop := coreRightUptoRow.holds Tryd.pinned (OpenSpec.upto coreRightSpec)

/-- 'paydesklaw12.CoreSteps', WHERE WHAT IT READS IS OF BULK AT MOST 1048576: true; the input reads as it did. -/
def coreStepsUptoRow : OpenClaim := { program := "ytjgnpmdbkgeakaadoor", sum := "b23ad6ec34e41cf2a721f22ae30df8e850cd852a9cc3423e71504db5a05de60d", func := "paydesk/paydesklaw12.CoreSteps", spec := "coreSteps", unfollowed := true, recurses := true, named := ["paydesk/deal.types"], apart := false, laid := [("paydesk/deal.types", laid_paydesk_deal_types)], narrowed := true }
def CoreStepsUptoSaid : Prop := coreStepsUptoRow.holds Tryd.pinned (OpenSpec.upto coreStepsSpec)

/-- 'paydesklaw12.CoreOnce', WHERE WHAT IT READS IS OF BULK AT MOST 1048576: true; the input reads as it did. -/
def coreOnceUptoRow : OpenClaim := { program := "ytjgnpmdbkgeakaadoor", sum := "b23ad6ec34e41cf2a721f22ae30df8e850cd852a9cc3423e71504db5a05de60d", func := "paydesk/paydesklaw12.CoreOnce", spec := "coreOnce", unfollowed := true, recurses := true, named := ["paydesk/deal.types"], apart := false, laid := [("paydesk/deal.types", laid_paydesk_deal_types)], narrowed := true }
def CoreOnceUptoSaid : Prop := coreOnceUptoRow.holds Tryd.pinned (OpenSpec.upto coreOnceSpec)

/-- 'paydesklaw12.CoreRests', WHERE WHAT IT READS IS OF BULK AT MOST 1048576: true; the input reads as it did. -/
def coreRestsUptoRow : OpenClaim := { program := "ytjgnpmdbkgeakaadoor", sum := "b23ad6ec34e41cf2a721f22ae30df8e850cd852a9cc3423e71504db5a05de60d", func := "paydesk/paydesklaw12.CoreRests", spec := "coreRests", unfollowed := true, recurses := true, named := ["paydesk/deal.types"], apart := false, laid := [("paydesk/deal.types", laid_paydesk_deal_types)], narrowed := true }
def CoreRestsUptoSaid : Prop := coreRestsUptoRow.holds Tryd.pinned (OpenSpec.upto coreRestsSpec)

/-- 'paydesklaw10.ShardRight', WHERE WHAT IT READS IS OF BULK AT MOST 1048576: true; the input reads as it did. -/
def shardRightUptoRow : OpenClaim := { program := "ytjgnpmdbkgeakaadoor", sum := "b23ad6ec34e41cf2a721f22ae30df8e850cd852a9cc3423e71504db5a05de60d", func := "paydesk/paydesklaw10.ShardRight", spec := "shardRight", inPlace := ["slices.overlaps[paydesk/api.Entry]"], unfollowed := true, recurses := true, named := ["paydesk/deal.types"], apart := false, laid := [("paydesk/deal.types", laid_paydesk_deal_types)], narrowed := true }
def ShardRightUptoSaid : Prop := shardRightUptoRow.holds Tryd.pinned (OpenSpec.upto shardRightSpec)

/-- 'paydesklaw10.ShardSwaps', WHERE WHAT IT READS IS OF BULK AT MOST 1048576: true; the input reads as it did. -/
def shardSwapsUptoRow : OpenClaim := { program := "ytjgnpmdbkgeakaadoor", sum := "b23ad6ec34e41cf2a721f22ae30df8e850cd852a9cc3423e71504db5a05de60d", func := "paydesk/paydesklaw10.ShardSwaps", spec := "shardSwaps", inPlace := ["slices.overlaps[paydesk/api.Entry]"], unfollowed := true, recurses := true, named := ["paydesk/deal.types"], apart := false, laid := [("paydesk/deal.types", laid_paydesk_deal_types)], narrowed := true }
def ShardSwapsUptoSaid : Prop := shardSwapsUptoRow.holds Tryd.pinned (OpenSpec.upto shardSwapsSpec)

/-- 'paydesklaw15.LedgerRight', WHERE WHAT IT READS IS OF BULK AT MOST 1048576: true; the input reads as it did. -/
def ledgerRightUptoRow : OpenClaim := { program := "ytjgnpmdbkgeakaadoor", sum := "b23ad6ec34e41cf2a721f22ae30df8e850cd852a9cc3423e71504db5a05de60d", func := "paydesk/paydesklaw15.LedgerRight", spec := "ledgerRight", inPlace := ["slices.overlaps[paydesk/api.Hold]"], unfollowed := true, recurses := true, named := ["paydesk/deal.types"], apart := false, laid := [("paydesk/deal.types", laid_paydesk_deal_types)], narrowed := true }
def LedgerRightUptoSaid : Prop := ledgerRightUptoRow.holds Tryd.pinned (OpenSpec.upto ledgerRightSpec)

/-- 'paydesklaw15.LedgerOnce', WHERE WHAT IT READS IS OF BULK AT MOST 1048576: true; the input reads as it did. -/
def ledgerOnceUptoRow : OpenClaim := { program := "ytjgnpmdbkgeakaadoor", sum := "b23ad6ec34e41cf2a721f22ae30df8e850cd852a9cc3423e71504db5a05de60d", func := "paydesk/paydesklaw15.LedgerOnce", spec := "ledgerOnce", inPlace := ["slices.overlaps[paydesk/api.Hold]"], unfollowed := true, recurses := true, named := ["paydesk/deal.types"], apart := false, laid := [("paydesk/deal.types", laid_paydesk_deal_types)], narrowed := true }
def LedgerOnceUptoSaid : Prop := ledgerOnceUptoRow.holds Tryd.pinned (OpenSpec.upto ledgerOnceSpec)

/-- 'paydesklaw15.LedgerTwice', WHERE WHAT IT READS IS OF BULK AT MOST 1048576: true; the input reads as it did. -/
def ledgerTwiceUptoRow : OpenClaim := { program := "ytjgnpmdbkgeakaadoor", sum := "b23ad6ec34e41cf2a721f22ae30df8e850cd852a9cc3423e71504db5a05de60d", func := "paydesk/paydesklaw15.LedgerTwice", spec := "ledgerTwice", inPlace := ["slices.overlaps[paydesk/api.Hold]"], unfollowed := true, recurses := true, named := ["paydesk/deal.types"], apart := false, laid := [("paydesk/deal.types", laid_paydesk_deal_types)], narrowed := true }
def LedgerTwiceUptoSaid : Prop := ledgerTwiceUptoRow.holds Tryd.pinned (OpenSpec.upto ledgerTwiceSpec)

/-- 'paydesklaw06.DealBytes', WHERE WHAT IT READS IS OF BULK AT MOST 1048576: true; the input reads as it did. -/
def dealBytesUptoRow : OpenClaim := { program := "ytjgnpmdbkgeakaadoor", sum := "b23ad6ec34e41cf2a721f22ae30df8e850cd852a9cc3423e71504db5a05de60d", func := "paydesk/paydesklaw06.DealBytes", spec := "dealBytes", unfollowed := true, recurses := true, named := ["paydesk/deal.types"], apart := false, laid := [("paydesk/deal.types", laid_paydesk_deal_types)], narrowed := true }
def DealBytesUptoSaid : Prop := dealBytesUptoRow.holds Tryd.pinned (OpenSpec.upto dealBytesSpec)

/-- 'paydesklaw14.LineRight', WHERE WHAT IT READS IS OF BULK AT MOST 1048576: true; the input reads as it did. -/
def lineRightUptoRow : OpenClaim := { program := "ytjgnpmdbkgeakaadoor", sum := "b23ad6ec34e41cf2a721f22ae30df8e850cd852a9cc3423e71504db5a05de60d", func := "paydesk/paydesklaw14.LineRight", spec := "lineRight", unfollowed := true, recurses := true, named := ["paydesk/deal.types"], apart := false, laid := [("paydesk/deal.types", laid_paydesk_deal_types)], narrowed := true }
def LineRightUptoSaid : Prop := lineRightUptoRow.holds Tryd.pinned (OpenSpec.upto lineRightSpec)

/-- 'paydesklaw14.LineParts', WHERE WHAT IT READS IS OF BULK AT MOST 1048576: true; the input reads as it did. -/
def linePartsUptoRow : OpenClaim := { program := "ytjgnpmdbkgeakaadoor", sum := "b23ad6ec34e41cf2a721f22ae30df8e850cd852a9cc3423e71504db5a05de60d", func := "paydesk/paydesklaw14.LineParts", spec := "lineParts", unfollowed := true, recurses := true, named := ["paydesk/deal.types"], apart := false, laid := [("paydesk/deal.types", laid_paydesk_deal_types)], narrowed := true }
def LinePartsUptoSaid : Prop := linePartsUptoRow.holds Tryd.pinned (OpenSpec.upto linePartsSpec)

/-- 'paydesklaw14.LineEvents', WHERE WHAT IT READS IS OF BULK AT MOST 1048576: true; the input reads as it did. -/
def lineEventsUptoRow : OpenClaim := { program := "ytjgnpmdbkgeakaadoor", sum := "b23ad6ec34e41cf2a721f22ae30df8e850cd852a9cc3423e71504db5a05de60d", func := "paydesk/paydesklaw14.LineEvents", spec := "lineEvents", unfollowed := true, recurses := true, named := ["paydesk/deal.types"], apart := false, laid := [("paydesk/deal.types", laid_paydesk_deal_types)], narrowed := true }
def LineEventsUptoSaid : Prop := lineEventsUptoRow.holds Tryd.pinned (OpenSpec.upto lineEventsSpec)

/-- 'paydesklaw17.PostBack', WHERE WHAT IT READS IS OF BULK AT MOST 1048576: true; the input reads as it did. -/
def postBackUptoRow : OpenClaim := { program := "ytjgnpmdbkgeakaadoor", sum := "b23ad6ec34e41cf2a721f22ae30df8e850cd852a9cc3423e71504db5a05de60d", func := "paydesk/paydesklaw17.PostBack", spec := "postBack", unfollowed := true, recurses := true, named := ["paydesk/deal.types"], apart := false, laid := [("paydesk/deal.types", laid_paydesk_deal_types)], narrowed := true }
def PostBackUptoSaid : Prop := postBackUptoRow.holds Tryd.pinned (OpenSpec.upto postBackSpec)

/-- 'paydesklaw21.TraceOthers', WHERE WHAT IT READS IS OF BULK AT MOST 1048576: true; the input reads as it did. -/
def traceOthersUptoRow : OpenClaim := { program := "ytjgnpmdbkgeakaadoor", sum := "b23ad6ec34e41cf2a721f22ae30df8e850cd852a9cc3423e71504db5a05de60d", func := "paydesk/paydesklaw21.TraceOthers", spec := "traceOthers", unfollowed := true, recurses := true, named := ["paydesk/deal.types"], apart := false, laid := [("paydesk/deal.types", laid_paydesk_deal_types)], narrowed := true }
def TraceOthersUptoSaid : Prop := traceOthersUptoRow.holds Tryd.pinned (OpenSpec.upto traceOthersSpec)

end Rows
end Go.Proofs.YtjgnpmdbkgeakaaDoor
