/-
  DERIVED. GIVEN WITH THE SEED: THE CARDS: each row of YtjgnpmdbkgeakaaDoorRows.lean that lists a variable, with what it lists TIED to the program's text (the seventh form; the later family's looks); each row that meets fmt, with fmt's text TOLD by the authors' own Lean function (tested against real Go, not proved from fmt's source: count such statements apart). THE CARD IS WHAT COUNTS. Prove the row's statement (the work); the ties are given (YtjgnpmdbkgeakaaDoorTie.lean); close each card by the builder's one call (the guide's Derived/Test/ToyasCard.lean, 'card_holds'). Laid BY PROGRAM, IN A SANDBOX (cutbox-door.mjs). By AI agents, Wed Nov 11 2026. No macro, syntax, notation, axiom, sorry.
-/
import Derived.Test.YtjgnpmdbkgeakaaDoorRows
import GoSem.ClaimSeven
namespace Go.Proofs.YtjgnpmdbkgeakaaDoor
namespace Rows

/-- THE TIED CARD OF 'paydesklaw07.KeyRight'. -/
def keyRightCard : Claim7 := { stood := { row := keyRightRow, standIns := [], harness := (true, "4b760acf1adc6d3612329ab3c20ec014558e267c494e654019cab19211bf1961"), looks := false }, kinds := [], alts := [], laidByText := true, laidKinds := [.data], laidTests := true, laidLooks := .later }
def KeyRightCardSaid : Prop := Claim7.holds Tryd.pinned (.plain (OpenSpec.ofChange keyRightSpec)) keyRightCard

/-- THE TIED CARD OF 'paydesklaw07.KeyOrder'. -/
def keyOrderCard : Claim7 := { stood := { row := keyOrderRow, standIns := [], harness := (true, "4b760acf1adc6d3612329ab3c20ec014558e267c494e654019cab19211bf1961"), looks := false }, kinds := [], alts := [], laidByText := true, laidKinds := [.data], laidTests := true, laidLooks := .later }
def KeyOrderCardSaid : Prop := Claim7.holds Tryd.pinned (.plain (OpenSpec.ofChange keyOrderSpec)) keyOrderCard

/-- THE TIED CARD OF 'paydesklaw07.KeyShards'. -/
def keyShardsCard : Claim7 := { stood := { row := keyShardsRow, standIns := [], harness := (true, "4b760acf1adc6d3612329ab3c20ec014558e267c494e654019cab19211bf1961"), looks := false }, kinds := [], alts := [], laidByText := true, laidKinds := [.data], laidTests := true, laidLooks := .later }
def KeyShardsCardSaid : Prop := Claim7.holds Tryd.pinned (.plain (OpenSpec.ofChange keyShardsSpec)) keyShardsCard

/-- THE TIED CARD OF 'paydesklaw06.DealRight'. -/
def dealRightCard : Claim7 := { stood := { row := dealRightRow, standIns := [], harness := (true, "4b760acf1adc6d3612329ab3c20ec014558e267c494e654019cab19211bf1961"), looks := false }, kinds := [], alts := [], laidByText := true, laidKinds := [.data], laidTests := true, laidLooks := .later }
def DealRightCardSaid : Prop := Claim7.holds Tryd.pinned (.plain (OpenSpec.ofChange dealRightSpec)) dealRightCard

/-- THE TIED CARD OF 'paydesklaw06.DealBack'. -/
def dealBackCard : Claim7 := { stood := { row := dealBackRow, standIns := [], harness := (true, "4b760acf1adc6d3612329ab3c20ec014558e267c494e654019cab19211bf1961"), looks := false }, kinds := [], alts := [], laidByText := true, laidKinds := [.data], laidTests := true, laidLooks := .later }
def DealBackCardSaid : Prop := Claim7.holds Tryd.pinned (.plain (OpenSpec.ofChange dealBackSpec)) dealBackCard

/-- THE TIED CARD OF 'paydesklaw12.CoreRight'. -/
def coreRightCard : Claim7 := { stood := { row := coreRightRow, standIns := [], harness := (true, "4b760acf1adc6d3612329ab3c20ec014558e267c494e654019cab19211bf1961"), looks := false }, kinds := [], alts := [], laidByText := true, laidKinds := [.data], laidTests := true, laidLooks := .later }
def CoreRightCardSaid : Prop := Claim7.holds Tryd.pinned (.plain (OpenSpec.ofChange coreRightSpec)) coreRightCard

/-- THE TIED CARD OF 'paydesklaw12.CoreSteps'. -/
def coreStepsCard : Claim7 := { stood := { row := coreStepsRow, standIns := [], harness := (true, "4b760acf1adc6d3612329ab3c20ec014558e267c494e654019cab19211bf1961"), looks := false }, kinds := [], alts := [], laidByText := true, laidKinds := [.data], laidTests := true, laidLooks := .later }
def CoreStepsCardSaid : Prop := Claim7.holds Tryd.pinned (.plain (OpenSpec.ofChange coreStepsSpec)) coreStepsCard

/-- THE TIED CARD OF 'paydesklaw12.CoreOnce'. -/
def coreOnceCard : Claim7 := { stood := { row := coreOnceRow, standIns := [], harness := (true, "4b760acf1adc6d3612329ab3c20ec014558e267c494e654019cab19211bf1961"), looks := false }, kinds := [], alts := [], laidByText := true, laidKinds := [.data], laidTests := true, laidLooks := .later }
def CoreOnceCardSaid : Prop := Claim7.holds Tryd.pinned (.plain (OpenSpec.ofChange coreOnceSpec)) coreOnceCard

/-- THE TIED CARD OF 'paydesklaw12.CoreRests'. -/
def coreRestsCard : Claim7 := { stood := { row := coreRestsRow, standIns := [], harness := (true, "4b760acf1adc6d3612329ab3c20ec014558e267c494e654019cab19211bf1961"), looks := false }, kinds := [], alts := [], laidByText := true, laidKinds := [.data], laidTests := true, laidLooks := .later }
def CoreRestsCardSaid : Prop := Claim7.holds Tryd.pinned (.plain (OpenSpec.ofChange coreRestsSpec)) coreRestsCard

/-- THE TIED CARD OF 'paydesklaw10.ShardRight'. -/
def shardRightCard : Claim7 := { stood := { row := shardRightRow, standIns := [], harness := (true, "4b760acf1adc6d3612329ab3c20ec014558e267c494e654019cab19211bf1961"), looks := false }, kinds := [], alts := [], laidByText := true, laidKinds := [.data], laidTests := true, laidLooks := .later }
def ShardRightCardSaid : Prop := Claim7.holds Tryd.pinned (.plain (OpenSpec.ofChange shardRightSpec)) shardRightCard

/-- THE TIED CARD OF 'paydesklaw10.ShardSwaps'. -/
def shardSwapsCard : Claim7 := { stood := { row := shardSwapsRow, standIns := [], harness := (true, "4b760acf1adc6d3612329ab3c20ec014558e267c494e654019cab19211bf1961"), looks := false }, kinds := [], alts := [], laidByText := true, laidKinds := [.data], laidTests := true, laidLooks := .later }
def ShardSwapsCardSaid : Prop := Claim7.holds Tryd.pinned (.plain (OpenSpec.ofChange shardSwapsSpec)) shardSwapsCard

/-- THE TIED CARD OF 'paydesklaw15.LedgerRight'. -/
def ledgerRightCard : Claim7 := { stood := { row := ledgerRightRow, standIns := [], harness := (true, "4b760acf1adc6d3612329ab3c20ec014558e267c494e654019cab19211bf1961"), looks := false }, kinds := [], alts := [], laidByText := true, laidKinds := [.data], laidTests := true, laidLooks := .later }
def LedgerRightCardSaid : Prop := Claim7.holds Tryd.pinned (.plain (OpenSpec.ofChange ledgerRightSpec)) ledgerRightCard

/-- THE TIED CARD OF 'paydesklaw15.LedgerOnce'. -/
def ledgerOnceCard : Claim7 := { stood := { row := ledgerOnceRow, standIns := [], harness := (true, "4b760acf1adc6d3612329ab3c20ec014558e267c494e654019cab19211bf1961"), looks := false }, kinds := [], alts := [], laidByText := true, laidKinds := [.data], laidTests := true, laidLooks := .later }
def LedgerOnceCardSaid : Prop := Claim7.holds Tryd.pinned (.plain (OpenSpec.ofChange ledgerOnceSpec)) ledgerOnceCard

/-- THE TIED CARD OF 'paydesklaw15.LedgerTwice'. -/
def ledgerTwiceCard : Claim7 := { stood := { row := ledgerTwiceRow, standIns := [], harness := (true, "4b760acf1adc6d3612329ab3c20ec014558e267c494e654019cab19211bf1961"), looks := false }, kinds := [], alts := [], laidByText := true, laidKinds := [.data], laidTests := true, laidLooks := .later }
def LedgerTwiceCardSaid : Prop := Claim7.holds Tryd.pinned (.plain (OpenSpec.ofChange ledgerTwiceSpec)) ledgerTwiceCard

/-- THE TIED CARD OF 'paydesklaw06.DealBytes'. -/
def dealBytesCard : Claim7 := { stood := { row := dealBytesRow, standIns := [], harness := (true, "4b760acf1adc6d3612329ab3c20ec014558e267c494e654019cab19211bf1961"), looks := false }, kinds := [], alts := [], laidByText := true, laidKinds := [.data], laidTests := true, laidLooks := .later }
def DealBytesCardSaid : Prop := Claim7.holds Tryd.pinned (.plain (OpenSpec.ofChange dealBytesSpec)) dealBytesCard

/-- THE TIED CARD OF 'paydesklaw14.LineRight'. -/
def lineRightCard : Claim7 := { stood := { row := lineRightRow, standIns := [], harness := (true, "4b760acf1adc6d3612329ab3c20ec014558e267c494e654019cab19211bf1961"), looks := false }, kinds := [], alts := [], laidByText := true, laidKinds := [.data], laidTests := true, laidLooks := .later }
def LineRightCardSaid : Prop := Claim7.holds Tryd.pinned (.plain (OpenSpec.ofChange lineRightSpec)) lineRightCard

/-- THE TIED CARD OF 'paydesklaw14.LineParts'. -/
def linePartsCard : Claim7 := { stood := { row := linePartsRow, standIns := [], harness := (true, "4b760acf1adc6d3612329ab3c20ec014558e267c494e654019cab19211bf1961"), looks := false }, kinds := [], alts := [], laidByText := true, laidKinds := [.data], laidTests := true, laidLooks := .later }
def LinePartsCardSaid : Prop := Claim7.holds Tryd.pinned (.plain (OpenSpec.ofChange linePartsSpec)) linePartsCard

/-- THE TIED CARD OF 'paydesklaw14.LineEvents'. -/
def lineEventsCard : Claim7 := { stood := { row := lineEventsRow, standIns := [], harness := (true, "4b760acf1adc6d3612329ab3c20ec014558e267c494e654019cab19211bf1961"), looks := false }, kinds := [], alts := [], laidByText := true, laidKinds := [.data], laidTests := true, laidLooks := .later }
def LineEventsCardSaid : Prop := Claim7.holds Tryd.pinned (.plain (OpenSpec.ofChange lineEventsSpec)) lineEventsCard

/-- THE TIED CARD OF 'paydesklaw17.PostBack'. -/
def postBackCard : Claim7 := { stood := { row := postBackRow, standIns := [], harness := (true, "4b760acf1adc6d3612329ab3c20ec014558e267c494e654019cab19211bf1961"), looks := false }, kinds := [], alts := [], laidByText := true, laidKinds := [.data], laidTests := true, laidLooks := .later }
def PostBackCardSaid : Prop := Claim7.holds Tryd.pinned (.plain (OpenSpec.ofChange postBackSpec)) postBackCard

/-- THE TIED CARD OF 'paydesklaw21.TraceOthers'. -/
def traceOthersCard : Claim7 := { stood := { row := traceOthersRow, standIns := [], harness := (true, "4b760acf1adc6d3612329ab3c20ec014558e267c494e654019cab19211bf1961"), looks := false }, kinds := [], alts := [], laidByText := true, laidKinds := [.data], laidTests := true, laidLooks := .later }
def TraceOthersCardSaid : Prop := Claim7.holds Tryd.pinned (.plain (OpenSpec.ofChange traceOthersSpec)) traceOthersCard

/-- THE SECOND FORM's CARD OF 'paydesklaw07.KeyRight'. -/
def keyRightUptoCard : Claim7 := { stood := { row := keyRightUptoRow, standIns := [], harness := (true, "4b760acf1adc6d3612329ab3c20ec014558e267c494e654019cab19211bf1961"), looks := false }, kinds := [], alts := [], laidByText := true, laidKinds := [.data], laidTests := true, laidLooks := .later }
def KeyRightUptoCardSaid : Prop := Claim7.holds Tryd.pinned (.plain (OpenSpec.upto keyRightSpec)) keyRightUptoCard

/-- THE SECOND FORM's CARD OF 'paydesklaw07.KeyOrder'. -/
def keyOrderUptoCard : Claim7 := { stood := { row := keyOrderUptoRow, standIns := [], harness := (true, "4b760acf1adc6d3612329ab3c20ec014558e267c494e654019cab19211bf1961"), looks := false }, kinds := [], alts := [], laidByText := true, laidKinds := [.data], laidTests := true, laidLooks := .later }
def KeyOrderUptoCardSaid : Prop := Claim7.holds Tryd.pinned (.plain (OpenSpec.upto keyOrderSpec)) keyOrderUptoCard

/-- THE SECOND FORM's CARD OF 'paydesklaw07.KeyShards'. -/
def keyShardsUptoCard : Claim7 := { stood := { row := keyShardsUptoRow, standIns := [], harness := (true, "4b760acf1adc6d3612329ab3c20ec014558e267c494e654019cab19211bf1961"), looks := false }, kinds := [], alts := [], laidByText := true, laidKinds := [.data], laidTests := true, laidLooks := .later }
def KeyShardsUptoCardSaid : Prop := Claim7.holds Tryd.pinned (.plain (OpenSpec.upto keyShardsSpec)) keyShardsUptoCard

/-- THE SECOND FORM's CARD OF 'paydesklaw06.DealRight'. -/
def dealRightUptoCard : Claim7 := { stood := { row := dealRightUptoRow, standIns := [], harness := (true, "4b760acf1adc6d3612329ab3c20ec014558e267c494e654019cab19211bf1961"), looks := false }, kinds := [], alts := [], laidByText := true, laidKinds := [.data], laidTests := true, laidLooks := .later }
def DealRightUptoCardSaid : Prop := Claim7.holds Tryd.pinned (.plain (OpenSpec.upto dealRightSpec)) dealRightUptoCard

/-- THE SECOND FORM's CARD OF 'paydesklaw06.DealBack'. -/
def dealBackUptoCard : Claim7 := { stood := { row := dealBackUptoRow, standIns := [], harness := (true, "4b760acf1adc6d3612329ab3c20ec014558e267c494e654019cab19211bf1961"), looks := false }, kinds := [], alts := [], laidByText := true, laidKinds := [.data], laidTests := true, laidLooks := .later }
def DealBackUptoCardSaid : Prop := Claim7.holds Tryd.pinned (.plain (OpenSpec.upto dealBackSpec)) dealBackUptoCard

/-- THE SECOND FORM's CARD OF 'paydesklaw12.CoreRight'. -/
def coreRightUptoCard : Claim7 := { stood := { row := coreRightUptoRow, standIns := [], harness := (true, "4b760acf1adc6d3612329ab3c20ec014558e267c494e654019cab19211bf1961"), looks := false }, kinds := [], alts := [], laidByText := true, laidKinds := [.data], laidTests := true, laidLooks := .later }
def CoreRightUptoCardSaid : Prop := Claim7.holds Tryd.pinned (.plain (OpenSpec.upto coreRightSpec)) coreRightUptoCard

/-- THE SECOND FORM's CARD OF 'paydesklaw12.CoreSteps'. -/
def coreStepsUptoCard : Claim7 := { stood := { row := coreStepsUptoRow, standIns := [], harness := (true, "4b760acf1adc6d3612329ab3c20ec014558e267c494e654019cab19211bf1961"), looks := false }, kinds := [], alts := [], laidByText := true, laidKinds := [.data], laidTests := true, laidLooks := .later }
def CoreStepsUptoCardSaid : Prop := Claim7.holds Tryd.pinned (.plain (OpenSpec.upto coreStepsSpec)) coreStepsUptoCard

/-- THE SECOND FORM's CARD OF 'paydesklaw12.CoreOnce'. -/
def coreOnceUptoCard : Claim7 := { stood := { row := coreOnceUptoRow, standIns := [], harness := (true, "4b760acf1adc6d3612329ab3c20ec014558e267c494e654019cab19211bf1961"), looks := false }, kinds := [], alts := [], laidByText := true, laidKinds := [.data], laidTests := true, laidLooks := .later }
def CoreOnceUptoCardSaid : Prop := Claim7.holds Tryd.pinned (.plain (OpenSpec.upto coreOnceSpec)) coreOnceUptoCard

/-- THE SECOND FORM's CARD OF 'paydesklaw12.CoreRests'. -/
def coreRestsUptoCard : Claim7 := { stood := { row := coreRestsUptoRow, standIns := [], harness := (true, "4b760acf1adc6d3612329ab3c20ec014558e267c494e654019cab19211bf1961"), looks := false }, kinds := [], alts := [], laidByText := true, laidKinds := [.data], laidTests := true, laidLooks := .later }
def CoreRestsUptoCardSaid : Prop := Claim7.holds Tryd.pinned (.plain (OpenSpec.upto coreRestsSpec)) coreRestsUptoCard

/-- THE SECOND FORM's CARD OF 'paydesklaw10.ShardRight'. -/
def shardRightUptoCard : Claim7 := { stood := { row := shardRightUptoRow, standIns := [], harness := (true, "4b760acf1adc6d3612329ab3c20ec014558e267c494e654019cab19211bf1961"), looks := false }, kinds := [], alts := [], laidByText := true, laidKinds := [.data], laidTests := true, laidLooks := .later }
def ShardRightUptoCardSaid : Prop := Claim7.holds Tryd.pinned (.plain (OpenSpec.upto shardRightSpec)) shardRightUptoCard

/-- THE SECOND FORM's CARD OF 'paydesklaw10.ShardSwaps'. -/
def shardSwapsUptoCard : Claim7 := { stood := { row := shardSwapsUptoRow, standIns := [], harness := (true, "4b760acf1adc6d3612329ab3c20ec014558e267c494e654019cab19211bf1961"), looks := false }, kinds := [], alts := [], laidByText := true, laidKinds := [.data], laidTests := true, laidLooks := .later }
def ShardSwapsUptoCardSaid : Prop := Claim7.holds Tryd.pinned (.plain (OpenSpec.upto shardSwapsSpec)) shardSwapsUptoCard

/-- THE SECOND FORM's CARD OF 'paydesklaw15.LedgerRight'. -/
def ledgerRightUptoCard : Claim7 := { stood := { row := ledgerRightUptoRow, standIns := [], harness := (true, "4b760acf1adc6d3612329ab3c20ec014558e267c494e654019cab19211bf1961"), looks := false }, kinds := [], alts := [], laidByText := true, laidKinds := [.data], laidTests := true, laidLooks := .later }
def LedgerRightUptoCardSaid : Prop := Claim7.holds Tryd.pinned (.plain (OpenSpec.upto ledgerRightSpec)) ledgerRightUptoCard

/-- THE SECOND FORM's CARD OF 'paydesklaw15.LedgerOnce'. -/
def ledgerOnceUptoCard : Claim7 := { stood := { row := ledgerOnceUptoRow, standIns := [], harness := (true, "4b760acf1adc6d3612329ab3c20ec014558e267c494e654019cab19211bf1961"), looks := false }, kinds := [], alts := [], laidByText := true, laidKinds := [.data], laidTests := true, laidLooks := .later }
def LedgerOnceUptoCardSaid : Prop := Claim7.holds Tryd.pinned (.plain (OpenSpec.upto ledgerOnceSpec)) ledgerOnceUptoCard

/-- THE SECOND FORM's CARD OF 'paydesklaw15.LedgerTwice'. -/
def ledgerTwiceUptoCard : Claim7 := { stood := { row := ledgerTwiceUptoRow, standIns := [], harness := (true, "4b760acf1adc6d3612329ab3c20ec014558e267c494e654019cab19211bf1961"), looks := false }, kinds := [], alts := [], laidByText := true, laidKinds := [.data], laidTests := true, laidLooks := .later }
def LedgerTwiceUptoCardSaid : Prop := Claim7.holds Tryd.pinned (.plain (OpenSpec.upto ledgerTwiceSpec)) ledgerTwiceUptoCard

/-- THE SECOND FORM's CARD OF 'paydesklaw06.DealBytes'. -/
def dealBytesUptoCard : Claim7 := { stood := { row := dealBytesUptoRow, standIns := [], harness := (true, "4b760acf1adc6d3612329ab3c20ec014558e267c494e654019cab19211bf1961"), looks := false }, kinds := [], alts := [], laidByText := true, laidKinds := [.data], laidTests := true, laidLooks := .later }
def DealBytesUptoCardSaid : Prop := Claim7.holds Tryd.pinned (.plain (OpenSpec.upto dealBytesSpec)) dealBytesUptoCard

/-- THE SECOND FORM's CARD OF 'paydesklaw14.LineRight'. -/
def lineRightUptoCard : Claim7 := { stood := { row := lineRightUptoRow, standIns := [], harness := (true, "4b760acf1adc6d3612329ab3c20ec014558e267c494e654019cab19211bf1961"), looks := false }, kinds := [], alts := [], laidByText := true, laidKinds := [.data], laidTests := true, laidLooks := .later }
def LineRightUptoCardSaid : Prop := Claim7.holds Tryd.pinned (.plain (OpenSpec.upto lineRightSpec)) lineRightUptoCard

/-- THE SECOND FORM's CARD OF 'paydesklaw14.LineParts'. -/
def linePartsUptoCard : Claim7 := { stood := { row := linePartsUptoRow, standIns := [], harness := (true, "4b760acf1adc6d3612329ab3c20ec014558e267c494e654019cab19211bf1961"), looks := false }, kinds := [], alts := [], laidByText := true, laidKinds := [.data], laidTests := true, laidLooks := .later }
def LinePartsUptoCardSaid : Prop := Claim7.holds Tryd.pinned (.plain (OpenSpec.upto linePartsSpec)) linePartsUptoCard

/-- THE SECOND FORM's CARD OF 'paydesklaw14.LineEvents'. -/
def lineEventsUptoCard : Claim7 := { stood := { row := lineEventsUptoRow, standIns := [], harness := (true, "4b760acf1adc6d3612329ab3c20ec014558e267c494e654019cab19211bf1961"), looks := false }, kinds := [], alts := [], laidByText := true, laidKinds := [.data], laidTests := true, laidLooks := .later }
def LineEventsUptoCardSaid : Prop := Claim7.holds Tryd.pinned (.plain (OpenSpec.upto lineEventsSpec)) lineEventsUptoCard

/-- THE SECOND FORM's CARD OF 'paydesklaw17.PostBack'. -/
def postBackUptoCard : Claim7 := { stood := { row := postBackUptoRow, standIns := [], harness := (true, "4b760acf1adc6d3612329ab3c20ec014558e267c494e654019cab19211bf1961"), looks := false }, kinds := [], alts := [], laidByText := true, laidKinds := [.data], laidTests := true, laidLooks := .later }
def PostBackUptoCardSaid : Prop := Claim7.holds Tryd.pinned (.plain (OpenSpec.upto postBackSpec)) postBackUptoCard

/-- THE SECOND FORM's CARD OF 'paydesklaw21.TraceOthers'. -/
def traceOthersUptoCard : Claim7 := { stood := { row := traceOthersUptoRow, standIns := [], harness := (true, "4b760acf1adc6d3612329ab3c20ec014558e267c494e654019cab19211bf1961"), looks := false }, kinds := [], alts := [], laidByText := true, laidKinds := [.data], laidTests := true, laidLooks := .later }
def TraceOthersUptoCardSaid : Prop := Claim7.holds Tryd.pinned (.plain (OpenSpec.upto traceOthersSpec)) traceOthersUptoCard
end Rows
end Go.Proofs.YtjgnpmdbkgeakaaDoor
