/-
  DERIVED. GIVEN WITH THE SEED: THE CARDS: each row of YtjmfdmipdglccaaDoorRows.lean that lists a variable, with what it lists TIED to the program's text (the seventh form; the later family's looks); each row that meets fmt, with fmt's text TOLD by the authors' own Lean function (tested against real Go, not proved from fmt's source: count such statements apart). THE CARD IS WHAT COUNTS. Prove the row's statement (the work); the ties are given (YtjmfdmipdglccaaDoorTie.lean); close each card by the builder's one call (the guide's Derived/Test/ToyasCard.lean, 'card_holds'). Laid BY PROGRAM, IN A SANDBOX (cutbox-door.mjs). By AI agents, Wed Nov 11 2026. No macro, syntax, notation, axiom, sorry.
-/
import Derived.Test.YtjmfdmipdglccaaDoorRows
import GoSem.ClaimSeven
namespace Go.Proofs.YtjmfdmipdglccaaDoor
namespace Rows

/-- THE TIED CARD OF 'warpbeamlaw06.OpsDecode'. -/
def opsDecodeCard : Claim7 := { stood := { row := opsDecodeRow, standIns := [], harness := (true, "2719709ec65f3d8fa37af976ee501c72679764231528fceff90a49c75d0b5508"), looks := false }, kinds := [], alts := [], laidByText := true, laidKinds := [.data, .data], laidTests := true, laidLooks := .later }
def OpsDecodeCardSaid : Prop := Claim7.holds Tryd.pinned (.plain (OpenSpec.ofChange opsDecodeSpec)) opsDecodeCard

/-- THE TIED CARD OF 'warpbeamlaw06.OpsNamed'. -/
def opsNamedCard : Claim7 := { stood := { row := opsNamedRow, standIns := [], harness := (true, "2719709ec65f3d8fa37af976ee501c72679764231528fceff90a49c75d0b5508"), looks := false }, kinds := [], alts := [], laidByText := true, laidKinds := [.data, .data], laidTests := true, laidLooks := .later }
def OpsNamedCardSaid : Prop := Claim7.holds Tryd.pinned (.plain (OpenSpec.ofChange opsNamedSpec)) opsNamedCard

/-- THE TIED CARD OF 'warpbeamlaw06.OpsTable'. -/
def opsTableCard : Claim7 := { stood := { row := opsTableRow, standIns := [], harness := (true, "2719709ec65f3d8fa37af976ee501c72679764231528fceff90a49c75d0b5508"), looks := false }, kinds := [], alts := [], laidByText := true, laidKinds := [.data, .data], laidTests := true, laidLooks := .later }
def OpsTableCardSaid : Prop := Claim7.holds Tryd.pinned (.plain (OpenSpec.ofChange opsTableSpec)) opsTableCard

/-- THE TIED CARD OF 'warpbeamlaw06.OpsEncode'. -/
def opsEncodeCard : Claim7 := { stood := { row := opsEncodeRow, standIns := [], harness := (true, "2719709ec65f3d8fa37af976ee501c72679764231528fceff90a49c75d0b5508"), looks := false }, kinds := [], alts := [], laidByText := true, laidKinds := [.data, .data], laidTests := true, laidLooks := .later }
def OpsEncodeCardSaid : Prop := Claim7.holds Tryd.pinned (.plain (OpenSpec.ofChange opsEncodeSpec)) opsEncodeCard

/-- THE TIED CARD OF 'warpbeamlaw06.OpsBack'. -/
def opsBackCard : Claim7 := { stood := { row := opsBackRow, standIns := [], harness := (true, "2719709ec65f3d8fa37af976ee501c72679764231528fceff90a49c75d0b5508"), looks := false }, kinds := [], alts := [], laidByText := true, laidKinds := [.data, .data], laidTests := true, laidLooks := .later }
def OpsBackCardSaid : Prop := Claim7.holds Tryd.pinned (.plain (OpenSpec.ofChange opsBackSpec)) opsBackCard

/-- THE TIED CARD OF 'warpbeamlaw06.OpsAgain'. -/
def opsAgainCard : Claim7 := { stood := { row := opsAgainRow, standIns := [], harness := (true, "2719709ec65f3d8fa37af976ee501c72679764231528fceff90a49c75d0b5508"), looks := false }, kinds := [], alts := [], laidByText := true, laidKinds := [.data, .data], laidTests := true, laidLooks := .later }
def OpsAgainCardSaid : Prop := Claim7.holds Tryd.pinned (.plain (OpenSpec.ofChange opsAgainSpec)) opsAgainCard

/-- THE TIED CARD OF 'warpbeamlaw06.OpsCut'. -/
def opsCutCard : Claim7 := { stood := { row := opsCutRow, standIns := [], harness := (true, "2719709ec65f3d8fa37af976ee501c72679764231528fceff90a49c75d0b5508"), looks := false }, kinds := [], alts := [], laidByText := true, laidKinds := [.data, .data], laidTests := true, laidLooks := .later }
def OpsCutCardSaid : Prop := Claim7.holds Tryd.pinned (.plain (OpenSpec.ofChange opsCutSpec)) opsCutCard

/-- THE TIED CARD OF 'warpbeamlaw06.OpsMoved'. -/
def opsMovedCard : Claim7 := { stood := { row := opsMovedRow, standIns := [], harness := (true, "2719709ec65f3d8fa37af976ee501c72679764231528fceff90a49c75d0b5508"), looks := false }, kinds := [], alts := [], laidByText := true, laidKinds := [.data, .data], laidTests := true, laidLooks := .later }
def OpsMovedCardSaid : Prop := Claim7.holds Tryd.pinned (.plain (OpenSpec.ofChange opsMovedSpec)) opsMovedCard

/-- THE TIED CARD OF 'warpbeamlaw06.OpsKnown'. -/
def opsKnownCard : Claim7 := { stood := { row := opsKnownRow, standIns := [], harness := (true, "2719709ec65f3d8fa37af976ee501c72679764231528fceff90a49c75d0b5508"), looks := false }, kinds := [], alts := [], laidByText := true, laidKinds := [.data, .data], laidTests := true, laidLooks := .later }
def OpsKnownCardSaid : Prop := Claim7.holds Tryd.pinned (.plain (OpenSpec.ofChange opsKnownSpec)) opsKnownCard

/-- THE TIED CARD OF 'warpbeamlaw07.CodeCuts'. -/
def codeCutsCard : Claim7 := { stood := { row := codeCutsRow, standIns := [], harness := (true, "2719709ec65f3d8fa37af976ee501c72679764231528fceff90a49c75d0b5508"), looks := false }, kinds := [], alts := [], laidByText := true, laidKinds := [.data, .data], laidTests := true, laidLooks := .later }
def CodeCutsCardSaid : Prop := Claim7.holds Tryd.pinned (.plain (OpenSpec.ofChange codeCutsSpec)) codeCutsCard

/-- THE TIED CARD OF 'warpbeamlaw07.CodeBehind'. -/
def codeBehindCard : Claim7 := { stood := { row := codeBehindRow, standIns := [], harness := (true, "2719709ec65f3d8fa37af976ee501c72679764231528fceff90a49c75d0b5508"), looks := false }, kinds := [], alts := [], laidByText := true, laidKinds := [.data, .data], laidTests := true, laidLooks := .later }
def CodeBehindCardSaid : Prop := Claim7.holds Tryd.pinned (.plain (OpenSpec.ofChange codeBehindSpec)) codeBehindCard

/-- THE TIED CARD OF 'warpbeamlaw07.CodeRow'. -/
def codeRowCard : Claim7 := { stood := { row := codeRowRow, standIns := [], harness := (true, "2719709ec65f3d8fa37af976ee501c72679764231528fceff90a49c75d0b5508"), looks := false }, kinds := [], alts := [], laidByText := true, laidKinds := [.data, .data], laidTests := true, laidLooks := .later }
def CodeRowCardSaid : Prop := Claim7.holds Tryd.pinned (.plain (OpenSpec.ofChange codeRowSpec)) codeRowCard

/-- THE TIED CARD OF 'warpbeamlaw07.CodeChecks'. -/
def codeChecksCard : Claim7 := { stood := { row := codeChecksRow, standIns := [], harness := (true, "2719709ec65f3d8fa37af976ee501c72679764231528fceff90a49c75d0b5508"), looks := false }, kinds := [], alts := [], laidByText := true, laidKinds := [.data, .data], laidTests := true, laidLooks := .later }
def CodeChecksCardSaid : Prop := Claim7.holds Tryd.pinned (.plain (OpenSpec.ofChange codeChecksSpec)) codeChecksCard

/-- THE TIED CARD OF 'warpbeamlaw07.CodeRoom'. -/
def codeRoomCard : Claim7 := { stood := { row := codeRoomRow, standIns := [], harness := (true, "2719709ec65f3d8fa37af976ee501c72679764231528fceff90a49c75d0b5508"), looks := false }, kinds := [], alts := [], laidByText := true, laidKinds := [.data, .data], laidTests := true, laidLooks := .later }
def CodeRoomCardSaid : Prop := Claim7.holds Tryd.pinned (.plain (OpenSpec.ofChange codeRoomSpec)) codeRoomCard

/-- THE TIED CARD OF 'warpbeamlaw07.CodeBack'. -/
def codeBackCard : Claim7 := { stood := { row := codeBackRow, standIns := [], harness := (true, "2719709ec65f3d8fa37af976ee501c72679764231528fceff90a49c75d0b5508"), looks := false }, kinds := [], alts := [], laidByText := true, laidKinds := [.data, .data], laidTests := true, laidLooks := .later }
def CodeBackCardSaid : Prop := Claim7.holds Tryd.pinned (.plain (OpenSpec.ofChange codeBackSpec)) codeBackCard

/-- THE TIED CARD OF 'warpbeamlaw07.CodeJoins'. -/
def codeJoinsCard : Claim7 := { stood := { row := codeJoinsRow, standIns := [], harness := (true, "2719709ec65f3d8fa37af976ee501c72679764231528fceff90a49c75d0b5508"), looks := false }, kinds := [], alts := [], laidByText := true, laidKinds := [.data, .data], laidTests := true, laidLooks := .later }
def CodeJoinsCardSaid : Prop := Claim7.holds Tryd.pinned (.plain (OpenSpec.ofChange codeJoinsSpec)) codeJoinsCard

/-- THE TIED CARD OF 'warpbeamlaw07.CodeKnown'. -/
def codeKnownCard : Claim7 := { stood := { row := codeKnownRow, standIns := [], harness := (true, "2719709ec65f3d8fa37af976ee501c72679764231528fceff90a49c75d0b5508"), looks := false }, kinds := [], alts := [], laidByText := true, laidKinds := [.data, .data], laidTests := true, laidLooks := .later }
def CodeKnownCardSaid : Prop := Claim7.holds Tryd.pinned (.plain (OpenSpec.ofChange codeKnownSpec)) codeKnownCard

/-- THE SECOND FORM's CARD OF 'warpbeamlaw06.OpsDecode'. -/
def opsDecodeUptoCard : Claim7 := { stood := { row := opsDecodeUptoRow, standIns := [], harness := (true, "2719709ec65f3d8fa37af976ee501c72679764231528fceff90a49c75d0b5508"), looks := false }, kinds := [], alts := [], laidByText := true, laidKinds := [.data, .data], laidTests := true, laidLooks := .later }
def OpsDecodeUptoCardSaid : Prop := Claim7.holds Tryd.pinned (.plain (OpenSpec.upto opsDecodeSpec)) opsDecodeUptoCard

/-- THE SECOND FORM's CARD OF 'warpbeamlaw06.OpsNamed'. -/
def opsNamedUptoCard : Claim7 := { stood := { row := opsNamedUptoRow, standIns := [], harness := (true, "2719709ec65f3d8fa37af976ee501c72679764231528fceff90a49c75d0b5508"), looks := false }, kinds := [], alts := [], laidByText := true, laidKinds := [.data, .data], laidTests := true, laidLooks := .later }
def OpsNamedUptoCardSaid : Prop := Claim7.holds Tryd.pinned (.plain (OpenSpec.upto opsNamedSpec)) opsNamedUptoCard

/-- THE SECOND FORM's CARD OF 'warpbeamlaw06.OpsTable'. -/
def opsTableUptoCard : Claim7 := { stood := { row := opsTableUptoRow, standIns := [], harness := (true, "2719709ec65f3d8fa37af976ee501c72679764231528fceff90a49c75d0b5508"), looks := false }, kinds := [], alts := [], laidByText := true, laidKinds := [.data, .data], laidTests := true, laidLooks := .later }
def OpsTableUptoCardSaid : Prop := Claim7.holds Tryd.pinned (.plain (OpenSpec.upto opsTableSpec)) opsTableUptoCard

/-- THE SECOND FORM's CARD OF 'warpbeamlaw06.OpsEncode'. -/
def opsEncodeUptoCard : Claim7 := { stood := { row := opsEncodeUptoRow, standIns := [], harness := (true, "2719709ec65f3d8fa37af976ee501c72679764231528fceff90a49c75d0b5508"), looks := false }, kinds := [], alts := [], laidByText := true, laidKinds := [.data, .data], laidTests := true, laidLooks := .later }
def OpsEncodeUptoCardSaid : Prop := Claim7.holds Tryd.pinned (.plain (OpenSpec.upto opsEncodeSpec)) opsEncodeUptoCard

/-- THE SECOND FORM's CARD OF 'warpbeamlaw06.OpsBack'. -/
def opsBackUptoCard : Claim7 := { stood := { row := opsBackUptoRow, standIns := [], harness := (true, "2719709ec65f3d8fa37af976ee501c72679764231528fceff90a49c75d0b5508"), looks := false }, kinds := [], alts := [], laidByText := true, laidKinds := [.data, .data], laidTests := true, laidLooks := .later }
def OpsBackUptoCardSaid : Prop := Claim7.holds Tryd.pinned (.plain (OpenSpec.upto opsBackSpec)) opsBackUptoCard

/-- THE SECOND FORM's CARD OF 'warpbeamlaw06.OpsAgain'. -/
def opsAgainUptoCard : Claim7 := { stood := { row := opsAgainUptoRow, standIns := [], harness := (true, "2719709ec65f3d8fa37af976ee501c72679764231528fceff90a49c75d0b5508"), looks := false }, kinds := [], alts := [], laidByText := true, laidKinds := [.data, .data], laidTests := true, laidLooks := .later }
def OpsAgainUptoCardSaid : Prop := Claim7.holds Tryd.pinned (.plain (OpenSpec.upto opsAgainSpec)) opsAgainUptoCard

/-- THE SECOND FORM's CARD OF 'warpbeamlaw06.OpsCut'. -/
def opsCutUptoCard : Claim7 := { stood := { row := opsCutUptoRow, standIns := [], harness := (true, "2719709ec65f3d8fa37af976ee501c72679764231528fceff90a49c75d0b5508"), looks := false }, kinds := [], alts := [], laidByText := true, laidKinds := [.data, .data], laidTests := true, laidLooks := .later }
def OpsCutUptoCardSaid : Prop := Claim7.holds Tryd.pinned (.plain (OpenSpec.upto opsCutSpec)) opsCutUptoCard

/-- THE SECOND FORM's CARD OF 'warpbeamlaw06.OpsMoved'. -/
def opsMovedUptoCard : Claim7 := { stood := { row := opsMovedUptoRow, standIns := [], harness := (true, "2719709ec65f3d8fa37af976ee501c72679764231528fceff90a49c75d0b5508"), looks := false }, kinds := [], alts := [], laidByText := true, laidKinds := [.data, .data], laidTests := true, laidLooks := .later }
def OpsMovedUptoCardSaid : Prop := Claim7.holds Tryd.pinned (.plain (OpenSpec.upto opsMovedSpec)) opsMovedUptoCard

/-- THE SECOND FORM's CARD OF 'warpbeamlaw06.OpsKnown'. -/
def opsKnownUptoCard : Claim7 := { stood := { row := opsKnownUptoRow, standIns := [], harness := (true, "2719709ec65f3d8fa37af976ee501c72679764231528fceff90a49c75d0b5508"), looks := false }, kinds := [], alts := [], laidByText := true, laidKinds := [.data, .data], laidTests := true, laidLooks := .later }
def OpsKnownUptoCardSaid : Prop := Claim7.holds Tryd.pinned (.plain (OpenSpec.upto opsKnownSpec)) opsKnownUptoCard

/-- THE SECOND FORM's CARD OF 'warpbeamlaw07.CodeCuts'. -/
def codeCutsUptoCard : Claim7 := { stood := { row := codeCutsUptoRow, standIns := [], harness := (true, "2719709ec65f3d8fa37af976ee501c72679764231528fceff90a49c75d0b5508"), looks := false }, kinds := [], alts := [], laidByText := true, laidKinds := [.data, .data], laidTests := true, laidLooks := .later }
def CodeCutsUptoCardSaid : Prop := Claim7.holds Tryd.pinned (.plain (OpenSpec.upto codeCutsSpec)) codeCutsUptoCard

/-- THE SECOND FORM's CARD OF 'warpbeamlaw07.CodeBehind'. -/
def codeBehindUptoCard : Claim7 := { stood := { row := codeBehindUptoRow, standIns := [], harness := (true, "2719709ec65f3d8fa37af976ee501c72679764231528fceff90a49c75d0b5508"), looks := false }, kinds := [], alts := [], laidByText := true, laidKinds := [.data, .data], laidTests := true, laidLooks := .later }
def CodeBehindUptoCardSaid : Prop := Claim7.holds Tryd.pinned (.plain (OpenSpec.upto codeBehindSpec)) codeBehindUptoCard

/-- THE SECOND FORM's CARD OF 'warpbeamlaw07.CodeRow'. -/
def codeRowUptoCard : Claim7 := { stood := { row := codeRowUptoRow, standIns := [], harness := (true, "2719709ec65f3d8fa37af976ee501c72679764231528fceff90a49c75d0b5508"), looks := false }, kinds := [], alts := [], laidByText := true, laidKinds := [.data, .data], laidTests := true, laidLooks := .later }
def CodeRowUptoCardSaid : Prop := Claim7.holds Tryd.pinned (.plain (OpenSpec.upto codeRowSpec)) codeRowUptoCard

/-- THE SECOND FORM's CARD OF 'warpbeamlaw07.CodeChecks'. -/
def codeChecksUptoCard : Claim7 := { stood := { row := codeChecksUptoRow, standIns := [], harness := (true, "2719709ec65f3d8fa37af976ee501c72679764231528fceff90a49c75d0b5508"), looks := false }, kinds := [], alts := [], laidByText := true, laidKinds := [.data, .data], laidTests := true, laidLooks := .later }
def CodeChecksUptoCardSaid : Prop := Claim7.holds Tryd.pinned (.plain (OpenSpec.upto codeChecksSpec)) codeChecksUptoCard

/-- THE SECOND FORM's CARD OF 'warpbeamlaw07.CodeRoom'. -/
def codeRoomUptoCard : Claim7 := { stood := { row := codeRoomUptoRow, standIns := [], harness := (true, "2719709ec65f3d8fa37af976ee501c72679764231528fceff90a49c75d0b5508"), looks := false }, kinds := [], alts := [], laidByText := true, laidKinds := [.data, .data], laidTests := true, laidLooks := .later }
def CodeRoomUptoCardSaid : Prop := Claim7.holds Tryd.pinned (.plain (OpenSpec.upto codeRoomSpec)) codeRoomUptoCard

/-- THE SECOND FORM's CARD OF 'warpbeamlaw07.CodeBack'. -/
def codeBackUptoCard : Claim7 := { stood := { row := codeBackUptoRow, standIns := [], harness := (true, "2719709ec65f3d8fa37af976ee501c72679764231528fceff90a49c75d0b5508"), looks := false }, kinds := [], alts := [], laidByText := true, laidKinds := [.data, .data], laidTests := true, laidLooks := .later }
def CodeBackUptoCardSaid : Prop := Claim7.holds Tryd.pinned (.plain (OpenSpec.upto codeBackSpec)) codeBackUptoCard

/-- THE SECOND FORM's CARD OF 'warpbeamlaw07.CodeJoins'. -/
def codeJoinsUptoCard : Claim7 := { stood := { row := codeJoinsUptoRow, standIns := [], harness := (true, "2719709ec65f3d8fa37af976ee501c72679764231528fceff90a49c75d0b5508"), looks := false }, kinds := [], alts := [], laidByText := true, laidKinds := [.data, .data], laidTests := true, laidLooks := .later }
def CodeJoinsUptoCardSaid : Prop := Claim7.holds Tryd.pinned (.plain (OpenSpec.upto codeJoinsSpec)) codeJoinsUptoCard

/-- THE SECOND FORM's CARD OF 'warpbeamlaw07.CodeKnown'. -/
def codeKnownUptoCard : Claim7 := { stood := { row := codeKnownUptoRow, standIns := [], harness := (true, "2719709ec65f3d8fa37af976ee501c72679764231528fceff90a49c75d0b5508"), looks := false }, kinds := [], alts := [], laidByText := true, laidKinds := [.data, .data], laidTests := true, laidLooks := .later }
def CodeKnownUptoCardSaid : Prop := Claim7.holds Tryd.pinned (.plain (OpenSpec.upto codeKnownSpec)) codeKnownUptoCard
end Rows
end Go.Proofs.YtjmfdmipdglccaaDoor
