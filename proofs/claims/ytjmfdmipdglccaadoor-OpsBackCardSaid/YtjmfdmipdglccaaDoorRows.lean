/-
  NARROWER THAN 'FOR EVERY INPUT', by the rows' own cells (each row's printed sentence says how): OpsDecode: laid · OpsNamed: laid · OpsTable: laid · OpsEncode: laid · OpsBack: laid · OpsAgain: laid · OpsCut: laid · OpsMoved: laid · OpsKnown: laid · CodeCuts: laid · CodeBehind: laid · CodeRow: laid · CodeChecks: laid · CodeRoom: laid · CodeBack: laid · CodeJoins: laid · CodeKnown: laid.
  DERIVED. THE GIVEN ROWS OF THIS SEAT. 17 by the template 'for every input the law returns true; each argument reads behind the call as it read before'; 0 by the template 'total and deterministic' (their statements: YtjmfdmipdglccaaDoorTotals.lean).
  GIVEN WITH THE SEED: the statements are not yours to turn. If you find one false, say at which input.
  Laid BY PROGRAM, IN A SANDBOX (cutbox-rows.mjs): the forced cells as the released guide's own fill.sh prints them over the translation 2c0693b29e950dc6… (all of the seat's roots in one cut). By AI agents, Wed Nov 11 2026. No macro, syntax, notation, axiom, sorry.
-/
import Derived.Test.YtjmfdmipdglccaaDoorChecked
import GoSem.Claim
import GoSem.ClaimJoined
import GoSem.ClaimMapViews
import Derived.JoinedTies
import Derived.KernelRfl
namespace Go.Proofs.YtjmfdmipdglccaaDoor
/- THE CELL 'sum', in the pinned program and in every row, IS THE sha256 OF THE DUMP (.gsa) THAT YtjmfdmipdglccaaDoorProg.lean LOADS. Nothing in Lean hashes anything: it is a label: what it is worth is what the hold of that sum in a sandbox is worth. -/
noncomputable def Tryd.pinned : Pinned := { name := "ytjmfdmipdglccaadoor", sum := "2c0693b29e950dc6d874fd2f49181948ebca8e3273127c099b700c370042474b", checked := Tryd.checked }
namespace Rows
def none {H : Type} : Left H := { results := [], args := [] }

/- WHAT THE LISTED PACKAGE-LEVEL VARIABLES READ AS WHEN THE CALL BEGINS. Each datum BY PROGRAM (the guide's laid-datum.mjs) off the statement by which the dump's own 'gosem.cut.vars' lays the variable. In a bare row this is a premise. The card (YtjmfdmipdglccaaDoorCards.lean) ties it to the program's text. -/
def laid_warpbeam_ops_table {H : Type} : DataW H := .agg [.agg [.lit (.string [110, 111, 112]), .lit (.int .i64 0), .lit (.bool false)], .agg [.lit (.string [105, 99, 111, 110, 115, 116]), .lit (.int .i64 2), .lit (.bool false)], .agg [.lit (.string [108, 99, 111, 110, 115, 116]), .lit (.int .i64 2), .lit (.bool false)], .agg [.lit (.string [108, 100, 99]), .lit (.int .i64 3), .lit (.bool false)], .agg [.lit (.string [110, 117, 108, 108]), .lit (.int .i64 0), .lit (.bool false)], .agg [.lit (.string [105, 108, 111, 97, 100]), .lit (.int .i64 1), .lit (.bool false)], .agg [.lit (.string [108, 108, 111, 97, 100]), .lit (.int .i64 1), .lit (.bool false)], .agg [.lit (.string [97, 108, 111, 97, 100]), .lit (.int .i64 1), .lit (.bool false)], .agg [.lit (.string [105, 115, 116, 111, 114, 101]), .lit (.int .i64 1), .lit (.bool false)], .agg [.lit (.string [108, 115, 116, 111, 114, 101]), .lit (.int .i64 1), .lit (.bool false)], .agg [.lit (.string [97, 115, 116, 111, 114, 101]), .lit (.int .i64 1), .lit (.bool false)], .agg [.lit (.string [105, 105, 110, 99]), .lit (.int .i64 5), .lit (.bool false)], .agg [.lit (.string [112, 111, 112]), .lit (.int .i64 0), .lit (.bool false)], .agg [.lit (.string [112, 111, 112, 50]), .lit (.int .i64 0), .lit (.bool false)], .agg [.lit (.string [100, 117, 112]), .lit (.int .i64 0), .lit (.bool false)], .agg [.lit (.string [100, 117, 112, 120, 49]), .lit (.int .i64 0), .lit (.bool false)], .agg [.lit (.string [100, 117, 112, 50]), .lit (.int .i64 0), .lit (.bool false)], .agg [.lit (.string [115, 119, 97, 112]), .lit (.int .i64 0), .lit (.bool false)], .agg [.lit (.string [105, 97, 100, 100]), .lit (.int .i64 0), .lit (.bool false)], .agg [.lit (.string [105, 115, 117, 98]), .lit (.int .i64 0), .lit (.bool false)], .agg [.lit (.string [105, 109, 117, 108]), .lit (.int .i64 0), .lit (.bool false)], .agg [.lit (.string [105, 100, 105, 118]), .lit (.int .i64 0), .lit (.bool false)], .agg [.lit (.string [105, 114, 101, 109]), .lit (.int .i64 0), .lit (.bool false)], .agg [.lit (.string [105, 97, 110, 100]), .lit (.int .i64 0), .lit (.bool false)], .agg [.lit (.string [105, 111, 114]), .lit (.int .i64 0), .lit (.bool false)], .agg [.lit (.string [105, 120, 111, 114]), .lit (.int .i64 0), .lit (.bool false)], .agg [.lit (.string [105, 115, 104, 108]), .lit (.int .i64 0), .lit (.bool false)], .agg [.lit (.string [105, 115, 104, 114]), .lit (.int .i64 0), .lit (.bool false)], .agg [.lit (.string [105, 117, 115, 104, 114]), .lit (.int .i64 0), .lit (.bool false)], .agg [.lit (.string [105, 110, 101, 103]), .lit (.int .i64 0), .lit (.bool false)], .agg [.lit (.string [108, 97, 100, 100]), .lit (.int .i64 0), .lit (.bool false)], .agg [.lit (.string [108, 115, 117, 98]), .lit (.int .i64 0), .lit (.bool false)], .agg [.lit (.string [108, 109, 117, 108]), .lit (.int .i64 0), .lit (.bool false)], .agg [.lit (.string [108, 100, 105, 118]), .lit (.int .i64 0), .lit (.bool false)], .agg [.lit (.string [108, 114, 101, 109]), .lit (.int .i64 0), .lit (.bool false)], .agg [.lit (.string [108, 97, 110, 100]), .lit (.int .i64 0), .lit (.bool false)], .agg [.lit (.string [108, 111, 114]), .lit (.int .i64 0), .lit (.bool false)], .agg [.lit (.string [108, 120, 111, 114]), .lit (.int .i64 0), .lit (.bool false)], .agg [.lit (.string [108, 110, 101, 103]), .lit (.int .i64 0), .lit (.bool false)], .agg [.lit (.string [108, 99, 109, 112]), .lit (.int .i64 0), .lit (.bool false)], .agg [.lit (.string [105, 50, 108]), .lit (.int .i64 0), .lit (.bool false)], .agg [.lit (.string [108, 50, 105]), .lit (.int .i64 0), .lit (.bool false)], .agg [.lit (.string [105, 102, 101, 113]), .lit (.int .i64 4), .lit (.bool false)], .agg [.lit (.string [105, 102, 110, 101]), .lit (.int .i64 4), .lit (.bool false)], .agg [.lit (.string [105, 102, 108, 116]), .lit (.int .i64 4), .lit (.bool false)], .agg [.lit (.string [105, 102, 103, 101]), .lit (.int .i64 4), .lit (.bool false)], .agg [.lit (.string [105, 102, 103, 116]), .lit (.int .i64 4), .lit (.bool false)], .agg [.lit (.string [105, 102, 108, 101]), .lit (.int .i64 4), .lit (.bool false)], .agg [.lit (.string [105, 99, 109, 112, 101, 113]), .lit (.int .i64 4), .lit (.bool false)], .agg [.lit (.string [105, 99, 109, 112, 110, 101]), .lit (.int .i64 4), .lit (.bool false)], .agg [.lit (.string [105, 99, 109, 112, 108, 116]), .lit (.int .i64 4), .lit (.bool false)], .agg [.lit (.string [105, 99, 109, 112, 103, 101]), .lit (.int .i64 4), .lit (.bool false)], .agg [.lit (.string [105, 99, 109, 112, 103, 116]), .lit (.int .i64 4), .lit (.bool false)], .agg [.lit (.string [105, 99, 109, 112, 108, 101]), .lit (.int .i64 4), .lit (.bool false)], .agg [.lit (.string [97, 99, 109, 112, 101, 113]), .lit (.int .i64 4), .lit (.bool false)], .agg [.lit (.string [97, 99, 109, 112, 110, 101]), .lit (.int .i64 4), .lit (.bool false)], .agg [.lit (.string [105, 102, 110, 117, 108, 108]), .lit (.int .i64 4), .lit (.bool false)], .agg [.lit (.string [105, 102, 110, 111, 110, 110, 117, 108, 108]), .lit (.int .i64 4), .lit (.bool false)], .agg [.lit (.string [103, 111, 116, 111]), .lit (.int .i64 4), .lit (.bool true)], .agg [.lit (.string [116, 115, 119, 105, 116, 99, 104]), .lit (.int .i64 6), .lit (.bool true)], .agg [.lit (.string [108, 115, 119, 105, 116, 99, 104]), .lit (.int .i64 7), .lit (.bool true)]]
def laid_warpbeam_ops_more {H : Type} : DataW H := .agg [.agg [.lit (.string []), .lit (.int .i64 0), .lit (.bool false)], .agg [.lit (.string []), .lit (.int .i64 0), .lit (.bool false)], .agg [.lit (.string []), .lit (.int .i64 0), .lit (.bool false)], .agg [.lit (.string []), .lit (.int .i64 0), .lit (.bool false)], .agg [.lit (.string []), .lit (.int .i64 0), .lit (.bool false)], .agg [.lit (.string []), .lit (.int .i64 0), .lit (.bool false)], .agg [.lit (.string []), .lit (.int .i64 0), .lit (.bool false)], .agg [.lit (.string []), .lit (.int .i64 0), .lit (.bool false)], .agg [.lit (.string []), .lit (.int .i64 0), .lit (.bool false)], .agg [.lit (.string []), .lit (.int .i64 0), .lit (.bool false)], .agg [.lit (.string []), .lit (.int .i64 0), .lit (.bool false)], .agg [.lit (.string []), .lit (.int .i64 0), .lit (.bool false)], .agg [.lit (.string []), .lit (.int .i64 0), .lit (.bool false)], .agg [.lit (.string []), .lit (.int .i64 0), .lit (.bool false)], .agg [.lit (.string []), .lit (.int .i64 0), .lit (.bool false)], .agg [.lit (.string []), .lit (.int .i64 0), .lit (.bool false)], .agg [.lit (.string []), .lit (.int .i64 0), .lit (.bool false)], .agg [.lit (.string []), .lit (.int .i64 0), .lit (.bool false)], .agg [.lit (.string []), .lit (.int .i64 0), .lit (.bool false)], .agg [.lit (.string []), .lit (.int .i64 0), .lit (.bool false)], .agg [.lit (.string []), .lit (.int .i64 0), .lit (.bool false)], .agg [.lit (.string []), .lit (.int .i64 0), .lit (.bool false)], .agg [.lit (.string []), .lit (.int .i64 0), .lit (.bool false)], .agg [.lit (.string []), .lit (.int .i64 0), .lit (.bool false)], .agg [.lit (.string []), .lit (.int .i64 0), .lit (.bool false)], .agg [.lit (.string []), .lit (.int .i64 0), .lit (.bool false)], .agg [.lit (.string []), .lit (.int .i64 0), .lit (.bool false)], .agg [.lit (.string []), .lit (.int .i64 0), .lit (.bool false)], .agg [.lit (.string []), .lit (.int .i64 0), .lit (.bool false)], .agg [.lit (.string []), .lit (.int .i64 0), .lit (.bool false)], .agg [.lit (.string []), .lit (.int .i64 0), .lit (.bool false)], .agg [.lit (.string []), .lit (.int .i64 0), .lit (.bool false)], .agg [.lit (.string []), .lit (.int .i64 0), .lit (.bool false)], .agg [.lit (.string []), .lit (.int .i64 0), .lit (.bool false)], .agg [.lit (.string []), .lit (.int .i64 0), .lit (.bool false)], .agg [.lit (.string []), .lit (.int .i64 0), .lit (.bool false)], .agg [.lit (.string []), .lit (.int .i64 0), .lit (.bool false)], .agg [.lit (.string []), .lit (.int .i64 0), .lit (.bool false)], .agg [.lit (.string []), .lit (.int .i64 0), .lit (.bool false)], .agg [.lit (.string []), .lit (.int .i64 0), .lit (.bool false)], .agg [.lit (.string []), .lit (.int .i64 0), .lit (.bool false)], .agg [.lit (.string []), .lit (.int .i64 0), .lit (.bool false)], .agg [.lit (.string []), .lit (.int .i64 0), .lit (.bool false)], .agg [.lit (.string []), .lit (.int .i64 0), .lit (.bool false)], .agg [.lit (.string []), .lit (.int .i64 0), .lit (.bool false)], .agg [.lit (.string []), .lit (.int .i64 0), .lit (.bool false)], .agg [.lit (.string []), .lit (.int .i64 0), .lit (.bool false)], .agg [.lit (.string []), .lit (.int .i64 0), .lit (.bool false)], .agg [.lit (.string []), .lit (.int .i64 0), .lit (.bool false)], .agg [.lit (.string []), .lit (.int .i64 0), .lit (.bool false)], .agg [.lit (.string []), .lit (.int .i64 0), .lit (.bool false)], .agg [.lit (.string []), .lit (.int .i64 0), .lit (.bool false)], .agg [.lit (.string []), .lit (.int .i64 0), .lit (.bool false)], .agg [.lit (.string []), .lit (.int .i64 0), .lit (.bool false)], .agg [.lit (.string []), .lit (.int .i64 0), .lit (.bool false)], .agg [.lit (.string []), .lit (.int .i64 0), .lit (.bool false)], .agg [.lit (.string []), .lit (.int .i64 0), .lit (.bool false)], .agg [.lit (.string []), .lit (.int .i64 0), .lit (.bool false)], .agg [.lit (.string []), .lit (.int .i64 0), .lit (.bool false)], .agg [.lit (.string []), .lit (.int .i64 0), .lit (.bool false)], .agg [.lit (.string []), .lit (.int .i64 0), .lit (.bool false)], .agg [.lit (.string [103, 101, 116, 115, 116, 97, 116, 105, 99]), .lit (.int .i64 3), .lit (.bool false)], .agg [.lit (.string [112, 117, 116, 115, 116, 97, 116, 105, 99]), .lit (.int .i64 3), .lit (.bool false)], .agg [.lit (.string [103, 101, 116, 102, 105, 101, 108, 100]), .lit (.int .i64 3), .lit (.bool false)], .agg [.lit (.string [112, 117, 116, 102, 105, 101, 108, 100]), .lit (.int .i64 3), .lit (.bool false)], .agg [.lit (.string [110, 101, 119]), .lit (.int .i64 3), .lit (.bool false)], .agg [.lit (.string [110, 101, 119, 105, 110, 116, 115]), .lit (.int .i64 0), .lit (.bool false)], .agg [.lit (.string [110, 101, 119, 108, 111, 110, 103, 115]), .lit (.int .i64 0), .lit (.bool false)], .agg [.lit (.string [110, 101, 119, 114, 101, 102, 115]), .lit (.int .i64 3), .lit (.bool false)], .agg [.lit (.string [108, 101, 110, 103, 116, 104]), .lit (.int .i64 0), .lit (.bool false)], .agg [.lit (.string [105, 97, 103, 101, 116]), .lit (.int .i64 0), .lit (.bool false)], .agg [.lit (.string [108, 97, 103, 101, 116]), .lit (.int .i64 0), .lit (.bool false)], .agg [.lit (.string [97, 97, 103, 101, 116]), .lit (.int .i64 0), .lit (.bool false)], .agg [.lit (.string [105, 97, 112, 117, 116]), .lit (.int .i64 0), .lit (.bool false)], .agg [.lit (.string [108, 97, 112, 117, 116]), .lit (.int .i64 0), .lit (.bool false)], .agg [.lit (.string [97, 97, 112, 117, 116]), .lit (.int .i64 0), .lit (.bool false)], .agg [.lit (.string [99, 97, 115, 116]), .lit (.int .i64 3), .lit (.bool false)], .agg [.lit (.string [105, 115]), .lit (.int .i64 3), .lit (.bool false)], .agg [.lit (.string [116, 104, 114, 111, 119]), .lit (.int .i64 0), .lit (.bool true)], .agg [.lit (.string [99, 97, 108, 108, 115, 116, 97, 116, 105, 99]), .lit (.int .i64 3), .lit (.bool false)], .agg [.lit (.string [99, 97, 108, 108, 118, 105, 114, 116, 117, 97, 108]), .lit (.int .i64 3), .lit (.bool false)], .agg [.lit (.string [99, 97, 108, 108, 105, 110, 116, 101, 114, 102, 97, 99, 101]), .lit (.int .i64 3), .lit (.bool false)], .agg [.lit (.string [99, 97, 108, 108, 115, 112, 101, 99, 105, 97, 108]), .lit (.int .i64 3), .lit (.bool false)], .agg [.lit (.string [105, 114, 101, 116, 117, 114, 110]), .lit (.int .i64 0), .lit (.bool true)], .agg [.lit (.string [108, 114, 101, 116, 117, 114, 110]), .lit (.int .i64 0), .lit (.bool true)], .agg [.lit (.string [97, 114, 101, 116, 117, 114, 110]), .lit (.int .i64 0), .lit (.bool true)], .agg [.lit (.string [114, 101, 116, 117, 114, 110]), .lit (.int .i64 0), .lit (.bool true)], .agg [.lit (.string [105, 111, 117, 116]), .lit (.int .i64 0), .lit (.bool false)], .agg [.lit (.string [108, 111, 117, 116]), .lit (.int .i64 0), .lit (.bool false)], .agg [.lit (.string [105, 105, 110]), .lit (.int .i64 0), .lit (.bool false)]]

/-- 'warpbeamlaw06.OpsDecode': WHATEVER THE INPUT: true; the input reads as it did. -/
def opsDecodeSpec : ChangeSpec := { name := "opsDecode", fn := fun _ => fun
  | [d1, d2] => { results := [.lit (.bool true)], args := [d1, d2] }
  | _ => none }
def opsDecodeRow : OpenClaim := { program := "ytjmfdmipdglccaadoor", sum := "2c0693b29e950dc6d874fd2f49181948ebca8e3273127c099b700c370042474b", func := "warpbeam/warpbeamlaw06.OpsDecode", spec := "opsDecode", unfollowed := true, recurses := true, named := ["warpbeam/ops.table", "warpbeam/ops.more"], apart := false, laid := [("warpbeam/ops.table", laid_warpbeam_ops_table), ("warpbeam/ops.more", laid_warpbeam_ops_more)] }
def OpsDecodeSaid : Prop := opsDecodeRow.holds Tryd.pinned (OpenSpec.ofChange opsDecodeSpec)

/-- ITS FALSE NEIGHBOUR: 'it returns false'. Refute it at one input. -/
def opsDecodeWrong : ChangeSpec := { name := "opsDecode", fn := fun _ => fun
  | [d1, d2] => { results := [.lit (.bool false)], args := [d1, d2] }
  | _ => none }
def OpsDecodeWrongFalsely : Prop := opsDecodeRow.holds Tryd.pinned (OpenSpec.ofChange opsDecodeWrong)

/-- 'warpbeamlaw06.OpsNamed': WHATEVER THE INPUT: true; the input reads as it did. -/
def opsNamedSpec : ChangeSpec := { name := "opsNamed", fn := fun _ => fun
  | [d1, d2] => { results := [.lit (.bool true)], args := [d1, d2] }
  | _ => none }
def opsNamedRow : OpenClaim := { program := "ytjmfdmipdglccaadoor", sum := "2c0693b29e950dc6d874fd2f49181948ebca8e3273127c099b700c370042474b", func := "warpbeam/warpbeamlaw06.OpsNamed", spec := "opsNamed", unfollowed := true, recurses := true, named := ["warpbeam/ops.table", "warpbeam/ops.more"], apart := false, laid := [("warpbeam/ops.table", laid_warpbeam_ops_table), ("warpbeam/ops.more", laid_warpbeam_ops_more)] }
def OpsNamedSaid : Prop := opsNamedRow.holds Tryd.pinned (OpenSpec.ofChange opsNamedSpec)

/-- ITS FALSE NEIGHBOUR: 'it returns false'. Refute it at one input. -/
def opsNamedWrong : ChangeSpec := { name := "opsNamed", fn := fun _ => fun
  | [d1, d2] => { results := [.lit (.bool false)], args := [d1, d2] }
  | _ => none }
def OpsNamedWrongFalsely : Prop := opsNamedRow.holds Tryd.pinned (OpenSpec.ofChange opsNamedWrong)

/-- 'warpbeamlaw06.OpsTable': WHATEVER THE INPUT: true; the input reads as it did. -/
def opsTableSpec : ChangeSpec := { name := "opsTable", fn := fun _ => fun
  | [d1, d2] => { results := [.lit (.bool true)], args := [d1, d2] }
  | _ => none }
def opsTableRow : OpenClaim := { program := "ytjmfdmipdglccaadoor", sum := "2c0693b29e950dc6d874fd2f49181948ebca8e3273127c099b700c370042474b", func := "warpbeam/warpbeamlaw06.OpsTable", spec := "opsTable", unfollowed := true, recurses := true, named := ["warpbeam/ops.more", "warpbeam/ops.table"], apart := false, laid := [("warpbeam/ops.table", laid_warpbeam_ops_table), ("warpbeam/ops.more", laid_warpbeam_ops_more)] }
def OpsTableSaid : Prop := opsTableRow.holds Tryd.pinned (OpenSpec.ofChange opsTableSpec)

/-- ITS FALSE NEIGHBOUR: 'it returns false'. Refute it at one input. -/
def opsTableWrong : ChangeSpec := { name := "opsTable", fn := fun _ => fun
  | [d1, d2] => { results := [.lit (.bool false)], args := [d1, d2] }
  | _ => none }
def OpsTableWrongFalsely : Prop := opsTableRow.holds Tryd.pinned (OpenSpec.ofChange opsTableWrong)

/-- 'warpbeamlaw06.OpsEncode': WHATEVER THE INPUT: true; the input reads as it did. -/
def opsEncodeSpec : ChangeSpec := { name := "opsEncode", fn := fun _ => fun
  | [d] => { results := [.lit (.bool true)], args := [d] }
  | _ => none }
def opsEncodeRow : OpenClaim := { program := "ytjmfdmipdglccaadoor", sum := "2c0693b29e950dc6d874fd2f49181948ebca8e3273127c099b700c370042474b", func := "warpbeam/warpbeamlaw06.OpsEncode", spec := "opsEncode", unfollowed := true, recurses := true, named := ["warpbeam/ops.table", "warpbeam/ops.more"], apart := false, laid := [("warpbeam/ops.table", laid_warpbeam_ops_table), ("warpbeam/ops.more", laid_warpbeam_ops_more)] }
def OpsEncodeSaid : Prop := opsEncodeRow.holds Tryd.pinned (OpenSpec.ofChange opsEncodeSpec)

/-- ITS FALSE NEIGHBOUR: 'it returns false'. Refute it at one input. -/
def opsEncodeWrong : ChangeSpec := { name := "opsEncode", fn := fun _ => fun
  | [d] => { results := [.lit (.bool false)], args := [d] }
  | _ => none }
def OpsEncodeWrongFalsely : Prop := opsEncodeRow.holds Tryd.pinned (OpenSpec.ofChange opsEncodeWrong)

/-- 'warpbeamlaw06.OpsBack': WHATEVER THE INPUT: true; the input reads as it did. -/
def opsBackSpec : ChangeSpec := { name := "opsBack", fn := fun _ => fun
  | [d1, d2] => { results := [.lit (.bool true)], args := [d1, d2] }
  | _ => none }
def opsBackRow : OpenClaim := { program := "ytjmfdmipdglccaadoor", sum := "2c0693b29e950dc6d874fd2f49181948ebca8e3273127c099b700c370042474b", func := "warpbeam/warpbeamlaw06.OpsBack", spec := "opsBack", unfollowed := true, recurses := true, named := ["warpbeam/ops.table", "warpbeam/ops.more"], apart := false, laid := [("warpbeam/ops.table", laid_warpbeam_ops_table), ("warpbeam/ops.more", laid_warpbeam_ops_more)] }
def OpsBackSaid : Prop := opsBackRow.holds Tryd.pinned (OpenSpec.ofChange opsBackSpec)

/-- ITS FALSE NEIGHBOUR: 'it returns false'. Refute it at one input. -/
def opsBackWrong : ChangeSpec := { name := "opsBack", fn := fun _ => fun
  | [d1, d2] => { results := [.lit (.bool false)], args := [d1, d2] }
  | _ => none }
def OpsBackWrongFalsely : Prop := opsBackRow.holds Tryd.pinned (OpenSpec.ofChange opsBackWrong)

/-- 'warpbeamlaw06.OpsAgain': WHATEVER THE INPUT: true; the input reads as it did. -/
def opsAgainSpec : ChangeSpec := { name := "opsAgain", fn := fun _ => fun
  | [d1, d2] => { results := [.lit (.bool true)], args := [d1, d2] }
  | _ => none }
def opsAgainRow : OpenClaim := { program := "ytjmfdmipdglccaadoor", sum := "2c0693b29e950dc6d874fd2f49181948ebca8e3273127c099b700c370042474b", func := "warpbeam/warpbeamlaw06.OpsAgain", spec := "opsAgain", unfollowed := true, recurses := true, named := ["warpbeam/ops.table", "warpbeam/ops.more"], apart := false, laid := [("warpbeam/ops.table", laid_warpbeam_ops_table), ("warpbeam/ops.more", laid_warpbeam_ops_more)] }
def OpsAgainSaid : Prop := opsAgainRow.holds Tryd.pinned (OpenSpec.ofChange opsAgainSpec)

/-- ITS FALSE NEIGHBOUR: 'it returns false'. Refute it at one input. -/
def opsAgainWrong : ChangeSpec := { name := "opsAgain", fn := fun _ => fun
  | [d1, d2] => { results := [.lit (.bool false)], args := [d1, d2] }
  | _ => none }
def OpsAgainWrongFalsely : Prop := opsAgainRow.holds Tryd.pinned (OpenSpec.ofChange opsAgainWrong)

/-- 'warpbeamlaw06.OpsCut': WHATEVER THE INPUT: true; the input reads as it did. -/
def opsCutSpec : ChangeSpec := { name := "opsCut", fn := fun _ => fun
  | [d] => { results := [.lit (.bool true)], args := [d] }
  | _ => none }
def opsCutRow : OpenClaim := { program := "ytjmfdmipdglccaadoor", sum := "2c0693b29e950dc6d874fd2f49181948ebca8e3273127c099b700c370042474b", func := "warpbeam/warpbeamlaw06.OpsCut", spec := "opsCut", unfollowed := true, recurses := true, named := ["warpbeam/ops.table", "warpbeam/ops.more"], apart := false, laid := [("warpbeam/ops.table", laid_warpbeam_ops_table), ("warpbeam/ops.more", laid_warpbeam_ops_more)] }
def OpsCutSaid : Prop := opsCutRow.holds Tryd.pinned (OpenSpec.ofChange opsCutSpec)

/-- ITS FALSE NEIGHBOUR: 'it returns false'. Refute it at one input. -/
def opsCutWrong : ChangeSpec := { name := "opsCut", fn := fun _ => fun
  | [d] => { results := [.lit (.bool false)], args := [d] }
  | _ => none }
def OpsCutWrongFalsely : Prop := opsCutRow.holds Tryd.pinned (OpenSpec.ofChange opsCutWrong)

/-- 'warpbeamlaw06.OpsMoved': WHATEVER THE INPUT: true; the input reads as it did. -/
def opsMovedSpec : ChangeSpec := { name := "opsMoved", fn := fun _ => fun
  | [d1, d2] => { results := [.lit (.bool true)], args := [d1, d2] }
  | _ => none }
def opsMovedRow : OpenClaim := { program := "ytjmfdmipdglccaadoor", sum := "2c0693b29e950dc6d874fd2f49181948ebca8e3273127c099b700c370042474b", func := "warpbeam/warpbeamlaw06.OpsMoved", spec := "opsMoved", unfollowed := true, recurses := true, named := ["warpbeam/ops.table", "warpbeam/ops.more"], apart := false, laid := [("warpbeam/ops.table", laid_warpbeam_ops_table), ("warpbeam/ops.more", laid_warpbeam_ops_more)] }
def OpsMovedSaid : Prop := opsMovedRow.holds Tryd.pinned (OpenSpec.ofChange opsMovedSpec)

/-- ITS FALSE NEIGHBOUR: 'it returns false'. Refute it at one input. -/
def opsMovedWrong : ChangeSpec := { name := "opsMoved", fn := fun _ => fun
  | [d1, d2] => { results := [.lit (.bool false)], args := [d1, d2] }
  | _ => none }
def OpsMovedWrongFalsely : Prop := opsMovedRow.holds Tryd.pinned (OpenSpec.ofChange opsMovedWrong)

/-- 'warpbeamlaw06.OpsKnown': WHATEVER THE INPUT: true; the input reads as it did. -/
def opsKnownSpec : ChangeSpec := { name := "opsKnown", fn := fun _ => fun
  | [] => { results := [.lit (.bool true)], args := [] }
  | _ => none }
def opsKnownRow : OpenClaim := { program := "ytjmfdmipdglccaadoor", sum := "2c0693b29e950dc6d874fd2f49181948ebca8e3273127c099b700c370042474b", func := "warpbeam/warpbeamlaw06.OpsKnown", spec := "opsKnown", unfollowed := true, recurses := true, named := ["warpbeam/ops.table", "warpbeam/ops.more"], apart := false, laid := [("warpbeam/ops.table", laid_warpbeam_ops_table), ("warpbeam/ops.more", laid_warpbeam_ops_more)] }
def OpsKnownSaid : Prop := opsKnownRow.holds Tryd.pinned (OpenSpec.ofChange opsKnownSpec)

/-- ITS FALSE NEIGHBOUR: 'it returns false'. Refute it at one input. -/
def opsKnownWrong : ChangeSpec := { name := "opsKnown", fn := fun _ => fun
  | [] => { results := [.lit (.bool false)], args := [] }
  | _ => none }
def OpsKnownWrongFalsely : Prop := opsKnownRow.holds Tryd.pinned (OpenSpec.ofChange opsKnownWrong)

/-- 'warpbeamlaw07.CodeCuts': WHATEVER THE INPUT: true; the input reads as it did. -/
def codeCutsSpec : ChangeSpec := { name := "codeCuts", fn := fun _ => fun
  | [d] => { results := [.lit (.bool true)], args := [d] }
  | _ => none }
def codeCutsRow : OpenClaim := { program := "ytjmfdmipdglccaadoor", sum := "2c0693b29e950dc6d874fd2f49181948ebca8e3273127c099b700c370042474b", func := "warpbeam/warpbeamlaw07.CodeCuts", spec := "codeCuts", unfollowed := true, recurses := true, named := ["warpbeam/ops.table", "warpbeam/ops.more"], apart := false, laid := [("warpbeam/ops.table", laid_warpbeam_ops_table), ("warpbeam/ops.more", laid_warpbeam_ops_more)] }
def CodeCutsSaid : Prop := codeCutsRow.holds Tryd.pinned (OpenSpec.ofChange codeCutsSpec)

/-- ITS FALSE NEIGHBOUR: 'it returns false'. Refute it at one input. -/
def codeCutsWrong : ChangeSpec := { name := "codeCuts", fn := fun _ => fun
  | [d] => { results := [.lit (.bool false)], args := [d] }
  | _ => none }
def CodeCutsWrongFalsely : Prop := codeCutsRow.holds Tryd.pinned (OpenSpec.ofChange codeCutsWrong)

/-- 'warpbeamlaw07.CodeBehind': WHATEVER THE INPUT: true; the input reads as it did. -/
def codeBehindSpec : ChangeSpec := { name := "codeBehind", fn := fun _ => fun
  | [d1, d2] => { results := [.lit (.bool true)], args := [d1, d2] }
  | _ => none }
def codeBehindRow : OpenClaim := { program := "ytjmfdmipdglccaadoor", sum := "2c0693b29e950dc6d874fd2f49181948ebca8e3273127c099b700c370042474b", func := "warpbeam/warpbeamlaw07.CodeBehind", spec := "codeBehind", unfollowed := true, recurses := true, named := ["warpbeam/ops.table", "warpbeam/ops.more"], apart := false, laid := [("warpbeam/ops.table", laid_warpbeam_ops_table), ("warpbeam/ops.more", laid_warpbeam_ops_more)] }
def CodeBehindSaid : Prop := codeBehindRow.holds Tryd.pinned (OpenSpec.ofChange codeBehindSpec)

/-- ITS FALSE NEIGHBOUR: 'it returns false'. Refute it at one input. -/
def codeBehindWrong : ChangeSpec := { name := "codeBehind", fn := fun _ => fun
  | [d1, d2] => { results := [.lit (.bool false)], args := [d1, d2] }
  | _ => none }
def CodeBehindWrongFalsely : Prop := codeBehindRow.holds Tryd.pinned (OpenSpec.ofChange codeBehindWrong)

/-- 'warpbeamlaw07.CodeRow': WHATEVER THE INPUT: true; the input reads as it did. -/
def codeRowSpec : ChangeSpec := { name := "codeRow", fn := fun _ => fun
  | [d] => { results := [.lit (.bool true)], args := [d] }
  | _ => none }
def codeRowRow : OpenClaim := { program := "ytjmfdmipdglccaadoor", sum := "2c0693b29e950dc6d874fd2f49181948ebca8e3273127c099b700c370042474b", func := "warpbeam/warpbeamlaw07.CodeRow", spec := "codeRow", unfollowed := true, recurses := true, named := ["warpbeam/ops.table", "warpbeam/ops.more"], apart := false, laid := [("warpbeam/ops.table", laid_warpbeam_ops_table), ("warpbeam/ops.more", laid_warpbeam_ops_more)] }
def CodeRowSaid : Prop := codeRowRow.holds Tryd.pinned (OpenSpec.ofChange codeRowSpec)

/-- ITS FALSE NEIGHBOUR: 'it returns false'. Refute it at one input. -/
def codeRowWrong : ChangeSpec := { name := "codeRow", fn := fun _ => fun
  | [d] => { results := [.lit (.bool false)], args := [d] }
  | _ => none }
def CodeRowWrongFalsely : Prop := codeRowRow.holds Tryd.pinned (OpenSpec.ofChange codeRowWrong)

/-- 'warpbeamlaw07.CodeChecks': WHATEVER THE INPUT: true; the input reads as it did. -/
def codeChecksSpec : ChangeSpec := { name := "codeChecks", fn := fun _ => fun
  | [d1, d2, d3] => { results := [.lit (.bool true)], args := [d1, d2, d3] }
  | _ => none }
def codeChecksRow : OpenClaim := { program := "ytjmfdmipdglccaadoor", sum := "2c0693b29e950dc6d874fd2f49181948ebca8e3273127c099b700c370042474b", func := "warpbeam/warpbeamlaw07.CodeChecks", spec := "codeChecks", unfollowed := true, recurses := true, named := ["warpbeam/ops.table", "warpbeam/ops.more"], apart := false, laid := [("warpbeam/ops.table", laid_warpbeam_ops_table), ("warpbeam/ops.more", laid_warpbeam_ops_more)] }
def CodeChecksSaid : Prop := codeChecksRow.holds Tryd.pinned (OpenSpec.ofChange codeChecksSpec)

/-- ITS FALSE NEIGHBOUR: 'it returns false'. Refute it at one input. -/
def codeChecksWrong : ChangeSpec := { name := "codeChecks", fn := fun _ => fun
  | [d1, d2, d3] => { results := [.lit (.bool false)], args := [d1, d2, d3] }
  | _ => none }
def CodeChecksWrongFalsely : Prop := codeChecksRow.holds Tryd.pinned (OpenSpec.ofChange codeChecksWrong)

/-- 'warpbeamlaw07.CodeRoom': WHATEVER THE INPUT: true; the input reads as it did. -/
def codeRoomSpec : ChangeSpec := { name := "codeRoom", fn := fun _ => fun
  | [d1, d2, d3] => { results := [.lit (.bool true)], args := [d1, d2, d3] }
  | _ => none }
def codeRoomRow : OpenClaim := { program := "ytjmfdmipdglccaadoor", sum := "2c0693b29e950dc6d874fd2f49181948ebca8e3273127c099b700c370042474b", func := "warpbeam/warpbeamlaw07.CodeRoom", spec := "codeRoom", unfollowed := true, recurses := true, named := ["warpbeam/ops.table", "warpbeam/ops.more"], apart := false, laid := [("warpbeam/ops.table", laid_warpbeam_ops_table), ("warpbeam/ops.more", laid_warpbeam_ops_more)] }
def CodeRoomSaid : Prop := codeRoomRow.holds Tryd.pinned (OpenSpec.ofChange codeRoomSpec)

/-- ITS FALSE NEIGHBOUR: 'it returns false'. Refute it at one input. -/
def codeRoomWrong : ChangeSpec := { name := "codeRoom", fn := fun _ => fun
  | [d1, d2, d3] => { results := [.lit (.bool false)], args := [d1, d2, d3] }
  | _ => none }
def CodeRoomWrongFalsely : Prop := codeRoomRow.holds Tryd.pinned (OpenSpec.ofChange codeRoomWrong)

/-- 'warpbeamlaw07.CodeBack': WHATEVER THE INPUT: true; the input reads as it did. -/
def codeBackSpec : ChangeSpec := { name := "codeBack", fn := fun _ => fun
  | [d] => { results := [.lit (.bool true)], args := [d] }
  | _ => none }
def codeBackRow : OpenClaim := { program := "ytjmfdmipdglccaadoor", sum := "2c0693b29e950dc6d874fd2f49181948ebca8e3273127c099b700c370042474b", func := "warpbeam/warpbeamlaw07.CodeBack", spec := "codeBack", unfollowed := true, recurses := true, named := ["warpbeam/ops.table", "warpbeam/ops.more"], apart := false, laid := [("warpbeam/ops.table", laid_warpbeam_ops_table), ("warpbeam/ops.more", laid_warpbeam_ops_more)] }
def CodeBackSaid : Prop := codeBackRow.holds Tryd.pinned (OpenSpec.ofChange codeBackSpec)

/-- ITS FALSE NEIGHBOUR: 'it returns false'. Refute it at one input. -/
def codeBackWrong : ChangeSpec := { name := "codeBack", fn := fun _ => fun
  | [d] => { results := [.lit (.bool false)], args := [d] }
  | _ => none }
def CodeBackWrongFalsely : Prop := codeBackRow.holds Tryd.pinned (OpenSpec.ofChange codeBackWrong)

/-- 'warpbeamlaw07.CodeJoins': WHATEVER THE INPUT: true; the input reads as it did. -/
def codeJoinsSpec : ChangeSpec := { name := "codeJoins", fn := fun _ => fun
  | [d1, d2] => { results := [.lit (.bool true)], args := [d1, d2] }
  | _ => none }
def codeJoinsRow : OpenClaim := { program := "ytjmfdmipdglccaadoor", sum := "2c0693b29e950dc6d874fd2f49181948ebca8e3273127c099b700c370042474b", func := "warpbeam/warpbeamlaw07.CodeJoins", spec := "codeJoins", unfollowed := true, recurses := true, named := ["warpbeam/ops.table", "warpbeam/ops.more"], apart := false, laid := [("warpbeam/ops.table", laid_warpbeam_ops_table), ("warpbeam/ops.more", laid_warpbeam_ops_more)] }
def CodeJoinsSaid : Prop := codeJoinsRow.holds Tryd.pinned (OpenSpec.ofChange codeJoinsSpec)

/-- ITS FALSE NEIGHBOUR: 'it returns false'. Refute it at one input. -/
def codeJoinsWrong : ChangeSpec := { name := "codeJoins", fn := fun _ => fun
  | [d1, d2] => { results := [.lit (.bool false)], args := [d1, d2] }
  | _ => none }
def CodeJoinsWrongFalsely : Prop := codeJoinsRow.holds Tryd.pinned (OpenSpec.ofChange codeJoinsWrong)

/-- 'warpbeamlaw07.CodeKnown': WHATEVER THE INPUT: true; the input reads as it did. -/
def codeKnownSpec : ChangeSpec := { name := "codeKnown", fn := fun _ => fun
  | [] => { results := [.lit (.bool true)], args := [] }
  | _ => none }
def codeKnownRow : OpenClaim := { program := "ytjmfdmipdglccaadoor", sum := "2c0693b29e950dc6d874fd2f49181948ebca8e3273127c099b700c370042474b", func := "warpbeam/warpbeamlaw07.CodeKnown", spec := "codeKnown", unfollowed := true, recurses := true, named := ["warpbeam/ops.table", "warpbeam/ops.more"], apart := false, laid := [("warpbeam/ops.table", laid_warpbeam_ops_table), ("warpbeam/ops.more", laid_warpbeam_ops_more)] }
def CodeKnownSaid : Prop := codeKnownRow.holds Tryd.pinned (OpenSpec.ofChange codeKnownSpec)

/-- ITS FALSE NEIGHBOUR: 'it returns false'. Refute it at one input. -/
def codeKnownWrong : ChangeSpec := { name := "codeKnown", fn := fun _ => fun
  | [] => { results := [.lit (.bool false)], args := [] }
  | _ => none }
def CodeKnownWrongFalsely : Prop := codeKnownRow.holds Tryd.pinned (OpenSpec.ofChange codeKnownWrong)

/- THE SECOND FORM. 'bulk': how many values and letters a reading holds, each counted each time it is reached (what is shared counts as often as it is met; a slice's spare places count too). A statement '..UptoSaid' is the law's where the arguments, and the package variables that the reading takes, are together of bulk at most 1048576: NARROWER than '..Said'. Prove '..Said' where nothing that the law and all that it calls make is longer than what came in: it says more and counts as full. Else prove '..UptoSaid'. A law counts once. -/
mutual
def uptoBulk {H : Type} : DataW H → Nat
  | .lit (.string bytes) => bytes.length + 1
  | .lit _ => 1
  | .nil => 1
  | .ptr d => uptoBulk d + 1
  | .slice elems spare => uptoBulkAll elems + uptoBulkAll spare + 1
  | .agg parts => uptoBulkAll parts + 1
  | .iface _ d => uptoBulk d + 1
  | .map entries => uptoBulkEntries entries + 1
  | .held _ => 1
def uptoBulkAll {H : Type} : List (DataW H) → Nat
  | [] => 0
  | d :: r => uptoBulk d + uptoBulkAll r
def uptoBulkEntries {H : Type} : List (Lit × DataW H) → Nat
  | [] => 0
  | x :: r => uptoBulkEntry x + uptoBulkEntries r
def uptoBulkEntry {H : Type} : Lit × DataW H → Nat
  | (.string bytes, d) => bytes.length + uptoBulk d + 1
  | (_, d) => uptoBulk d + 1
 end
def uptoSmall : (H : Type) → List (DataW H) → Bool := fun _ ds => decide (uptoBulkAll ds ≤ 1048576)
def OpenSpec.upto (s : _root_.Go.ChangeSpec) : _root_.Go.OpenSpec := { _root_.Go.OpenSpec.ofChange s with cond := some uptoSmall }

/-- 'warpbeamlaw06.OpsDecode', WHERE WHAT IT READS IS OF BULK AT MOST 1048576: true; the input reads as it did. -/
def opsDecodeUptoRow : OpenClaim := { program := "ytjmfdmipdglccaadoor", sum := "2c0693b29e950dc6d874fd2f49181948ebca8e3273127c099b700c370042474b", func := "warpbeam/warpbeamlaw06.OpsDecode", spec := "opsDecode", unfollowed := true, recurses := true, named := ["warpbeam/ops.table", "warpbeam/ops.more"], apart := false, laid := [("warpbeam/ops.table", laid_warpbeam_ops_table), ("warpbeam/ops.more", laid_warpbeam_ops_more)], narrowed := true }
def OpsDecodeUptoSaid : Prop := opsDecodeUptoRow.holds Tryd.pinned (OpenSpec.upto opsDecodeSpec)

/-- 'warpbeamlaw06.OpsNamed', WHERE WHAT IT READS IS OF BULK AT MOST 1048576: true; the input reads as it did. -/
def opsNamedUptoRow : OpenClaim := { program := "ytjmfdmipdglccaadoor", sum := "2c0693b29e950dc6d874fd2f49181948ebca8e3273127c099b700c370042474b", func := "warpbeam/warpbeamlaw06.OpsNamed", spec := "opsNamed", unfollowed := true, recurses := true, named := ["warpbeam/ops.table", "warpbeam/ops.more"], apart := false, laid := [("warpbeam/ops.table", laid_warpbeam_ops_table), ("warpbeam/ops.more", laid_warpbeam_ops_more)], narrowed := true }
def OpsNamedUptoSaid : Prop := opsNamedUptoRow.holds Tryd.pinned (OpenSpec.upto opsNamedSpec)

/-- 'warpbeamlaw06.OpsTable', WHERE WHAT IT READS IS OF BULK AT MOST 1048576: true; the input reads as it did. -/
def opsTableUptoRow : OpenClaim := { program := "ytjmfdmipdglccaadoor", sum := "2c0693b29e950dc6d874fd2f49181948ebca8e3273127c099b700c370042474b", func := "warpbeam/warpbeamlaw06.OpsTable", spec := "opsTable", unfollowed := true, recurses := true, named := ["warpbeam/ops.more", "warpbeam/ops.table"], apart := false, laid := [("warpbeam/ops.table", laid_warpbeam_ops_table), ("warpbeam/ops.more", laid_warpbeam_ops_more)], narrowed := true }
def OpsTableUptoSaid : Prop := opsTableUptoRow.holds Tryd.pinned (OpenSpec.upto opsTableSpec)

/-- 'warpbeamlaw06.OpsEncode', WHERE WHAT IT READS IS OF BULK AT MOST 1048576: true; the input reads as it did. -/
def opsEncodeUptoRow : OpenClaim := { program := "ytjmfdmipdglccaadoor", sum := "2c0693b29e950dc6d874fd2f49181948ebca8e3273127c099b700c370042474b", func := "warpbeam/warpbeamlaw06.OpsEncode", spec := "opsEncode", unfollowed := true, recurses := true, named := ["warpbeam/ops.table", "warpbeam/ops.more"], apart := false, laid := [("warpbeam/ops.table", laid_warpbeam_ops_table), ("warpbeam/ops.more", laid_warpbeam_ops_more)], narrowed := true }
def OpsEncodeUptoSaid : Prop := opsEncodeUptoRow.holds Tryd.pinned (OpenSpec.upto opsEncodeSpec)

/-- 'warpbeamlaw06.OpsBack', WHERE WHAT IT READS IS OF BULK AT MOST 1048576: true; the input reads as it did. -/
def opsBackUptoRow : OpenClaim := { program := "ytjmfdmipdglccaadoor", sum := "2c0693b29e950dc6d874fd2f49181948ebca8e3273127c099b700c370042474b", func := "warpbeam/warpbeamlaw06.OpsBack", spec := "opsBack", unfollowed := true, recurses := true, named := ["warpbeam/ops.table", "warpbeam/ops.more"], apart := false, laid := [("warpbeam/ops.table", laid_warpbeam_ops_table), ("warpbeam/ops.more", laid_warpbeam_ops_more)], narrowed := true }
def OpsBackUptoSaid : Prop := opsBackUptoRow.holds Tryd.pinned (OpenSpec.upto opsBackSpec)

/-- 'warpbeamlaw06.OpsAgain', WHERE WHAT IT READS IS OF BULK AT MOST 1048576: true; the input reads as it did. -/
def opsAgainUptoRow : OpenClaim := { program := "ytjmfdmipdglccaadoor", sum := "2c0693b29e950dc6d874fd2f49181948ebca8e3273127c099b700c370042474b", func := "warpbeam/warpbeamlaw06.OpsAgain", spec := "opsAgain", unfollowed := true, recurses := true, named := ["warpbeam/ops.table", "warpbeam/ops.more"], apart := false, laid := [("warpbeam/ops.table", laid_warpbeam_ops_table), ("warpbeam/ops.more", laid_warpbeam_ops_more)], narrowed := true }
def OpsAgainUptoSaid : Prop := opsAgainUptoRow.holds Tryd.pinned (OpenSpec.upto opsAgainSpec)

/-- 'warpbeamlaw06.OpsCut', WHERE WHAT IT READS IS OF BULK AT MOST 1048576: true; the input reads as it did. -/
def opsCutUptoRow : OpenClaim := { program := "ytjmfdmipdglccaadoor", sum := "2c0693b29e950dc6d874fd2f49181948ebca8e3273127c099b700c370042474b", func := "warpbeam/warpbeamlaw06.OpsCut", spec := "opsCut", unfollowed := true, recurses := true, named := ["warpbeam/ops.table", "warpbeam/ops.more"], apart := false, laid := [("warpbeam/ops.table", laid_warpbeam_ops_table), ("warpbeam/ops.more", laid_warpbeam_ops_more)], narrowed := true }
def OpsCutUptoSaid : Prop := opsCutUptoRow.holds Tryd.pinned (OpenSpec.upto opsCutSpec)

/-- 'warpbeamlaw06.OpsMoved', WHERE WHAT IT READS IS OF BULK AT MOST 1048576: true; the input reads as it did. -/
def opsMovedUptoRow : OpenClaim := { program := "ytjmfdmipdglccaadoor", sum := "2c0693b29e950dc6d874fd2f49181948ebca8e3273127c099b700c370042474b", func := "warpbeam/warpbeamlaw06.OpsMoved", spec := "opsMoved", unfollowed := true, recurses := true, named := ["warpbeam/ops.table", "warpbeam/ops.more"], apart := false, laid := [("warpbeam/ops.table", laid_warpbeam_ops_table), ("warpbeam/ops.more", laid_warpbeam_ops_more)], narrowed := true }
def OpsMovedUptoSaid : Prop := opsMovedUptoRow.holds Tryd.pinned (OpenSpec.upto opsMovedSpec)

/-- 'warpbeamlaw06.OpsKnown', WHERE WHAT IT READS IS OF BULK AT MOST 1048576: true; the input reads as it did. -/
def opsKnownUptoRow : OpenClaim := { program := "ytjmfdmipdglccaadoor", sum := "2c0693b29e950dc6d874fd2f49181948ebca8e3273127c099b700c370042474b", func := "warpbeam/warpbeamlaw06.OpsKnown", spec := "opsKnown", unfollowed := true, recurses := true, named := ["warpbeam/ops.table", "warpbeam/ops.more"], apart := false, laid := [("warpbeam/ops.table", laid_warpbeam_ops_table), ("warpbeam/ops.more", laid_warpbeam_ops_more)], narrowed := true }
def OpsKnownUptoSaid : Prop := opsKnownUptoRow.holds Tryd.pinned (OpenSpec.upto opsKnownSpec)

/-- 'warpbeamlaw07.CodeCuts', WHERE WHAT IT READS IS OF BULK AT MOST 1048576: true; the input reads as it did. -/
def codeCutsUptoRow : OpenClaim := { program := "ytjmfdmipdglccaadoor", sum := "2c0693b29e950dc6d874fd2f49181948ebca8e3273127c099b700c370042474b", func := "warpbeam/warpbeamlaw07.CodeCuts", spec := "codeCuts", unfollowed := true, recurses := true, named := ["warpbeam/ops.table", "warpbeam/ops.more"], apart := false, laid := [("warpbeam/ops.table", laid_warpbeam_ops_table), ("warpbeam/ops.more", laid_warpbeam_ops_more)], narrowed := true }
def CodeCutsUptoSaid : Prop := codeCutsUptoRow.holds Tryd.pinned (OpenSpec.upto codeCutsSpec)

/-- 'warpbeamlaw07.CodeBehind', WHERE WHAT IT READS IS OF BULK AT MOST 1048576: true; the input reads as it did. -/
def codeBehindUptoRow : OpenClaim := { program := "ytjmfdmipdglccaadoor", sum := "2c0693b29e950dc6d874fd2f49181948ebca8e3273127c099b700c370042474b", func := "warpbeam/warpbeamlaw07.CodeBehind", spec := "codeBehind", unfollowed := true, recurses := true, named := ["warpbeam/ops.table", "warpbeam/ops.more"], apart := false, laid := [("warpbeam/ops.table", laid_warpbeam_ops_table), ("warpbeam/ops.more", laid_warpbeam_ops_more)], narrowed := true }
def CodeBehindUptoSaid : Prop := codeBehindUptoRow.holds Tryd.pinned (OpenSpec.upto codeBehindSpec)

/-- 'warpbeamlaw07.CodeRow', WHERE WHAT IT READS IS OF BULK AT MOST 1048576: true; the input reads as it did. -/
def codeRowUptoRow : OpenClaim := { program := "ytjmfdmipdglccaadoor", sum := "2c0693b29e950dc6d874fd2f49181948ebca8e3273127c099b700c370042474b", func := "warpbeam/warpbeamlaw07.CodeRow", spec := "codeRow", unfollowed := true, recurses := true, named := ["warpbeam/ops.table", "warpbeam/ops.more"], apart := false, laid := [("warpbeam/ops.table", laid_warpbeam_ops_table), ("warpbeam/ops.more", laid_warpbeam_ops_more)], narrowed := true }
def CodeRowUptoSaid : Prop := codeRowUptoRow.holds Tryd.pinned (OpenSpec.upto codeRowSpec)

/-- 'warpbeamlaw07.CodeChecks', WHERE WHAT IT READS IS OF BULK AT MOST 1048576: true; the input reads as it did. -/
def codeChecksUptoRow : OpenClaim := { program := "ytjmfdmipdglccaadoor", sum := "2c0693b29e950dc6d874fd2f49181948ebca8e3273127c099b700c370042474b", func := "warpbeam/warpbeamlaw07.CodeChecks", spec := "codeChecks", unfollowed := true, recurses := true, named := ["warpbeam/ops.table", "warpbeam/ops.more"], apart := false, laid := [("warpbeam/ops.table", laid_warpbeam_ops_table), ("warpbeam/ops.more", laid_warpbeam_ops_more)], narrowed := true }
def CodeChecksUptoSaid : Prop := codeChecksUptoRow.holds Tryd.pinned (OpenSpec.upto codeChecksSpec)

/-- 'warpbeamlaw07.CodeRoom', WHERE WHAT IT READS IS OF BULK AT MOST 1048576: true; the input reads as it did. -/
def codeRoomUptoRow : OpenClaim := { program := "ytjmfdmipdglccaadoor", sum := "2c0693b29e950dc6d874fd2f49181948ebca8e3273127c099b700c370042474b", func := "warpbeam/warpbeamlaw07.CodeRoom", spec := "codeRoom", unfollowed := true, recurses := true, named := ["warpbeam/ops.table", "warpbeam/ops.more"], apart := false, laid := [("warpbeam/ops.table", laid_warpbeam_ops_table), ("warpbeam/ops.more", laid_warpbeam_ops_more)], narrowed := true }
def CodeRoomUptoSaid : Prop := codeRoomUptoRow.holds Tryd.pinned (OpenSpec.upto codeRoomSpec)

/-- 'warpbeamlaw07.CodeBack', WHERE WHAT IT READS IS OF BULK AT MOST 1048576: true; the input reads as it did. -/
def codeBackUptoRow : OpenClaim := { program := "ytjmfdmipdglccaadoor", sum := "2c0693b29e950dc6d874fd2f49181948ebca8e3273127c099b700c370042474b", func := "warpbeam/warpbeamlaw07.CodeBack", spec := "codeBack", unfollowed := true, recurses := true, named := ["warpbeam/ops.table", "warpbeam/ops.more"], apart := false, laid := [("warpbeam/ops.table", laid_warpbeam_ops_table), ("warpbeam/ops.more", laid_warpbeam_ops_more)], narrowed := true }
def CodeBackUptoSaid : Prop := codeBackUptoRow.holds Tryd.pinned (OpenSpec.upto codeBackSpec)

/-- 'warpbeamlaw07.CodeJoins', WHERE WHAT IT READS IS OF BULK AT MOST 1048576: true; the input reads as it did. -/
def codeJoinsUptoRow : OpenClaim := { program := "ytjmfdmipdglccaadoor", sum := "2c0693b29e950dc6d874fd2f49181948ebca8e3273127c099b700c370042474b", func := "warpbeam/warpbeamlaw07.CodeJoins", spec := "codeJoins", unfollowed := true, recurses := true, named := ["warpbeam/ops.table", "warpbeam/ops.more"], apart := false, laid := [("warpbeam/ops.table", laid_warpbeam_ops_table), ("warpbeam/ops.more", laid_warpbeam_ops_more)], narrowed := true }
def CodeJoinsUptoSaid : Prop := codeJoinsUptoRow.holds Tryd.pinned (OpenSpec.upto codeJoinsSpec)

/-- 'warpbeamlaw07.CodeKnown', WHERE WHAT IT READS IS OF BULK AT MOST 1048576: true; the input reads as it did. -/
def codeKnownUptoRow : OpenClaim := { program := "ytjmfdmipdglccaadoor", sum := "2c0693b29e950dc6d874fd2f49181948ebca8e3273127c099b700c370042474b", func := "warpbeam/warpbeamlaw07.CodeKnown", spec := "codeKnown", unfollowed := true, recurses := true, named := ["warpbeam/ops.table", "warpbeam/ops.more"], apart := false, laid := [("warpbeam/ops.table", laid_warpbeam_ops_table), ("warpbeam/ops.more", laid_warpbeam_ops_more)], narrowed := true }
def CodeKnownUptoSaid : Prop := codeKnownUptoRow.holds Tryd.pinned (OpenSpec.upto codeKnownSpec)

end Rows
end Go.Proofs.YtjmfdmipdglccaaDoor
