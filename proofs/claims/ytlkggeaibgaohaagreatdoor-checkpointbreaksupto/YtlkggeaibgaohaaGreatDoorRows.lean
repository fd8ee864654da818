/-
  NARROWER THAN 'FOR EVERY INPUT', by the rows' own cells (each row's printed sentence says how): CheckpointLoads: loops, laid · CheckpointForms: loops, laid · CheckpointReturns: loops, laid · CheckpointBreaks: loops, laid.
  DERIVED. THE GIVEN ROWS OF THIS SEAT. 4 by the template 'for every input the law returns true; each argument reads behind the call as it read before'; 0 by the template 'total and deterministic' (their statements: YtlkggeaibgaohaaGreatDoorTotals.lean).
  GIVEN WITH THE SEED: the statements are not yours to turn. If you find one false, say at which input.
  Laid BY PROGRAM, IN A SANDBOX (cutbox-rows.mjs): the forced cells as the released guide's own fill.sh prints them over the translation 79a56376cbc99df8… (all of the seat's roots in one cut). By AI agents, Wed Nov 11 2026. No macro, syntax, notation, axiom, sorry.
-/
import Derived.Test.YtlkggeaibgaohaaGreatDoorChecked
import GoSem.Claim
import GoSem.ClaimJoined
import GoSem.ClaimMapViews
import Derived.JoinedTies
import Derived.KernelRfl
namespace Go.Proofs.YtlkggeaibgaohaaGreatDoor
/- THE CELL 'sum', in the pinned program and in every row, IS THE sha256 OF THE DUMP (.gsa) THAT YtlkggeaibgaohaaGreatDoorProg.lean LOADS. Nothing in Lean hashes anything: it is a label: what it is worth is what the hold of that sum in a sandbox is worth. -/
noncomputable def Tryz.pinned : Pinned := { name := "ytlkggeaibgaohaagreatdoor", sum := "79a56376cbc99df81b58d6f614988f908f4cf136d8dbdabf8b256ae81da426bb", checked := Tryz.checked }
namespace Rows
def none {H : Type} : Left H := { results := [], args := [] }

/- WHAT THE LISTED PACKAGE-LEVEL VARIABLES READ AS WHEN THE CALL BEGINS. Each datum BY PROGRAM (the guide's laid-datum.mjs) off the statement by which the dump's own 'gosem.cut.vars' lays the variable. In a bare row this is a premise. The card (YtlkggeaibgaohaaGreatDoorCards.lean) ties it to the program's text. -/
def laid_simulator_code_forms {H : Type} : DataW H := .slice [.agg [.lit (.string []), .lit (.int .i64 0), .lit (.int .i64 0), .lit (.bool false), .lit (.bool false), .lit (.bool false), .lit (.bool false), .lit (.bool false), .lit (.bool false)], .agg [.lit (.string [115, 108, 111, 116]), .lit (.int .i64 1), .lit (.int .i64 0), .lit (.bool false), .lit (.bool true), .lit (.bool false), .lit (.bool false), .lit (.bool false), .lit (.bool false)], .agg [.lit (.string [118, 97, 114]), .lit (.int .i64 2), .lit (.int .i64 0), .lit (.bool false), .lit (.bool true), .lit (.bool false), .lit (.bool false), .lit (.bool false), .lit (.bool false)], .agg [.lit (.string [100, 114, 97, 119]), .lit (.int .i64 1), .lit (.int .i64 3), .lit (.bool false), .lit (.bool false), .lit (.bool false), .lit (.bool false), .lit (.bool true), .lit (.bool false)], .agg [.lit (.string [106, 117, 109, 112]), .lit (.int .i64 4), .lit (.int .i64 0), .lit (.bool false), .lit (.bool false), .lit (.bool false), .lit (.bool false), .lit (.bool false), .lit (.bool false)], .agg [.lit (.string [98, 114, 97, 110, 99, 104]), .lit (.int .i64 4), .lit (.int .i64 0), .lit (.bool false), .lit (.bool true), .lit (.bool false), .lit (.bool false), .lit (.bool false), .lit (.bool false)], .agg [.lit (.string [104, 111, 108, 100]), .lit (.int .i64 0), .lit (.int .i64 0), .lit (.bool false), .lit (.bool true), .lit (.bool false), .lit (.bool false), .lit (.bool false), .lit (.bool false)], .agg [.lit (.string [115, 101, 105, 122, 101]), .lit (.int .i64 5), .lit (.int .i64 0), .lit (.bool false), .lit (.bool true), .lit (.bool true), .lit (.bool false), .lit (.bool false), .lit (.bool true)], .agg [.lit (.string [114, 101, 108, 101, 97, 115, 101]), .lit (.int .i64 5), .lit (.int .i64 0), .lit (.bool false), .lit (.bool true), .lit (.bool false), .lit (.bool false), .lit (.bool false), .lit (.bool false)], .agg [.lit (.string [112, 117, 116]), .lit (.int .i64 6), .lit (.int .i64 0), .lit (.bool false), .lit (.bool true), .lit (.bool false), .lit (.bool false), .lit (.bool false), .lit (.bool false)], .agg [.lit (.string [103, 101, 116]), .lit (.int .i64 6), .lit (.int .i64 1), .lit (.bool false), .lit (.bool false), .lit (.bool false), .lit (.bool false), .lit (.bool false), .lit (.bool false)], .agg [.lit (.string [114, 105, 100, 101]), .lit (.int .i64 7), .lit (.int .i64 0), .lit (.bool false), .lit (.bool false), .lit (.bool false), .lit (.bool false), .lit (.bool false), .lit (.bool false)], .agg [.lit (.string [119, 97, 105, 116]), .lit (.int .i64 8), .lit (.int .i64 0), .lit (.bool false), .lit (.bool false), .lit (.bool false), .lit (.bool false), .lit (.bool false), .lit (.bool false)], .agg [.lit (.string [115, 105, 103, 110, 97, 108]), .lit (.int .i64 8), .lit (.int .i64 0), .lit (.bool false), .lit (.bool true), .lit (.bool false), .lit (.bool false), .lit (.bool false), .lit (.bool false)], .agg [.lit (.string [115, 101, 110, 100]), .lit (.int .i64 9), .lit (.int .i64 10), .lit (.bool true), .lit (.bool true), .lit (.bool false), .lit (.bool true), .lit (.bool false), .lit (.bool false)], .agg [.lit (.string [115, 112, 97, 119, 110]), .lit (.int .i64 0), .lit (.int .i64 10), .lit (.bool false), .lit (.bool true), .lit (.bool false), .lit (.bool true), .lit (.bool false), .lit (.bool false)], .agg [.lit (.string [111, 98, 115, 101, 114, 118, 101]), .lit (.int .i64 11), .lit (.int .i64 0), .lit (.bool false), .lit (.bool true), .lit (.bool false), .lit (.bool false), .lit (.bool false), .lit (.bool false)], .agg [.lit (.string [108, 101, 118, 101, 108]), .lit (.int .i64 12), .lit (.int .i64 0), .lit (.bool false), .lit (.bool true), .lit (.bool false), .lit (.bool false), .lit (.bool false), .lit (.bool false)], .agg [.lit (.string [99, 111, 117, 110, 116]), .lit (.int .i64 13), .lit (.int .i64 0), .lit (.bool false), .lit (.bool true), .lit (.bool false), .lit (.bool false), .lit (.bool false), .lit (.bool false)], .agg [.lit (.string [101, 110, 100]), .lit (.int .i64 0), .lit (.int .i64 0), .lit (.bool false), .lit (.bool false), .lit (.bool false), .lit (.bool false), .lit (.bool false), .lit (.bool false)]] []

/-- 'simulatorlaw45.CheckpointLoads': WHATEVER THE INPUT: true; the input reads as it did. -/
def checkpointLoadsSpec : ChangeSpec := { name := "checkpointLoads", fn := fun _ => fun
  | [d1, d2] => { results := [.lit (.bool true)], args := [d1, d2] }
  | _ => none }
def checkpointLoadsRow : OpenClaim := { program := "ytlkggeaibgaohaagreatdoor", sum := "79a56376cbc99df81b58d6f614988f908f4cf136d8dbdabf8b256ae81da426bb", func := "simulator/simulatorlaw45.CheckpointLoads", spec := "checkpointLoads", unfollowed := true, recurses := true, named := ["simulator/code.forms"], loops := true, plainKeys := false, apart := false, laid := [("simulator/code.forms", laid_simulator_code_forms)] }
def CheckpointLoadsSaid : Prop := checkpointLoadsRow.holds Tryz.pinned (OpenSpec.ofChange checkpointLoadsSpec)

/-- ITS FALSE NEIGHBOUR: 'it returns false'. Refute it at one input. -/
def checkpointLoadsWrong : ChangeSpec := { name := "checkpointLoads", fn := fun _ => fun
  | [d1, d2] => { results := [.lit (.bool false)], args := [d1, d2] }
  | _ => none }
def CheckpointLoadsWrongFalsely : Prop := checkpointLoadsRow.holds Tryz.pinned (OpenSpec.ofChange checkpointLoadsWrong)

/-- 'simulatorlaw45.CheckpointForms': WHATEVER THE INPUT: true; the input reads as it did. -/
def checkpointFormsSpec : ChangeSpec := { name := "checkpointForms", fn := fun _ => fun
  | [d1, d2] => { results := [.lit (.bool true)], args := [d1, d2] }
  | _ => none }
def checkpointFormsRow : OpenClaim := { program := "ytlkggeaibgaohaagreatdoor", sum := "79a56376cbc99df81b58d6f614988f908f4cf136d8dbdabf8b256ae81da426bb", func := "simulator/simulatorlaw45.CheckpointForms", spec := "checkpointForms", unfollowed := true, recurses := true, named := ["simulator/code.forms"], loops := true, plainKeys := false, apart := false, laid := [("simulator/code.forms", laid_simulator_code_forms)] }
def CheckpointFormsSaid : Prop := checkpointFormsRow.holds Tryz.pinned (OpenSpec.ofChange checkpointFormsSpec)

/-- ITS FALSE NEIGHBOUR: 'it returns false'. Refute it at one input. -/
def checkpointFormsWrong : ChangeSpec := { name := "checkpointForms", fn := fun _ => fun
  | [d1, d2] => { results := [.lit (.bool false)], args := [d1, d2] }
  | _ => none }
def CheckpointFormsWrongFalsely : Prop := checkpointFormsRow.holds Tryz.pinned (OpenSpec.ofChange checkpointFormsWrong)

/-- 'simulatorlaw45.CheckpointReturns': WHATEVER THE INPUT: true; the input reads as it did. -/
def checkpointReturnsSpec : ChangeSpec := { name := "checkpointReturns", fn := fun _ => fun
  | [d1, d2] => { results := [.lit (.bool true)], args := [d1, d2] }
  | _ => none }
def checkpointReturnsRow : OpenClaim := { program := "ytlkggeaibgaohaagreatdoor", sum := "79a56376cbc99df81b58d6f614988f908f4cf136d8dbdabf8b256ae81da426bb", func := "simulator/simulatorlaw45.CheckpointReturns", spec := "checkpointReturns", unfollowed := true, recurses := true, named := ["simulator/code.forms"], loops := true, plainKeys := false, apart := false, laid := [("simulator/code.forms", laid_simulator_code_forms)] }
def CheckpointReturnsSaid : Prop := checkpointReturnsRow.holds Tryz.pinned (OpenSpec.ofChange checkpointReturnsSpec)

/-- ITS FALSE NEIGHBOUR: 'it returns false'. Refute it at one input. -/
def checkpointReturnsWrong : ChangeSpec := { name := "checkpointReturns", fn := fun _ => fun
  | [d1, d2] => { results := [.lit (.bool false)], args := [d1, d2] }
  | _ => none }
def CheckpointReturnsWrongFalsely : Prop := checkpointReturnsRow.holds Tryz.pinned (OpenSpec.ofChange checkpointReturnsWrong)

/-- 'simulatorlaw45.CheckpointBreaks': WHATEVER THE INPUT: true; the input reads as it did. -/
def checkpointBreaksSpec : ChangeSpec := { name := "checkpointBreaks", fn := fun _ => fun
  | [d1, d2, d3] => { results := [.lit (.bool true)], args := [d1, d2, d3] }
  | _ => none }
def checkpointBreaksRow : OpenClaim := { program := "ytlkggeaibgaohaagreatdoor", sum := "79a56376cbc99df81b58d6f614988f908f4cf136d8dbdabf8b256ae81da426bb", func := "simulator/simulatorlaw45.CheckpointBreaks", spec := "checkpointBreaks", unfollowed := true, recurses := true, named := ["simulator/code.forms"], loops := true, plainKeys := false, apart := false, laid := [("simulator/code.forms", laid_simulator_code_forms)] }
def CheckpointBreaksSaid : Prop := checkpointBreaksRow.holds Tryz.pinned (OpenSpec.ofChange checkpointBreaksSpec)

/-- ITS FALSE NEIGHBOUR: 'it returns false'. Refute it at one input. -/
def checkpointBreaksWrong : ChangeSpec := { name := "checkpointBreaks", fn := fun _ => fun
  | [d1, d2, d3] => { results := [.lit (.bool false)], args := [d1, d2, d3] }
  | _ => none }
def CheckpointBreaksWrongFalsely : Prop := checkpointBreaksRow.holds Tryz.pinned (OpenSpec.ofChange checkpointBreaksWrong)

/- THE SECOND FORM. 'bulk': how many values and letters a reading holds, each counted each time it is reached (what is shared counts as often as it is met; a slice's spare places count too). A statement '..UptoSaid' is the law's where the arguments, and the package variables that the reading takes, are together of bulk at most 1048576: NARROWER than '..Said'. Prove '..Said' where nothing that the law and all that it calls make is longer than what came in: it says more and counts as full. Else prove '..UptoSaid'. A law counts once. -/
mutual
def uptoBulk {H : Type} : DataW H → Nat
  | .lit (.string bytes) => bytes.length + 1
  | .lit _ => 1
  | .nil => 1
  | .ptr d => uptoBulk d + 1
  | .slice elems spare => uptoBulkAll elems + uptoBulkAll spare + 1
  | .agg parts => uptoBulkAll parts + 1
  | .iface _ d => uptoBulk d + 1
  | .map entries => uptoBulkEntries entries + 1
  | .held _ => 1
def uptoBulkAll {H : Type} : List (DataW H) → Nat
  | [] => 0
  | d :: r => uptoBulk d + uptoBulkAll r
def uptoBulkEntries {H : Type} : List (Lit × DataW H) → Nat
  | [] => 0
  | x :: r => uptoBulkEntry x + uptoBulkEntries r
def uptoBulkEntry {H : Type} : Lit × DataW H → Nat
  | (.string bytes, d) => bytes.length + uptoBulk d + 1
  | (_, d) => uptoBulk d + 1
 end
def uptoSmall : (H : Type) → List (DataW H) → Bool := fun _ ds => decide (uptoBulkAll ds ≤ 1048576)
def OpenSpec.upto (s : _root_.Go.ChangeSpec) : _root_.Go.OpenSpec := { _root_.Go.OpenSpec.ofChange s with cond := some uptoSmall }

/-- 'simulatorlaw45.CheckpointLoads', WHERE WHAT IT READS IS OF BULK AT MOST 1048576: true; the input reads as it did. -/
def checkpointLoadsUptoRow : OpenClaim := { program := "ytlkggeaibgaohaagreatdoor", sum := "79a56376cbc99df81b58d6f614988f908f4cf136d8dbdabf8b256ae81da426bb", func := "simulator/simulatorlaw45.CheckpointLoads", spec := "checkpointLoads", unfollowed := true, recurses := true, named := ["simulator/code.forms"], loops := true, plainKeys := false, apart := false, laid := [("simulator/code.forms", laid_simulator_code_forms)], narrowed := true }
def CheckpointLoadsUptoSaid : Prop := checkpointLoadsUptoRow.holds Tryz.pinned (OpenSpec.upto checkpointLoadsSpec)

/-- 'simulatorlaw45.CheckpointForms', WHERE WHAT IT READS IS OF BULK AT MOST 1048576: true; the input reads as it did. -/
def checkpointFormsUptoRow : OpenClaim := { program := "ytlkggeaibgaohaagreatdoor", sum := "79a56376cbc99df81b58d6f614988f908f4cf136d8dbdabf8b256ae81da426bb", func := "simulator/simulatorlaw45.CheckpointForms", spec := "checkpointForms", unfollowed := true, recurses := true, named := ["simulator/code.forms"], loops := true, plainKeys := false, apart := false, laid := [("simulator/code.forms", laid_simulator_code_forms)], narrowed := true }
def CheckpointFormsUptoSaid : Prop := checkpointFormsUptoRow.holds Tryz.pinned (OpenSpec.upto checkpointFormsSpec)

/-- 'simulatorlaw45.CheckpointReturns', WHERE WHAT IT READS IS OF BULK AT MOST 1048576: true; the input reads as it did. -/
def checkpointReturnsUptoRow : OpenClaim := { program := "ytlkggeaibgaohaagreatdoor", sum := "79a56376cbc99df81b58d6f614988f908f4cf136d8dbdabf8b256ae81da426bb", func := "simulator/simulatorlaw45.CheckpointReturns", spec := "checkpointReturns", unfollowed := true, recurses := true, named := ["simulator/code.forms"], loops := true, plainKeys := false, apart := false, laid := [("simulator/code.forms", laid_simulator_code_forms)], narrowed := true }
def CheckpointReturnsUptoSaid : Prop := checkpointReturnsUptoRow.holds Tryz.pinned (OpenSpec.upto checkpointReturnsSpec)

/-- 'simulatorlaw45.CheckpointBreaks', WHERE WHAT IT READS IS OF BULK AT MOST 1048576: true; the input reads as it did. -/
def checkpointBreaksUptoRow : OpenClaim := { program := "ytlkggeaibgaohaagreatdoor", sum := "79a56376cbc99df81b58d6f614988f908f4cf136d8dbdabf8b256ae81da426bb", func := "simulator/simulatorlaw45.CheckpointBreaks", spec := "checkpointBreaks", unfollowed := true, recurses := true, named := ["simulator/code.forms"], loops := true, plainKeys := false, apart := false, laid := [("simulator/code.forms", laid_simulator_code_forms)], narrowed := true }
def CheckpointBreaksUptoSaid : Prop := checkpointBreaksUptoRow.holds Tryz.pinned (OpenSpec.upto checkpointBreaksSpec)

end Rows
end Go.Proofs.YtlkggeaibgaohaaGreatDoor
