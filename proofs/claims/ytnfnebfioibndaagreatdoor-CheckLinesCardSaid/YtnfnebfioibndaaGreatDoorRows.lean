/-
  NARROWER THAN 'FOR EVERY INPUT', by the rows' own cells (each row's printed sentence says how): CheckJudges: laid · CheckLines: laid.
  DERIVED. THE GIVEN ROWS OF THIS SEAT. 2 by the template 'for every input the law returns true; each argument reads behind the call as it read before'; 0 by the template 'total and deterministic' (their statements: YtnfnebfioibndaaGreatDoorTotals.lean).
  GIVEN WITH THE SEED: the statements are not yours to turn. If you find one false, say at which input.
  Laid BY PROGRAM, IN A SANDBOX (cutbox-rows.mjs): the forced cells as the released guide's own fill.sh prints them over the translation 27e9ae6aedffc09a… (all of the seat's roots in one cut). By AI agents, Wed Nov 11 2026. No macro, syntax, notation, axiom, sorry.
-/
import Derived.Test.YtnfnebfioibndaaGreatDoorChecked
import GoSem.PinnedTables
import GoSem.Claim
import GoSem.ClaimJoined
import GoSem.ClaimMapViews
import Derived.JoinedTies
import Derived.KernelRfl
namespace Go.Proofs.YtnfnebfioibndaaGreatDoor
/- THE CELL 'sum', in the pinned program and in every row, IS THE sha256 OF THE DUMP (.gsa) THAT YtnfnebfioibndaaGreatDoorProg.lean LOADS. Nothing in Lean hashes anything: it is a label: what it is worth is what the hold of that sum in a sandbox is worth. -/
noncomputable def Tryz.pinned : Pinned := { name := "ytnfnebfioibndaagreatdoor", sum := "27e9ae6aedffc09aee2cb9d9f930873950d2d55d8cbf6e3c8b73eb50f3f8f101", checked := Tryz.checked }
namespace Rows
def none {H : Type} : Left H := { results := [], args := [] }

/- WHAT THE LISTED PACKAGE-LEVEL VARIABLES READ AS WHEN THE CALL BEGINS. Each datum BY PROGRAM (the guide's laid-datum.mjs) off the statement by which the dump's own 'gosem.cut.vars' lays the variable. In a bare row this is a premise. The card (YtnfnebfioibndaaGreatDoorCards.lean) ties it to the program's text. -/
def laid_unicode_utf8_acceptRanges {H : Type} : DataW H := .agg [.agg [.lit (.int .u8 128), .lit (.int .u8 191)], .agg [.lit (.int .u8 160), .lit (.int .u8 191)], .agg [.lit (.int .u8 128), .lit (.int .u8 159)], .agg [.lit (.int .u8 144), .lit (.int .u8 191)], .agg [.lit (.int .u8 128), .lit (.int .u8 143)], .agg [.lit (.int .u8 0), .lit (.int .u8 0)], .agg [.lit (.int .u8 0), .lit (.int .u8 0)], .agg [.lit (.int .u8 0), .lit (.int .u8 0)], .agg [.lit (.int .u8 0), .lit (.int .u8 0)], .agg [.lit (.int .u8 0), .lit (.int .u8 0)], .agg [.lit (.int .u8 0), .lit (.int .u8 0)], .agg [.lit (.int .u8 0), .lit (.int .u8 0)], .agg [.lit (.int .u8 0), .lit (.int .u8 0)], .agg [.lit (.int .u8 0), .lit (.int .u8 0)], .agg [.lit (.int .u8 0), .lit (.int .u8 0)], .agg [.lit (.int .u8 0), .lit (.int .u8 0)]]
def laid_errors_errorType {H : Type} : DataW H := .iface "internal/reflectlite.rtype" (.agg [.ptr (.lit (.string [101, 114, 114, 111, 114]))])
def laid_stevedore_stevedoreref_table {H : Type} : DataW H := .agg [.lit (.string [50, 50, 50, 50, 50, 50, 50, 50]), .lit (.string [45, 45, 51, 45, 45, 45, 45, 45]), .lit (.string [45, 45, 45, 52, 52, 45, 45, 45]), .lit (.string [45, 45, 45, 45, 55, 45, 45, 45]), .lit (.string [45, 45, 50, 45, 52, 45, 52, 45]), .lit (.string [45, 45, 50, 50, 50, 50, 50, 50]), .lit (.string [45, 45, 49, 45, 45, 45, 45, 45]), .lit (.string [45, 48, 48, 45, 45, 45, 45, 45]), .lit (.string [45, 45, 45, 45, 45, 53, 54, 54]), .lit (.string [45, 45, 45, 45, 45, 45, 55, 45])]
def laid_stevedore_stevedoreref_Fine {H : Type} : DataW H := .agg [.lit (.int .i64 0), .lit (.int .i64 (-1))]
def laid_stevedore_status_after {H : Type} : DataW H := .agg [.agg [.lit (.int .i64 0), .lit (.int .i64 0), .lit (.int .i64 0), .lit (.int .i64 0), .lit (.int .i64 0), .lit (.int .i64 0), .lit (.int .i64 0), .lit (.int .i64 0)], .agg [.lit (.int .i64 2), .lit (.int .i64 2), .lit (.int .i64 2), .lit (.int .i64 2), .lit (.int .i64 2), .lit (.int .i64 2), .lit (.int .i64 2), .lit (.int .i64 2)], .agg [.lit (.int .i64 (-1)), .lit (.int .i64 (-1)), .lit (.int .i64 3), .lit (.int .i64 (-1)), .lit (.int .i64 (-1)), .lit (.int .i64 (-1)), .lit (.int .i64 (-1)), .lit (.int .i64 (-1))], .agg [.lit (.int .i64 (-1)), .lit (.int .i64 (-1)), .lit (.int .i64 (-1)), .lit (.int .i64 4), .lit (.int .i64 4), .lit (.int .i64 (-1)), .lit (.int .i64 (-1)), .lit (.int .i64 (-1))], .agg [.lit (.int .i64 (-1)), .lit (.int .i64 (-1)), .lit (.int .i64 (-1)), .lit (.int .i64 (-1)), .lit (.int .i64 7), .lit (.int .i64 (-1)), .lit (.int .i64 (-1)), .lit (.int .i64 (-1))], .agg [.lit (.int .i64 (-1)), .lit (.int .i64 (-1)), .lit (.int .i64 2), .lit (.int .i64 (-1)), .lit (.int .i64 4), .lit (.int .i64 (-1)), .lit (.int .i64 4), .lit (.int .i64 (-1))], .agg [.lit (.int .i64 (-1)), .lit (.int .i64 (-1)), .lit (.int .i64 2), .lit (.int .i64 2), .lit (.int .i64 2), .lit (.int .i64 2), .lit (.int .i64 2), .lit (.int .i64 2)], .agg [.lit (.int .i64 (-1)), .lit (.int .i64 (-1)), .lit (.int .i64 1), .lit (.int .i64 (-1)), .lit (.int .i64 (-1)), .lit (.int .i64 (-1)), .lit (.int .i64 (-1)), .lit (.int .i64 (-1))], .agg [.lit (.int .i64 (-1)), .lit (.int .i64 0), .lit (.int .i64 0), .lit (.int .i64 (-1)), .lit (.int .i64 (-1)), .lit (.int .i64 (-1)), .lit (.int .i64 (-1)), .lit (.int .i64 (-1))], .agg [.lit (.int .i64 (-1)), .lit (.int .i64 (-1)), .lit (.int .i64 (-1)), .lit (.int .i64 (-1)), .lit (.int .i64 (-1)), .lit (.int .i64 5), .lit (.int .i64 6), .lit (.int .i64 6)], .agg [.lit (.int .i64 (-1)), .lit (.int .i64 (-1)), .lit (.int .i64 (-1)), .lit (.int .i64 (-1)), .lit (.int .i64 (-1)), .lit (.int .i64 (-1)), .lit (.int .i64 7), .lit (.int .i64 (-1))]]
/-- One of Go's own tables, pinned by name: the form's constant. -/
def laid_unicode_utf8_first : DataW Unit := Go.Pinned.utf8First

/-- 'stevedorelaw.CheckJudges': WHATEVER THE INPUT: true; the input reads as it did. -/
def checkJudgesSpec : ChangeSpec := { name := "checkJudges", fn := fun _ => fun
  | [d1, d2, d3, d4] => { results := [.lit (.bool true)], args := [d1, d2, d3, d4] }
  | _ => none }
def checkJudgesRow : OpenClaim := { program := "ytnfnebfioibndaagreatdoor", sum := "27e9ae6aedffc09aee2cb9d9f930873950d2d55d8cbf6e3c8b73eb50f3f8f101", func := "stevedore/stevedorelaw.CheckJudges", spec := "checkJudges", inPlace := ["internal/bytealg.IndexByteString", "internal/bytealg.IndexString", "internal/bytealg.abigen_runtime_cmpstring", "internal/reflectlite.ValueOf", "(internal/reflectlite.Value).Type", "(internal/reflectlite.Value).IsNil", "internal/reflectlite.TypeOf", "(internal/reflectlite.Value).Elem", "(internal/reflectlite.Value).Set"], unfollowed := true, recurses := true, named := ["unicode/utf8.first", "unicode/utf8.acceptRanges", "stevedore/stevedoreref.Fine", "errors.errorType", "stevedore/status.after", "stevedore/stevedoreref.table", "internal/bytealg.MaxLen"], apart := false, laid := [("unicode/utf8.acceptRanges", laid_unicode_utf8_acceptRanges), ("errors.errorType", laid_errors_errorType), ("stevedore/stevedoreref.table", laid_stevedore_stevedoreref_table), ("stevedore/stevedoreref.Fine", laid_stevedore_stevedoreref_Fine), ("stevedore/status.after", laid_stevedore_status_after), ("unicode/utf8.first", laid_unicode_utf8_first)] }
def CheckJudgesSaid : Prop := checkJudgesRow.holds Tryz.pinned (OpenSpec.ofChange checkJudgesSpec)

/-- ITS FALSE NEIGHBOUR: 'it returns false'. Refute it at one input. -/
def checkJudgesWrong : ChangeSpec := { name := "checkJudges", fn := fun _ => fun
  | [d1, d2, d3, d4] => { results := [.lit (.bool false)], args := [d1, d2, d3, d4] }
  | _ => none }
def CheckJudgesWrongFalsely : Prop := checkJudgesRow.holds Tryz.pinned (OpenSpec.ofChange checkJudgesWrong)

/-- 'stevedorelaw.CheckLines': WHATEVER THE INPUT: true; the input reads as it did. -/
def checkLinesSpec : ChangeSpec := { name := "checkLines", fn := fun _ => fun
  | [d1, d2] => { results := [.lit (.bool true)], args := [d1, d2] }
  | _ => none }
def checkLinesRow : OpenClaim := { program := "ytnfnebfioibndaagreatdoor", sum := "27e9ae6aedffc09aee2cb9d9f930873950d2d55d8cbf6e3c8b73eb50f3f8f101", func := "stevedore/stevedorelaw.CheckLines", spec := "checkLines", inPlace := ["internal/bytealg.IndexByteString", "internal/bytealg.IndexString", "internal/bytealg.abigen_runtime_cmpstring"], unfollowed := true, recurses := true, named := ["unicode/utf8.first", "unicode/utf8.acceptRanges", "stevedore/status.after", "stevedore/stevedoreref.Fine", "stevedore/stevedoreref.table", "internal/bytealg.MaxLen"], apart := false, laid := [("unicode/utf8.acceptRanges", laid_unicode_utf8_acceptRanges), ("stevedore/stevedoreref.table", laid_stevedore_stevedoreref_table), ("stevedore/stevedoreref.Fine", laid_stevedore_stevedoreref_Fine), ("stevedore/status.after", laid_stevedore_status_after), ("unicode/utf8.first", laid_unicode_utf8_first)] }
def CheckLinesSaid : Prop := checkLinesRow.holds Tryz.pinned (OpenSpec.ofChange checkLinesSpec)

/-- ITS FALSE NEIGHBOUR: 'it returns false'. Refute it at one input. -/
def checkLinesWrong : ChangeSpec := { name := "checkLines", fn := fun _ => fun
  | [d1, d2] => { results := [.lit (.bool false)], args := [d1, d2] }
  | _ => none }
def CheckLinesWrongFalsely : Prop := checkLinesRow.holds Tryz.pinned (OpenSpec.ofChange checkLinesWrong)

/- THE SECOND FORM. 'bulk': how many values and letters a reading holds, each counted each time it is reached (what is shared counts as often as it is met; a slice's spare places count too). A statement '..UptoSaid' is the law's where the arguments, and the package variables that the reading takes, are together of bulk at most 1048576: NARROWER than '..Said'. Prove '..Said' where nothing that the law and all that it calls make is longer than what came in: it says more and counts as full. Else prove '..UptoSaid'. A law counts once. -/
mutual
def uptoBulk {H : Type} : DataW H → Nat
  | .lit (.string bytes) => bytes.length + 1
  | .lit _ => 1
  | .nil => 1
  | .ptr d => uptoBulk d + 1
  | .slice elems spare => uptoBulkAll elems + uptoBulkAll spare + 1
  | .agg parts => uptoBulkAll parts + 1
  | .iface _ d => uptoBulk d + 1
  | .map entries => uptoBulkEntries entries + 1
  | .held _ => 1
def uptoBulkAll {H : Type} : List (DataW H) → Nat
  | [] => 0
  | d :: r => uptoBulk d + uptoBulkAll r
def uptoBulkEntries {H : Type} : List (Lit × DataW H) → Nat
  | [] => 0
  | x :: r => uptoBulkEntry x + uptoBulkEntries r
def uptoBulkEntry {H : Type} : Lit × DataW H → Nat
  | (.string bytes, d) => bytes.length + uptoBulk d + 1
  | (_, d) => uptoBulk d + 1
 end
def uptoSmall : (H : Type) → List (DataW H) → Bool := fun _ ds => decide (uptoBulkAll ds ≤ 1048576)
def OpenSpec.upto (s : _root_.Go.ChangeSpec) : _root_.Go.OpenSpec := { _root_.Go.OpenSpec.ofChange s with cond := some uptoSmall }

/-- 'stevedorelaw.CheckJudges', WHERE WHAT IT READS IS OF BULK AT MOST 1048576: true; the input reads as it did. -/
def checkJudgesUptoRow : OpenClaim := { program := "ytnfnebfioibndaagreatdoor", sum := "27e9ae6aedffc09aee2cb9d9f930873950d2d55d8cbf6e3c8b73eb50f3f8f101", func := "stevedore/stevedorelaw.CheckJudges", spec := "checkJudges", inPlace := ["internal/bytealg.IndexByteString", "internal/bytealg.IndexString", "internal/bytealg.abigen_runtime_cmpstring", "internal/reflectlite.ValueOf", "(internal/reflectlite.Value).Type", "(internal/reflectlite.Value).IsNil", "internal/reflectlite.TypeOf", "(internal/reflectlite.Value).Elem", "(internal/reflectlite.Value).Set"], unfollowed := true, recurses := true, named := ["unicode/utf8.first", "unicode/utf8.acceptRanges", "stevedore/stevedoreref.Fine", "errors.errorType", "stevedore/status.after", "stevedore/stevedoreref.table", "internal/bytealg.MaxLen"], apart := false, laid := [("unicode/utf8.acceptRanges", laid_unicode_utf8_acceptRanges), ("errors.errorType", laid_errors_errorType), ("stevedore/stevedoreref.table", laid_stevedore_stevedoreref_table), ("stevedore/stevedoreref.Fine", laid_stevedore_stevedoreref_Fine), ("stevedore/status.after", laid_stevedore_status_after), ("unicode/utf8.first", laid_unicode_utf8_first)], narrowed := true }
def CheckJudgesUptoSaid : Prop := checkJudgesUptoRow.holds Tryz.pinned (OpenSpec.upto checkJudgesSpec)

/-- 'stevedorelaw.CheckLines', WHERE WHAT IT READS IS OF BULK AT MOST 1048576: true; the input reads as it did. -/
def checkLinesUptoRow : OpenClaim := { program := "ytnfnebfioibndaagreatdoor", sum := "27e9ae6aedffc09aee2cb9d9f930873950d2d55d8cbf6e3c8b73eb50f3f8f101", func := "stevedore/stevedorelaw.CheckLines", spec := "checkLines", inPlace := ["internal/bytealg.IndexByteString", "internal/bytealg.IndexString", "internal/bytealg.abigen_runtime_cmpstring"], unfollowed := true, recurses := true, named := ["unicode/utf8.first", "unicode/utf8.acceptRanges", "stevedore/status.after", "stevedore/stevedoreref.Fine", "stevedore/stevedoreref.table", "internal/bytealg.MaxLen"], apart := false, laid := [("unicode/utf8.acceptRanges", laid_unicode_utf8_acceptRanges), ("stevedore/stevedoreref.table", laid_stevedore_stevedoreref_table), ("stevedore/stevedoreref.Fine", laid_stevedore_stevedoreref_Fine), ("stevedore/status.after", laid_stevedore_status_after), ("unicode/utf8.first", laid_unicode_utf8_first)], narrowed := true }
def CheckLinesUptoSaid : Prop := checkLinesUptoRow.holds Tryz.pinned (OpenSpec.upto checkLinesSpec)

end Rows
end Go.Proofs.YtnfnebfioibndaaGreatDoor
