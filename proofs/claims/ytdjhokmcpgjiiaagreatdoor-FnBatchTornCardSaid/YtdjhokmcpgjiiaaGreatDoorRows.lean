/-
  NARROWER THAN 'FOR EVERY INPUT', by the rows' own cells (each row's printed sentence says how): FnBatchFrom: laid · FnExactBatchFrom: laid · FnBatchTorn: laid.
  DERIVED. THE GIVEN ROWS OF THIS SEAT. 3 by the template 'for every input the law returns true; each argument reads behind the call as it read before'; 0 by the template 'total and deterministic' (their statements: YtdjhokmcpgjiiaaGreatDoorTotals.lean).
  GIVEN WITH THE SEED: the statements are not yours to turn. If you find one false, say at which input.
  Laid BY PROGRAM, IN A SANDBOX (cutbox-rows.mjs): the forced cells as the released guide's own fill.sh prints them over the translation a63547db6b72b7fb… (all of the seat's roots in one cut). By AI agents, Wed Nov 11 2026. No macro, syntax, notation, axiom, sorry.
-/
import Derived.Test.YtdjhokmcpgjiiaaGreatDoorChecked
import GoSem.Claim
import GoSem.ClaimJoined
import GoSem.ClaimMapViews
import Derived.JoinedTies
import Derived.KernelRfl
namespace Go.Proofs.YtdjhokmcpgjiiaaGreatDoor
/- THE CELL 'sum', in the pinned program and in every row, IS THE sha256 OF THE DUMP (.gsa) THAT YtdjhokmcpgjiiaaGreatDoorProg.lean LOADS. Nothing in Lean hashes anything: it is a label: what it is worth is what the hold of that sum in a sandbox is worth. -/
noncomputable def Tryz.pinned : Pinned := { name := "ytdjhokmcpgjiiaagreatdoor", sum := "a63547db6b72b7fb93325152454f707c29f80935489fca15f5e9589151905945", checked := Tryz.checked }
namespace Rows
def none {H : Type} : Left H := { results := [], args := [] }

/- WHAT THE LISTED PACKAGE-LEVEL VARIABLES READ AS WHEN THE CALL BEGINS. Each datum BY PROGRAM (the guide's laid-datum.mjs) off the statement by which the dump's own 'gosem.cut.vars' lays the variable. In a bare row this is a premise. The card (YtdjhokmcpgjiiaaGreatDoorCards.lean) ties it to the program's text. -/
def laid_errors_errorType {H : Type} : DataW H := .iface "internal/reflectlite.rtype" (.agg [.ptr (.lit (.string [101, 114, 114, 111, 114]))])

/-- 'laws.FnBatchFrom': WHATEVER THE INPUT: true; the input reads as it did. -/
def fnBatchFromSpec : ChangeSpec := { name := "fnBatchFrom", fn := fun _ => fun
  | [d] => { results := [.lit (.bool true)], args := [d] }
  | _ => none }
def fnBatchFromRow : OpenClaim := { program := "ytdjhokmcpgjiiaagreatdoor", sum := "a63547db6b72b7fb93325152454f707c29f80935489fca15f5e9589151905945", func := "loop.example/recordbatches/laws.FnBatchFrom", spec := "fnBatchFrom", inPlace := ["internal/reflectlite.ValueOf", "(internal/reflectlite.Value).Type", "(internal/reflectlite.Value).IsNil", "internal/reflectlite.TypeOf", "(internal/reflectlite.Value).Elem", "(internal/reflectlite.Value).Set"], unfollowed := true, recurses := true, named := ["errors.errorType"], plainKeys := false, apart := false, laid := [("errors.errorType", laid_errors_errorType)] }
def FnBatchFromSaid : Prop := fnBatchFromRow.holds Tryz.pinned (OpenSpec.ofChange fnBatchFromSpec)

/-- ITS FALSE NEIGHBOUR: 'it returns false'. Refute it at one input. -/
def fnBatchFromWrong : ChangeSpec := { name := "fnBatchFrom", fn := fun _ => fun
  | [d] => { results := [.lit (.bool false)], args := [d] }
  | _ => none }
def FnBatchFromWrongFalsely : Prop := fnBatchFromRow.holds Tryz.pinned (OpenSpec.ofChange fnBatchFromWrong)

/-- 'laws.FnExactBatchFrom': WHATEVER THE INPUT: true; the input reads as it did. -/
def fnExactBatchFromSpec : ChangeSpec := { name := "fnExactBatchFrom", fn := fun _ => fun
  | [d1, d2] => { results := [.lit (.bool true)], args := [d1, d2] }
  | _ => none }
def fnExactBatchFromRow : OpenClaim := { program := "ytdjhokmcpgjiiaagreatdoor", sum := "a63547db6b72b7fb93325152454f707c29f80935489fca15f5e9589151905945", func := "loop.example/recordbatches/laws.FnExactBatchFrom", spec := "fnExactBatchFrom", inPlace := ["internal/reflectlite.ValueOf", "(internal/reflectlite.Value).Type", "(internal/reflectlite.Value).IsNil", "internal/reflectlite.TypeOf", "(internal/reflectlite.Value).Elem", "(internal/reflectlite.Value).Set"], unfollowed := true, recurses := true, named := ["errors.errorType"], plainKeys := false, apart := false, laid := [("errors.errorType", laid_errors_errorType)] }
def FnExactBatchFromSaid : Prop := fnExactBatchFromRow.holds Tryz.pinned (OpenSpec.ofChange fnExactBatchFromSpec)

/-- ITS FALSE NEIGHBOUR: 'it returns false'. Refute it at one input. -/
def fnExactBatchFromWrong : ChangeSpec := { name := "fnExactBatchFrom", fn := fun _ => fun
  | [d1, d2] => { results := [.lit (.bool false)], args := [d1, d2] }
  | _ => none }
def FnExactBatchFromWrongFalsely : Prop := fnExactBatchFromRow.holds Tryz.pinned (OpenSpec.ofChange fnExactBatchFromWrong)

/-- 'laws.FnBatchTorn': WHATEVER THE INPUT: true; the input reads as it did. -/
def fnBatchTornSpec : ChangeSpec := { name := "fnBatchTorn", fn := fun _ => fun
  | [d] => { results := [.lit (.bool true)], args := [d] }
  | _ => none }
def fnBatchTornRow : OpenClaim := { program := "ytdjhokmcpgjiiaagreatdoor", sum := "a63547db6b72b7fb93325152454f707c29f80935489fca15f5e9589151905945", func := "loop.example/recordbatches/laws.FnBatchTorn", spec := "fnBatchTorn", inPlace := ["internal/reflectlite.ValueOf", "(internal/reflectlite.Value).Type", "(internal/reflectlite.Value).IsNil", "internal/reflectlite.TypeOf", "(internal/reflectlite.Value).Elem", "(internal/reflectlite.Value).Set"], unfollowed := true, recurses := true, named := ["errors.errorType"], plainKeys := false, apart := false, laid := [("errors.errorType", laid_errors_errorType)] }
def FnBatchTornSaid : Prop := fnBatchTornRow.holds Tryz.pinned (OpenSpec.ofChange fnBatchTornSpec)

/-- ITS FALSE NEIGHBOUR: 'it returns false'. Refute it at one input. -/
def fnBatchTornWrong : ChangeSpec := { name := "fnBatchTorn", fn := fun _ => fun
  | [d] => { results := [.lit (.bool false)], args := [d] }
  | _ => none }
def FnBatchTornWrongFalsely : Prop := fnBatchTornRow.holds Tryz.pinned (OpenSpec.ofChange fnBatchTornWrong)

/- THE SECOND FORM. 'bulk': how many values and letters a reading holds, each counted each time it is reached (what is shared counts as often as it is met; a slice's spare places count too). A statement '..UptoSaid' is the law's where the arguments, and the package variables that the reading takes, are together of bulk at most 1048576: NARROWER than '..Said'. Prove '..Said' where nothing that the law and all that it calls make is longer than what came in: it says more and counts as full. Else prove '..UptoSaid'. A law counts once. -/
mutual
def uptoBulk {H : Type} : DataW H → Nat
  | .lit (.string bytes) => bytes.length + 1
  | .lit _ => 1
  | .nil => 1
  | .ptr d => uptoBulk d + 1
  | .slice elems spare => uptoBulkAll elems + uptoBulkAll spare + 1
  | .agg parts => uptoBulkAll parts + 1
  | .iface _ d => uptoBulk d + 1
  | .map entries => uptoBulkEntries entries + 1
  | .held _ => 1
def uptoBulkAll {H : Type} : List (DataW H) → Nat
  | [] => 0
  | d :: r => uptoBulk d + uptoBulkAll r
def uptoBulkEntries {H : Type} : List (Lit × DataW H) → Nat
  | [] => 0
  | x :: r => uptoBulkEntry x + uptoBulkEntries r
def uptoBulkEntry {H : Type} : Lit × DataW H → Nat
  | (.string bytes, d) => bytes.length + uptoBulk d + 1
  | (_, d) => uptoBulk d + 1
 end
def uptoSmall : (H : Type) → List (DataW H) → Bool := fun _ ds => decide (uptoBulkAll ds ≤ 1048576)
def OpenSpec.upto (s : _root_.Go.ChangeSpec) : _root_.Go.OpenSpec := { _root_.Go.OpenSpec.ofChange s with cond := some uptoSmall }

/-- 'laws.FnBatchFrom', WHERE WHAT IT READS IS OF BULK AT MOST 1048576: true; the input reads as it did. -/
def fnBatchFromUptoRow : OpenClaim := { program := "ytdjhokmcpgjiiaagreatdoor", sum := "a63547db6b72b7fb93325152454f707c29f80935489fca15f5e9589151905945", func := "loop.example/recordbatches/laws.FnBatchFrom", spec := "fnBatchFrom", inPlace := ["internal/reflectlite.ValueOf", "(internal/reflectlite.Value).Type", "(internal/reflectlite.Value).IsNil", "internal/reflectlite.TypeOf", "(internal/reflectlite.Value).Elem", "(internal/reflectlite.Value).Set"], unfollowed := true, recurses := true, named := ["errors.errorType"], plainKeys := false, apart := false, laid := [("errors.errorType", laid_errors_errorType)], narrowed := true }
def FnBatchFromUptoSaid : Prop := fnBatchFromUptoRow.holds Tryz.pinned (OpenSpec.upto fnBatchFromSpec)

/-- 'laws.FnExactBatchFrom', WHERE WHAT IT READS IS OF BULK AT MOST 1048576: true; the input reads as it did. -/
def fnExactBatchFromUptoRow : OpenClaim := { program := "ytdjhokmcpgjiiaagreatdoor", sum := "a63547db6b72b7fb93325152454f707c29f80935489fca15f5e9589151905945", func := "loop.example/recordbatches/laws.FnExactBatchFrom", spec := "fnExactBatchFrom", inPlace := ["internal/reflectlite.ValueOf", "(internal/reflectlite.Value).Type", "(internal/reflectlite.Value).IsNil", "internal/reflectlite.TypeOf", "(internal/reflectlite.Value).Elem", "(internal/reflectlite.Value).Set"], unfollowed := true, recurses := true, named := ["errors.errorType"], plainKeys := false, apart := false, laid := [("errors.errorType", laid_errors_errorType)], narrowed := true }
def FnExactBatchFromUptoSaid : Prop := fnExactBatchFromUptoRow.holds Tryz.pinned (OpenSpec.upto fnExactBatchFromSpec)

/-- 'laws.FnBatchTorn', WHERE WHAT IT READS IS OF BULK AT MOST 1048576: true; the input reads as it did. -/
def fnBatchTornUptoRow : OpenClaim := { program := "ytdjhokmcpgjiiaagreatdoor", sum := "a63547db6b72b7fb93325152454f707c29f80935489fca15f5e9589151905945", func := "loop.example/recordbatches/laws.FnBatchTorn", spec := "fnBatchTorn", inPlace := ["internal/reflectlite.ValueOf", "(internal/reflectlite.Value).Type", "(internal/reflectlite.Value).IsNil", "internal/reflectlite.TypeOf", "(internal/reflectlite.Value).Elem", "(internal/reflectlite.Value).Set"], unfollowed := true, recurses := true, named := ["errors.errorType"], plainKeys := false, apart := false, laid := [("errors.errorType", laid_errors_errorType)], narrowed := true }
def FnBatchTornUptoSaid : Prop := fnBatchTornUptoRow.holds Tryz.pinned (OpenSpec.upto fnBatchTornSpec)

end Rows
end Go.Proofs.YtdjhokmcpgjiiaaGreatDoor
