/-
  No cell of these rows narrows 'for every input' (looked for: loops, veiled, ifaces, maps, wideKeys, modest, calm, conditions, laid).
  DERIVED. THE GIVEN ROWS OF THIS SEAT. 8 by the template 'for every input the law returns true; each argument reads behind the call as it read before'; 0 by the template 'total and deterministic' (their statements: YtomcjjehfocbmaaTotals.lean).
  GIVEN WITH THE SEED: the statements are not yours to turn. If you find one false, say at which input.
  Laid BY PROGRAM, IN A SANDBOX (cutbox-rows.mjs): the forced cells as the released guide's own fill.sh prints them over the translation 13c42751425927b1… (all of the seat's roots in one cut). By AI agents, Wed Nov 11 2026. No macro, syntax, notation, axiom, sorry.
-/
import Derived.Test.YtomcjjehfocbmaaChecked
import GoSem.Claim
import GoSem.ClaimJoined
import GoSem.ClaimMapViews
import Derived.JoinedTies
import Derived.KernelRfl
namespace Go.Proofs.Ytomcjjehfocbmaa
/- THE CELL 'sum', in the pinned program and in every row, IS THE sha256 OF THE DUMP (.gsa) THAT YtomcjjehfocbmaaProg.lean LOADS. Nothing in Lean hashes anything: it is a label: what it is worth is what the hold of that sum in a sandbox is worth. -/
noncomputable def Try.pinned : Pinned := { name := "ytomcjjehfocbmaa", sum := "13c42751425927b17aa0f3ffc5373257321fd5a21cdf50a984c55be3ad740ed5", checked := Try.checked }
namespace Rows
def none {H : Type} : Left H := { results := [], args := [] }

/-- 'laws.FnExactIndexSeek': WHATEVER THE INPUT: true; the input reads as it did. -/
def fnExactIndexSeekSpec : ChangeSpec := { name := "fnExactIndexSeek", fn := fun _ => fun
  | [d1, d2, d3] => { results := [.lit (.bool true)], args := [d1, d2, d3] }
  | _ => none }
def fnExactIndexSeekRow : OpenClaim := { program := "ytomcjjehfocbmaa", sum := "13c42751425927b17aa0f3ffc5373257321fd5a21cdf50a984c55be3ad740ed5", func := "loop.example/recordbatches/laws.FnExactIndexSeek", spec := "fnExactIndexSeek", unfollowed := true, recurses := true, plainKeys := false, apart := false }
def FnExactIndexSeekSaid : Prop := fnExactIndexSeekRow.holds Try.pinned (OpenSpec.ofChange fnExactIndexSeekSpec)

/-- ITS FALSE NEIGHBOUR: 'it returns false'. Refute it at one input. -/
def fnExactIndexSeekWrong : ChangeSpec := { name := "fnExactIndexSeek", fn := fun _ => fun
  | [d1, d2, d3] => { results := [.lit (.bool false)], args := [d1, d2, d3] }
  | _ => none }
def FnExactIndexSeekWrongFalsely : Prop := fnExactIndexSeekRow.holds Try.pinned (OpenSpec.ofChange fnExactIndexSeekWrong)

/-- 'laws.FnLog': WHATEVER THE INPUT: true; the input reads as it did. -/
def fnLogSpec : ChangeSpec := { name := "fnLog", fn := fun _ => fun
  | [d] => { results := [.lit (.bool true)], args := [d] }
  | _ => none }
def fnLogRow : OpenClaim := { program := "ytomcjjehfocbmaa", sum := "13c42751425927b17aa0f3ffc5373257321fd5a21cdf50a984c55be3ad740ed5", func := "loop.example/recordbatches/laws.FnLog", spec := "fnLog", unfollowed := true, recurses := true, plainKeys := false, apart := false }
def FnLogSaid : Prop := fnLogRow.holds Try.pinned (OpenSpec.ofChange fnLogSpec)

/-- ITS FALSE NEIGHBOUR: 'it returns false'. Refute it at one input. -/
def fnLogWrong : ChangeSpec := { name := "fnLog", fn := fun _ => fun
  | [d] => { results := [.lit (.bool false)], args := [d] }
  | _ => none }
def FnLogWrongFalsely : Prop := fnLogRow.holds Try.pinned (OpenSpec.ofChange fnLogWrong)

/-- 'laws.FnLogTorn': WHATEVER THE INPUT: true; the input reads as it did. -/
def fnLogTornSpec : ChangeSpec := { name := "fnLogTorn", fn := fun _ => fun
  | [d] => { results := [.lit (.bool true)], args := [d] }
  | _ => none }
def fnLogTornRow : OpenClaim := { program := "ytomcjjehfocbmaa", sum := "13c42751425927b17aa0f3ffc5373257321fd5a21cdf50a984c55be3ad740ed5", func := "loop.example/recordbatches/laws.FnLogTorn", spec := "fnLogTorn", unfollowed := true, recurses := true, plainKeys := false, apart := false }
def FnLogTornSaid : Prop := fnLogTornRow.holds Try.pinned (OpenSpec.ofChange fnLogTornSpec)

/-- ITS FALSE NEIGHBOUR: 'it returns false'. Refute it at one input. -/
def fnLogTornWrong : ChangeSpec := { name := "fnLogTorn", fn := fun _ => fun
  | [d] => { results := [.lit (.bool false)], args := [d] }
  | _ => none }
def FnLogTornWrongFalsely : Prop := fnLogTornRow.holds Try.pinned (OpenSpec.ofChange fnLogTornWrong)

/-- 'laws.FnLogTornAny': WHATEVER THE INPUT: true; the input reads as it did. -/
def fnLogTornAnySpec : ChangeSpec := { name := "fnLogTornAny", fn := fun _ => fun
  | [d1, d2] => { results := [.lit (.bool true)], args := [d1, d2] }
  | _ => none }
def fnLogTornAnyRow : OpenClaim := { program := "ytomcjjehfocbmaa", sum := "13c42751425927b17aa0f3ffc5373257321fd5a21cdf50a984c55be3ad740ed5", func := "loop.example/recordbatches/laws.FnLogTornAny", spec := "fnLogTornAny", unfollowed := true, recurses := true, plainKeys := false, apart := false }
def FnLogTornAnySaid : Prop := fnLogTornAnyRow.holds Try.pinned (OpenSpec.ofChange fnLogTornAnySpec)

/-- ITS FALSE NEIGHBOUR: 'it returns false'. Refute it at one input. -/
def fnLogTornAnyWrong : ChangeSpec := { name := "fnLogTornAny", fn := fun _ => fun
  | [d1, d2] => { results := [.lit (.bool false)], args := [d1, d2] }
  | _ => none }
def FnLogTornAnyWrongFalsely : Prop := fnLogTornAnyRow.holds Try.pinned (OpenSpec.ofChange fnLogTornAnyWrong)

/-- 'laws.FnLogScan': WHATEVER THE INPUT: true; the input reads as it did. -/
def fnLogScanSpec : ChangeSpec := { name := "fnLogScan", fn := fun _ => fun
  | [d] => { results := [.lit (.bool true)], args := [d] }
  | _ => none }
def fnLogScanRow : OpenClaim := { program := "ytomcjjehfocbmaa", sum := "13c42751425927b17aa0f3ffc5373257321fd5a21cdf50a984c55be3ad740ed5", func := "loop.example/recordbatches/laws.FnLogScan", spec := "fnLogScan", unfollowed := true, recurses := true, plainKeys := false, apart := false }
def FnLogScanSaid : Prop := fnLogScanRow.holds Try.pinned (OpenSpec.ofChange fnLogScanSpec)

/-- ITS FALSE NEIGHBOUR: 'it returns false'. Refute it at one input. -/
def fnLogScanWrong : ChangeSpec := { name := "fnLogScan", fn := fun _ => fun
  | [d] => { results := [.lit (.bool false)], args := [d] }
  | _ => none }
def FnLogScanWrongFalsely : Prop := fnLogScanRow.holds Try.pinned (OpenSpec.ofChange fnLogScanWrong)

/-- 'laws.FnLogScanTwice': WHATEVER THE INPUT: true; the input reads as it did. -/
def fnLogScanTwiceSpec : ChangeSpec := { name := "fnLogScanTwice", fn := fun _ => fun
  | [d] => { results := [.lit (.bool true)], args := [d] }
  | _ => none }
def fnLogScanTwiceRow : OpenClaim := { program := "ytomcjjehfocbmaa", sum := "13c42751425927b17aa0f3ffc5373257321fd5a21cdf50a984c55be3ad740ed5", func := "loop.example/recordbatches/laws.FnLogScanTwice", spec := "fnLogScanTwice", unfollowed := true, recurses := true, plainKeys := false, apart := false }
def FnLogScanTwiceSaid : Prop := fnLogScanTwiceRow.holds Try.pinned (OpenSpec.ofChange fnLogScanTwiceSpec)

/-- ITS FALSE NEIGHBOUR: 'it returns false'. Refute it at one input. -/
def fnLogScanTwiceWrong : ChangeSpec := { name := "fnLogScanTwice", fn := fun _ => fun
  | [d] => { results := [.lit (.bool false)], args := [d] }
  | _ => none }
def FnLogScanTwiceWrongFalsely : Prop := fnLogScanTwiceRow.holds Try.pinned (OpenSpec.ofChange fnLogScanTwiceWrong)

/-- 'laws.FnLogScanOrder': WHATEVER THE INPUT: true; the input reads as it did. -/
def fnLogScanOrderSpec : ChangeSpec := { name := "fnLogScanOrder", fn := fun _ => fun
  | [d] => { results := [.lit (.bool true)], args := [d] }
  | _ => none }
def fnLogScanOrderRow : OpenClaim := { program := "ytomcjjehfocbmaa", sum := "13c42751425927b17aa0f3ffc5373257321fd5a21cdf50a984c55be3ad740ed5", func := "loop.example/recordbatches/laws.FnLogScanOrder", spec := "fnLogScanOrder", unfollowed := true, recurses := true, plainKeys := false, apart := false }
def FnLogScanOrderSaid : Prop := fnLogScanOrderRow.holds Try.pinned (OpenSpec.ofChange fnLogScanOrderSpec)

/-- ITS FALSE NEIGHBOUR: 'it returns false'. Refute it at one input. -/
def fnLogScanOrderWrong : ChangeSpec := { name := "fnLogScanOrder", fn := fun _ => fun
  | [d] => { results := [.lit (.bool false)], args := [d] }
  | _ => none }
def FnLogScanOrderWrongFalsely : Prop := fnLogScanOrderRow.holds Try.pinned (OpenSpec.ofChange fnLogScanOrderWrong)

/-- 'laws.FnExactLogScan': WHATEVER THE INPUT: true; the input reads as it did. -/
def fnExactLogScanSpec : ChangeSpec := { name := "fnExactLogScan", fn := fun _ => fun
  | [d] => { results := [.lit (.bool true)], args := [d] }
  | _ => none }
def fnExactLogScanRow : OpenClaim := { program := "ytomcjjehfocbmaa", sum := "13c42751425927b17aa0f3ffc5373257321fd5a21cdf50a984c55be3ad740ed5", func := "loop.example/recordbatches/laws.FnExactLogScan", spec := "fnExactLogScan", unfollowed := true, recurses := true, plainKeys := false, apart := false }
def FnExactLogScanSaid : Prop := fnExactLogScanRow.holds Try.pinned (OpenSpec.ofChange fnExactLogScanSpec)

/-- ITS FALSE NEIGHBOUR: 'it returns false'. Refute it at one input. -/
def fnExactLogScanWrong : ChangeSpec := { name := "fnExactLogScan", fn := fun _ => fun
  | [d] => { results := [.lit (.bool false)], args := [d] }
  | _ => none }
def FnExactLogScanWrongFalsely : Prop := fnExactLogScanRow.holds Try.pinned (OpenSpec.ofChange fnExactLogScanWrong)

/- THE SECOND FORM. 'bulk': how many values and letters a reading holds, each counted each time it is reached (what is shared counts as often as it is met; a slice's spare places count too). A statement '..UptoSaid' is the law's where the arguments, and the package variables that the reading takes, are together of bulk at most 1048576: NARROWER than '..Said'. Prove '..Said' where nothing that the law and all that it calls make is longer than what came in: it says more and counts as full. Else prove '..UptoSaid'. A law counts once. -/
mutual
def uptoBulk {H : Type} : DataW H → Nat
  | .lit (.string bytes) => bytes.length + 1
  | .lit _ => 1
  | .nil => 1
  | .ptr d => uptoBulk d + 1
  | .slice elems spare => uptoBulkAll elems + uptoBulkAll spare + 1
  | .agg parts => uptoBulkAll parts + 1
  | .iface _ d => uptoBulk d + 1
  | .map entries => uptoBulkEntries entries + 1
  | .held _ => 1
def uptoBulkAll {H : Type} : List (DataW H) → Nat
  | [] => 0
  | d :: r => uptoBulk d + uptoBulkAll r
def uptoBulkEntries {H : Type} : List (Lit × DataW H) → Nat
  | [] => 0
  | x :: r => uptoBulkEntry x + uptoBulkEntries r
def uptoBulkEntry {H : Type} : Lit × DataW H → Nat
  | (.string bytes, d) => bytes.length + uptoBulk d + 1
  | (_, d) => uptoBulk d + 1
 end
def uptoSmall : (H : Type) → List (DataW H) → Bool := fun _ ds => decide (uptoBulkAll ds ≤ 1048576)
def OpenSpec.upto (s : _root_.Go.ChangeSpec) : _root_.Go.OpenSpec := { _root_.Go.OpenSpec.ofChange s with cond := some uptoSmall }

/-- 'laws.FnExactIndexSeek', WHERE WHAT IT READS IS OF BULK AT MOST 1048576: true; the input reads as it did. -/
def fnExactIndexSeekUptoRow : OpenClaim := { program := "ytomcjjehfocbmaa", sum := "13c42751425927b17aa0f3ffc5373257321fd5a21cdf50a984c55be3ad740ed5", func := "loop.example/recordbatches/laws.FnExactIndexSeek", spec := "fnExactIndexSeek", unfollowed := true, recurses := true, plainKeys := false, apart := false, narrowed := true }
def FnExactIndexSeekUptoSaid : Prop := fnExactIndexSeekUptoRow.holds Try.pinned (OpenSpec.upto fnExactIndexSeekSpec)

/-- 'laws.FnLog', WHERE WHAT IT READS IS OF BULK AT MOST 1048576: true; the input reads as it did. -/
def fnLogUptoRow : OpenClaim := { program := "ytomcjjehfocbmaa", sum := "13c42751425927b17aa0f3ffc5373257321fd5a21cdf50a984c55be3ad740ed5", func := "loop.example/recordbatches/laws.FnLog", spec := "fnLog", unfollowed := true, recurses := true, plainKeys := false, apart := false, narrowed := true }
def FnLogUptoSaid : Prop := fnLogUptoRow.holds Try.pinned (OpenSpec.upto fnLogSpec)

/-- 'laws.FnLogTorn', WHERE WHAT IT READS IS OF BULK AT MOST 1048576: true; the input reads as it did. -/
def fnLogTornUptoRow : OpenClaim := { program := "ytomcjjehfocbmaa", sum := "13c42751425927b17aa0f3ffc5373257321fd5a21cdf50a984c55be3ad740ed5", func := "loop.example/recordbatches/laws.FnLogTorn", spec := "fnLogTorn", unfollowed := true, recurses := true, plainKeys := false, apart := false, narrowed := true }
def FnLogTornUptoSaid : Prop := fnLogTornUptoRow.holds Try.pinned (OpenSpec.upto fnLogTornSpec)

/-- 'laws.FnLogTornAny', WHERE WHAT IT READS IS OF BULK AT MOST 1048576: true; the input reads as it did. -/
def fnLogTornAnyUptoRow : OpenClaim := { program := "ytomcjjehfocbmaa", sum := "13c42751425927b17aa0f3ffc5373257321fd5a21cdf50a984c55be3ad740ed5", func := "loop.example/recordbatches/laws.FnLogTornAny", spec := "fnLogTornAny", unfollowed := true, recurses := true, plainKeys := false, apart := false, narrowed := true }
def FnLogTornAnyUptoSaid : Prop := fnLogTornAnyUptoRow.holds Try.pinned (OpenSpec.upto fnLogTornAnySpec)

/-- 'laws.FnLogScan', WHERE WHAT IT READS IS OF BULK AT MOST 1048576: true; the input reads as it did. -/
def fnLogScanUptoRow : OpenClaim := { program := "ytomcjjehfocbmaa", sum := "13c42751425927b17aa0f3ffc5373257321fd5a21cdf50a984c55be3ad740ed5", func := "loop.example/recordbatches/laws.FnLogScan", spec := "fnLogScan", unfollowed := true, recurses := true, plainKeys := false, apart := false, narrowed := true }
def FnLogScanUptoSaid : Prop := fnLogScanUptoRow.holds Try.pinned (OpenSpec.upto fnLogScanSpec)

/-- 'laws.FnLogScanTwice', WHERE WHAT IT READS IS OF BULK AT MOST 1048576: true; the input reads as it did. -/
def fnLogScanTwiceUptoRow : OpenClaim := { program := "ytomcjjehfocbmaa", sum := "13c42751425927b17aa0f3ffc5373257321fd5a21cdf50a984c55be3ad740ed5", func := "loop.example/recordbatches/laws.FnLogScanTwice", spec := "fnLogScanTwice", unfollowed := true, recurses := true, plainKeys := false, apart := false, narrowed := true }
def FnLogScanTwiceUptoSaid : Prop := fnLogScanTwiceUptoRow.holds Try.pinned (OpenSpec.upto fnLogScanTwiceSpec)

/-- 'laws.FnLogScanOrder', WHERE WHAT IT READS IS OF BULK AT MOST 1048576: true; the input reads as it did. -/
def fnLogScanOrderUptoRow : OpenClaim := { program := "ytomcjjehfocbmaa", sum := "13c42751425927b17aa0f3ffc5373257321fd5a21cdf50a984c55be3ad740ed5", func := "loop.example/recordbatches/laws.FnLogScanOrder", spec := "fnLogScanOrder", unfollowed := true, recurses := true, plainKeys := false, apart := false, narrowed := true }
def FnLogScanOrderUptoSaid : Prop := fnLogScanOrderUptoRow.holds Try.pinned (OpenSpec.upto fnLogScanOrderSpec)

/-- 'laws.FnExactLogScan', WHERE WHAT IT READS IS OF BULK AT MOST 1048576: true; the input reads as it did. -/
def fnExactLogScanUptoRow : OpenClaim := { program := "ytomcjjehfocbmaa", sum := "13c42751425927b17aa0f3ffc5373257321fd5a21cdf50a984c55be3ad740ed5", func := "loop.example/recordbatches/laws.FnExactLogScan", spec := "fnExactLogScan", unfollowed := true, recurses := true, plainKeys := false, apart := false, narrowed := true }
def FnExactLogScanUptoSaid : Prop := fnExactLogScanUptoRow.holds Try.pinned (OpenSpec.upto fnExactLogScanSpec)

end Rows
end Go.Proofs.Ytomcjjehfocbmaa
