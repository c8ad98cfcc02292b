/-
  No cell of these rows narrows 'for every input' (looked for: loops, veiled, ifaces, maps, wideKeys, modest, calm, conditions, laid).
  DERIVED. THE GIVEN ROWS OF THIS SEAT. 12 by the template 'for every input the law returns true; each argument reads behind the call as it read before'; 0 by the template 'total and deterministic' (their statements: YtlgcajjoimcdhaaTotals.lean).
  GIVEN WITH THE SEED: the statements are not yours to turn. If you find one false, say at which input.
  Laid BY PROGRAM, IN A SANDBOX (cutbox-rows.mjs): the forced cells as the released guide's own fill.sh prints them over the translation 46115aa422fce2ee… (all of the seat's roots in one cut). By AI agents, Wed Nov 11 2026. No macro, syntax, notation, axiom, sorry.
-/
import Derived.Test.YtlgcajjoimcdhaaChecked
import GoSem.Claim
import GoSem.ClaimJoined
import GoSem.ClaimMapViews
import Derived.JoinedTies
import Derived.KernelRfl
namespace Go.Proofs.Ytlgcajjoimcdhaa
/- THE CELL 'sum', in the pinned program and in every row, IS THE sha256 OF THE DUMP (.gsa) THAT YtlgcajjoimcdhaaProg.lean LOADS. Nothing in Lean hashes anything: it is a label: what it is worth is what the hold of that sum in a sandbox is worth. -/
noncomputable def Try.pinned : Pinned := { name := "ytlgcajjoimcdhaa", sum := "46115aa422fce2ee6f15fcc5111e1bdcd3d8a5dd48f00ae07064245cdcab2ee1", checked := Try.checked }
namespace Rows
def none {H : Type} : Left H := { results := [], args := [] }

/-- 'laws.FnReadEndAppend': WHATEVER THE INPUT: true; the input reads as it did. -/
def fnReadEndAppendSpec : ChangeSpec := { name := "fnReadEndAppend", fn := fun _ => fun
  | [d] => { results := [.lit (.bool true)], args := [d] }
  | _ => none }
def fnReadEndAppendRow : OpenClaim := { program := "ytlgcajjoimcdhaa", sum := "46115aa422fce2ee6f15fcc5111e1bdcd3d8a5dd48f00ae07064245cdcab2ee1", func := "loop.example/recordbatches/laws.FnReadEndAppend", spec := "fnReadEndAppend", apart := false }
def FnReadEndAppendSaid : Prop := fnReadEndAppendRow.holds Try.pinned (OpenSpec.ofChange fnReadEndAppendSpec)

/-- ITS FALSE NEIGHBOUR: 'it returns false'. Refute it at one input. -/
def fnReadEndAppendWrong : ChangeSpec := { name := "fnReadEndAppend", fn := fun _ => fun
  | [d] => { results := [.lit (.bool false)], args := [d] }
  | _ => none }
def FnReadEndAppendWrongFalsely : Prop := fnReadEndAppendRow.holds Try.pinned (OpenSpec.ofChange fnReadEndAppendWrong)

/-- 'laws.FnAppendOffset': WHATEVER THE INPUT: true; the input reads as it did. -/
def fnAppendOffsetSpec : ChangeSpec := { name := "fnAppendOffset", fn := fun _ => fun
  | [d] => { results := [.lit (.bool true)], args := [d] }
  | _ => none }
def fnAppendOffsetRow : OpenClaim := { program := "ytlgcajjoimcdhaa", sum := "46115aa422fce2ee6f15fcc5111e1bdcd3d8a5dd48f00ae07064245cdcab2ee1", func := "loop.example/recordbatches/laws.FnAppendOffset", spec := "fnAppendOffset", apart := false }
def FnAppendOffsetSaid : Prop := fnAppendOffsetRow.holds Try.pinned (OpenSpec.ofChange fnAppendOffsetSpec)

/-- ITS FALSE NEIGHBOUR: 'it returns false'. Refute it at one input. -/
def fnAppendOffsetWrong : ChangeSpec := { name := "fnAppendOffset", fn := fun _ => fun
  | [d] => { results := [.lit (.bool false)], args := [d] }
  | _ => none }
def FnAppendOffsetWrongFalsely : Prop := fnAppendOffsetRow.holds Try.pinned (OpenSpec.ofChange fnAppendOffsetWrong)

/-- 'laws.FnAppendOthers': WHATEVER THE INPUT: true; the input reads as it did. -/
def fnAppendOthersSpec : ChangeSpec := { name := "fnAppendOthers", fn := fun _ => fun
  | [d] => { results := [.lit (.bool true)], args := [d] }
  | _ => none }
def fnAppendOthersRow : OpenClaim := { program := "ytlgcajjoimcdhaa", sum := "46115aa422fce2ee6f15fcc5111e1bdcd3d8a5dd48f00ae07064245cdcab2ee1", func := "loop.example/recordbatches/laws.FnAppendOthers", spec := "fnAppendOthers", apart := false }
def FnAppendOthersSaid : Prop := fnAppendOthersRow.holds Try.pinned (OpenSpec.ofChange fnAppendOthersSpec)

/-- ITS FALSE NEIGHBOUR: 'it returns false'. Refute it at one input. -/
def fnAppendOthersWrong : ChangeSpec := { name := "fnAppendOthers", fn := fun _ => fun
  | [d] => { results := [.lit (.bool false)], args := [d] }
  | _ => none }
def FnAppendOthersWrongFalsely : Prop := fnAppendOthersRow.holds Try.pinned (OpenSpec.ofChange fnAppendOthersWrong)

/-- 'laws.FnAppend': WHATEVER THE INPUT: true; the input reads as it did. -/
def fnAppendSpec : ChangeSpec := { name := "fnAppend", fn := fun _ => fun
  | [d] => { results := [.lit (.bool true)], args := [d] }
  | _ => none }
def fnAppendRow : OpenClaim := { program := "ytlgcajjoimcdhaa", sum := "46115aa422fce2ee6f15fcc5111e1bdcd3d8a5dd48f00ae07064245cdcab2ee1", func := "loop.example/recordbatches/laws.FnAppend", spec := "fnAppend", apart := false }
def FnAppendSaid : Prop := fnAppendRow.holds Try.pinned (OpenSpec.ofChange fnAppendSpec)

/-- ITS FALSE NEIGHBOUR: 'it returns false'. Refute it at one input. -/
def fnAppendWrong : ChangeSpec := { name := "fnAppend", fn := fun _ => fun
  | [d] => { results := [.lit (.bool false)], args := [d] }
  | _ => none }
def FnAppendWrongFalsely : Prop := fnAppendRow.holds Try.pinned (OpenSpec.ofChange fnAppendWrong)

/-- 'laws.FnExactReadOne': WHATEVER THE INPUT: true; the input reads as it did. -/
def fnExactReadOneSpec : ChangeSpec := { name := "fnExactReadOne", fn := fun _ => fun
  | [d1, d2] => { results := [.lit (.bool true)], args := [d1, d2] }
  | _ => none }
def fnExactReadOneRow : OpenClaim := { program := "ytlgcajjoimcdhaa", sum := "46115aa422fce2ee6f15fcc5111e1bdcd3d8a5dd48f00ae07064245cdcab2ee1", func := "loop.example/recordbatches/laws.FnExactReadOne", spec := "fnExactReadOne", unfollowed := true, recurses := true, apart := false }
def FnExactReadOneSaid : Prop := fnExactReadOneRow.holds Try.pinned (OpenSpec.ofChange fnExactReadOneSpec)

/-- ITS FALSE NEIGHBOUR: 'it returns false'. Refute it at one input. -/
def fnExactReadOneWrong : ChangeSpec := { name := "fnExactReadOne", fn := fun _ => fun
  | [d1, d2] => { results := [.lit (.bool false)], args := [d1, d2] }
  | _ => none }
def FnExactReadOneWrongFalsely : Prop := fnExactReadOneRow.holds Try.pinned (OpenSpec.ofChange fnExactReadOneWrong)

/-- 'laws.FnExactLogAppend': WHATEVER THE INPUT: true; the input reads as it did. -/
def fnExactLogAppendSpec : ChangeSpec := { name := "fnExactLogAppend", fn := fun _ => fun
  | [d1, d2] => { results := [.lit (.bool true)], args := [d1, d2] }
  | _ => none }
def fnExactLogAppendRow : OpenClaim := { program := "ytlgcajjoimcdhaa", sum := "46115aa422fce2ee6f15fcc5111e1bdcd3d8a5dd48f00ae07064245cdcab2ee1", func := "loop.example/recordbatches/laws.FnExactLogAppend", spec := "fnExactLogAppend", apart := false }
def FnExactLogAppendSaid : Prop := fnExactLogAppendRow.holds Try.pinned (OpenSpec.ofChange fnExactLogAppendSpec)

/-- ITS FALSE NEIGHBOUR: 'it returns false'. Refute it at one input. -/
def fnExactLogAppendWrong : ChangeSpec := { name := "fnExactLogAppend", fn := fun _ => fun
  | [d1, d2] => { results := [.lit (.bool false)], args := [d1, d2] }
  | _ => none }
def FnExactLogAppendWrongFalsely : Prop := fnExactLogAppendRow.holds Try.pinned (OpenSpec.ofChange fnExactLogAppendWrong)

/-- 'laws.FnExactReadRecords': WHATEVER THE INPUT: true; the input reads as it did. -/
def fnExactReadRecordsSpec : ChangeSpec := { name := "fnExactReadRecords", fn := fun _ => fun
  | [d1, d2, d3] => { results := [.lit (.bool true)], args := [d1, d2, d3] }
  | _ => none }
def fnExactReadRecordsRow : OpenClaim := { program := "ytlgcajjoimcdhaa", sum := "46115aa422fce2ee6f15fcc5111e1bdcd3d8a5dd48f00ae07064245cdcab2ee1", func := "loop.example/recordbatches/laws.FnExactReadRecords", spec := "fnExactReadRecords", unfollowed := true, recurses := true, apart := false }
def FnExactReadRecordsSaid : Prop := fnExactReadRecordsRow.holds Try.pinned (OpenSpec.ofChange fnExactReadRecordsSpec)

/-- ITS FALSE NEIGHBOUR: 'it returns false'. Refute it at one input. -/
def fnExactReadRecordsWrong : ChangeSpec := { name := "fnExactReadRecords", fn := fun _ => fun
  | [d1, d2, d3] => { results := [.lit (.bool false)], args := [d1, d2, d3] }
  | _ => none }
def FnExactReadRecordsWrongFalsely : Prop := fnExactReadRecordsRow.holds Try.pinned (OpenSpec.ofChange fnExactReadRecordsWrong)

/-- 'laws.FnExactTimesOf': WHATEVER THE INPUT: true; the input reads as it did. -/
def fnExactTimesOfSpec : ChangeSpec := { name := "fnExactTimesOf", fn := fun _ => fun
  | [d] => { results := [.lit (.bool true)], args := [d] }
  | _ => none }
def fnExactTimesOfRow : OpenClaim := { program := "ytlgcajjoimcdhaa", sum := "46115aa422fce2ee6f15fcc5111e1bdcd3d8a5dd48f00ae07064245cdcab2ee1", func := "loop.example/recordbatches/laws.FnExactTimesOf", spec := "fnExactTimesOf", unfollowed := true, recurses := true, apart := false }
def FnExactTimesOfSaid : Prop := fnExactTimesOfRow.holds Try.pinned (OpenSpec.ofChange fnExactTimesOfSpec)

/-- ITS FALSE NEIGHBOUR: 'it returns false'. Refute it at one input. -/
def fnExactTimesOfWrong : ChangeSpec := { name := "fnExactTimesOf", fn := fun _ => fun
  | [d] => { results := [.lit (.bool false)], args := [d] }
  | _ => none }
def FnExactTimesOfWrongFalsely : Prop := fnExactTimesOfRow.holds Try.pinned (OpenSpec.ofChange fnExactTimesOfWrong)

/-- 'laws.FnExactTimesFind': WHATEVER THE INPUT: true; the input reads as it did. -/
def fnExactTimesFindSpec : ChangeSpec := { name := "fnExactTimesFind", fn := fun _ => fun
  | [d1, d2] => { results := [.lit (.bool true)], args := [d1, d2] }
  | _ => none }
def fnExactTimesFindRow : OpenClaim := { program := "ytlgcajjoimcdhaa", sum := "46115aa422fce2ee6f15fcc5111e1bdcd3d8a5dd48f00ae07064245cdcab2ee1", func := "loop.example/recordbatches/laws.FnExactTimesFind", spec := "fnExactTimesFind", unfollowed := true, recurses := true, apart := false }
def FnExactTimesFindSaid : Prop := fnExactTimesFindRow.holds Try.pinned (OpenSpec.ofChange fnExactTimesFindSpec)

/-- ITS FALSE NEIGHBOUR: 'it returns false'. Refute it at one input. -/
def fnExactTimesFindWrong : ChangeSpec := { name := "fnExactTimesFind", fn := fun _ => fun
  | [d1, d2] => { results := [.lit (.bool false)], args := [d1, d2] }
  | _ => none }
def FnExactTimesFindWrongFalsely : Prop := fnExactTimesFindRow.holds Try.pinned (OpenSpec.ofChange fnExactTimesFindWrong)

/-- 'laws.FnExactTimesCount': WHATEVER THE INPUT: true; the input reads as it did. -/
def fnExactTimesCountSpec : ChangeSpec := { name := "fnExactTimesCount", fn := fun _ => fun
  | [d1, d2, d3] => { results := [.lit (.bool true)], args := [d1, d2, d3] }
  | _ => none }
def fnExactTimesCountRow : OpenClaim := { program := "ytlgcajjoimcdhaa", sum := "46115aa422fce2ee6f15fcc5111e1bdcd3d8a5dd48f00ae07064245cdcab2ee1", func := "loop.example/recordbatches/laws.FnExactTimesCount", spec := "fnExactTimesCount", unfollowed := true, recurses := true, apart := false }
def FnExactTimesCountSaid : Prop := fnExactTimesCountRow.holds Try.pinned (OpenSpec.ofChange fnExactTimesCountSpec)

/-- ITS FALSE NEIGHBOUR: 'it returns false'. Refute it at one input. -/
def fnExactTimesCountWrong : ChangeSpec := { name := "fnExactTimesCount", fn := fun _ => fun
  | [d1, d2, d3] => { results := [.lit (.bool false)], args := [d1, d2, d3] }
  | _ => none }
def FnExactTimesCountWrongFalsely : Prop := fnExactTimesCountRow.holds Try.pinned (OpenSpec.ofChange fnExactTimesCountWrong)

/-- 'laws.FnExactLogValid': WHATEVER THE INPUT: true; the input reads as it did. -/
def fnExactLogValidSpec : ChangeSpec := { name := "fnExactLogValid", fn := fun _ => fun
  | [d] => { results := [.lit (.bool true)], args := [d] }
  | _ => none }
def fnExactLogValidRow : OpenClaim := { program := "ytlgcajjoimcdhaa", sum := "46115aa422fce2ee6f15fcc5111e1bdcd3d8a5dd48f00ae07064245cdcab2ee1", func := "loop.example/recordbatches/laws.FnExactLogValid", spec := "fnExactLogValid", apart := false }
def FnExactLogValidSaid : Prop := fnExactLogValidRow.holds Try.pinned (OpenSpec.ofChange fnExactLogValidSpec)

/-- ITS FALSE NEIGHBOUR: 'it returns false'. Refute it at one input. -/
def fnExactLogValidWrong : ChangeSpec := { name := "fnExactLogValid", fn := fun _ => fun
  | [d] => { results := [.lit (.bool false)], args := [d] }
  | _ => none }
def FnExactLogValidWrongFalsely : Prop := fnExactLogValidRow.holds Try.pinned (OpenSpec.ofChange fnExactLogValidWrong)

/-- 'laws.FnExactReadEnd': WHATEVER THE INPUT: true; the input reads as it did. -/
def fnExactReadEndSpec : ChangeSpec := { name := "fnExactReadEnd", fn := fun _ => fun
  | [d] => { results := [.lit (.bool true)], args := [d] }
  | _ => none }
def fnExactReadEndRow : OpenClaim := { program := "ytlgcajjoimcdhaa", sum := "46115aa422fce2ee6f15fcc5111e1bdcd3d8a5dd48f00ae07064245cdcab2ee1", func := "loop.example/recordbatches/laws.FnExactReadEnd", spec := "fnExactReadEnd", apart := false }
def FnExactReadEndSaid : Prop := fnExactReadEndRow.holds Try.pinned (OpenSpec.ofChange fnExactReadEndSpec)

/-- ITS FALSE NEIGHBOUR: 'it returns false'. Refute it at one input. -/
def fnExactReadEndWrong : ChangeSpec := { name := "fnExactReadEnd", fn := fun _ => fun
  | [d] => { results := [.lit (.bool false)], args := [d] }
  | _ => none }
def FnExactReadEndWrongFalsely : Prop := fnExactReadEndRow.holds Try.pinned (OpenSpec.ofChange fnExactReadEndWrong)

/- THE SECOND FORM. 'bulk': how many values and letters a reading holds, each counted each time it is reached (what is shared counts as often as it is met; a slice's spare places count too). A statement '..UptoSaid' is the law's where the arguments, and the package variables that the reading takes, are together of bulk at most 1048576: NARROWER than '..Said'. Prove '..Said' where nothing that the law and all that it calls make is longer than what came in: it says more and counts as full. Else prove '..UptoSaid'. A law counts once. -/
mutual
def uptoBulk {H : Type} : DataW H → Nat
  | .lit (.string bytes) => bytes.length + 1
  | .lit _ => 1
  | .nil => 1
  | .ptr d => uptoBulk d + 1
  | .slice elems spare => uptoBulkAll elems + uptoBulkAll spare + 1
  | .agg parts => uptoBulkAll parts + 1
  | .iface _ d => uptoBulk d + 1
  | .map entries => uptoBulkEntries entries + 1
  | .held _ => 1
def uptoBulkAll {H : Type} : List (DataW H) → Nat
  | [] => 0
  | d :: r => uptoBulk d + uptoBulkAll r
def uptoBulkEntries {H : Type} : List (Lit × DataW H) → Nat
  | [] => 0
  | x :: r => uptoBulkEntry x + uptoBulkEntries r
def uptoBulkEntry {H : Type} : Lit × DataW H → Nat
  | (.string bytes, d) => bytes.length + uptoBulk d + 1
  | (_, d) => uptoBulk d + 1
 end
def uptoSmall : (H : Type) → List (DataW H) → Bool := fun _ ds => decide (uptoBulkAll ds ≤ 1048576)
def OpenSpec.upto (s : _root_.Go.ChangeSpec) : _root_.Go.OpenSpec := { _root_.Go.OpenSpec.ofChange s with cond := some uptoSmall }

/-- 'laws.FnReadEndAppend', WHERE WHAT IT READS IS OF BULK AT MOST 1048576: true; the input reads as it did. -/
def fnReadEndAppendUptoRow : OpenClaim := { program := "ytlgcajjoimcdhaa", sum := "46115aa422fce2ee6f15fcc5111e1bdcd3d8a5dd48f00ae07064245cdcab2ee1", func := "loop.example/recordbatches/laws.FnReadEndAppend", spec := "fnReadEndAppend", apart := false, narrowed := true }
def FnReadEndAppendUptoSaid : Prop := fnReadEndAppendUptoRow.holds Try.pinned (OpenSpec.upto fnReadEndAppendSpec)

/-- 'laws.FnAppendOffset', WHERE WHAT IT READS IS OF BULK AT MOST 1048576: true; the input reads as it did. -/
def fnAppendOffsetUptoRow : OpenClaim := { program := "ytlgcajjoimcdhaa", sum := "46115aa422fce2ee6f15fcc5111e1bdcd3d8a5dd48f00ae07064245cdcab2ee1", func := "loop.example/recordbatches/laws.FnAppendOffset", spec := "fnAppendOffset", apart := false, narrowed := true }
def FnAppendOffsetUptoSaid : Prop := fnAppendOffsetUptoRow.holds Try.pinned (OpenSpec.upto fnAppendOffsetSpec)

/-- 'laws.FnAppendOthers', WHERE WHAT IT READS IS OF BULK AT MOST 1048576: true; the input reads as it did. -/
def fnAppendOthersUptoRow : OpenClaim := { program := "ytlgcajjoimcdhaa", sum := "46115aa422fce2ee6f15fcc5111e1bdcd3d8a5dd48f00ae07064245cdcab2ee1", func := "loop.example/recordbatches/laws.FnAppendOthers", spec := "fnAppendOthers", apart := false, narrowed := true }
def FnAppendOthersUptoSaid : Prop := fnAppendOthersUptoRow.holds Try.pinned (OpenSpec.upto fnAppendOthersSpec)

/-- 'laws.FnAppend', WHERE WHAT IT READS IS OF BULK AT MOST 1048576: true; the input reads as it did. -/
def fnAppendUptoRow : OpenClaim := { program := "ytlgcajjoimcdhaa", sum := "46115aa422fce2ee6f15fcc5111e1bdcd3d8a5dd48f00ae07064245cdcab2ee1", func := "loop.example/recordbatches/laws.FnAppend", spec := "fnAppend", apart := false, narrowed := true }
def FnAppendUptoSaid : Prop := fnAppendUptoRow.holds Try.pinned (OpenSpec.upto fnAppendSpec)

/-- 'laws.FnExactReadOne', WHERE WHAT IT READS IS OF BULK AT MOST 1048576: true; the input reads as it did. -/
def fnExactReadOneUptoRow : OpenClaim := { program := "ytlgcajjoimcdhaa", sum := "46115aa422fce2ee6f15fcc5111e1bdcd3d8a5dd48f00ae07064245cdcab2ee1", func := "loop.example/recordbatches/laws.FnExactReadOne", spec := "fnExactReadOne", unfollowed := true, recurses := true, apart := false, narrowed := true }
def FnExactReadOneUptoSaid : Prop := fnExactReadOneUptoRow.holds Try.pinned (OpenSpec.upto fnExactReadOneSpec)

/-- 'laws.FnExactLogAppend', WHERE WHAT IT READS IS OF BULK AT MOST 1048576: true; the input reads as it did. -/
def fnExactLogAppendUptoRow : OpenClaim := { program := "ytlgcajjoimcdhaa", sum := "46115aa422fce2ee6f15fcc5111e1bdcd3d8a5dd48f00ae07064245cdcab2ee1", func := "loop.example/recordbatches/laws.FnExactLogAppend", spec := "fnExactLogAppend", apart := false, narrowed := true }
def FnExactLogAppendUptoSaid : Prop := fnExactLogAppendUptoRow.holds Try.pinned (OpenSpec.upto fnExactLogAppendSpec)

/-- 'laws.FnExactReadRecords', WHERE WHAT IT READS IS OF BULK AT MOST 1048576: true; the input reads as it did. -/
def fnExactReadRecordsUptoRow : OpenClaim := { program := "ytlgcajjoimcdhaa", sum := "46115aa422fce2ee6f15fcc5111e1bdcd3d8a5dd48f00ae07064245cdcab2ee1", func := "loop.example/recordbatches/laws.FnExactReadRecords", spec := "fnExactReadRecords", unfollowed := true, recurses := true, apart := false, narrowed := true }
def FnExactReadRecordsUptoSaid : Prop := fnExactReadRecordsUptoRow.holds Try.pinned (OpenSpec.upto fnExactReadRecordsSpec)

/-- 'laws.FnExactTimesOf', WHERE WHAT IT READS IS OF BULK AT MOST 1048576: true; the input reads as it did. -/
def fnExactTimesOfUptoRow : OpenClaim := { program := "ytlgcajjoimcdhaa", sum := "46115aa422fce2ee6f15fcc5111e1bdcd3d8a5dd48f00ae07064245cdcab2ee1", func := "loop.example/recordbatches/laws.FnExactTimesOf", spec := "fnExactTimesOf", unfollowed := true, recurses := true, apart := false, narrowed := true }
def FnExactTimesOfUptoSaid : Prop := fnExactTimesOfUptoRow.holds Try.pinned (OpenSpec.upto fnExactTimesOfSpec)

/-- 'laws.FnExactTimesFind', WHERE WHAT IT READS IS OF BULK AT MOST 1048576: true; the input reads as it did. -/
def fnExactTimesFindUptoRow : OpenClaim := { program := "ytlgcajjoimcdhaa", sum := "46115aa422fce2ee6f15fcc5111e1bdcd3d8a5dd48f00ae07064245cdcab2ee1", func := "loop.example/recordbatches/laws.FnExactTimesFind", spec := "fnExactTimesFind", unfollowed := true, recurses := true, apart := false, narrowed := true }
def FnExactTimesFindUptoSaid : Prop := fnExactTimesFindUptoRow.holds Try.pinned (OpenSpec.upto fnExactTimesFindSpec)

/-- 'laws.FnExactTimesCount', WHERE WHAT IT READS IS OF BULK AT MOST 1048576: true; the input reads as it did. -/
def fnExactTimesCountUptoRow : OpenClaim := { program := "ytlgcajjoimcdhaa", sum := "46115aa422fce2ee6f15fcc5111e1bdcd3d8a5dd48f00ae07064245cdcab2ee1", func := "loop.example/recordbatches/laws.FnExactTimesCount", spec := "fnExactTimesCount", unfollowed := true, recurses := true, apart := false, narrowed := true }
def FnExactTimesCountUptoSaid : Prop := fnExactTimesCountUptoRow.holds Try.pinned (OpenSpec.upto fnExactTimesCountSpec)

/-- 'laws.FnExactLogValid', WHERE WHAT IT READS IS OF BULK AT MOST 1048576: true; the input reads as it did. -/
def fnExactLogValidUptoRow : OpenClaim := { program := "ytlgcajjoimcdhaa", sum := "46115aa422fce2ee6f15fcc5111e1bdcd3d8a5dd48f00ae07064245cdcab2ee1", func := "loop.example/recordbatches/laws.FnExactLogValid", spec := "fnExactLogValid", apart := false, narrowed := true }
def FnExactLogValidUptoSaid : Prop := fnExactLogValidUptoRow.holds Try.pinned (OpenSpec.upto fnExactLogValidSpec)

/-- 'laws.FnExactReadEnd', WHERE WHAT IT READS IS OF BULK AT MOST 1048576: true; the input reads as it did. -/
def fnExactReadEndUptoRow : OpenClaim := { program := "ytlgcajjoimcdhaa", sum := "46115aa422fce2ee6f15fcc5111e1bdcd3d8a5dd48f00ae07064245cdcab2ee1", func := "loop.example/recordbatches/laws.FnExactReadEnd", spec := "fnExactReadEnd", apart := false, narrowed := true }
def FnExactReadEndUptoSaid : Prop := fnExactReadEndUptoRow.holds Try.pinned (OpenSpec.upto fnExactReadEndSpec)

end Rows
end Go.Proofs.Ytlgcajjoimcdhaa
