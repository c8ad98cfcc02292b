/-
  No cell of these rows narrows 'for every input' (looked for: loops, veiled, ifaces, maps, wideKeys, modest, calm, conditions, laid).
  DERIVED. THE GIVEN ROWS OF THIS SEAT. 26 by the template 'for every input the law returns true; each argument reads behind the call as it read before'; 0 by the template 'total and deterministic' (their statements: YtneblddbahancaaTotals.lean).
  GIVEN WITH THE SEED: the statements are not yours to turn. If you find one false, say at which input.
  Laid BY PROGRAM, IN A SANDBOX (cutbox-rows.mjs): the forced cells as the released guide's own fill.sh prints them over the translation a4fd4900b913232e… (all of the seat's roots in one cut). By AI agents, Wed Nov 11 2026. No macro, syntax, notation, axiom, sorry.
-/
import Derived.Test.YtneblddbahancaaChecked
import GoSem.Claim
import GoSem.ClaimJoined
import GoSem.ClaimMapViews
import Derived.JoinedTies
import Derived.KernelRfl
namespace Go.Proofs.Ytneblddbahancaa
/- THE CELL 'sum', in the pinned program and in every row, IS THE sha256 OF THE DUMP (.gsa) THAT YtneblddbahancaaProg.lean LOADS. Nothing in Lean hashes anything: it is a label: what it is worth is what the hold of that sum in a sandbox is worth. -/
noncomputable def Try.pinned : Pinned := { name := "ytneblddbahancaa", sum := "a4fd4900b913232eea5ac19fa556a147b07d5fc85149f7fc0998d543a5b7019a", checked := Try.checked }
namespace Rows
def none {H : Type} : Left H := { results := [], args := [] }

/-- 'laws.FnLogPart': WHATEVER THE INPUT: true; the input reads as it did. -/
def fnLogPartSpec : ChangeSpec := { name := "fnLogPart", fn := fun _ => fun
  | [d1, d2] => { results := [.lit (.bool true)], args := [d1, d2] }
  | _ => none }
def fnLogPartRow : OpenClaim := { program := "ytneblddbahancaa", sum := "a4fd4900b913232eea5ac19fa556a147b07d5fc85149f7fc0998d543a5b7019a", func := "loop.example/recordbatches/laws.FnLogPart", spec := "fnLogPart", apart := false }
def FnLogPartSaid : Prop := fnLogPartRow.holds Try.pinned (OpenSpec.ofChange fnLogPartSpec)

/-- ITS FALSE NEIGHBOUR: 'it returns false'. Refute it at one input. -/
def fnLogPartWrong : ChangeSpec := { name := "fnLogPart", fn := fun _ => fun
  | [d1, d2] => { results := [.lit (.bool false)], args := [d1, d2] }
  | _ => none }
def FnLogPartWrongFalsely : Prop := fnLogPartRow.holds Try.pinned (OpenSpec.ofChange fnLogPartWrong)

/-- 'laws.FnTimesFindLater': WHATEVER THE INPUT: true; the input reads as it did. -/
def fnTimesFindLaterSpec : ChangeSpec := { name := "fnTimesFindLater", fn := fun _ => fun
  | [d] => { results := [.lit (.bool true)], args := [d] }
  | _ => none }
def fnTimesFindLaterRow : OpenClaim := { program := "ytneblddbahancaa", sum := "a4fd4900b913232eea5ac19fa556a147b07d5fc85149f7fc0998d543a5b7019a", func := "loop.example/recordbatches/laws.FnTimesFindLater", spec := "fnTimesFindLater", unfollowed := true, recurses := true, apart := false }
def FnTimesFindLaterSaid : Prop := fnTimesFindLaterRow.holds Try.pinned (OpenSpec.ofChange fnTimesFindLaterSpec)

/-- ITS FALSE NEIGHBOUR: 'it returns false'. Refute it at one input. -/
def fnTimesFindLaterWrong : ChangeSpec := { name := "fnTimesFindLater", fn := fun _ => fun
  | [d] => { results := [.lit (.bool false)], args := [d] }
  | _ => none }
def FnTimesFindLaterWrongFalsely : Prop := fnTimesFindLaterRow.holds Try.pinned (OpenSpec.ofChange fnTimesFindLaterWrong)

/-- 'laws.FnTimesCount': WHATEVER THE INPUT: true; the input reads as it did. -/
def fnTimesCountSpec : ChangeSpec := { name := "fnTimesCount", fn := fun _ => fun
  | [d1, d2] => { results := [.lit (.bool true)], args := [d1, d2] }
  | _ => none }
def fnTimesCountRow : OpenClaim := { program := "ytneblddbahancaa", sum := "a4fd4900b913232eea5ac19fa556a147b07d5fc85149f7fc0998d543a5b7019a", func := "loop.example/recordbatches/laws.FnTimesCount", spec := "fnTimesCount", unfollowed := true, recurses := true, apart := false }
def FnTimesCountSaid : Prop := fnTimesCountRow.holds Try.pinned (OpenSpec.ofChange fnTimesCountSpec)

/-- ITS FALSE NEIGHBOUR: 'it returns false'. Refute it at one input. -/
def fnTimesCountWrong : ChangeSpec := { name := "fnTimesCount", fn := fun _ => fun
  | [d1, d2] => { results := [.lit (.bool false)], args := [d1, d2] }
  | _ => none }
def FnTimesCountWrongFalsely : Prop := fnTimesCountRow.holds Try.pinned (OpenSpec.ofChange fnTimesCountWrong)

/-- 'laws.FnTimesFind': WHATEVER THE INPUT: true; the input reads as it did. -/
def fnTimesFindSpec : ChangeSpec := { name := "fnTimesFind", fn := fun _ => fun
  | [d] => { results := [.lit (.bool true)], args := [d] }
  | _ => none }
def fnTimesFindRow : OpenClaim := { program := "ytneblddbahancaa", sum := "a4fd4900b913232eea5ac19fa556a147b07d5fc85149f7fc0998d543a5b7019a", func := "loop.example/recordbatches/laws.FnTimesFind", spec := "fnTimesFind", unfollowed := true, recurses := true, apart := false }
def FnTimesFindSaid : Prop := fnTimesFindRow.holds Try.pinned (OpenSpec.ofChange fnTimesFindSpec)

/-- ITS FALSE NEIGHBOUR: 'it returns false'. Refute it at one input. -/
def fnTimesFindWrong : ChangeSpec := { name := "fnTimesFind", fn := fun _ => fun
  | [d] => { results := [.lit (.bool false)], args := [d] }
  | _ => none }
def FnTimesFindWrongFalsely : Prop := fnTimesFindRow.holds Try.pinned (OpenSpec.ofChange fnTimesFindWrong)

/-- 'laws.FnTimesCountAll': WHATEVER THE INPUT: true; the input reads as it did. -/
def fnTimesCountAllSpec : ChangeSpec := { name := "fnTimesCountAll", fn := fun _ => fun
  | [d] => { results := [.lit (.bool true)], args := [d] }
  | _ => none }
def fnTimesCountAllRow : OpenClaim := { program := "ytneblddbahancaa", sum := "a4fd4900b913232eea5ac19fa556a147b07d5fc85149f7fc0998d543a5b7019a", func := "loop.example/recordbatches/laws.FnTimesCountAll", spec := "fnTimesCountAll", unfollowed := true, recurses := true, apart := false }
def FnTimesCountAllSaid : Prop := fnTimesCountAllRow.holds Try.pinned (OpenSpec.ofChange fnTimesCountAllSpec)

/-- ITS FALSE NEIGHBOUR: 'it returns false'. Refute it at one input. -/
def fnTimesCountAllWrong : ChangeSpec := { name := "fnTimesCountAll", fn := fun _ => fun
  | [d] => { results := [.lit (.bool false)], args := [d] }
  | _ => none }
def FnTimesCountAllWrongFalsely : Prop := fnTimesCountAllRow.holds Try.pinned (OpenSpec.ofChange fnTimesCountAllWrong)

/-- 'laws.FnReadEnd': WHATEVER THE INPUT: true; the input reads as it did. -/
def fnReadEndSpec : ChangeSpec := { name := "fnReadEnd", fn := fun _ => fun
  | [d] => { results := [.lit (.bool true)], args := [d] }
  | _ => none }
def fnReadEndRow : OpenClaim := { program := "ytneblddbahancaa", sum := "a4fd4900b913232eea5ac19fa556a147b07d5fc85149f7fc0998d543a5b7019a", func := "loop.example/recordbatches/laws.FnReadEnd", spec := "fnReadEnd", unfollowed := true, recurses := true, apart := false }
def FnReadEndSaid : Prop := fnReadEndRow.holds Try.pinned (OpenSpec.ofChange fnReadEndSpec)

/-- ITS FALSE NEIGHBOUR: 'it returns false'. Refute it at one input. -/
def fnReadEndWrong : ChangeSpec := { name := "fnReadEnd", fn := fun _ => fun
  | [d] => { results := [.lit (.bool false)], args := [d] }
  | _ => none }
def FnReadEndWrongFalsely : Prop := fnReadEndRow.holds Try.pinned (OpenSpec.ofChange fnReadEndWrong)

/-- 'laws.FnTimes': WHATEVER THE INPUT: true; the input reads as it did. -/
def fnTimesSpec : ChangeSpec := { name := "fnTimes", fn := fun _ => fun
  | [d] => { results := [.lit (.bool true)], args := [d] }
  | _ => none }
def fnTimesRow : OpenClaim := { program := "ytneblddbahancaa", sum := "a4fd4900b913232eea5ac19fa556a147b07d5fc85149f7fc0998d543a5b7019a", func := "loop.example/recordbatches/laws.FnTimes", spec := "fnTimes", unfollowed := true, recurses := true, apart := false }
def FnTimesSaid : Prop := fnTimesRow.holds Try.pinned (OpenSpec.ofChange fnTimesSpec)

/-- ITS FALSE NEIGHBOUR: 'it returns false'. Refute it at one input. -/
def fnTimesWrong : ChangeSpec := { name := "fnTimes", fn := fun _ => fun
  | [d] => { results := [.lit (.bool false)], args := [d] }
  | _ => none }
def FnTimesWrongFalsely : Prop := fnTimesRow.holds Try.pinned (OpenSpec.ofChange fnTimesWrong)

/-- 'laws.FnTimesFirst': WHATEVER THE INPUT: true; the input reads as it did. -/
def fnTimesFirstSpec : ChangeSpec := { name := "fnTimesFirst", fn := fun _ => fun
  | [d1, d2] => { results := [.lit (.bool true)], args := [d1, d2] }
  | _ => none }
def fnTimesFirstRow : OpenClaim := { program := "ytneblddbahancaa", sum := "a4fd4900b913232eea5ac19fa556a147b07d5fc85149f7fc0998d543a5b7019a", func := "loop.example/recordbatches/laws.FnTimesFirst", spec := "fnTimesFirst", unfollowed := true, recurses := true, apart := false }
def FnTimesFirstSaid : Prop := fnTimesFirstRow.holds Try.pinned (OpenSpec.ofChange fnTimesFirstSpec)

/-- ITS FALSE NEIGHBOUR: 'it returns false'. Refute it at one input. -/
def fnTimesFirstWrong : ChangeSpec := { name := "fnTimesFirst", fn := fun _ => fun
  | [d1, d2] => { results := [.lit (.bool false)], args := [d1, d2] }
  | _ => none }
def FnTimesFirstWrongFalsely : Prop := fnTimesFirstRow.holds Try.pinned (OpenSpec.ofChange fnTimesFirstWrong)

/-- 'laws.FnReadEndAppend': WHATEVER THE INPUT: true; the input reads as it did. -/
def fnReadEndAppendSpec : ChangeSpec := { name := "fnReadEndAppend", fn := fun _ => fun
  | [d] => { results := [.lit (.bool true)], args := [d] }
  | _ => none }
def fnReadEndAppendRow : OpenClaim := { program := "ytneblddbahancaa", sum := "a4fd4900b913232eea5ac19fa556a147b07d5fc85149f7fc0998d543a5b7019a", func := "loop.example/recordbatches/laws.FnReadEndAppend", spec := "fnReadEndAppend", apart := false }
def FnReadEndAppendSaid : Prop := fnReadEndAppendRow.holds Try.pinned (OpenSpec.ofChange fnReadEndAppendSpec)

/-- ITS FALSE NEIGHBOUR: 'it returns false'. Refute it at one input. -/
def fnReadEndAppendWrong : ChangeSpec := { name := "fnReadEndAppend", fn := fun _ => fun
  | [d] => { results := [.lit (.bool false)], args := [d] }
  | _ => none }
def FnReadEndAppendWrongFalsely : Prop := fnReadEndAppendRow.holds Try.pinned (OpenSpec.ofChange fnReadEndAppendWrong)

/-- 'laws.FnExactLogValid': WHATEVER THE INPUT: true; the input reads as it did. -/
def fnExactLogValidSpec : ChangeSpec := { name := "fnExactLogValid", fn := fun _ => fun
  | [d] => { results := [.lit (.bool true)], args := [d] }
  | _ => none }
def fnExactLogValidRow : OpenClaim := { program := "ytneblddbahancaa", sum := "a4fd4900b913232eea5ac19fa556a147b07d5fc85149f7fc0998d543a5b7019a", func := "loop.example/recordbatches/laws.FnExactLogValid", spec := "fnExactLogValid", apart := false }
def FnExactLogValidSaid : Prop := fnExactLogValidRow.holds Try.pinned (OpenSpec.ofChange fnExactLogValidSpec)

/-- ITS FALSE NEIGHBOUR: 'it returns false'. Refute it at one input. -/
def fnExactLogValidWrong : ChangeSpec := { name := "fnExactLogValid", fn := fun _ => fun
  | [d] => { results := [.lit (.bool false)], args := [d] }
  | _ => none }
def FnExactLogValidWrongFalsely : Prop := fnExactLogValidRow.holds Try.pinned (OpenSpec.ofChange fnExactLogValidWrong)

/-- 'laws.FnTimesFindNone': WHATEVER THE INPUT: true; the input reads as it did. -/
def fnTimesFindNoneSpec : ChangeSpec := { name := "fnTimesFindNone", fn := fun _ => fun
  | [d] => { results := [.lit (.bool true)], args := [d] }
  | _ => none }
def fnTimesFindNoneRow : OpenClaim := { program := "ytneblddbahancaa", sum := "a4fd4900b913232eea5ac19fa556a147b07d5fc85149f7fc0998d543a5b7019a", func := "loop.example/recordbatches/laws.FnTimesFindNone", spec := "fnTimesFindNone", unfollowed := true, recurses := true, apart := false }
def FnTimesFindNoneSaid : Prop := fnTimesFindNoneRow.holds Try.pinned (OpenSpec.ofChange fnTimesFindNoneSpec)

/-- ITS FALSE NEIGHBOUR: 'it returns false'. Refute it at one input. -/
def fnTimesFindNoneWrong : ChangeSpec := { name := "fnTimesFindNone", fn := fun _ => fun
  | [d] => { results := [.lit (.bool false)], args := [d] }
  | _ => none }
def FnTimesFindNoneWrongFalsely : Prop := fnTimesFindNoneRow.holds Try.pinned (OpenSpec.ofChange fnTimesFindNoneWrong)

/-- 'laws.FnReadRecords': WHATEVER THE INPUT: true; the input reads as it did. -/
def fnReadRecordsSpec : ChangeSpec := { name := "fnReadRecords", fn := fun _ => fun
  | [d] => { results := [.lit (.bool true)], args := [d] }
  | _ => none }
def fnReadRecordsRow : OpenClaim := { program := "ytneblddbahancaa", sum := "a4fd4900b913232eea5ac19fa556a147b07d5fc85149f7fc0998d543a5b7019a", func := "loop.example/recordbatches/laws.FnReadRecords", spec := "fnReadRecords", unfollowed := true, recurses := true, apart := false }
def FnReadRecordsSaid : Prop := fnReadRecordsRow.holds Try.pinned (OpenSpec.ofChange fnReadRecordsSpec)

/-- ITS FALSE NEIGHBOUR: 'it returns false'. Refute it at one input. -/
def fnReadRecordsWrong : ChangeSpec := { name := "fnReadRecords", fn := fun _ => fun
  | [d] => { results := [.lit (.bool false)], args := [d] }
  | _ => none }
def FnReadRecordsWrongFalsely : Prop := fnReadRecordsRow.holds Try.pinned (OpenSpec.ofChange fnReadRecordsWrong)

/-- 'laws.FnReadRecordsAll': WHATEVER THE INPUT: true; the input reads as it did. -/
def fnReadRecordsAllSpec : ChangeSpec := { name := "fnReadRecordsAll", fn := fun _ => fun
  | [d] => { results := [.lit (.bool true)], args := [d] }
  | _ => none }
def fnReadRecordsAllRow : OpenClaim := { program := "ytneblddbahancaa", sum := "a4fd4900b913232eea5ac19fa556a147b07d5fc85149f7fc0998d543a5b7019a", func := "loop.example/recordbatches/laws.FnReadRecordsAll", spec := "fnReadRecordsAll", unfollowed := true, recurses := true, apart := false }
def FnReadRecordsAllSaid : Prop := fnReadRecordsAllRow.holds Try.pinned (OpenSpec.ofChange fnReadRecordsAllSpec)

/-- ITS FALSE NEIGHBOUR: 'it returns false'. Refute it at one input. -/
def fnReadRecordsAllWrong : ChangeSpec := { name := "fnReadRecordsAll", fn := fun _ => fun
  | [d] => { results := [.lit (.bool false)], args := [d] }
  | _ => none }
def FnReadRecordsAllWrongFalsely : Prop := fnReadRecordsAllRow.holds Try.pinned (OpenSpec.ofChange fnReadRecordsAllWrong)

/-- 'laws.FnReadRecordsMarks': WHATEVER THE INPUT: true; the input reads as it did. -/
def fnReadRecordsMarksSpec : ChangeSpec := { name := "fnReadRecordsMarks", fn := fun _ => fun
  | [d] => { results := [.lit (.bool true)], args := [d] }
  | _ => none }
def fnReadRecordsMarksRow : OpenClaim := { program := "ytneblddbahancaa", sum := "a4fd4900b913232eea5ac19fa556a147b07d5fc85149f7fc0998d543a5b7019a", func := "loop.example/recordbatches/laws.FnReadRecordsMarks", spec := "fnReadRecordsMarks", unfollowed := true, recurses := true, apart := false }
def FnReadRecordsMarksSaid : Prop := fnReadRecordsMarksRow.holds Try.pinned (OpenSpec.ofChange fnReadRecordsMarksSpec)

/-- ITS FALSE NEIGHBOUR: 'it returns false'. Refute it at one input. -/
def fnReadRecordsMarksWrong : ChangeSpec := { name := "fnReadRecordsMarks", fn := fun _ => fun
  | [d] => { results := [.lit (.bool false)], args := [d] }
  | _ => none }
def FnReadRecordsMarksWrongFalsely : Prop := fnReadRecordsMarksRow.holds Try.pinned (OpenSpec.ofChange fnReadRecordsMarksWrong)

/-- 'laws.FnReadRecordsOn': WHATEVER THE INPUT: true; the input reads as it did. -/
def fnReadRecordsOnSpec : ChangeSpec := { name := "fnReadRecordsOn", fn := fun _ => fun
  | [d1, d2] => { results := [.lit (.bool true)], args := [d1, d2] }
  | _ => none }
def fnReadRecordsOnRow : OpenClaim := { program := "ytneblddbahancaa", sum := "a4fd4900b913232eea5ac19fa556a147b07d5fc85149f7fc0998d543a5b7019a", func := "loop.example/recordbatches/laws.FnReadRecordsOn", spec := "fnReadRecordsOn", unfollowed := true, recurses := true, apart := false }
def FnReadRecordsOnSaid : Prop := fnReadRecordsOnRow.holds Try.pinned (OpenSpec.ofChange fnReadRecordsOnSpec)

/-- ITS FALSE NEIGHBOUR: 'it returns false'. Refute it at one input. -/
def fnReadRecordsOnWrong : ChangeSpec := { name := "fnReadRecordsOn", fn := fun _ => fun
  | [d1, d2] => { results := [.lit (.bool false)], args := [d1, d2] }
  | _ => none }
def FnReadRecordsOnWrongFalsely : Prop := fnReadRecordsOnRow.holds Try.pinned (OpenSpec.ofChange fnReadRecordsOnWrong)

/-- 'laws.FnExactReadEnd': WHATEVER THE INPUT: true; the input reads as it did. -/
def fnExactReadEndSpec : ChangeSpec := { name := "fnExactReadEnd", fn := fun _ => fun
  | [d] => { results := [.lit (.bool true)], args := [d] }
  | _ => none }
def fnExactReadEndRow : OpenClaim := { program := "ytneblddbahancaa", sum := "a4fd4900b913232eea5ac19fa556a147b07d5fc85149f7fc0998d543a5b7019a", func := "loop.example/recordbatches/laws.FnExactReadEnd", spec := "fnExactReadEnd", apart := false }
def FnExactReadEndSaid : Prop := fnExactReadEndRow.holds Try.pinned (OpenSpec.ofChange fnExactReadEndSpec)

/-- ITS FALSE NEIGHBOUR: 'it returns false'. Refute it at one input. -/
def fnExactReadEndWrong : ChangeSpec := { name := "fnExactReadEnd", fn := fun _ => fun
  | [d] => { results := [.lit (.bool false)], args := [d] }
  | _ => none }
def FnExactReadEndWrongFalsely : Prop := fnExactReadEndRow.holds Try.pinned (OpenSpec.ofChange fnExactReadEndWrong)

/-- 'laws.FnReadOne': WHATEVER THE INPUT: true; the input reads as it did. -/
def fnReadOneSpec : ChangeSpec := { name := "fnReadOne", fn := fun _ => fun
  | [d] => { results := [.lit (.bool true)], args := [d] }
  | _ => none }
def fnReadOneRow : OpenClaim := { program := "ytneblddbahancaa", sum := "a4fd4900b913232eea5ac19fa556a147b07d5fc85149f7fc0998d543a5b7019a", func := "loop.example/recordbatches/laws.FnReadOne", spec := "fnReadOne", unfollowed := true, recurses := true, apart := false }
def FnReadOneSaid : Prop := fnReadOneRow.holds Try.pinned (OpenSpec.ofChange fnReadOneSpec)

/-- ITS FALSE NEIGHBOUR: 'it returns false'. Refute it at one input. -/
def fnReadOneWrong : ChangeSpec := { name := "fnReadOne", fn := fun _ => fun
  | [d] => { results := [.lit (.bool false)], args := [d] }
  | _ => none }
def FnReadOneWrongFalsely : Prop := fnReadOneRow.holds Try.pinned (OpenSpec.ofChange fnReadOneWrong)

/-- 'laws.FnExactTimesFind': WHATEVER THE INPUT: true; the input reads as it did. -/
def fnExactTimesFindSpec : ChangeSpec := { name := "fnExactTimesFind", fn := fun _ => fun
  | [d1, d2] => { results := [.lit (.bool true)], args := [d1, d2] }
  | _ => none }
def fnExactTimesFindRow : OpenClaim := { program := "ytneblddbahancaa", sum := "a4fd4900b913232eea5ac19fa556a147b07d5fc85149f7fc0998d543a5b7019a", func := "loop.example/recordbatches/laws.FnExactTimesFind", spec := "fnExactTimesFind", unfollowed := true, recurses := true, apart := false }
def FnExactTimesFindSaid : Prop := fnExactTimesFindRow.holds Try.pinned (OpenSpec.ofChange fnExactTimesFindSpec)

/-- ITS FALSE NEIGHBOUR: 'it returns false'. Refute it at one input. -/
def fnExactTimesFindWrong : ChangeSpec := { name := "fnExactTimesFind", fn := fun _ => fun
  | [d1, d2] => { results := [.lit (.bool false)], args := [d1, d2] }
  | _ => none }
def FnExactTimesFindWrongFalsely : Prop := fnExactTimesFindRow.holds Try.pinned (OpenSpec.ofChange fnExactTimesFindWrong)

/-- 'laws.FnExactTimesCount': WHATEVER THE INPUT: true; the input reads as it did. -/
def fnExactTimesCountSpec : ChangeSpec := { name := "fnExactTimesCount", fn := fun _ => fun
  | [d1, d2, d3] => { results := [.lit (.bool true)], args := [d1, d2, d3] }
  | _ => none }
def fnExactTimesCountRow : OpenClaim := { program := "ytneblddbahancaa", sum := "a4fd4900b913232eea5ac19fa556a147b07d5fc85149f7fc0998d543a5b7019a", func := "loop.example/recordbatches/laws.FnExactTimesCount", spec := "fnExactTimesCount", unfollowed := true, recurses := true, apart := false }
def FnExactTimesCountSaid : Prop := fnExactTimesCountRow.holds Try.pinned (OpenSpec.ofChange fnExactTimesCountSpec)

/-- ITS FALSE NEIGHBOUR: 'it returns false'. Refute it at one input. -/
def fnExactTimesCountWrong : ChangeSpec := { name := "fnExactTimesCount", fn := fun _ => fun
  | [d1, d2, d3] => { results := [.lit (.bool false)], args := [d1, d2, d3] }
  | _ => none }
def FnExactTimesCountWrongFalsely : Prop := fnExactTimesCountRow.holds Try.pinned (OpenSpec.ofChange fnExactTimesCountWrong)

/-- 'laws.FnAppendOffset': WHATEVER THE INPUT: true; the input reads as it did. -/
def fnAppendOffsetSpec : ChangeSpec := { name := "fnAppendOffset", fn := fun _ => fun
  | [d] => { results := [.lit (.bool true)], args := [d] }
  | _ => none }
def fnAppendOffsetRow : OpenClaim := { program := "ytneblddbahancaa", sum := "a4fd4900b913232eea5ac19fa556a147b07d5fc85149f7fc0998d543a5b7019a", func := "loop.example/recordbatches/laws.FnAppendOffset", spec := "fnAppendOffset", apart := false }
def FnAppendOffsetSaid : Prop := fnAppendOffsetRow.holds Try.pinned (OpenSpec.ofChange fnAppendOffsetSpec)

/-- ITS FALSE NEIGHBOUR: 'it returns false'. Refute it at one input. -/
def fnAppendOffsetWrong : ChangeSpec := { name := "fnAppendOffset", fn := fun _ => fun
  | [d] => { results := [.lit (.bool false)], args := [d] }
  | _ => none }
def FnAppendOffsetWrongFalsely : Prop := fnAppendOffsetRow.holds Try.pinned (OpenSpec.ofChange fnAppendOffsetWrong)

/-- 'laws.FnAppendOthers': WHATEVER THE INPUT: true; the input reads as it did. -/
def fnAppendOthersSpec : ChangeSpec := { name := "fnAppendOthers", fn := fun _ => fun
  | [d] => { results := [.lit (.bool true)], args := [d] }
  | _ => none }
def fnAppendOthersRow : OpenClaim := { program := "ytneblddbahancaa", sum := "a4fd4900b913232eea5ac19fa556a147b07d5fc85149f7fc0998d543a5b7019a", func := "loop.example/recordbatches/laws.FnAppendOthers", spec := "fnAppendOthers", apart := false }
def FnAppendOthersSaid : Prop := fnAppendOthersRow.holds Try.pinned (OpenSpec.ofChange fnAppendOthersSpec)

/-- ITS FALSE NEIGHBOUR: 'it returns false'. Refute it at one input. -/
def fnAppendOthersWrong : ChangeSpec := { name := "fnAppendOthers", fn := fun _ => fun
  | [d] => { results := [.lit (.bool false)], args := [d] }
  | _ => none }
def FnAppendOthersWrongFalsely : Prop := fnAppendOthersRow.holds Try.pinned (OpenSpec.ofChange fnAppendOthersWrong)

/-- 'laws.FnAppend': WHATEVER THE INPUT: true; the input reads as it did. -/
def fnAppendSpec : ChangeSpec := { name := "fnAppend", fn := fun _ => fun
  | [d] => { results := [.lit (.bool true)], args := [d] }
  | _ => none }
def fnAppendRow : OpenClaim := { program := "ytneblddbahancaa", sum := "a4fd4900b913232eea5ac19fa556a147b07d5fc85149f7fc0998d543a5b7019a", func := "loop.example/recordbatches/laws.FnAppend", spec := "fnAppend", apart := false }
def FnAppendSaid : Prop := fnAppendRow.holds Try.pinned (OpenSpec.ofChange fnAppendSpec)

/-- ITS FALSE NEIGHBOUR: 'it returns false'. Refute it at one input. -/
def fnAppendWrong : ChangeSpec := { name := "fnAppend", fn := fun _ => fun
  | [d] => { results := [.lit (.bool false)], args := [d] }
  | _ => none }
def FnAppendWrongFalsely : Prop := fnAppendRow.holds Try.pinned (OpenSpec.ofChange fnAppendWrong)

/-- 'laws.FnExactTimesOf': WHATEVER THE INPUT: true; the input reads as it did. -/
def fnExactTimesOfSpec : ChangeSpec := { name := "fnExactTimesOf", fn := fun _ => fun
  | [d] => { results := [.lit (.bool true)], args := [d] }
  | _ => none }
def fnExactTimesOfRow : OpenClaim := { program := "ytneblddbahancaa", sum := "a4fd4900b913232eea5ac19fa556a147b07d5fc85149f7fc0998d543a5b7019a", func := "loop.example/recordbatches/laws.FnExactTimesOf", spec := "fnExactTimesOf", unfollowed := true, recurses := true, apart := false }
def FnExactTimesOfSaid : Prop := fnExactTimesOfRow.holds Try.pinned (OpenSpec.ofChange fnExactTimesOfSpec)

/-- ITS FALSE NEIGHBOUR: 'it returns false'. Refute it at one input. -/
def fnExactTimesOfWrong : ChangeSpec := { name := "fnExactTimesOf", fn := fun _ => fun
  | [d] => { results := [.lit (.bool false)], args := [d] }
  | _ => none }
def FnExactTimesOfWrongFalsely : Prop := fnExactTimesOfRow.holds Try.pinned (OpenSpec.ofChange fnExactTimesOfWrong)

/-- 'laws.FnExactReadOne': WHATEVER THE INPUT: true; the input reads as it did. -/
def fnExactReadOneSpec : ChangeSpec := { name := "fnExactReadOne", fn := fun _ => fun
  | [d1, d2] => { results := [.lit (.bool true)], args := [d1, d2] }
  | _ => none }
def fnExactReadOneRow : OpenClaim := { program := "ytneblddbahancaa", sum := "a4fd4900b913232eea5ac19fa556a147b07d5fc85149f7fc0998d543a5b7019a", func := "loop.example/recordbatches/laws.FnExactReadOne", spec := "fnExactReadOne", unfollowed := true, recurses := true, apart := false }
def FnExactReadOneSaid : Prop := fnExactReadOneRow.holds Try.pinned (OpenSpec.ofChange fnExactReadOneSpec)

/-- ITS FALSE NEIGHBOUR: 'it returns false'. Refute it at one input. -/
def fnExactReadOneWrong : ChangeSpec := { name := "fnExactReadOne", fn := fun _ => fun
  | [d1, d2] => { results := [.lit (.bool false)], args := [d1, d2] }
  | _ => none }
def FnExactReadOneWrongFalsely : Prop := fnExactReadOneRow.holds Try.pinned (OpenSpec.ofChange fnExactReadOneWrong)

/-- 'laws.FnExactReadRecords': WHATEVER THE INPUT: true; the input reads as it did. -/
def fnExactReadRecordsSpec : ChangeSpec := { name := "fnExactReadRecords", fn := fun _ => fun
  | [d1, d2, d3] => { results := [.lit (.bool true)], args := [d1, d2, d3] }
  | _ => none }
def fnExactReadRecordsRow : OpenClaim := { program := "ytneblddbahancaa", sum := "a4fd4900b913232eea5ac19fa556a147b07d5fc85149f7fc0998d543a5b7019a", func := "loop.example/recordbatches/laws.FnExactReadRecords", spec := "fnExactReadRecords", unfollowed := true, recurses := true, apart := false }
def FnExactReadRecordsSaid : Prop := fnExactReadRecordsRow.holds Try.pinned (OpenSpec.ofChange fnExactReadRecordsSpec)

/-- ITS FALSE NEIGHBOUR: 'it returns false'. Refute it at one input. -/
def fnExactReadRecordsWrong : ChangeSpec := { name := "fnExactReadRecords", fn := fun _ => fun
  | [d1, d2, d3] => { results := [.lit (.bool false)], args := [d1, d2, d3] }
  | _ => none }
def FnExactReadRecordsWrongFalsely : Prop := fnExactReadRecordsRow.holds Try.pinned (OpenSpec.ofChange fnExactReadRecordsWrong)

/-- 'laws.FnExactLogAppend': WHATEVER THE INPUT: true; the input reads as it did. -/
def fnExactLogAppendSpec : ChangeSpec := { name := "fnExactLogAppend", fn := fun _ => fun
  | [d1, d2] => { results := [.lit (.bool true)], args := [d1, d2] }
  | _ => none }
def fnExactLogAppendRow : OpenClaim := { program := "ytneblddbahancaa", sum := "a4fd4900b913232eea5ac19fa556a147b07d5fc85149f7fc0998d543a5b7019a", func := "loop.example/recordbatches/laws.FnExactLogAppend", spec := "fnExactLogAppend", apart := false }
def FnExactLogAppendSaid : Prop := fnExactLogAppendRow.holds Try.pinned (OpenSpec.ofChange fnExactLogAppendSpec)

/-- ITS FALSE NEIGHBOUR: 'it returns false'. Refute it at one input. -/
def fnExactLogAppendWrong : ChangeSpec := { name := "fnExactLogAppend", fn := fun _ => fun
  | [d1, d2] => { results := [.lit (.bool false)], args := [d1, d2] }
  | _ => none }
def FnExactLogAppendWrongFalsely : Prop := fnExactLogAppendRow.holds Try.pinned (OpenSpec.ofChange fnExactLogAppendWrong)

/- THE SECOND FORM. 'bulk': how many values and letters a reading holds, each counted each time it is reached (what is shared counts as often as it is met; a slice's spare places count too). A statement '..UptoSaid' is the law's where the arguments, and the package variables that the reading takes, are together of bulk at most 1048576: NARROWER than '..Said'. Prove '..Said' where nothing that the law and all that it calls make is longer than what came in: it says more and counts as full. Else prove '..UptoSaid'. A law counts once. -/
mutual
def uptoBulk {H : Type} : DataW H → Nat
  | .lit (.string bytes) => bytes.length + 1
  | .lit _ => 1
  | .nil => 1
  | .ptr d => uptoBulk d + 1
  | .slice elems spare => uptoBulkAll elems + uptoBulkAll spare + 1
  | .agg parts => uptoBulkAll parts + 1
  | .iface _ d => uptoBulk d + 1
  | .map entries => uptoBulkEntries entries + 1
  | .held _ => 1
def uptoBulkAll {H : Type} : List (DataW H) → Nat
  | [] => 0
  | d :: r => uptoBulk d + uptoBulkAll r
def uptoBulkEntries {H : Type} : List (Lit × DataW H) → Nat
  | [] => 0
  | x :: r => uptoBulkEntry x + uptoBulkEntries r
def uptoBulkEntry {H : Type} : Lit × DataW H → Nat
  | (.string bytes, d) => bytes.length + uptoBulk d + 1
  | (_, d) => uptoBulk d + 1
 end
def uptoSmall : (H : Type) → List (DataW H) → Bool := fun _ ds => decide (uptoBulkAll ds ≤ 1048576)
def OpenSpec.upto (s : _root_.Go.ChangeSpec) : _root_.Go.OpenSpec := { _root_.Go.OpenSpec.ofChange s with cond := some uptoSmall }

/-- 'laws.FnLogPart', WHERE WHAT IT READS IS OF BULK AT MOST 1048576: true; the input reads as it did. -/
def fnLogPartUptoRow : OpenClaim := { program := "ytneblddbahancaa", sum := "a4fd4900b913232eea5ac19fa556a147b07d5fc85149f7fc0998d543a5b7019a", func := "loop.example/recordbatches/laws.FnLogPart", spec := "fnLogPart", apart := false, narrowed := true }
def FnLogPartUptoSaid : Prop := fnLogPartUptoRow.holds Try.pinned (OpenSpec.upto fnLogPartSpec)

/-- 'laws.FnTimesFindLater', WHERE WHAT IT READS IS OF BULK AT MOST 1048576: true; the input reads as it did. -/
def fnTimesFindLaterUptoRow : OpenClaim := { program := "ytneblddbahancaa", sum := "a4fd4900b913232eea5ac19fa556a147b07d5fc85149f7fc0998d543a5b7019a", func := "loop.example/recordbatches/laws.FnTimesFindLater", spec := "fnTimesFindLater", unfollowed := true, recurses := true, apart := false, narrowed := true }
def FnTimesFindLaterUptoSaid : Prop := fnTimesFindLaterUptoRow.holds Try.pinned (OpenSpec.upto fnTimesFindLaterSpec)

/-- 'laws.FnTimesCount', WHERE WHAT IT READS IS OF BULK AT MOST 1048576: true; the input reads as it did. -/
def fnTimesCountUptoRow : OpenClaim := { program := "ytneblddbahancaa", sum := "a4fd4900b913232eea5ac19fa556a147b07d5fc85149f7fc0998d543a5b7019a", func := "loop.example/recordbatches/laws.FnTimesCount", spec := "fnTimesCount", unfollowed := true, recurses := true, apart := false, narrowed := true }
def FnTimesCountUptoSaid : Prop := fnTimesCountUptoRow.holds Try.pinned (OpenSpec.upto fnTimesCountSpec)

/-- 'laws.FnTimesFind', WHERE WHAT IT READS IS OF BULK AT MOST 1048576: true; the input reads as it did. -/
def fnTimesFindUptoRow : OpenClaim := { program := "ytneblddbahancaa", sum := "a4fd4900b913232eea5ac19fa556a147b07d5fc85149f7fc0998d543a5b7019a", func := "loop.example/recordbatches/laws.FnTimesFind", spec := "fnTimesFind", unfollowed := true, recurses := true, apart := false, narrowed := true }
def FnTimesFindUptoSaid : Prop := fnTimesFindUptoRow.holds Try.pinned (OpenSpec.upto fnTimesFindSpec)

/-- 'laws.FnTimesCountAll', WHERE WHAT IT READS IS OF BULK AT MOST 1048576: true; the input reads as it did. -/
def fnTimesCountAllUptoRow : OpenClaim := { program := "ytneblddbahancaa", sum := "a4fd4900b913232eea5ac19fa556a147b07d5fc85149f7fc0998d543a5b7019a", func := "loop.example/recordbatches/laws.FnTimesCountAll", spec := "fnTimesCountAll", unfollowed := true, recurses := true, apart := false, narrowed := true }
def FnTimesCountAllUptoSaid : Prop := fnTimesCountAllUptoRow.holds Try.pinned (OpenSpec.upto fnTimesCountAllSpec)

/-- 'laws.FnReadEnd', WHERE WHAT IT READS IS OF BULK AT MOST 1048576: true; the input reads as it did. -/
def fnReadEndUptoRow : OpenClaim := { program := "ytneblddbahancaa", sum := "a4fd4900b913232eea5ac19fa556a147b07d5fc85149f7fc0998d543a5b7019a", func := "loop.example/recordbatches/laws.FnReadEnd", spec := "fnReadEnd", unfollowed := true, recurses := true, apart := false, narrowed := true }
def FnReadEndUptoSaid : Prop := fnReadEndUptoRow.holds Try.pinned (OpenSpec.upto fnReadEndSpec)

/-- 'laws.FnTimes', WHERE WHAT IT READS IS OF BULK AT MOST 1048576: true; the input reads as it did. -/
def fnTimesUptoRow : OpenClaim := { program := "ytneblddbahancaa", sum := "a4fd4900b913232eea5ac19fa556a147b07d5fc85149f7fc0998d543a5b7019a", func := "loop.example/recordbatches/laws.FnTimes", spec := "fnTimes", unfollowed := true, recurses := true, apart := false, narrowed := true }
def FnTimesUptoSaid : Prop := fnTimesUptoRow.holds Try.pinned (OpenSpec.upto fnTimesSpec)

/-- 'laws.FnTimesFirst', WHERE WHAT IT READS IS OF BULK AT MOST 1048576: true; the input reads as it did. -/
def fnTimesFirstUptoRow : OpenClaim := { program := "ytneblddbahancaa", sum := "a4fd4900b913232eea5ac19fa556a147b07d5fc85149f7fc0998d543a5b7019a", func := "loop.example/recordbatches/laws.FnTimesFirst", spec := "fnTimesFirst", unfollowed := true, recurses := true, apart := false, narrowed := true }
def FnTimesFirstUptoSaid : Prop := fnTimesFirstUptoRow.holds Try.pinned (OpenSpec.upto fnTimesFirstSpec)

/-- 'laws.FnReadEndAppend', WHERE WHAT IT READS IS OF BULK AT MOST 1048576: true; the input reads as it did. -/
def fnReadEndAppendUptoRow : OpenClaim := { program := "ytneblddbahancaa", sum := "a4fd4900b913232eea5ac19fa556a147b07d5fc85149f7fc0998d543a5b7019a", func := "loop.example/recordbatches/laws.FnReadEndAppend", spec := "fnReadEndAppend", apart := false, narrowed := true }
def FnReadEndAppendUptoSaid : Prop := fnReadEndAppendUptoRow.holds Try.pinned (OpenSpec.upto fnReadEndAppendSpec)

/-- 'laws.FnExactLogValid', WHERE WHAT IT READS IS OF BULK AT MOST 1048576: true; the input reads as it did. -/
def fnExactLogValidUptoRow : OpenClaim := { program := "ytneblddbahancaa", sum := "a4fd4900b913232eea5ac19fa556a147b07d5fc85149f7fc0998d543a5b7019a", func := "loop.example/recordbatches/laws.FnExactLogValid", spec := "fnExactLogValid", apart := false, narrowed := true }
def FnExactLogValidUptoSaid : Prop := fnExactLogValidUptoRow.holds Try.pinned (OpenSpec.upto fnExactLogValidSpec)

/-- 'laws.FnTimesFindNone', WHERE WHAT IT READS IS OF BULK AT MOST 1048576: true; the input reads as it did. -/
def fnTimesFindNoneUptoRow : OpenClaim := { program := "ytneblddbahancaa", sum := "a4fd4900b913232eea5ac19fa556a147b07d5fc85149f7fc0998d543a5b7019a", func := "loop.example/recordbatches/laws.FnTimesFindNone", spec := "fnTimesFindNone", unfollowed := true, recurses := true, apart := false, narrowed := true }
def FnTimesFindNoneUptoSaid : Prop := fnTimesFindNoneUptoRow.holds Try.pinned (OpenSpec.upto fnTimesFindNoneSpec)

/-- 'laws.FnReadRecords', WHERE WHAT IT READS IS OF BULK AT MOST 1048576: true; the input reads as it did. -/
def fnReadRecordsUptoRow : OpenClaim := { program := "ytneblddbahancaa", sum := "a4fd4900b913232eea5ac19fa556a147b07d5fc85149f7fc0998d543a5b7019a", func := "loop.example/recordbatches/laws.FnReadRecords", spec := "fnReadRecords", unfollowed := true, recurses := true, apart := false, narrowed := true }
def FnReadRecordsUptoSaid : Prop := fnReadRecordsUptoRow.holds Try.pinned (OpenSpec.upto fnReadRecordsSpec)

/-- 'laws.FnReadRecordsAll', WHERE WHAT IT READS IS OF BULK AT MOST 1048576: true; the input reads as it did. -/
def fnReadRecordsAllUptoRow : OpenClaim := { program := "ytneblddbahancaa", sum := "a4fd4900b913232eea5ac19fa556a147b07d5fc85149f7fc0998d543a5b7019a", func := "loop.example/recordbatches/laws.FnReadRecordsAll", spec := "fnReadRecordsAll", unfollowed := true, recurses := true, apart := false, narrowed := true }
def FnReadRecordsAllUptoSaid : Prop := fnReadRecordsAllUptoRow.holds Try.pinned (OpenSpec.upto fnReadRecordsAllSpec)

/-- 'laws.FnReadRecordsMarks', WHERE WHAT IT READS IS OF BULK AT MOST 1048576: true; the input reads as it did. -/
def fnReadRecordsMarksUptoRow : OpenClaim := { program := "ytneblddbahancaa", sum := "a4fd4900b913232eea5ac19fa556a147b07d5fc85149f7fc0998d543a5b7019a", func := "loop.example/recordbatches/laws.FnReadRecordsMarks", spec := "fnReadRecordsMarks", unfollowed := true, recurses := true, apart := false, narrowed := true }
def FnReadRecordsMarksUptoSaid : Prop := fnReadRecordsMarksUptoRow.holds Try.pinned (OpenSpec.upto fnReadRecordsMarksSpec)

/-- 'laws.FnReadRecordsOn', WHERE WHAT IT READS IS OF BULK AT MOST 1048576: true; the input reads as it did. -/
def fnReadRecordsOnUptoRow : OpenClaim := { program := "ytneblddbahancaa", sum := "a4fd4900b913232eea5ac19fa556a147b07d5fc85149f7fc0998d543a5b7019a", func := "loop.example/recordbatches/laws.FnReadRecordsOn", spec := "fnReadRecordsOn", unfollowed := true, recurses := true, apart := false, narrowed := true }
def FnReadRecordsOnUptoSaid : Prop := fnReadRecordsOnUptoRow.holds Try.pinned (OpenSpec.upto fnReadRecordsOnSpec)

/-- 'laws.FnExactReadEnd', WHERE WHAT IT READS IS OF BULK AT MOST 1048576: true; the input reads as it did. -/
def fnExactReadEndUptoRow : OpenClaim := { program := "ytneblddbahancaa", sum := "a4fd4900b913232eea5ac19fa556a147b07d5fc85149f7fc0998d543a5b7019a", func := "loop.example/recordbatches/laws.FnExactReadEnd", spec := "fnExactReadEnd", apart := false, narrowed := true }
def FnExactReadEndUptoSaid : Prop := fnExactReadEndUptoRow.holds Try.pinned (OpenSpec.upto fnExactReadEndSpec)

/-- 'laws.FnReadOne', WHERE WHAT IT READS IS OF BULK AT MOST 1048576: true; the input reads as it did. -/
def fnReadOneUptoRow : OpenClaim := { program := "ytneblddbahancaa", sum := "a4fd4900b913232eea5ac19fa556a147b07d5fc85149f7fc0998d543a5b7019a", func := "loop.example/recordbatches/laws.FnReadOne", spec := "fnReadOne", unfollowed := true, recurses := true, apart := false, narrowed := true }
def FnReadOneUptoSaid : Prop := fnReadOneUptoRow.holds Try.pinned (OpenSpec.upto fnReadOneSpec)

/-- 'laws.FnExactTimesFind', WHERE WHAT IT READS IS OF BULK AT MOST 1048576: true; the input reads as it did. -/
def fnExactTimesFindUptoRow : OpenClaim := { program := "ytneblddbahancaa", sum := "a4fd4900b913232eea5ac19fa556a147b07d5fc85149f7fc0998d543a5b7019a", func := "loop.example/recordbatches/laws.FnExactTimesFind", spec := "fnExactTimesFind", unfollowed := true, recurses := true, apart := false, narrowed := true }
def FnExactTimesFindUptoSaid : Prop := fnExactTimesFindUptoRow.holds Try.pinned (OpenSpec.upto fnExactTimesFindSpec)

/-- 'laws.FnExactTimesCount', WHERE WHAT IT READS IS OF BULK AT MOST 1048576: true; the input reads as it did. -/
def fnExactTimesCountUptoRow : OpenClaim := { program := "ytneblddbahancaa", sum := "a4fd4900b913232eea5ac19fa556a147b07d5fc85149f7fc0998d543a5b7019a", func := "loop.example/recordbatches/laws.FnExactTimesCount", spec := "fnExactTimesCount", unfollowed := true, recurses := true, apart := false, narrowed := true }
def FnExactTimesCountUptoSaid : Prop := fnExactTimesCountUptoRow.holds Try.pinned (OpenSpec.upto fnExactTimesCountSpec)

/-- 'laws.FnAppendOffset', WHERE WHAT IT READS IS OF BULK AT MOST 1048576: true; the input reads as it did. -/
def fnAppendOffsetUptoRow : OpenClaim := { program := "ytneblddbahancaa", sum := "a4fd4900b913232eea5ac19fa556a147b07d5fc85149f7fc0998d543a5b7019a", func := "loop.example/recordbatches/laws.FnAppendOffset", spec := "fnAppendOffset", apart := false, narrowed := true }
def FnAppendOffsetUptoSaid : Prop := fnAppendOffsetUptoRow.holds Try.pinned (OpenSpec.upto fnAppendOffsetSpec)

/-- 'laws.FnAppendOthers', WHERE WHAT IT READS IS OF BULK AT MOST 1048576: true; the input reads as it did. -/
def fnAppendOthersUptoRow : OpenClaim := { program := "ytneblddbahancaa", sum := "a4fd4900b913232eea5ac19fa556a147b07d5fc85149f7fc0998d543a5b7019a", func := "loop.example/recordbatches/laws.FnAppendOthers", spec := "fnAppendOthers", apart := false, narrowed := true }
def FnAppendOthersUptoSaid : Prop := fnAppendOthersUptoRow.holds Try.pinned (OpenSpec.upto fnAppendOthersSpec)

/-- 'laws.FnAppend', WHERE WHAT IT READS IS OF BULK AT MOST 1048576: true; the input reads as it did. -/
def fnAppendUptoRow : OpenClaim := { program := "ytneblddbahancaa", sum := "a4fd4900b913232eea5ac19fa556a147b07d5fc85149f7fc0998d543a5b7019a", func := "loop.example/recordbatches/laws.FnAppend", spec := "fnAppend", apart := false, narrowed := true }
def FnAppendUptoSaid : Prop := fnAppendUptoRow.holds Try.pinned (OpenSpec.upto fnAppendSpec)

/-- 'laws.FnExactTimesOf', WHERE WHAT IT READS IS OF BULK AT MOST 1048576: true; the input reads as it did. -/
def fnExactTimesOfUptoRow : OpenClaim := { program := "ytneblddbahancaa", sum := "a4fd4900b913232eea5ac19fa556a147b07d5fc85149f7fc0998d543a5b7019a", func := "loop.example/recordbatches/laws.FnExactTimesOf", spec := "fnExactTimesOf", unfollowed := true, recurses := true, apart := false, narrowed := true }
def FnExactTimesOfUptoSaid : Prop := fnExactTimesOfUptoRow.holds Try.pinned (OpenSpec.upto fnExactTimesOfSpec)

/-- 'laws.FnExactReadOne', WHERE WHAT IT READS IS OF BULK AT MOST 1048576: true; the input reads as it did. -/
def fnExactReadOneUptoRow : OpenClaim := { program := "ytneblddbahancaa", sum := "a4fd4900b913232eea5ac19fa556a147b07d5fc85149f7fc0998d543a5b7019a", func := "loop.example/recordbatches/laws.FnExactReadOne", spec := "fnExactReadOne", unfollowed := true, recurses := true, apart := false, narrowed := true }
def FnExactReadOneUptoSaid : Prop := fnExactReadOneUptoRow.holds Try.pinned (OpenSpec.upto fnExactReadOneSpec)

/-- 'laws.FnExactReadRecords', WHERE WHAT IT READS IS OF BULK AT MOST 1048576: true; the input reads as it did. -/
def fnExactReadRecordsUptoRow : OpenClaim := { program := "ytneblddbahancaa", sum := "a4fd4900b913232eea5ac19fa556a147b07d5fc85149f7fc0998d543a5b7019a", func := "loop.example/recordbatches/laws.FnExactReadRecords", spec := "fnExactReadRecords", unfollowed := true, recurses := true, apart := false, narrowed := true }
def FnExactReadRecordsUptoSaid : Prop := fnExactReadRecordsUptoRow.holds Try.pinned (OpenSpec.upto fnExactReadRecordsSpec)

/-- 'laws.FnExactLogAppend', WHERE WHAT IT READS IS OF BULK AT MOST 1048576: true; the input reads as it did. -/
def fnExactLogAppendUptoRow : OpenClaim := { program := "ytneblddbahancaa", sum := "a4fd4900b913232eea5ac19fa556a147b07d5fc85149f7fc0998d543a5b7019a", func := "loop.example/recordbatches/laws.FnExactLogAppend", spec := "fnExactLogAppend", apart := false, narrowed := true }
def FnExactLogAppendUptoSaid : Prop := fnExactLogAppendUptoRow.holds Try.pinned (OpenSpec.upto fnExactLogAppendSpec)

end Rows
end Go.Proofs.Ytneblddbahancaa
