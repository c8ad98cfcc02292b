/-
  No cell of these rows narrows 'for every input' (looked for: loops, veiled, ifaces, maps, wideKeys, modest, calm, conditions, laid).
  DERIVED. THE GIVEN ROWS OF THIS SEAT. 7 by the template 'for every input the law returns true; each argument reads behind the call as it read before'; 0 by the template 'total and deterministic' (their statements: YtfflhenldegmmaaTotals.lean).
  GIVEN WITH THE SEED: the statements are not yours to turn. If you find one false, say at which input.
  Laid BY PROGRAM, IN A SANDBOX (cutbox-rows.mjs): the forced cells as the released guide's own fill.sh prints them over the translation 0de5f8f8085e91f0… (all of the seat's roots in one cut). By AI agents, Wed Nov 11 2026. No macro, syntax, notation, axiom, sorry.
-/
import Derived.Test.YtfflhenldegmmaaChecked
import GoSem.Claim
import GoSem.ClaimJoined
import GoSem.ClaimMapViews
import Derived.JoinedTies
import Derived.KernelRfl
namespace Go.Proofs.Ytfflhenldegmmaa
/- THE CELL 'sum', in the pinned program and in every row, IS THE sha256 OF THE DUMP (.gsa) THAT YtfflhenldegmmaaProg.lean LOADS. Nothing in Lean hashes anything: it is a label: what it is worth is what the hold of that sum in a sandbox is worth. -/
noncomputable def Try.pinned : Pinned := { name := "ytfflhenldegmmaa", sum := "0de5f8f8085e91f0d84527c36aae87dc5f5b2bd9790cd4730e2ee594490904e7", checked := Try.checked }
namespace Rows
def none {H : Type} : Left H := { results := [], args := [] }

/-- 'laws.FnRecord': WHATEVER THE INPUT: true; the input reads as it did. -/
def fnRecordSpec : ChangeSpec := { name := "fnRecord", fn := fun _ => fun
  | [d] => { results := [.lit (.bool true)], args := [d] }
  | _ => none }
def fnRecordRow : OpenClaim := { program := "ytfflhenldegmmaa", sum := "0de5f8f8085e91f0d84527c36aae87dc5f5b2bd9790cd4730e2ee594490904e7", func := "loop.example/recordbatches/laws.FnRecord", spec := "fnRecord", plainKeys := false, apart := false }
def FnRecordSaid : Prop := fnRecordRow.holds Try.pinned (OpenSpec.ofChange fnRecordSpec)

/-- ITS FALSE NEIGHBOUR: 'it returns false'. Refute it at one input. -/
def fnRecordWrong : ChangeSpec := { name := "fnRecord", fn := fun _ => fun
  | [d] => { results := [.lit (.bool false)], args := [d] }
  | _ => none }
def FnRecordWrongFalsely : Prop := fnRecordRow.holds Try.pinned (OpenSpec.ofChange fnRecordWrong)

/-- 'laws.FnExactRecordFrom': WHATEVER THE INPUT: true; the input reads as it did. -/
def fnExactRecordFromSpec : ChangeSpec := { name := "fnExactRecordFrom", fn := fun _ => fun
  | [d1, d2, d3, d4] => { results := [.lit (.bool true)], args := [d1, d2, d3, d4] }
  | _ => none }
def fnExactRecordFromRow : OpenClaim := { program := "ytfflhenldegmmaa", sum := "0de5f8f8085e91f0d84527c36aae87dc5f5b2bd9790cd4730e2ee594490904e7", func := "loop.example/recordbatches/laws.FnExactRecordFrom", spec := "fnExactRecordFrom", plainKeys := false, apart := false }
def FnExactRecordFromSaid : Prop := fnExactRecordFromRow.holds Try.pinned (OpenSpec.ofChange fnExactRecordFromSpec)

/-- ITS FALSE NEIGHBOUR: 'it returns false'. Refute it at one input. -/
def fnExactRecordFromWrong : ChangeSpec := { name := "fnExactRecordFrom", fn := fun _ => fun
  | [d1, d2, d3, d4] => { results := [.lit (.bool false)], args := [d1, d2, d3, d4] }
  | _ => none }
def FnExactRecordFromWrongFalsely : Prop := fnExactRecordFromRow.holds Try.pinned (OpenSpec.ofChange fnExactRecordFromWrong)

/-- 'laws.FnRecordTorn': WHATEVER THE INPUT: true; the input reads as it did. -/
def fnRecordTornSpec : ChangeSpec := { name := "fnRecordTorn", fn := fun _ => fun
  | [d] => { results := [.lit (.bool true)], args := [d] }
  | _ => none }
def fnRecordTornRow : OpenClaim := { program := "ytfflhenldegmmaa", sum := "0de5f8f8085e91f0d84527c36aae87dc5f5b2bd9790cd4730e2ee594490904e7", func := "loop.example/recordbatches/laws.FnRecordTorn", spec := "fnRecordTorn", plainKeys := false, apart := false }
def FnRecordTornSaid : Prop := fnRecordTornRow.holds Try.pinned (OpenSpec.ofChange fnRecordTornSpec)

/-- ITS FALSE NEIGHBOUR: 'it returns false'. Refute it at one input. -/
def fnRecordTornWrong : ChangeSpec := { name := "fnRecordTorn", fn := fun _ => fun
  | [d] => { results := [.lit (.bool false)], args := [d] }
  | _ => none }
def FnRecordTornWrongFalsely : Prop := fnRecordTornRow.holds Try.pinned (OpenSpec.ofChange fnRecordTornWrong)

/-- 'laws.FnRecordFrom': WHATEVER THE INPUT: true; the input reads as it did. -/
def fnRecordFromSpec : ChangeSpec := { name := "fnRecordFrom", fn := fun _ => fun
  | [d] => { results := [.lit (.bool true)], args := [d] }
  | _ => none }
def fnRecordFromRow : OpenClaim := { program := "ytfflhenldegmmaa", sum := "0de5f8f8085e91f0d84527c36aae87dc5f5b2bd9790cd4730e2ee594490904e7", func := "loop.example/recordbatches/laws.FnRecordFrom", spec := "fnRecordFrom", plainKeys := false, apart := false }
def FnRecordFromSaid : Prop := fnRecordFromRow.holds Try.pinned (OpenSpec.ofChange fnRecordFromSpec)

/-- ITS FALSE NEIGHBOUR: 'it returns false'. Refute it at one input. -/
def fnRecordFromWrong : ChangeSpec := { name := "fnRecordFrom", fn := fun _ => fun
  | [d] => { results := [.lit (.bool false)], args := [d] }
  | _ => none }
def FnRecordFromWrongFalsely : Prop := fnRecordFromRow.holds Try.pinned (OpenSpec.ofChange fnRecordFromWrong)

/-- 'laws.FnBatchNumber': WHATEVER THE INPUT: true; the input reads as it did. -/
def fnBatchNumberSpec : ChangeSpec := { name := "fnBatchNumber", fn := fun _ => fun
  | [d] => { results := [.lit (.bool true)], args := [d] }
  | _ => none }
def fnBatchNumberRow : OpenClaim := { program := "ytfflhenldegmmaa", sum := "0de5f8f8085e91f0d84527c36aae87dc5f5b2bd9790cd4730e2ee594490904e7", func := "loop.example/recordbatches/laws.FnBatchNumber", spec := "fnBatchNumber", unfollowed := true, recurses := true, plainKeys := false, apart := false }
def FnBatchNumberSaid : Prop := fnBatchNumberRow.holds Try.pinned (OpenSpec.ofChange fnBatchNumberSpec)

/-- ITS FALSE NEIGHBOUR: 'it returns false'. Refute it at one input. -/
def fnBatchNumberWrong : ChangeSpec := { name := "fnBatchNumber", fn := fun _ => fun
  | [d] => { results := [.lit (.bool false)], args := [d] }
  | _ => none }
def FnBatchNumberWrongFalsely : Prop := fnBatchNumberRow.holds Try.pinned (OpenSpec.ofChange fnBatchNumberWrong)

/-- 'laws.FnBatchHead': WHATEVER THE INPUT: true; the input reads as it did. -/
def fnBatchHeadSpec : ChangeSpec := { name := "fnBatchHead", fn := fun _ => fun
  | [d] => { results := [.lit (.bool true)], args := [d] }
  | _ => none }
def fnBatchHeadRow : OpenClaim := { program := "ytfflhenldegmmaa", sum := "0de5f8f8085e91f0d84527c36aae87dc5f5b2bd9790cd4730e2ee594490904e7", func := "loop.example/recordbatches/laws.FnBatchHead", spec := "fnBatchHead", unfollowed := true, recurses := true, plainKeys := false, apart := false }
def FnBatchHeadSaid : Prop := fnBatchHeadRow.holds Try.pinned (OpenSpec.ofChange fnBatchHeadSpec)

/-- ITS FALSE NEIGHBOUR: 'it returns false'. Refute it at one input. -/
def fnBatchHeadWrong : ChangeSpec := { name := "fnBatchHead", fn := fun _ => fun
  | [d] => { results := [.lit (.bool false)], args := [d] }
  | _ => none }
def FnBatchHeadWrongFalsely : Prop := fnBatchHeadRow.holds Try.pinned (OpenSpec.ofChange fnBatchHeadWrong)

/-- 'laws.FnExactBatchBytes': WHATEVER THE INPUT: true; the input reads as it did. -/
def fnExactBatchBytesSpec : ChangeSpec := { name := "fnExactBatchBytes", fn := fun _ => fun
  | [d] => { results := [.lit (.bool true)], args := [d] }
  | _ => none }
def fnExactBatchBytesRow : OpenClaim := { program := "ytfflhenldegmmaa", sum := "0de5f8f8085e91f0d84527c36aae87dc5f5b2bd9790cd4730e2ee594490904e7", func := "loop.example/recordbatches/laws.FnExactBatchBytes", spec := "fnExactBatchBytes", unfollowed := true, recurses := true, plainKeys := false, apart := false }
def FnExactBatchBytesSaid : Prop := fnExactBatchBytesRow.holds Try.pinned (OpenSpec.ofChange fnExactBatchBytesSpec)

/-- ITS FALSE NEIGHBOUR: 'it returns false'. Refute it at one input. -/
def fnExactBatchBytesWrong : ChangeSpec := { name := "fnExactBatchBytes", fn := fun _ => fun
  | [d] => { results := [.lit (.bool false)], args := [d] }
  | _ => none }
def FnExactBatchBytesWrongFalsely : Prop := fnExactBatchBytesRow.holds Try.pinned (OpenSpec.ofChange fnExactBatchBytesWrong)

/- THE SECOND FORM. 'bulk': how many values and letters a reading holds, each counted each time it is reached (what is shared counts as often as it is met; a slice's spare places count too). A statement '..UptoSaid' is the law's where the arguments, and the package variables that the reading takes, are together of bulk at most 1048576: NARROWER than '..Said'. Prove '..Said' where nothing that the law and all that it calls make is longer than what came in: it says more and counts as full. Else prove '..UptoSaid'. A law counts once. -/
mutual
def uptoBulk {H : Type} : DataW H → Nat
  | .lit (.string bytes) => bytes.length + 1
  | .lit _ => 1
  | .nil => 1
  | .ptr d => uptoBulk d + 1
  | .slice elems spare => uptoBulkAll elems + uptoBulkAll spare + 1
  | .agg parts => uptoBulkAll parts + 1
  | .iface _ d => uptoBulk d + 1
  | .map entries => uptoBulkEntries entries + 1
  | .held _ => 1
def uptoBulkAll {H : Type} : List (DataW H) → Nat
  | [] => 0
  | d :: r => uptoBulk d + uptoBulkAll r
def uptoBulkEntries {H : Type} : List (Lit × DataW H) → Nat
  | [] => 0
  | x :: r => uptoBulkEntry x + uptoBulkEntries r
def uptoBulkEntry {H : Type} : Lit × DataW H → Nat
  | (.string bytes, d) => bytes.length + uptoBulk d + 1
  | (_, d) => uptoBulk d + 1
 end
def uptoSmall : (H : Type) → List (DataW H) → Bool := fun _ ds => decide (uptoBulkAll ds ≤ 1048576)
def OpenSpec.upto (s : _root_.Go.ChangeSpec) : _root_.Go.OpenSpec := { _root_.Go.OpenSpec.ofChange s with cond := some uptoSmall }

/-- 'laws.FnRecord', WHERE WHAT IT READS IS OF BULK AT MOST 1048576: true; the input reads as it did. -/
def fnRecordUptoRow : OpenClaim := { program := "ytfflhenldegmmaa", sum := "0de5f8f8085e91f0d84527c36aae87dc5f5b2bd9790cd4730e2ee594490904e7", func := "loop.example/recordbatches/laws.FnRecord", spec := "fnRecord", plainKeys := false, apart := false, narrowed := true }
def FnRecordUptoSaid : Prop := fnRecordUptoRow.holds Try.pinned (OpenSpec.upto fnRecordSpec)

/-- 'laws.FnExactRecordFrom', WHERE WHAT IT READS IS OF BULK AT MOST 1048576: true; the input reads as it did. -/
def fnExactRecordFromUptoRow : OpenClaim := { program := "ytfflhenldegmmaa", sum := "0de5f8f8085e91f0d84527c36aae87dc5f5b2bd9790cd4730e2ee594490904e7", func := "loop.example/recordbatches/laws.FnExactRecordFrom", spec := "fnExactRecordFrom", plainKeys := false, apart := false, narrowed := true }
def FnExactRecordFromUptoSaid : Prop := fnExactRecordFromUptoRow.holds Try.pinned (OpenSpec.upto fnExactRecordFromSpec)

/-- 'laws.FnRecordTorn', WHERE WHAT IT READS IS OF BULK AT MOST 1048576: true; the input reads as it did. -/
def fnRecordTornUptoRow : OpenClaim := { program := "ytfflhenldegmmaa", sum := "0de5f8f8085e91f0d84527c36aae87dc5f5b2bd9790cd4730e2ee594490904e7", func := "loop.example/recordbatches/laws.FnRecordTorn", spec := "fnRecordTorn", plainKeys := false, apart := false, narrowed := true }
def FnRecordTornUptoSaid : Prop := fnRecordTornUptoRow.holds Try.pinned (OpenSpec.upto fnRecordTornSpec)

/-- 'laws.FnRecordFrom', WHERE WHAT IT READS IS OF BULK AT MOST 1048576: true; the input reads as it did. -/
def fnRecordFromUptoRow : OpenClaim := { program := "ytfflhenldegmmaa", sum := "0de5f8f8085e91f0d84527c36aae87dc5f5b2bd9790cd4730e2ee594490904e7", func := "loop.example/recordbatches/laws.FnRecordFrom", spec := "fnRecordFrom", plainKeys := false, apart := false, narrowed := true }
def FnRecordFromUptoSaid : Prop := fnRecordFromUptoRow.holds Try.pinned (OpenSpec.upto fnRecordFromSpec)

/-- 'laws.FnBatchNumber', WHERE WHAT IT READS IS OF BULK AT MOST 1048576: true; the input reads as it did. -/
def fnBatchNumberUptoRow : OpenClaim := { program := "ytfflhenldegmmaa", sum := "0de5f8f8085e91f0d84527c36aae87dc5f5b2bd9790cd4730e2ee594490904e7", func := "loop.example/recordbatches/laws.FnBatchNumber", spec := "fnBatchNumber", unfollowed := true, recurses := true, plainKeys := false, apart := false, narrowed := true }
def FnBatchNumberUptoSaid : Prop := fnBatchNumberUptoRow.holds Try.pinned (OpenSpec.upto fnBatchNumberSpec)

/-- 'laws.FnBatchHead', WHERE WHAT IT READS IS OF BULK AT MOST 1048576: true; the input reads as it did. -/
def fnBatchHeadUptoRow : OpenClaim := { program := "ytfflhenldegmmaa", sum := "0de5f8f8085e91f0d84527c36aae87dc5f5b2bd9790cd4730e2ee594490904e7", func := "loop.example/recordbatches/laws.FnBatchHead", spec := "fnBatchHead", unfollowed := true, recurses := true, plainKeys := false, apart := false, narrowed := true }
def FnBatchHeadUptoSaid : Prop := fnBatchHeadUptoRow.holds Try.pinned (OpenSpec.upto fnBatchHeadSpec)

/-- 'laws.FnExactBatchBytes', WHERE WHAT IT READS IS OF BULK AT MOST 1048576: true; the input reads as it did. -/
def fnExactBatchBytesUptoRow : OpenClaim := { program := "ytfflhenldegmmaa", sum := "0de5f8f8085e91f0d84527c36aae87dc5f5b2bd9790cd4730e2ee594490904e7", func := "loop.example/recordbatches/laws.FnExactBatchBytes", spec := "fnExactBatchBytes", unfollowed := true, recurses := true, plainKeys := false, apart := false, narrowed := true }
def FnExactBatchBytesUptoSaid : Prop := fnExactBatchBytesUptoRow.holds Try.pinned (OpenSpec.upto fnExactBatchBytesSpec)

end Rows
end Go.Proofs.Ytfflhenldegmmaa
