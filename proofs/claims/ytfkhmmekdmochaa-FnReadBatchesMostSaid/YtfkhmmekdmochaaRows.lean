/-
  No cell of these rows narrows 'for every input' (looked for: loops, veiled, ifaces, maps, wideKeys, modest, calm, conditions, laid).
  DERIVED. THE GIVEN ROWS OF THIS SEAT. 9 by the template 'for every input the law returns true; each argument reads behind the call as it read before'; 0 by the template 'total and deterministic' (their statements: YtfkhmmekdmochaaTotals.lean).
  GIVEN WITH THE SEED: the statements are not yours to turn. If you find one false, say at which input.
  Laid BY PROGRAM, IN A SANDBOX (cutbox-rows.mjs): the forced cells as the released guide's own fill.sh prints them over the translation 61fb8a10cadea0a7… (all of the seat's roots in one cut). By AI agents, Wed Nov 11 2026. No macro, syntax, notation, axiom, sorry.
-/
import Derived.Test.YtfkhmmekdmochaaChecked
import GoSem.Claim
import GoSem.ClaimJoined
import GoSem.ClaimMapViews
import Derived.JoinedTies
import Derived.KernelRfl
namespace Go.Proofs.Ytfkhmmekdmochaa
/- THE CELL 'sum', in the pinned program and in every row, IS THE sha256 OF THE DUMP (.gsa) THAT YtfkhmmekdmochaaProg.lean LOADS. Nothing in Lean hashes anything: it is a label: what it is worth is what the hold of that sum in a sandbox is worth. -/
noncomputable def Try.pinned : Pinned := { name := "ytfkhmmekdmochaa", sum := "61fb8a10cadea0a74ea43f202dc3608a6672fdc6994cba96896d23c6edfd361c", checked := Try.checked }
namespace Rows
def none {H : Type} : Left H := { results := [], args := [] }

/-- 'laws.FnLogJoin': WHATEVER THE INPUT: true; the input reads as it did. -/
def fnLogJoinSpec : ChangeSpec := { name := "fnLogJoin", fn := fun _ => fun
  | [d] => { results := [.lit (.bool true)], args := [d] }
  | _ => none }
def fnLogJoinRow : OpenClaim := { program := "ytfkhmmekdmochaa", sum := "61fb8a10cadea0a74ea43f202dc3608a6672fdc6994cba96896d23c6edfd361c", func := "loop.example/recordbatches/laws.FnLogJoin", spec := "fnLogJoin", unfollowed := true, recurses := true, plainKeys := false, apart := false }
def FnLogJoinSaid : Prop := fnLogJoinRow.holds Try.pinned (OpenSpec.ofChange fnLogJoinSpec)

/-- ITS FALSE NEIGHBOUR: 'it returns false'. Refute it at one input. -/
def fnLogJoinWrong : ChangeSpec := { name := "fnLogJoin", fn := fun _ => fun
  | [d] => { results := [.lit (.bool false)], args := [d] }
  | _ => none }
def FnLogJoinWrongFalsely : Prop := fnLogJoinRow.holds Try.pinned (OpenSpec.ofChange fnLogJoinWrong)

/-- 'laws.FnIndexApart': WHATEVER THE INPUT: true; the input reads as it did. -/
def fnIndexApartSpec : ChangeSpec := { name := "fnIndexApart", fn := fun _ => fun
  | [d] => { results := [.lit (.bool true)], args := [d] }
  | _ => none }
def fnIndexApartRow : OpenClaim := { program := "ytfkhmmekdmochaa", sum := "61fb8a10cadea0a74ea43f202dc3608a6672fdc6994cba96896d23c6edfd361c", func := "loop.example/recordbatches/laws.FnIndexApart", spec := "fnIndexApart", unfollowed := true, recurses := true, plainKeys := false, apart := false }
def FnIndexApartSaid : Prop := fnIndexApartRow.holds Try.pinned (OpenSpec.ofChange fnIndexApartSpec)

/-- ITS FALSE NEIGHBOUR: 'it returns false'. Refute it at one input. -/
def fnIndexApartWrong : ChangeSpec := { name := "fnIndexApart", fn := fun _ => fun
  | [d] => { results := [.lit (.bool false)], args := [d] }
  | _ => none }
def FnIndexApartWrongFalsely : Prop := fnIndexApartRow.holds Try.pinned (OpenSpec.ofChange fnIndexApartWrong)

/-- 'laws.FnIndexFirst': WHATEVER THE INPUT: true; the input reads as it did. -/
def fnIndexFirstSpec : ChangeSpec := { name := "fnIndexFirst", fn := fun _ => fun
  | [d] => { results := [.lit (.bool true)], args := [d] }
  | _ => none }
def fnIndexFirstRow : OpenClaim := { program := "ytfkhmmekdmochaa", sum := "61fb8a10cadea0a74ea43f202dc3608a6672fdc6994cba96896d23c6edfd361c", func := "loop.example/recordbatches/laws.FnIndexFirst", spec := "fnIndexFirst", unfollowed := true, recurses := true, plainKeys := false, apart := false }
def FnIndexFirstSaid : Prop := fnIndexFirstRow.holds Try.pinned (OpenSpec.ofChange fnIndexFirstSpec)

/-- ITS FALSE NEIGHBOUR: 'it returns false'. Refute it at one input. -/
def fnIndexFirstWrong : ChangeSpec := { name := "fnIndexFirst", fn := fun _ => fun
  | [d] => { results := [.lit (.bool false)], args := [d] }
  | _ => none }
def FnIndexFirstWrongFalsely : Prop := fnIndexFirstRow.holds Try.pinned (OpenSpec.ofChange fnIndexFirstWrong)

/-- 'laws.FnReadBatchesAll': WHATEVER THE INPUT: true; the input reads as it did. -/
def fnReadBatchesAllSpec : ChangeSpec := { name := "fnReadBatchesAll", fn := fun _ => fun
  | [d] => { results := [.lit (.bool true)], args := [d] }
  | _ => none }
def fnReadBatchesAllRow : OpenClaim := { program := "ytfkhmmekdmochaa", sum := "61fb8a10cadea0a74ea43f202dc3608a6672fdc6994cba96896d23c6edfd361c", func := "loop.example/recordbatches/laws.FnReadBatchesAll", spec := "fnReadBatchesAll", unfollowed := true, recurses := true, plainKeys := false, apart := false }
def FnReadBatchesAllSaid : Prop := fnReadBatchesAllRow.holds Try.pinned (OpenSpec.ofChange fnReadBatchesAllSpec)

/-- ITS FALSE NEIGHBOUR: 'it returns false'. Refute it at one input. -/
def fnReadBatchesAllWrong : ChangeSpec := { name := "fnReadBatchesAll", fn := fun _ => fun
  | [d] => { results := [.lit (.bool false)], args := [d] }
  | _ => none }
def FnReadBatchesAllWrongFalsely : Prop := fnReadBatchesAllRow.holds Try.pinned (OpenSpec.ofChange fnReadBatchesAllWrong)

/-- 'laws.FnExactLogBytes': WHATEVER THE INPUT: true; the input reads as it did. -/
def fnExactLogBytesSpec : ChangeSpec := { name := "fnExactLogBytes", fn := fun _ => fun
  | [d] => { results := [.lit (.bool true)], args := [d] }
  | _ => none }
def fnExactLogBytesRow : OpenClaim := { program := "ytfkhmmekdmochaa", sum := "61fb8a10cadea0a74ea43f202dc3608a6672fdc6994cba96896d23c6edfd361c", func := "loop.example/recordbatches/laws.FnExactLogBytes", spec := "fnExactLogBytes", unfollowed := true, recurses := true, plainKeys := false, apart := false }
def FnExactLogBytesSaid : Prop := fnExactLogBytesRow.holds Try.pinned (OpenSpec.ofChange fnExactLogBytesSpec)

/-- ITS FALSE NEIGHBOUR: 'it returns false'. Refute it at one input. -/
def fnExactLogBytesWrong : ChangeSpec := { name := "fnExactLogBytes", fn := fun _ => fun
  | [d] => { results := [.lit (.bool false)], args := [d] }
  | _ => none }
def FnExactLogBytesWrongFalsely : Prop := fnExactLogBytesRow.holds Try.pinned (OpenSpec.ofChange fnExactLogBytesWrong)

/-- 'laws.FnReadBatches': WHATEVER THE INPUT: true; the input reads as it did. -/
def fnReadBatchesSpec : ChangeSpec := { name := "fnReadBatches", fn := fun _ => fun
  | [d] => { results := [.lit (.bool true)], args := [d] }
  | _ => none }
def fnReadBatchesRow : OpenClaim := { program := "ytfkhmmekdmochaa", sum := "61fb8a10cadea0a74ea43f202dc3608a6672fdc6994cba96896d23c6edfd361c", func := "loop.example/recordbatches/laws.FnReadBatches", spec := "fnReadBatches", unfollowed := true, recurses := true, plainKeys := false, apart := false }
def FnReadBatchesSaid : Prop := fnReadBatchesRow.holds Try.pinned (OpenSpec.ofChange fnReadBatchesSpec)

/-- ITS FALSE NEIGHBOUR: 'it returns false'. Refute it at one input. -/
def fnReadBatchesWrong : ChangeSpec := { name := "fnReadBatches", fn := fun _ => fun
  | [d] => { results := [.lit (.bool false)], args := [d] }
  | _ => none }
def FnReadBatchesWrongFalsely : Prop := fnReadBatchesRow.holds Try.pinned (OpenSpec.ofChange fnReadBatchesWrong)

/-- 'laws.FnReadBatchesMost': WHATEVER THE INPUT: true; the input reads as it did. -/
def fnReadBatchesMostSpec : ChangeSpec := { name := "fnReadBatchesMost", fn := fun _ => fun
  | [d] => { results := [.lit (.bool true)], args := [d] }
  | _ => none }
def fnReadBatchesMostRow : OpenClaim := { program := "ytfkhmmekdmochaa", sum := "61fb8a10cadea0a74ea43f202dc3608a6672fdc6994cba96896d23c6edfd361c", func := "loop.example/recordbatches/laws.FnReadBatchesMost", spec := "fnReadBatchesMost", unfollowed := true, recurses := true, plainKeys := false, apart := false }
def FnReadBatchesMostSaid : Prop := fnReadBatchesMostRow.holds Try.pinned (OpenSpec.ofChange fnReadBatchesMostSpec)

/-- ITS FALSE NEIGHBOUR: 'it returns false'. Refute it at one input. -/
def fnReadBatchesMostWrong : ChangeSpec := { name := "fnReadBatchesMost", fn := fun _ => fun
  | [d] => { results := [.lit (.bool false)], args := [d] }
  | _ => none }
def FnReadBatchesMostWrongFalsely : Prop := fnReadBatchesMostRow.holds Try.pinned (OpenSpec.ofChange fnReadBatchesMostWrong)

/-- 'laws.FnExactIndexOf': WHATEVER THE INPUT: true; the input reads as it did. -/
def fnExactIndexOfSpec : ChangeSpec := { name := "fnExactIndexOf", fn := fun _ => fun
  | [d1, d2] => { results := [.lit (.bool true)], args := [d1, d2] }
  | _ => none }
def fnExactIndexOfRow : OpenClaim := { program := "ytfkhmmekdmochaa", sum := "61fb8a10cadea0a74ea43f202dc3608a6672fdc6994cba96896d23c6edfd361c", func := "loop.example/recordbatches/laws.FnExactIndexOf", spec := "fnExactIndexOf", unfollowed := true, recurses := true, plainKeys := false, apart := false }
def FnExactIndexOfSaid : Prop := fnExactIndexOfRow.holds Try.pinned (OpenSpec.ofChange fnExactIndexOfSpec)

/-- ITS FALSE NEIGHBOUR: 'it returns false'. Refute it at one input. -/
def fnExactIndexOfWrong : ChangeSpec := { name := "fnExactIndexOf", fn := fun _ => fun
  | [d1, d2] => { results := [.lit (.bool false)], args := [d1, d2] }
  | _ => none }
def FnExactIndexOfWrongFalsely : Prop := fnExactIndexOfRow.holds Try.pinned (OpenSpec.ofChange fnExactIndexOfWrong)

/-- 'laws.FnExactReadBatches': WHATEVER THE INPUT: true; the input reads as it did. -/
def fnExactReadBatchesSpec : ChangeSpec := { name := "fnExactReadBatches", fn := fun _ => fun
  | [d1, d2, d3] => { results := [.lit (.bool true)], args := [d1, d2, d3] }
  | _ => none }
def fnExactReadBatchesRow : OpenClaim := { program := "ytfkhmmekdmochaa", sum := "61fb8a10cadea0a74ea43f202dc3608a6672fdc6994cba96896d23c6edfd361c", func := "loop.example/recordbatches/laws.FnExactReadBatches", spec := "fnExactReadBatches", unfollowed := true, recurses := true, plainKeys := false, apart := false }
def FnExactReadBatchesSaid : Prop := fnExactReadBatchesRow.holds Try.pinned (OpenSpec.ofChange fnExactReadBatchesSpec)

/-- ITS FALSE NEIGHBOUR: 'it returns false'. Refute it at one input. -/
def fnExactReadBatchesWrong : ChangeSpec := { name := "fnExactReadBatches", fn := fun _ => fun
  | [d1, d2, d3] => { results := [.lit (.bool false)], args := [d1, d2, d3] }
  | _ => none }
def FnExactReadBatchesWrongFalsely : Prop := fnExactReadBatchesRow.holds Try.pinned (OpenSpec.ofChange fnExactReadBatchesWrong)

/- THE SECOND FORM. 'bulk': how many values and letters a reading holds, each counted each time it is reached (what is shared counts as often as it is met; a slice's spare places count too). A statement '..UptoSaid' is the law's where the arguments, and the package variables that the reading takes, are together of bulk at most 1048576: NARROWER than '..Said'. Prove '..Said' where nothing that the law and all that it calls make is longer than what came in: it says more and counts as full. Else prove '..UptoSaid'. A law counts once. -/
mutual
def uptoBulk {H : Type} : DataW H → Nat
  | .lit (.string bytes) => bytes.length + 1
  | .lit _ => 1
  | .nil => 1
  | .ptr d => uptoBulk d + 1
  | .slice elems spare => uptoBulkAll elems + uptoBulkAll spare + 1
  | .agg parts => uptoBulkAll parts + 1
  | .iface _ d => uptoBulk d + 1
  | .map entries => uptoBulkEntries entries + 1
  | .held _ => 1
def uptoBulkAll {H : Type} : List (DataW H) → Nat
  | [] => 0
  | d :: r => uptoBulk d + uptoBulkAll r
def uptoBulkEntries {H : Type} : List (Lit × DataW H) → Nat
  | [] => 0
  | x :: r => uptoBulkEntry x + uptoBulkEntries r
def uptoBulkEntry {H : Type} : Lit × DataW H → Nat
  | (.string bytes, d) => bytes.length + uptoBulk d + 1
  | (_, d) => uptoBulk d + 1
 end
def uptoSmall : (H : Type) → List (DataW H) → Bool := fun _ ds => decide (uptoBulkAll ds ≤ 1048576)
def OpenSpec.upto (s : _root_.Go.ChangeSpec) : _root_.Go.OpenSpec := { _root_.Go.OpenSpec.ofChange s with cond := some uptoSmall }

/-- 'laws.FnLogJoin', WHERE WHAT IT READS IS OF BULK AT MOST 1048576: true; the input reads as it did. -/
def fnLogJoinUptoRow : OpenClaim := { program := "ytfkhmmekdmochaa", sum := "61fb8a10cadea0a74ea43f202dc3608a6672fdc6994cba96896d23c6edfd361c", func := "loop.example/recordbatches/laws.FnLogJoin", spec := "fnLogJoin", unfollowed := true, recurses := true, plainKeys := false, apart := false, narrowed := true }
def FnLogJoinUptoSaid : Prop := fnLogJoinUptoRow.holds Try.pinned (OpenSpec.upto fnLogJoinSpec)

/-- 'laws.FnIndexApart', WHERE WHAT IT READS IS OF BULK AT MOST 1048576: true; the input reads as it did. -/
def fnIndexApartUptoRow : OpenClaim := { program := "ytfkhmmekdmochaa", sum := "61fb8a10cadea0a74ea43f202dc3608a6672fdc6994cba96896d23c6edfd361c", func := "loop.example/recordbatches/laws.FnIndexApart", spec := "fnIndexApart", unfollowed := true, recurses := true, plainKeys := false, apart := false, narrowed := true }
def FnIndexApartUptoSaid : Prop := fnIndexApartUptoRow.holds Try.pinned (OpenSpec.upto fnIndexApartSpec)

/-- 'laws.FnIndexFirst', WHERE WHAT IT READS IS OF BULK AT MOST 1048576: true; the input reads as it did. -/
def fnIndexFirstUptoRow : OpenClaim := { program := "ytfkhmmekdmochaa", sum := "61fb8a10cadea0a74ea43f202dc3608a6672fdc6994cba96896d23c6edfd361c", func := "loop.example/recordbatches/laws.FnIndexFirst", spec := "fnIndexFirst", unfollowed := true, recurses := true, plainKeys := false, apart := false, narrowed := true }
def FnIndexFirstUptoSaid : Prop := fnIndexFirstUptoRow.holds Try.pinned (OpenSpec.upto fnIndexFirstSpec)

/-- 'laws.FnReadBatchesAll', WHERE WHAT IT READS IS OF BULK AT MOST 1048576: true; the input reads as it did. -/
def fnReadBatchesAllUptoRow : OpenClaim := { program := "ytfkhmmekdmochaa", sum := "61fb8a10cadea0a74ea43f202dc3608a6672fdc6994cba96896d23c6edfd361c", func := "loop.example/recordbatches/laws.FnReadBatchesAll", spec := "fnReadBatchesAll", unfollowed := true, recurses := true, plainKeys := false, apart := false, narrowed := true }
def FnReadBatchesAllUptoSaid : Prop := fnReadBatchesAllUptoRow.holds Try.pinned (OpenSpec.upto fnReadBatchesAllSpec)

/-- 'laws.FnExactLogBytes', WHERE WHAT IT READS IS OF BULK AT MOST 1048576: true; the input reads as it did. -/
def fnExactLogBytesUptoRow : OpenClaim := { program := "ytfkhmmekdmochaa", sum := "61fb8a10cadea0a74ea43f202dc3608a6672fdc6994cba96896d23c6edfd361c", func := "loop.example/recordbatches/laws.FnExactLogBytes", spec := "fnExactLogBytes", unfollowed := true, recurses := true, plainKeys := false, apart := false, narrowed := true }
def FnExactLogBytesUptoSaid : Prop := fnExactLogBytesUptoRow.holds Try.pinned (OpenSpec.upto fnExactLogBytesSpec)

/-- 'laws.FnReadBatches', WHERE WHAT IT READS IS OF BULK AT MOST 1048576: true; the input reads as it did. -/
def fnReadBatchesUptoRow : OpenClaim := { program := "ytfkhmmekdmochaa", sum := "61fb8a10cadea0a74ea43f202dc3608a6672fdc6994cba96896d23c6edfd361c", func := "loop.example/recordbatches/laws.FnReadBatches", spec := "fnReadBatches", unfollowed := true, recurses := true, plainKeys := false, apart := false, narrowed := true }
def FnReadBatchesUptoSaid : Prop := fnReadBatchesUptoRow.holds Try.pinned (OpenSpec.upto fnReadBatchesSpec)

/-- 'laws.FnReadBatchesMost', WHERE WHAT IT READS IS OF BULK AT MOST 1048576: true; the input reads as it did. -/
def fnReadBatchesMostUptoRow : OpenClaim := { program := "ytfkhmmekdmochaa", sum := "61fb8a10cadea0a74ea43f202dc3608a6672fdc6994cba96896d23c6edfd361c", func := "loop.example/recordbatches/laws.FnReadBatchesMost", spec := "fnReadBatchesMost", unfollowed := true, recurses := true, plainKeys := false, apart := false, narrowed := true }
def FnReadBatchesMostUptoSaid : Prop := fnReadBatchesMostUptoRow.holds Try.pinned (OpenSpec.upto fnReadBatchesMostSpec)

/-- 'laws.FnExactIndexOf', WHERE WHAT IT READS IS OF BULK AT MOST 1048576: true; the input reads as it did. -/
def fnExactIndexOfUptoRow : OpenClaim := { program := "ytfkhmmekdmochaa", sum := "61fb8a10cadea0a74ea43f202dc3608a6672fdc6994cba96896d23c6edfd361c", func := "loop.example/recordbatches/laws.FnExactIndexOf", spec := "fnExactIndexOf", unfollowed := true, recurses := true, plainKeys := false, apart := false, narrowed := true }
def FnExactIndexOfUptoSaid : Prop := fnExactIndexOfUptoRow.holds Try.pinned (OpenSpec.upto fnExactIndexOfSpec)

/-- 'laws.FnExactReadBatches', WHERE WHAT IT READS IS OF BULK AT MOST 1048576: true; the input reads as it did. -/
def fnExactReadBatchesUptoRow : OpenClaim := { program := "ytfkhmmekdmochaa", sum := "61fb8a10cadea0a74ea43f202dc3608a6672fdc6994cba96896d23c6edfd361c", func := "loop.example/recordbatches/laws.FnExactReadBatches", spec := "fnExactReadBatches", unfollowed := true, recurses := true, plainKeys := false, apart := false, narrowed := true }
def FnExactReadBatchesUptoSaid : Prop := fnExactReadBatchesUptoRow.holds Try.pinned (OpenSpec.upto fnExactReadBatchesSpec)

end Rows
end Go.Proofs.Ytfkhmmekdmochaa
