/- A batch as bytes: the reference. -/
import Derived.Test.YtgnjnpfeofhniaaDoorBs
import Derived.Deep.DeepCutAuto
namespace Go.Proofs.YtgnjnpfeofhniaaDoor
set_option linter.unusedVariables false
set_option linter.unusedSimpArgs false
open Go.RowKit

/-- The records' bytes, as they are told. -/
def RowsR (b : Bat) (w wx : World) (bx : Obj) (vr vf : Value) (f : Int) : Prop := ∃ (ys : List Int) (Ar : Option Addr) (cr : Nat) (G : Nat → Prop), vr = .slice Ar ys.length cr ∧ vf = .int .i64 f ∧ ys = b.body ∧ ys.length ≤ 396 ∧ Ints wx G Ar cr ys ∧ wx.heap[w.heap.size]? = some bx ∧ Below w.heap.size w wx
def FlagR (b : Bat) (W wx : World) (vf : Value) : Prop := vf = .int .i64 b.flags ∧ wx = W
def AppR (W wx : World) (v : Value) (l : List Int) : Prop := App (Kind.int .i64) 3 wx W.heap.size v l ∧ Below W.heap.size W wx
end Go.Proofs.YtgnjnpfeofhniaaDoor
