/- What came in reads as numbers. -/
import Derived.Test.YtfflhenldegmmaaOpG
namespace Go.Proofs.Ytfflhenldegmmaa
set_option linter.unusedVariables false
set_option linter.unusedSimpArgs false
open Go.RowKit Go.ChangeShapes Go.WideShapes

theorem cellsIntI : Try.prog.cellsOf 3 = 1 := by kernel_rfl
section
variable {H : Type} {enc : TypeId × Value → H} {w : World} {base : Nat} {spare : Nat → Bool} {held : Bool}
theorem opens_ints : Opens enc Try.prog w base spare held 23 (Kind.slice (Kind.int .i64)) := opens_slice Try.underlying23 cellsIntI (opens_int Try.underlying3)
end
end Go.Proofs.Ytfflhenldegmmaa
