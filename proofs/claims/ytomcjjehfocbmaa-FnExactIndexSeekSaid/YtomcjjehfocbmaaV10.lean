/- Records from and as bytes: the program's own names. -/
import Derived.Test.YtomcjjehfocbmaaV8
import Derived.Test.YtomcjjehfocbmaaV9
namespace Go.Proofs.Ytomcjjehfocbmaa
set_option linter.unusedVariables false
set_option linter.unusedSimpArgs false
open Go.RowKit

def recBytesOf (r : Rec) (o t : Int) : List Int := if recB r && baseB o t then recBytes r o t else []
def recFromOf (l : List Int) (i o t : Int) : Option (Rec × Nat) := if bytesB l && baseB o t then rdAt l i o t else none
theorem recQ_none : recQ none = Rec.zero := rfl
end Go.Proofs.Ytomcjjehfocbmaa
