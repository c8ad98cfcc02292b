/- Equality of lists of records, of batches. Equality of segments. Equality in the laws. -/
import Derived.Test.YtomcjjehfocbmaaGreatDoorE1
namespace Go.Proofs.YtomcjjehfocbmaaGreatDoor
set_option linter.unusedVariables false
set_option linter.unusedSimpArgs false
section
open Go.RowKit

end

section
open Go.RowKit

end

section
open Go.RowKit

end
end Go.Proofs.YtomcjjehfocbmaaGreatDoor
