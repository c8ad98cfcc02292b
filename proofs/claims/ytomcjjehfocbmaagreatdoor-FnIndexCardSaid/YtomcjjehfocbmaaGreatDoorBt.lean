/- BatchBytes of the program. -/
import Derived.Test.YtomcjjehfocbmaaGreatDoorBb
import Derived.Test.YtomcjjehfocbmaaGreatDoorB3
namespace Go.Proofs.YtomcjjehfocbmaaGreatDoor
set_option linter.unusedVariables false
set_option linter.unusedSimpArgs false
open Go.RowKit

end Go.Proofs.YtomcjjehfocbmaaGreatDoor
