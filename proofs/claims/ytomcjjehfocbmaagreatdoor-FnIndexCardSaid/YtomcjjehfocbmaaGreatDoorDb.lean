/- Draws: a batch. -/
import Derived.Test.YtomcjjehfocbmaaGreatDoorD3
namespace Go.Proofs.YtomcjjehfocbmaaGreatDoor
set_option linter.unusedVariables false
set_option linter.unusedSimpArgs false
open Go.RowKit

end Go.Proofs.YtomcjjehfocbmaaGreatDoor
