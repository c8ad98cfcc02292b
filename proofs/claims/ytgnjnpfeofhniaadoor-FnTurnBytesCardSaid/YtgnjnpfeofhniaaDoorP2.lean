/- The reference's packing. -/
import Derived.Test.YtgnjnpfeofhniaaDoorRq
import Derived.Test.YtgnjnpfeofhniaaDoorPn
import Derived.Test.YtgnjnpfeofhniaaDoorGa
namespace Go.Proofs.YtgnjnpfeofhniaaDoor
set_option linter.unusedVariables false
set_option linter.unusedSimpArgs false
open Go.RowKit

end Go.Proofs.YtgnjnpfeofhniaaDoor
