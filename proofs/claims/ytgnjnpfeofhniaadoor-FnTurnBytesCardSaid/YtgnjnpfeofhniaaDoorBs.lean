/- A batch as bytes: the reference; BatchBytes of both. -/
import Derived.Test.YtgnjnpfeofhniaaDoorBb
import Derived.Test.YtgnjnpfeofhniaaDoorP2
import Derived.Test.YtgnjnpfeofhniaaDoorW9
import Derived.Test.YtgnjnpfeofhniaaDoorB3
import Derived.Test.YtgnjnpfeofhniaaDoorS2
namespace Go.Proofs.YtgnjnpfeofhniaaDoor
set_option linter.unusedVariables false
set_option linter.unusedSimpArgs false
open Go.RowKit

end Go.Proofs.YtgnjnpfeofhniaaDoor
