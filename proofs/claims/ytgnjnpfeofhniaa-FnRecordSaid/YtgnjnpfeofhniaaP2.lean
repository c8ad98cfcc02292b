/- The reference's packing. -/
import Derived.Test.YtgnjnpfeofhniaaRq
import Derived.Test.YtgnjnpfeofhniaaPn
import Derived.Test.YtgnjnpfeofhniaaGa
namespace Go.Proofs.Ytgnjnpfeofhniaa
set_option linter.unusedVariables false
set_option linter.unusedSimpArgs false
open Go.RowKit

end Go.Proofs.Ytgnjnpfeofhniaa
