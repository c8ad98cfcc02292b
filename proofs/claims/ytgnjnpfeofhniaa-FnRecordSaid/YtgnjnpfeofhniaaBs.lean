/- A batch as bytes: the reference; BatchBytes of both. -/
import Derived.Test.YtgnjnpfeofhniaaBb
import Derived.Test.YtgnjnpfeofhniaaP2
import Derived.Test.YtgnjnpfeofhniaaW9
import Derived.Test.YtgnjnpfeofhniaaB3
import Derived.Test.YtgnjnpfeofhniaaS2
namespace Go.Proofs.Ytgnjnpfeofhniaa
set_option linter.unusedVariables false
set_option linter.unusedSimpArgs false
open Go.RowKit

end Go.Proofs.Ytgnjnpfeofhniaa
