/- Reading variable numbers: the reference. -/
import Derived.Test.YtgnjnpfeofhniaaV2
namespace Go.Proofs.Ytgnjnpfeofhniaa
set_option linter.unusedVariables false
set_option linter.unusedSimpArgs false
open Go.RowKit

end Go.Proofs.Ytgnjnpfeofhniaa
