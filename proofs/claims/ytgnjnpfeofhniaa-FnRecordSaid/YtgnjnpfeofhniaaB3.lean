/- BatchValid, LogValid of the program. first, last, LogValid of the program. -/
import Derived.Test.YtgnjnpfeofhniaaGa
import Derived.Test.YtgnjnpfeofhniaaB1
namespace Go.Proofs.Ytgnjnpfeofhniaa
set_option linter.unusedVariables false
set_option linter.unusedSimpArgs false
section
open Go.RowKit

end

section
open Go.RowKit

end
end Go.Proofs.Ytgnjnpfeofhniaa
