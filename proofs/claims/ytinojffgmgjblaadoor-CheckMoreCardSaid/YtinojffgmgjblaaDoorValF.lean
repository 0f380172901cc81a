/- rambleref02.may, one step. -/
import Derived.Test.YtinojffgmgjblaaDoorValE
import Derived.Test.YtinojffgmgjblaaDoorAmZ
set_option linter.unusedVariables false
set_option linter.unusedSimpArgs false
namespace Go.Proofs.YtinojffgmgjblaaDoor
open Go Go.AM Go.RowKit
end Go.Proofs.YtinojffgmgjblaaDoor
