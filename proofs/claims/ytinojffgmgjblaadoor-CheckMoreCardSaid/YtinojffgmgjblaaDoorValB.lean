/- How two values stand: rambleref02.Compare, Same, SameAll. -/
import Derived.Test.YtinojffgmgjblaaDoorOrd
set_option linter.unusedVariables false
set_option linter.unusedSimpArgs false
namespace Go.Proofs.YtinojffgmgjblaaDoor
open Go Go.AM Go.RowKit
end Go.Proofs.YtinojffgmgjblaaDoor
