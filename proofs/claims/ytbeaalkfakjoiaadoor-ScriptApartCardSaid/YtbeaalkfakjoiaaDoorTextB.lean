/- rambleref01.Parse. -/
import Derived.Test.YtbeaalkfakjoiaaDoorTextA
set_option linter.unusedVariables false
set_option linter.unusedSimpArgs false
namespace Go.Proofs.YtbeaalkfakjoiaaDoor
open Go Go.AM Go.RowKit
end Go.Proofs.YtbeaalkfakjoiaaDoor
