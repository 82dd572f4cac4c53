/- What the joins of rows of stitches import. -/
import Derived.Test.YtinijapkipeamaaDoorTg
import Derived.Test.YtinijapkipeamaaDoorSq
namespace Go.Proofs.YtinijapkipeamaaDoor
set_option linter.unusedVariables false
set_option linter.unusedSimpArgs false
open Go Go.RowKit
theorem joined_ready : True := trivial
end Go.Proofs.YtinijapkipeamaaDoor
