/- The engine, part Z: a call of a function that is told by forms. -/
import Derived.Test.YtoionfdfofmplaaVxY
set_option autoImplicit false
set_option linter.unusedSimpArgs false
set_option linter.unusedVariables false
namespace Go.Vx
open Go Go.RowKit

end Go.Vx
