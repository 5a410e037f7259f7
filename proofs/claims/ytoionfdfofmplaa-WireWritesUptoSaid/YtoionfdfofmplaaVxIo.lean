/- The engine, part Io: a call in place whose work is told by forms: arguments and memory at the call, answer and memory behind it. -/
import Derived.Test.YtoionfdfofmplaaVxR
set_option autoImplicit false
set_option linter.unusedSimpArgs false
set_option linter.unusedVariables false
namespace Go.Vx
open Go Go.RowKit

end Go.Vx
