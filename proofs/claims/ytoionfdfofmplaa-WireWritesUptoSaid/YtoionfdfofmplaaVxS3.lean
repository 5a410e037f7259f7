/- The engine, part S3: from a contract to a row that bears a condition and laid variables. -/
import Derived.Test.YtoionfdfofmplaaVxS2
import Derived.JoinedCond
import Derived.LaidLaws
set_option autoImplicit false
set_option linter.unusedVariables false
set_option linter.unusedSimpArgs false
namespace Go.Vx
open Go Go.RowKit

variable {H : Type} {enc : TypeId × Value → H}

end Go.Vx
