/- Numbers, part Z2: two even points stand for the same element just if they are related; the four points by the torsion. No program in sight. -/
import Derived.Test.YtoionfdfofmplaaGreatDoorVyZ
set_option autoImplicit false
set_option linter.unusedVariables false
namespace Go.Vx
open Go
end Go.Vx
