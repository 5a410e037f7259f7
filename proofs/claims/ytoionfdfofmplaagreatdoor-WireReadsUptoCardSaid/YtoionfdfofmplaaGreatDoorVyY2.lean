/- Numbers, part Y2: the curve's order; every point is made of the base and the torsion point. No program in sight. -/
import Derived.Test.YtoionfdfofmplaaGreatDoorVyY
set_option autoImplicit false
set_option linter.unusedVariables false
namespace Go.Vx
open Go
structure GenE (B T:E):Prop where
 lB:ordl • B=0
 oB:∀ n,n • B=0→n%ordl=0
 T8:(8:Nat) • T=0
 oT:∀ n,n • T=0→n%8=0
section
variable {B T:E} (G:GenE B T)
include G
end
end Go.Vx
