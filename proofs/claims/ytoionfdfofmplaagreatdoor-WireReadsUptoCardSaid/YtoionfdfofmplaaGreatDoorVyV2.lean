/- Numbers, part V2: sums of points. No program in sight. -/
import Derived.Test.YtoionfdfofmplaaGreatDoorVyV
set_option autoImplicit false
set_option linter.unusedVariables false
namespace Go.Vx
open Go
theorem add_id{d a b x y:K}(h1:b^2-a^2=1+d*a^2*b^2)(h2:y^2-x^2=1+d*x^2*y^2):
  (b*y+a*x)^2*(1+d*a*x*b*y)^2-(a*y+b*x)^2*(1-d*a*x*b*y)^2=(1+d*a*x*b*y)^2*(1-d*a*x*b*y)^2+d*(a*y+b*x)^2*(b*y+a*x)^2:=by
 grind
def kA:K:=K.of 25063068953384623474111414158702152701244531502492656460079210482610430750235
theorem kA_sq:kA^2= -kD-1:=by
 rw[show (-kD-1)=K.of (-37095705934669439343138083508754565189542113879843219016388785533085940283555-1) from by rw[K.of_sub,K.of_neg];rfl];unfold kA;rw[← K.of_pow,K.of_eq]
 decide
end Go.Vx
