/- Numbers, part W3: the base and the torsion point as pairs; l times them. No program in sight. -/
import Derived.Test.YtoionfdfofmplaaGreatDoorVyW2
set_option autoImplicit false
set_option linter.unusedVariables false
namespace Go.Vx
open Go
def kB:KP:=(K.of 15112221349535400772501151409588531511454012693041857206046113283949847762202,K.of 46316835694926478169428394003475163141307993866256225615783033603165251855960)
def kT:KP:=(kn natT.1,kn natT.2.1)
theorem ZGZ(x y:Nat)(hx:x<pN)(hy:y<pN):RepN (x,y,1,x*y%pN) (kn x,kn y):=
 ⟨hx,hy,by show 1<pN;decide,lt_pN _,K.one_ne,by show kn x=kn x*1;grind,by show kn y=kn y*1;grind,by show kn (x*y%pN)=kn x*kn y*1;rw[Zt9,ZmY];grind⟩
theorem ZIp:RepN natB kB:=ZGZ _ _ (by decide) (by decide)
theorem ZIo:RepN natT kT:=ZGZ _ _ (by decide) (by decide)
theorem on_of(x y:Nat)(h:(y*y+(pN-1)*(x*x))%pN=(1+37095705934669439343138083508754565189542113879843219016388785533085940283555*(x*x)*(y*y))%pN):OnP (kn x,kn y):=by
 have h1:=congrArg kn h;rw[Zt9,Zt9,ZA8,ZmY,ZmY,ZmY,ZA8,ZmY,ZmY,ZmY,ZmY] at h1;have e1:kn (pN-1)= -1:=by
  unfold kn;rw[show (-1:K)=K.of (-1) from by rw[K.of_neg];rfl,K.of_eq]
  decide
 have e2:kn 37095705934669439343138083508754565189542113879843219016388785533085940283555=kD:=rfl;have e3:kn 1=1:=rfl;rw[e1,e2,e3] at h1;show On _ _;unfold On;generalize kn x=a at*
 generalize kn y=b at*
 generalize kD=d at*
 grind
theorem kB_on:OnP kB:=on_of 15112221349535400772501151409588531511454012693041857206046113283949847762202 46316835694926478169428394003475163141307993866256225615783033603165251855960 (by decide)
theorem kT_on:OnP kT:=on_of natT.1 natT.2.1 (by decide)
theorem lB:horn kB ordD=kzero:=by
 have h:=ZG0 ZIp kB_on ordD;rw[hornB] at h;exact h.zero rfl rfl
end Go.Vx
