/- Numbers, part V: d is no square; the map's points; sums of points: whole, on the curve, even. No program in sight. -/
import Derived.Test.YtoionfdfofmplaaGreatDoorVyU
set_option autoImplicit false
set_option linter.unusedVariables false
namespace Go.Vx
open Go
def kW:K:=K.of 57726037407214946216826118689370439883513855613510154556379010025581195643778
theorem kW_sq:kI*kW^2=kD:=by
 unfold kI kW kD;rw[← K.of_pow,← K.of_mul,K.of_eq]
 decide
theorem kI_eQ':kI^eQ= -kI:=by
 have h4:kI^4=1:=by have:=kI_sq;grind
 have e:eQ=4*3618502788666131106986593281521497120414687020801267626233049500247285301246+3:=rfl;rw[e,K.pow_add,K.pow_mul,h4];have one:∀ n:Nat,(1:K)^n=1:=fun n=>by
  rw[show (1:K)=K.of 1 from rfl,← K.of_pow,Int.one_pow]
 rw[one];have:=kI_sq
 grind
theorem kD_ne:kD≠0:=by
 intro h;have:=K.of_eq.1 (show K.of 37095705934669439343138083508754565189542113879843219016388785533085940283555=K.of 0 from h)
 revert this;decide
theorem kI_ne:kI≠0:=fun h=>by have:=kI_sq;rw[h] at this;exact K.one_ne (by grind)
theorem kD_Q:¬ K.Q kD:=by
 have hw:kW≠0:=fun h=>kD_ne (by rw[← kW_sq,h];grind)
 rw[← kW_sq,K.Q_mul hw];unfold K.Q;rw[kI_eQ'];have hi:=kI_sq
 rintro(h|h)
 ·have:kI= -1:=by grind
  rw[this] at hi;exact K.two_ne (by grind)
 ·have:kI=1:=by grind
  rw[this] at hi;exact K.two_ne (by grind)
theorem d_sq{a b:K}(h:kD*a^2=b^2):a=0∧b=0:=by
 have ha:a=0:=by
  refine Classical.byContradiction fun ha=>?_
  have hb:b≠0:=fun hb=>by
   rw[hb] at h;rcases K.mul_zero' (show kD*a^2=0 by rw[h];grind) with h1|h1
   ·exact kD_ne h1
   ·exact ha (K.sq_zero h1)
  have:=K.Q_sq hb;rw[← h,K.Q_mul ha] at this;exact kD_Q this
 refine⟨ha,K.sq_zero ?_⟩;rw[← h,ha];grind
def On(x y:K):Prop:=y^2-x^2=1+kD*x^2*y^2
def Even(y:K):Prop:=∃ q:K,(1+y)*(1-y)=q^2
theorem ZI4{s v d:K}:(1+d)*(v*s^2)^2+2*(1-d)*(v*s^2)*v+(1+d)*v^2=v^2*((1+s^2)^2+d*(1-s^2)^2):=by grind
theorem ell_on{x y s v n m w d:K}(wn:w*(n*m)≠0)(hw:w=1+s^2)(hy:y*w=1-s^2)(hx:x*(n*m)=2*s*v)(hm:m^2= -d-1)(hn:n^2*(d+1)=v^2*(w^2+d*(1-s^2)^2)):y^2-x^2=1+d*x^2*y^2:=by
 refine K.cancel wn (K.cancel wn ?_);have a1:(w*(n*m))*((w*(n*m))*(y^2-x^2))=(n*m)^2*(y*w)^2-(x*(n*m))^2*w^2:=by grind
 have a2:(w*(n*m))*((w*(n*m))*(1+d*x^2*y^2))=(w*(n*m))^2+d*(x*(n*m))^2*(y*w)^2:=by grind
 rw[a1,a2,hy,hx];have a3:(n*m)^2=n^2*(-d-1):=by rw[← hm];grind
 have a4:(w*(n*m))^2=w^2*(n^2*(-d-1)):=by rw[← a3];grind
 rw[a3,a4];clear a1 a2 a3 a4 hx hy hm wn
 grind
theorem ZIs{y s w i:K}(hw:w=1+s^2)(hi:w*i=1)(hy:y*w=1-s^2):(1+y)*(1-y)=(2*s*i)^2:=by
 have h1:y=(1-s^2)*i:=by grind
 rw[h1]
 grind
theorem ell{x y s v n m i1 i2:K}(hm:m^2= -kD-1)(hx:x=2*s*v*i1)(hy:y=(1-s^2)*i2)(h1:n*m≠0→n*m*i1=1)(h2:1+s^2≠0→(1+s^2)*i2=1)
  (h:s=0∨(v≠0∧n^2*(kD+1)=v^2*((1+s^2)^2+kD*(1-s^2)^2))):On x y∧Even y:=by
 by_cases hs:s=0
 ·have e1:(1:K)+s^2=1:=by rw[hs];grind
  have hi:=h2 (by rw[e1];exact K.one_ne);have x0:x=0:=by rw[hx,hs];grind
  have y1:y=1:=by rw[hy,hs];rw[hs] at hi;grind
  rw[x0,y1];exact⟨by unfold On;generalize kD=d;grind,0,by grind⟩
 ·rcases h with h|⟨hv,hn⟩
  ·exact absurd h hs
  ·have hi:=kI_sq;have n0:n≠0:=fun e=>by
    rw[e] at hn;have h3:kD*(1-s^2)^2=(kI*(1+s^2))^2:=by
     have:v^2*((1+s^2)^2+kD*(1-s^2)^2)=0:=by rw[← hn];grind
     rcases K.mul_zero' this with h4|h4
     ·exact absurd (K.sq_zero h4) hv
     ·generalize kD=d at*;grind
    obtain⟨h4,h5⟩:=d_sq h3;rcases K.mul_zero' h5 with h6|h6
    ·exact kI_ne h6
    ·exact K.two_ne (by grind)
   have w0:1+s^2≠0:=fun e=>by
    have h3:kD*(2*v*kM)^2=(kI*n)^2:=by
     have hM:=kM_sq;have e2:1-s^2=2:=by grind
     rw[e,e2] at hn;generalize kD=d at*
     generalize kM=k at*
     clear hx hy h1 h2 hm e e2
     grind
    have h4:=(d_sq h3).1;have kM0:kM≠0:=fun h=>by have:=kM_sq;rw[h] at this;exact K.one_ne (by rw[← this];grind)
    exact K.mul_ne (K.mul_ne K.two_ne hv) kM0 h4
   have m0:m≠0:=fun e=>by
    rw[e] at hm;have hM:=kM_sq;rw[show (-1-kD)=0 by generalize kD=d at*;grind] at hM;exact K.one_ne (by rw[← hM];grind)
   have nm:=K.mul_ne n0 m0;have k1:=h1 nm;have k2:=h2 w0;have hyw:y*(1+s^2)=1-s^2:=by rw[hy];grind
   have hxn:x*(n*m)=2*s*v:=by rw[hx];grind
   exact⟨ell_on (K.mul_ne w0 nm) rfl hyw hxn hm hn,_,ZIs rfl k2 hyw⟩
theorem ell_a{r d u v n:K}(hu:u=(r+1)*(1-d^2))(hv:v=(-1-r*d)*(r+d))(hn:n= -1*(r-1)*(d-1)^2-v):n^2*(d+1)=(1+d)*u^2+2*(1-d)*u*v+(1+d)*v^2:=by
 subst hu hn hv;grind
theorem ell_b{r d u v n:K}(hu:u=(r+1)*(1-d^2))(hv:v=(-1-r*d)*(r+d))(hn:n=r*(r-1)*(d-1)^2-v):n^2*(d+1)=(1+d)*(u*r)^2+2*(1-d)*(u*r)*v+(1+d)*v^2:=by
 subst hu hn hv;grind
theorem ZIt{d a b x y e:K}(h1:b^2-a^2=1+d*a^2*b^2)(h2:y^2-x^2=1+d*x^2*y^2)(he:e=d*a*x*b*y)(hee:e^2=1)(hi:kI*kI= -1):
  d*(a*b*(kI*x+y))^2=(kI*a+e*b)^2∧d*(a*b*(kI*x-y))^2=(kI*a-e*b)^2:=by
 have k:d*a^2*b^2*(y^2-x^2)=d*a^2*b^2+1:=by
  rw[h2,← hee,he];grind
 constructor<;>grind
theorem Ziw{a b x y:K}(h1:On a b)(h2:On x y):1+kD*a*x*b*y≠0∧1-kD*a*x*b*y≠0:=by
 have hi:=kI_sq;have key:(kD*a*x*b*y)^2=1→False:=by
  intro hee;obtain⟨k1,k2⟩:=ZIt h1 h2 rfl hee hi;have hab:a*b≠0:=fun h=>K.one_ne (by
   rw[← hee,show kD*a*x*b*y=kD*x*y*(a*b) by grind,h];grind)
  have z1:=(d_sq k1).1;have z2:=(d_sq k2).1;have z3:kI*x+y=0:=(K.mul_zero' z1).elim (fun h=>absurd h hab) id;have z4:kI*x-y=0:=(K.mul_zero' z2).elim (fun h=>absurd h hab) id;have hy:2*y=0:=by grind
  have hy:y=0:=(K.mul_zero' hy).elim (fun h=>absurd h K.two_ne) id;exact K.one_ne (by rw[← hee,hy];grind)
 exact⟨fun h=>key (by grind),fun h=>key (by grind)⟩
end Go.Vx
