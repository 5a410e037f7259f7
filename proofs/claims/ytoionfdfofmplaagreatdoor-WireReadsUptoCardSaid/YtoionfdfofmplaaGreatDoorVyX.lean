/- Numbers, part X: sums do not hang on brackets. No program in sight. -/
import Derived.Test.YtoionfdfofmplaaGreatDoorVyW3
set_option autoImplicit false
set_option linter.unusedVariables false
namespace Go.Vx
open Go
set_option maxHeartbeats 4000000 in
theorem asso_x{d x1 y1 x2 y2 x3 y3:K}(h1:y1^2-x1^2=1+d*x1^2*y1^2)(h2:y2^2-x2^2=1+d*x2^2*y2^2)(h3:y3^2-x3^2=1+d*x3^2*y3^2):((x1*y2+y1*x2)*(1-d*x1*x2*y1*y2)*y3+(y1*y2+x1*x2)*(1+d*x1*x2*y1*y2)*x3)*((1+d*x2*x3*y2*y3)*(1-d*x2*x3*y2*y3)+d*x1*y1*(x2*y3+y2*x3)*(y2*y3+x2*x3))=(x1*(y2*y3+x2*x3)*(1+d*x2*x3*y2*y3)+y1*(x2*y3+y2*x3)*(1-d*x2*x3*y2*y3))*((1+d*x1*x2*y1*y2)*(1-d*x1*x2*y1*y2)+d*(x1*y2+y1*x2)*(y1*y2+x1*x2)*x3*y3):=by grind
set_option maxHeartbeats 4000000 in
theorem asso_y{d x1 y1 x2 y2 x3 y3:K}(h1:y1^2-x1^2=1+d*x1^2*y1^2)(h2:y2^2-x2^2=1+d*x2^2*y2^2)(h3:y3^2-x3^2=1+d*x3^2*y3^2):((y1*y2+x1*x2)*(1+d*x1*x2*y1*y2)*y3+(x1*y2+y1*x2)*(1-d*x1*x2*y1*y2)*x3)*((1+d*x2*x3*y2*y3)*(1-d*x2*x3*y2*y3)-d*x1*y1*(x2*y3+y2*x3)*(y2*y3+x2*x3))=(y1*(y2*y3+x2*x3)*(1+d*x2*x3*y2*y3)+x1*(x2*y3+y2*x3)*(1-d*x2*x3*y2*y3))*((1+d*x1*x2*y1*y2)*(1-d*x1*x2*y1*y2)-d*(x1*y2+y1*x2)*(y1*y2+x1*x2)*x3*y3):=by grind
theorem ZEN{g h a b c e:K}(hg:g≠0)(hh:h≠0)(e1:g*a*(h*b)=h*c*(g*e)):a*b=c*e:=by
 refine K.cancel (K.mul_ne hg hh) ?_;rw[show g*h*(a*b)=g*a*(h*b) by grind,e1];grind
theorem cross{a b p q:K}(hp:p≠0)(hq:q≠0){m n:K}(ha:a*p=m)(hb:b*q=n)(h:m*q=n*p):a=b:=by
 refine K.cancel (K.mul_ne hp hq) ?_;rw[← ha,← hb] at h;rw[show p*q*a=a*p*q by grind,h];grind
theorem ZFv{p q r:KP}(h1:OnP p)(h2:OnP q)(h3:OnP r):kadd (kadd p q) r=kadd p (kadd q r):=by
 have o12:=Zym h1 h2;have o23:=Zym h2 h3;obtain⟨x1,y1⟩:=p;obtain⟨x2,y2⟩:=q;obtain⟨x3,y3⟩:=r;have a1:=ZAe h1 h2;have b1:=ZAf h1 h2;have a2:=ZAe h2 h3;have b2:=ZAf h2 h3;have l1:=ZAe o12 h3;have l2:=ZAf o12 h3;have r1:=ZAe h1 o23;have r2:=ZAf h1 o23;obtain⟨u0,v0⟩:=Ziw h1 h2;obtain⟨s0,t0⟩:=Ziw h2 h3;obtain⟨m0,n0⟩:=Ziw o12 h3;obtain⟨i0,j0⟩:=Ziw h1 o23;have idx:=asso_x (d:=kD) h1 h2 h3;have idy:=asso_y (d:=kD) h1 h2 h3;simp only[kadd] at*
 generalize hX:ax (ax x1 y1 x2 y2) (ay x1 y1 x2 y2) x3 y3=X at*
 generalize hY:ay (ax x1 y1 x2 y2) (ay x1 y1 x2 y2) x3 y3=Y at*
 generalize hX':ax x1 y1 (ax x2 y2 x3 y3) (ay x2 y2 x3 y3)=X' at*
 generalize hY':ay x1 y1 (ax x2 y2 x3 y3) (ay x2 y2 x3 y3)=Y' at*
 generalize ax x1 y1 x2 y2=A at*
 generalize ay x1 y1 x2 y2=B at*
 generalize ax x2 y2 x3 y3=C at*
 generalize ay x2 y2 x3 y3=D at*
 clear h1 h2 h3 o12 o23 hX hY hX' hY';generalize kD=d at*
 
 have p1:(1+d*x1*x2*y1*y2)*(1-d*x1*x2*y1*y2)+d*(x1*y2+y1*x2)*(y1*y2+x1*x2)*x3*y3=(1+d*x1*x2*y1*y2)*(1-d*x1*x2*y1*y2)*(1+d*A*x3*B*y3):=by
  rw[← a1,← b1];clear a1 b1 a2 b2 l1 l2 r1 r2 idx idy;grind
 have p2:(1+d*x1*x2*y1*y2)*(1-d*x1*x2*y1*y2)-d*(x1*y2+y1*x2)*(y1*y2+x1*x2)*x3*y3=(1+d*x1*x2*y1*y2)*(1-d*x1*x2*y1*y2)*(1-d*A*x3*B*y3):=by
  rw[← a1,← b1];clear a1 b1 a2 b2 l1 l2 r1 r2 idx idy;grind
 have p3:(1+d*x2*x3*y2*y3)*(1-d*x2*x3*y2*y3)+d*x1*y1*(x2*y3+y2*x3)*(y2*y3+x2*x3)=(1+d*x2*x3*y2*y3)*(1-d*x2*x3*y2*y3)*(1+d*x1*C*y1*D):=by
  rw[← a2,← b2];clear a1 b1 a2 b2 l1 l2 r1 r2 idx idy p1 p2;grind
 have p4:(1+d*x2*x3*y2*y3)*(1-d*x2*x3*y2*y3)-d*x1*y1*(x2*y3+y2*x3)*(y2*y3+x2*x3)=(1+d*x2*x3*y2*y3)*(1-d*x2*x3*y2*y3)*(1-d*x1*C*y1*D):=by
  rw[← a2,← b2];clear a1 b1 a2 b2 l1 l2 r1 r2 idx idy p1 p2 p3;grind
 have n1:(x1*y2+y1*x2)*(1-d*x1*x2*y1*y2)*y3+(y1*y2+x1*x2)*(1+d*x1*x2*y1*y2)*x3=(1+d*x1*x2*y1*y2)*(1-d*x1*x2*y1*y2)*(A*y3+B*x3):=by
  rw[← a1,← b1];clear a1 b1 a2 b2 l1 l2 r1 r2 idx idy p1 p2 p3 p4;grind
 have n2:(y1*y2+x1*x2)*(1+d*x1*x2*y1*y2)*y3+(x1*y2+y1*x2)*(1-d*x1*x2*y1*y2)*x3=(1+d*x1*x2*y1*y2)*(1-d*x1*x2*y1*y2)*(B*y3+A*x3):=by
  rw[← a1,← b1];clear a1 b1 a2 b2 l1 l2 r1 r2 idx idy p1 p2 p3 p4 n1;grind
 have n3:x1*(y2*y3+x2*x3)*(1+d*x2*x3*y2*y3)+y1*(x2*y3+y2*x3)*(1-d*x2*x3*y2*y3)=(1+d*x2*x3*y2*y3)*(1-d*x2*x3*y2*y3)*(x1*D+y1*C):=by
  rw[← a2,← b2];clear a1 b1 a2 b2 l1 l2 r1 r2 idx idy p1 p2 p3 p4 n1 n2;grind
 have n4:y1*(y2*y3+x2*x3)*(1+d*x2*x3*y2*y3)+x1*(x2*y3+y2*x3)*(1-d*x2*x3*y2*y3)=(1+d*x2*x3*y2*y3)*(1-d*x2*x3*y2*y3)*(y1*D+x1*C):=by
  rw[← a2,← b2];clear a1 b1 a2 b2 l1 l2 r1 r2 idx idy p1 p2 p3 p4 n1 n2 n3;grind
 rw[n1,p3,n3,p1] at idx;rw[n2,p4,n4,p2] at idy;have z1:(1+d*x1*x2*y1*y2)*(1-d*x1*x2*y1*y2)≠0:=K.mul_ne u0 v0;have z2:(1+d*x2*x3*y2*y3)*(1-d*x2*x3*y2*y3)≠0:=K.mul_ne s0 t0;have e1:=ZEN z1 z2 idx;have e2:=ZEN z1 z2 idy;exact Prod.ext (cross m0 i0 l1 r1 e1) (cross n0 j0 l2 r2 e2)
end Go.Vx
