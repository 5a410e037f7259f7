/- Numbers, part V4: sums of points as functions. No program in sight. -/
import Derived.Test.YtoionfdfofmplaaGreatDoorVyV3
set_option autoImplicit false
set_option linter.unusedVariables false
namespace Go.Vx
open Go
def K.inv(a:K):K:=a^eI
theorem K.inv_mul{a:K}(h:a≠0):a*K.inv a=1:=k_inv h
theorem K.inv_uniq{a b:K}(h:a*b=1):b=K.inv a:=by
 have ha:a≠0:=fun e=>K.one_ne (by rw[← h,e];grind)
 have:=K.inv_mul ha;refine K.cancel ha ?_;rw[h,this]
def ax(a b x y:K):K:=(a*y+b*x)*K.inv (1+kD*a*x*b*y)
def ay(a b x y:K):K:=(b*y+a*x)*K.inv (1-kD*a*x*b*y)
theorem ZAe{a b x y:K}(h1:On a b)(h2:On x y):ax a b x y*(1+kD*a*x*b*y)=a*y+b*x:=by
 have:=K.inv_mul (Ziw h1 h2).1;unfold ax;generalize 1+kD*a*x*b*y=w at*
 grind
theorem ZAf{a b x y:K}(h1:On a b)(h2:On x y):ay a b x y*(1-kD*a*x*b*y)=b*y+a*x:=by
 have:=K.inv_mul (Ziw h1 h2).2;unfold ay;generalize 1-kD*a*x*b*y=w at*
 grind
theorem ax_of{a b x y X:K}(h1:On a b)(h2:On x y)(h:X*(1+kD*a*x*b*y)=a*y+b*x):X=ax a b x y:=by
 refine K.cancel (Ziw h1 h2).1 ?_;rw[Lean.Grind.CommRing.mul_comm,h,← ZAe h1 h2,Lean.Grind.CommRing.mul_comm]
theorem ay_of{a b x y Y:K}(h1:On a b)(h2:On x y)(h:Y*(1-kD*a*x*b*y)=b*y+a*x):Y=ay a b x y:=by
 refine K.cancel (Ziw h1 h2).2 ?_;rw[Lean.Grind.CommRing.mul_comm,h,← ZAf h1 h2,Lean.Grind.CommRing.mul_comm]
theorem add_on{a b x y:K}(h1:On a b)(h2:On x y):On (ax a b x y) (ay a b x y):=by
 have:=add_id h1 h2;obtain⟨w1,w2⟩:=Ziw h1 h2;have hx:=ZAe h1 h2;have hy:=ZAf h1 h2;generalize ax a b x y=x3 at*
 generalize ay a b x y=y3 at*
 unfold On;generalize hd:kD=d at*
 generalize ht:d*a*x*b*y=t at*
 refine K.cancel w1 (K.cancel w1 (K.cancel w2 (K.cancel w2 ?_)));rw[← hx,← hy] at this;clear h1 h2 hx hy ht
 grind
end Go.Vx
