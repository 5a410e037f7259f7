/- Numbers, part U: the four points of a coset; every even point has just one number. No program in sight. -/
import Derived.Test.YtoionfdfofmplaaGreatDoorVyT
set_option autoImplicit false
set_option linter.unusedVariables false
namespace Go.Vx
open Go
theorem K.ev_neg{a:K}(h:a≠0):K.ev (-a)↔¬ K.ev a:=by
 have b1:=a.h;have b2:0≤a.v:=by rw[← b1];exact Int.emod_nonneg _ (by decide)
 have b3:a.v<pF:=by rw[← b1];exact Int.emod_lt_of_pos _ ZA9
 have hz:a.v≠0:=fun e=>h (K.ext (by rw[e];rfl))
 have h4:(-a).v=pF-a.v:=by
  show (- a.v)%pF=_;rw[show-a.v=(pF-a.v)+pF*(-1) by rw[Int.mul_neg,Int.mul_one];omega,Int.add_mul_emod_self_left,Int.emod_eq_of_lt (by omega) (by omega)]
 unfold K.ev;rw[h4];simp only[pF] at*
 omega
def Rel(x y X Y:K):Prop:=(x=X∧y=Y)∨(x=Y*kI∧y=X*kI)∨(x= -X∧y= -Y)∨(x= -(Y*kI)∧y= -(X*kI))
theorem Rel.refl(x y:K):Rel x y x y:=.inl ⟨rfl,rfl⟩
theorem Rel.back{x y X Y:K}(h:Rel x y X Y):Rel X Y x y:=by
 have hi:=kI_sq;rcases h with⟨rfl,rfl⟩|⟨rfl,rfl⟩|⟨rfl,rfl⟩|⟨rfl,rfl⟩
 ·exact .inl ⟨rfl,rfl⟩
 ·exact .inr (.inr (.inr ⟨by grind,by grind⟩))
 ·exact .inr (.inr (.inl ⟨by grind,by grind⟩))
 ·exact .inr (.inl ⟨by grind,by grind⟩)
theorem Rel.trans{x y X Y u v:K}(h:Rel x y X Y)(g:Rel X Y u v):Rel x y u v:=by
 have hi:=kI_sq;rcases g with⟨rfl,rfl⟩|⟨rfl,rfl⟩|⟨rfl,rfl⟩|⟨rfl,rfl⟩
 ·exact h
 ·rcases h with⟨rfl,rfl⟩|⟨rfl,rfl⟩|⟨rfl,rfl⟩|⟨rfl,rfl⟩
  ·exact .inr (.inl ⟨rfl,rfl⟩)
  ·exact .inr (.inr (.inl ⟨by grind,by grind⟩))
  ·exact .inr (.inr (.inr ⟨rfl,rfl⟩))
  ·exact .inl ⟨by grind,by grind⟩
 ·rcases h with⟨rfl,rfl⟩|⟨rfl,rfl⟩|⟨rfl,rfl⟩|⟨rfl,rfl⟩
  ·exact .inr (.inr (.inl ⟨rfl,rfl⟩))
  ·exact .inr (.inr (.inr ⟨by grind,by grind⟩))
  ·exact .inl ⟨by grind,by grind⟩
  ·exact .inr (.inl ⟨by grind,by grind⟩)
 ·rcases h with⟨rfl,rfl⟩|⟨rfl,rfl⟩|⟨rfl,rfl⟩|⟨rfl,rfl⟩
  ·exact .inr (.inr (.inr ⟨rfl,rfl⟩))
  ·exact .inl ⟨by grind,by grind⟩
  ·exact .inr (.inl ⟨by grind,by grind⟩)
  ·exact .inr (.inr (.inl ⟨by grind,by grind⟩))
theorem Stands.s_of{s X Y t:K}(h:Stands s X Y)(ht:t.ev)(e:(1+Y)*t^2=1-Y):t=s:=by
 obtain⟨e1,e2,e3⟩:=h.one_plus;refine K.ev_root ht h.s_ev (K.cancel e3 ?_);rw[e];refine K.cancel h.w0 ?_;generalize s^2=q at*
 grind
theorem Stands.s_eq{s X Y:K}(h:Stands s X Y):(1+Y)*s^2=1-Y:=by
 have:=h.yw
 grind
theorem Stands.same{s X Y x y:K}(h:Stands s X Y)(g:Stands s x y):X=x∧Y=y:=
 ⟨K.ev_root h.x_ev g.x_ev (K.cancel h.v0 (by rw[h.xv,g.xv])),K.cancel h.w0 (by rw[Lean.Grind.CommRing.mul_comm,h.yw,← g.yw,Lean.Grind.CommRing.mul_comm])⟩
theorem Stands.zero{s X Y:K}(h:Stands s X Y)(hx:X=0):s=0∧Y=1:=by
 have h1:=h.xv;rw[hx] at h1;have h4:(2*s)^2=0:=by grind
 have hs:s=0:=by
  rcases K.mul_zero' (show (2:K)*s=0 from K.sq_zero h4) with h5|h5
  ·exact absurd h5 K.two_ne
  ·exact h5
 refine⟨hs,?_⟩;have:=h.yw;rw[hs] at this
 grind
theorem Stands.uniq{s t X Y u v:K}(h:Stands s X Y)(g:Stands t u v)(r:Rel u v X Y):s=t∧X=u∧Y=v:=by
 have hi:=kI_sq;by_cases hx:X=0
 ·obtain⟨h1,h2⟩:=h.zero hx;have hu:u=0:=by
   rcases r with⟨rfl,rfl⟩|⟨rfl,rfl⟩|⟨rfl,rfl⟩|⟨rfl,rfl⟩
   ·exact hx
   ·exact absurd (show X*kI=0 by rw[hx];grind) g.y0
   ·rw[hx];grind
   ·exact absurd (show -(X*kI)=0 by rw[hx];grind) g.y0
  obtain⟨g1,g2⟩:=g.zero hu;exact⟨by rw[h1,g1],by rw[hx,hu],by rw[h2,g2]⟩
 ·have key:X=u∧Y=v:=by
   have hxy:X*Y≠0:=K.mul_ne hx h.y0;have h1:=h.xy_ev;have h2:=h.x_ev;have g1:=g.xy_ev;have g2:=g.x_ev;rcases r with⟨rfl,rfl⟩|⟨rfl,rfl⟩|⟨rfl,rfl⟩|⟨rfl,rfl⟩
   ·exact⟨rfl,rfl⟩
   ·exfalso;rw[show Y*kI*(X*kI)= -(X*Y) by grind] at g1;exact(K.ev_neg hxy).1 g1 h1
   ·exact absurd h2 ((K.ev_neg hx).1 g2)
   ·exfalso;rw[show -(Y*kI)* -(X*kI)= -(X*Y) by grind] at g1;exact(K.ev_neg hxy).1 g1 h1
  obtain⟨rfl,rfl⟩:=key;exact⟨g.s_of h.s_ev h.s_eq,rfl,rfl⟩
theorem ZDj{s X Y e:K}(hs:s.ev)(hX:X.ev)(hXY:(X*Y).ev)(x0:X≠0)(y0:Y≠0)(on:Y^2-X^2=1+kD*X^2*Y^2)(he:e^2*((1+Y)*(1-Y))=1)(hq:s^2=(e*(1-Y))^2):Stands s X Y:=by
 have p1:1+Y≠0:=fun h=>K.one_ne (by rw[← he,h];grind)
 have p2:1-Y≠0:=fun h=>K.one_ne (by rw[← he,h];grind)
 have hsY:(1+Y)*s^2=1-Y:=by rw[hq];grind
 have hw:(1+Y)*(1+s^2)=2:=by grind
 have w0:1+s^2≠0:=fun h=>K.two_ne (by rw[← hw,h];grind)
 have yw:Y*(1+s^2)=1-s^2:=K.cancel p1 (by grind);have s0:s≠0:=fun h=>p2 (by rw[← hsY,h];grind)
 have xv:(-(kD*(1-s^2)^2)-(1+s^2)^2)*X^2=4*s^2:=by
  refine K.cancel p1 (K.cancel p1 ?_);have a1:(1+Y)*(1-s^2)=2*Y:=by grind
  have a2:(1+Y)*((1+Y)*(-(kD*(1-s^2)^2)-(1+s^2)^2))= -(kD*((1+Y)*(1-s^2))^2)-((1+Y)*(1+s^2))^2:=by
   generalize kD=d;generalize s^2=q;grind
  have a3:(1+Y)*((1+Y)*((-(kD*(1-s^2)^2)-(1+s^2)^2)*X^2))=(1+Y)*((1+Y)*(-(kD*(1-s^2)^2)-(1+s^2)^2))*X^2:=by
   generalize (-(kD*(1-s^2)^2)-(1+s^2)^2)=v;grind
  rw[a3,a2,a1,hw];have a4:(1+Y)*((1+Y)*(4*s^2))=4*((1+Y)*((1+Y)*s^2)):=by generalize s^2=q;grind
  rw[a4,hsY];clear a1 a2 a3 a4 hsY hw yw hq he;generalize kD=d at*
  grind
 refine⟨hs,hX,hXY,y0,w0,yw,fun h=>?_,xv⟩;rw[h] at xv;have h4:(2*s)^2=0:=by grind
 rcases K.mul_zero' (show (2:K)*s=0 from K.sq_zero h4) with h5|h5
 ·exact K.two_ne h5
 ·exact s0 h5
theorem ZDZ:Stands 0 0 1:=by
 have hm:=kM_sq;have hv: -(kD*(1-(0:K)^2)^2)-(1+(0:K)^2)^2= -1-kD:=by generalize kD=d;grind
 exact⟨K.ev_zero,K.ev_zero,by rw[show (0:K)*1=0 by grind];exact K.ev_zero,K.one_ne,by rw[show (1:K)+0^2=1 by grind];exact K.one_ne,by grind,by
  rw[hv];intro h;rw[h] at hm;exact K.one_ne (by rw[← hm];grind),by grind⟩
theorem ZIu{x y:K}(on:y^2-x^2=1+kD*x^2*y^2)(h:x*y=0):Rel x y 0 1:=by
 have hi:=kI_sq;have e:kD*x^2*y^2=0:=by
  have:kD*x^2*y^2=kD*(x*y)^2:=by generalize kD=d;grind
  rw[this,h];grind
 rw[e] at on;rcases K.mul_zero' h with h|h
 ·have h1:(y-1)*(y+1)=0:=by rw[h] at on;grind
  rcases K.mul_zero' h1 with h1|h1
  ·exact .inl ⟨h,by grind⟩
  ·exact .inr (.inr (.inl ⟨by grind,by grind⟩))
 ·have h1:(x-kI)*(x+kI)=0:=by rw[h] at on;grind
  rcases K.mul_zero' h1 with h1|h1
  ·exact .inr (.inl ⟨by grind,by grind⟩)
  ·exact .inr (.inr (.inr ⟨by grind,by grind⟩))
theorem turn_id{x y:K}(on:y^2-x^2=1+kD*x^2*y^2):((1+y)*(1-y))*((1+x*kI)*(1-x*kI))=(-1-kD)*(x*y)^2:=by
 have hi:=kI_sq;generalize kD=d at*
 grind
end Go.Vx
