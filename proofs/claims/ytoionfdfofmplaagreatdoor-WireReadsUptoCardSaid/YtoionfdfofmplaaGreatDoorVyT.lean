/- Numbers, part T: the field K: even members, squares, ratios of squares; the curve's points out of a number that is not negative. No program in sight. -/
import Derived.Test.YtoionfdfofmplaaGreatDoorVyR
set_option autoImplicit false
set_option linter.unusedVariables false
namespace Go.Vx
open Go
def K.ev(x:K):Prop:=x.v%2=0
theorem K.ev_zero:K.ev 0:=rfl
theorem K.ev_root{a b:K}(ha:a.ev)(hb:b.ev)(h:a^2=b^2):a=b:=by
 have e:(a-b)*(a+b)=0:=by grind
 rcases K.mul_zero' e with h1|h1
 ·grind
 ·have h2:a= -b:=by grind
  have h3:a.v=(- b.v)%pF:=by rw[h2];rfl
  have b1:=b.h;have b2:0≤b.v:=by rw[← b1];exact Int.emod_nonneg _ (by decide)
  have b3:b.v<pF:=by rw[← b1];exact Int.emod_lt_of_pos _ ZA9
  unfold K.ev at ha hb;by_cases hz:b.v=0
  ·rw[hz] at h3;exact K.ext (by rw[h3,hz];rfl)
  ·exfalso;have h4:(- b.v)%pF=pF-b.v:=by
    rw[show-b.v=(pF-b.v)+pF*(-1) by rw[Int.mul_neg,Int.mul_one];omega,Int.add_mul_emod_self_left,Int.emod_eq_of_lt (by omega) (by omega)]
   rw[h4] at h3;simp only[pF] at*
   omega
theorem K.cancel{a b c:K}(h:a≠0)(e:a*b=a*c):b=c:=by
 have:a*(b-c)=0:=by grind
 rcases K.mul_zero' this with h1|h1
 ·exact absurd h1 h
 ·grind
theorem K.sq_zero{a:K}(h:a^2=0):a=0:=by
 have:a*a=0:=by grind
 rcases K.mul_zero' this with h1|h1<;>exact h1
theorem K.ne_mul{a b:K}(h:a*b≠0):a≠0∧b≠0:=⟨fun e=>h (by rw[e];grind),fun e=>h (by rw[e];grind)⟩
def K.Q(a:K):Prop:=a^eQ=1∨a^eQ= -1
theorem K.half'{a:K}(h:a≠0):(a^2)^eQ=1∨(a^2)^eQ= -1:=by
 have e:(a^2)^eQ=(a^eQ)^2:=by rw[← K.pow_mul,← K.pow_mul,Nat.mul_comm]
 rw[e];have hi:=kI_sq;rcases K.quarter h with h|h|h|h<;>rw[h]
 ·left;grind
 ·left;grind
 ·right;grind
 ·right;grind
theorem K.Q_sq{a:K}(h:a≠0):K.Q (a^2):=K.half' h
theorem K.Q_mul{a w:K}(h:w≠0):K.Q (a*w^2)↔K.Q a:=by
 unfold K.Q;rw[K.mul_pow];rcases K.half' h with h|h<;>rw[h]
 ·constructor<;>(rintro(h|h))<;>first|(left;grind)|(right;grind)
 ·constructor<;>(rintro(h|h))<;>first|(left;grind)|(right;grind)
structure SR (u v s:K) (ok:Bool):Prop where
 ev:s.ev
 z:u=0→ok=true∧s=0
 z':u≠0→v=0→ok=false∧s=0
 q:u≠0→v≠0→(ok=true↔K.Q (u*v^7))∧(ok=true→v*s^2=u)∧(ok=false→v*s^2=u*kI)
theorem SR.uniq{u v s t:K}{a b:Bool}(h:SR u v s a)(g:SR u v t b):s=t∧a=b:=by
 by_cases hu:u=0
 ·exact⟨by rw[(h.z hu).2,(g.z hu).2],by rw[(h.z hu).1,(g.z hu).1]⟩
 ·by_cases hv:v=0
  ·exact⟨by rw[(h.z' hu hv).2,(g.z' hu hv).2],by rw[(h.z' hu hv).1,(g.z' hu hv).1]⟩
  ·obtain⟨h1,h2,h3⟩:=h.q hu hv;obtain⟨g1,g2,g3⟩:=g.q hu hv;have hab:a=b:=by
    cases a<;>cases b
    ·rfl
    ·exact absurd (h1.2 (g1.1 rfl)) (by simp)
    ·exact absurd (g1.2 (h1.1 rfl)) (by simp)
    ·rfl
   subst hab;refine⟨K.ev_root h.ev g.ev (K.cancel hv ?_),rfl⟩;cases a
   ·rw[h3 rfl,g3 rfl]
   ·rw[h2 rfl,g2 rfl]
theorem SR.found{u v s r:K}{ok:Bool}(h:SR u v s ok)(hv:v≠0)(hr:v*r^2=u):ok=true∧s^2=r^2:=by
 by_cases hu:u=0
 ·obtain⟨h1,h2⟩:=h.z hu;refine⟨h1,?_⟩;rw[hu] at hr;rcases K.mul_zero' hr with h3|h3
  ·exact absurd h3 hv
  ·rw[h3,h2];grind
 ·obtain⟨h1,h2,-⟩:=h.q hu hv;have hr0:r≠0:=fun e=>hu (by rw[← hr,e];grind)
  have hok:ok=true:=by
   rw[h1,← hr,show v*r^2*v^7=(v^4*r)^2 by grind];exact K.Q_sq (K.mul_ne (K.pow_ne hv 4) hr0)
  exact⟨hok,K.cancel hv (by rw[h2 hok,hr])⟩
def kD:K:=K.of 37095705934669439343138083508754565189542113879843219016388785533085940283555
def kM:K:=K.of 54469307008909316920995813868745141605393597292927456921205312896311721017578
theorem kM_sq:(-1-kD)*kM^2=1:=by
 rw[show (-1-kD)=K.of (-1-37095705934669439343138083508754565189542113879843219016388785533085940283555) from by rw[K.of_sub];rfl];unfold kM;rw[← K.of_pow,← K.of_mul,show (1:K)=K.of 1 from rfl,K.of_eq]
 decide
theorem dec_y{u w v r:K}(h:v*w^2*r^2=1):u*r*(r*w)*v*w=u:=by grind
theorem dec_x{s w v r:K}(h:v*w^2*r^2=1):v*(2*s*(r*w))^2=4*s^2:=by grind
theorem ZAh{a:K}(h:a≠0):∃ b,a*b=1:=by
 refine⟨a^57896044618658097711785492504343953926634992332820282019728792003956564819947,?_⟩;have:=K.fermat h;rw[show eP1=57896044618658097711785492504343953926634992332820282019728792003956564819947+1 from rfl,K.pow_add,show a^1=a by grind] at this;rw[Lean.Grind.CommRing.mul_comm];exact this
structure Stands (s x y:K):Prop where
 s_ev:s.ev
 x_ev:x.ev
 xy_ev:(x*y).ev
 y0:y≠0
 w0:1+s^2≠0
 yw:y*(1+s^2)=1-s^2
 v0: -(kD*(1-s^2)^2)-(1+s^2)^2≠0
 xv:(-(kD*(1-s^2)^2)-(1+s^2)^2)*x^2=4*s^2
theorem Stands.on{s x y:K}(h:Stands s x y):y^2-x^2=1+kD*x^2*y^2:=by
 obtain⟨-,-,-,-,h1,h2,h3,h4⟩:=h;generalize kD=d at*
 refine K.cancel h3 (K.cancel h1 (K.cancel h1 ?_));have e1:y^2*(1+s^2)^2=(1-s^2)^2:=by rw[← h2];grind
 generalize hv: -(d*(1-s^2)^2)-(1+s^2)^2=v at*
 grind
theorem Stands.one_plus{s x y:K}(h:Stands s x y):(1+y)*(1+s^2)=2∧(1-y)*(1+s^2)=2*s^2∧1+y≠0:=by
 have h2:=h.yw;have e1:(1+y)*(1+s^2)=2:=by grind
 refine⟨e1,by grind,fun h0=>K.two_ne ?_⟩;rw[← e1,h0];grind
theorem Stands.root{s x y:K}(h:Stands s x y):∃ r,(-(kD*(1-s^2)^2)-(1+s^2)^2)*(1+s^2)^2*r^2=1:=by
 by_cases hs:s=0
 ·refine⟨kM,?_⟩;have:=kM_sq;rw[hs];generalize kD=d at*
  generalize kM=m at*
  grind
 ·obtain⟨z,hz⟩:=ZAh (K.mul_ne (K.mul_ne K.two_ne hs) h.w0);refine⟨x*z,?_⟩;have h1:=h.xv;generalize -(kD*(1-s^2)^2)-(1+s^2)^2=v at*
  generalize 1+s^2=w at*
  grind
theorem Stands.enc{s x y r:K}{ok:Bool}(h:Stands s x y)(hr:SR 1 (((1+y)*(1-y))*(x*y)^2) r ok):
  (s=0∧x=0∧r=0)∨(s≠0∧(r*((1+y)*(1-y)))*(r*(x*y))*(x*y)=1∧(r*(x*y)*(1-y))^2=s^2):=by
 obtain⟨e1,e2,e3⟩:=h.one_plus;by_cases hs:s=0
 ·left;have hx:x=0:=by
   have:=h.xv;rw[hs] at this;have v0:=h.v0;rw[hs] at v0;have:(-(kD*(1-0^2)^2)-(1+0^2)^2)*x^2=0:=by rw[this];grind
   rcases K.mul_zero' this with h1|h1
   ·exact absurd h1 v0
   ·exact K.sq_zero h1
  refine⟨hs,hx,(hr.z' K.one_ne ?_).2⟩;rw[hx];grind
 ·right;have hx:x≠0:=by
   intro hx;have:=h.xv;rw[hx] at this;have h4:(2*s)^2=0:=by grind
   rcases K.mul_zero' (show (2:K)*s=0 from K.sq_zero h4) with h5|h5
   ·exact K.two_ne h5
   ·exact hs h5
  have hy:=h.y0;have ht:x*y≠0:=K.mul_ne hx hy;have hu:(1+y)*(1-y)≠0:=by
   refine K.mul_ne e3 fun h0=>?_
   rw[h0] at e2;have h4:(2:K)*(s*s)=0:=by grind
   rcases K.mul_zero' h4 with h5|h5
   ·exact K.two_ne h5
   ·rcases K.mul_zero' h5 with h5|h5<;>exact hs h5
  
  obtain⟨w,hw⟩:=ZAh h.w0;have hw0:w≠0:=fun e=>K.one_ne (by rw[← hw,e];grind)
  have y1:1+y=2*w:=K.cancel h.w0 (by grind);have y2:1-y=2*s^2*w:=K.cancel h.w0 (by grind);have hq:2*s*w*(x*y)≠0:=K.mul_ne (K.mul_ne (K.mul_ne K.two_ne hs) hw0) ht;obtain⟨z,hz⟩:=ZAh hq;have hv:((1+y)*(1-y))*(x*y)^2=(2*s*w*(x*y))^2:=by rw[y1,y2];grind
  have hr2:=(hr.found (r:=z) (K.mul_ne hu (K.pow_ne ht 2)) (by rw[hv];generalize 2*s*w*(x*y)=q at*;grind)).2;have key:r^2*(((1+y)*(1-y))*(x*y)^2)=1:=by
   rw[hr2,hv];generalize 2*s*w*(x*y)=q at*
   grind
  refine⟨hs,?_,?_⟩
  ·rw[← key];grind
  ·refine K.cancel e3 ?_;have:(1+y)*(r*(x*y)*(1-y))^2=(1-y)*(r^2*(((1+y)*(1-y))*(x*y)^2)):=by grind
   rw[this,key,y1,y2];grind
end Go.Vx
