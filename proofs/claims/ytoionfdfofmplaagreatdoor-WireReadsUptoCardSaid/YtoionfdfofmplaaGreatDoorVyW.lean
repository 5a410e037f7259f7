/- Numbers, part W: points as pairs; multiples by digits; l times the base and l times the torsion point, reckoned with natural numbers. No program in sight. -/
import Derived.Test.YtoionfdfofmplaaGreatDoorVyV4
import Derived.KernelRfl
set_option autoImplicit false
set_option linter.unusedVariables false
namespace Go.Vx
open Go
abbrev KP:=K×K
def OnP(p:KP):Prop:=On p.1 p.2
def kzero:KP:=(0,1)
def kadd(p q:KP):KP:=(ax p.1 p.2 q.1 q.2,ay p.1 p.2 q.1 q.2)
def kneg(p:KP):KP:=(-p.1,p.2)
def nmul(p:KP):Nat→KP
 |0=>kzero
 |n+1=>kadd (nmul p n) p
def kdbl(p:KP):KP:=kadd p p
def rnd(p acc:KP)(d:Nat):KP:=kadd (kdbl (kdbl (kdbl (kdbl acc)))) (nmul p d)
def horn(p:KP)(ds:List Nat):KP:=ds.foldl (rnd p) kzero
theorem ZDV:OnP kzero:=by unfold OnP kzero On;generalize kD=d;grind
theorem Zym{p q:KP}(h1:OnP p)(h2:OnP q):OnP (kadd p q):=add_on h1 h2
theorem ZGW{p:KP}(h:OnP p):OnP (kneg p):=by
 unfold OnP On kneg at*
 generalize kD=d at*
 grind
theorem ZBX{p:KP}(h:OnP p):(n:Nat)→OnP (nmul p n)
 |0=>ZDV
 |n+1=>Zym (ZBX h n) h
theorem Zua{p:KP}(h:OnP p):OnP (kdbl p):=Zym h h
theorem rnd_on{p a:KP}(h:OnP p)(ha:OnP a)(d:Nat):OnP (rnd p a d):=Zym (Zua (Zua (Zua (Zua ha)))) (ZBX h d)
theorem ZGY{p q:KP}:kadd p q=kadd q p:=by
 unfold kadd ax ay;refine Prod.ext ?_ ?_
 ·show (_:K)*_=_*_;rw[show p.1*q.2+p.2*q.1=q.1*p.2+q.2*p.1 by grind,show 1+kD*p.1*q.1*p.2*q.2=1+kD*q.1*p.1*q.2*p.2 by generalize kD=d;grind]
 ·show (_:K)*_=_*_;rw[show p.2*q.2+p.1*q.1=q.2*p.2+q.1*p.1 by grind,show 1-kD*p.1*q.1*p.2*q.2=1-kD*q.1*p.1*q.2*p.2 by generalize kD=d;grind]
theorem ZEO:K.inv 1=1:=(K.inv_uniq (by grind)).symm
theorem ZGX(p:KP):kadd p kzero=p:=by
 unfold kadd ax ay kzero;refine Prod.ext ?_ ?_
 ·show (_:K)*_=_;rw[show (1:K)+kD*p.1*0*p.2*1=1 by generalize kD=d;grind,ZEO];grind
 ·show (_:K)*_=_;rw[show (1:K)-kD*p.1*0*p.2*1=1 by generalize kD=d;grind,ZEO];grind
theorem ZIn{p:KP}(h:OnP p):kadd p (kneg p)=kzero:=by
 have hn:=ZGW h;have w:=Ziw h hn;refine Prod.ext ?_ ?_
 ·refine(ax_of h hn ?_).symm;show (0:K)*_=p.1*p.2+p.2* -p.1
  grind
 ·refine(ay_of h hn ?_).symm;show (1:K)*_=p.2*p.2+p.1* -p.1;unfold OnP On at h;unfold kneg;generalize kD=d at*
  generalize p.1=x at*
  generalize p.2=y at*
  grind
def pN:Nat:=57896044618658097711785492504343953926634992332820282019728792003956564819949
abbrev N4:=Nat×Nat×Nat×Nat
def madeN(e f g h:Nat):N4:=(e*f%pN,g*h%pN,f*g%pN,e*h%pN)
def addN(a b:N4):N4:=
 let less:=(a.2.1+pN-a.1)*(b.2.1+pN-b.1)%pN
 let more:=(a.2.1+a.1)*(b.2.1+b.1)%pN
 let c:=a.2.2.2*74191411869338878686276167017509130379084227759686438032777571066171880567110*b.2.2.2%pN
 let d:=2*(a.2.2.1*b.2.2.1)%pN
 madeN (more+pN-less) (d+pN-c) (d+c) (more+less)
def zeroN:N4:=(0,1,1,0)
def mulN(p:N4):Nat→N4
 |0=>zeroN
 |n+1=>addN (mulN p n) p
def dblN(p:N4):N4:=addN p p
def rndN(p acc:N4)(d:Nat):N4:=addN (dblN (dblN (dblN (dblN acc)))) (mulN p d)
def hornN(p:N4)(ds:List Nat):N4:=ds.foldl (rndN p) zeroN
structure RepN (a:N4) (p:KP):Prop where
 b1:a.1<pN
 b2:a.2.1<pN
 b3:a.2.2.1<pN
 b4:a.2.2.2<pN
 z:K.of a.2.2.1≠0
 x:K.of a.1=p.1*K.of a.2.2.1
 y:K.of a.2.1=p.2*K.of a.2.2.1
 t:K.of a.2.2.2=p.1*p.2*K.of a.2.2.1
theorem ZIq{a b x y z w d X Y:K}(hX:X*(1+d*a*x*b*y)=a*y+b*x)(hY:Y*(1-d*a*x*b*y)=b*y+a*x):
  ∃ E F G H:K,E=(b*z+a*z)*(y*w+x*w)-(b*z-a*z)*(y*w-x*w)∧H=(b*z+a*z)*(y*w+x*w)+(b*z-a*z)*(y*w-x*w)∧F=(z*w+z*w)-(a*b*z)*(d+d)*(x*y*w)∧G=(z*w+z*w)+(a*b*z)*(d+d)*(x*y*w)∧
   F=2*(z*w)*(1-d*a*x*b*y)∧G=2*(z*w)*(1+d*a*x*b*y)∧E*F=X*(F*G)∧G*H=Y*(F*G)∧E*H=X*Y*(F*G):=by
 have hE:(b*z+a*z)*(y*w+x*w)-(b*z-a*z)*(y*w-x*w)=X*(2*(z*w)*(1+d*a*x*b*y)):=by
  rw[show X*(2*(z*w)*(1+d*a*x*b*y))=2*(z*w)*(X*(1+d*a*x*b*y)) by grind,hX];grind
 have hH:(b*z+a*z)*(y*w+x*w)+(b*z-a*z)*(y*w-x*w)=Y*(2*(z*w)*(1-d*a*x*b*y)):=by
  rw[show Y*(2*(z*w)*(1-d*a*x*b*y))=2*(z*w)*(Y*(1-d*a*x*b*y)) by grind,hY];grind
 have hF:(z*w+z*w)-(a*b*z)*(d+d)*(x*y*w)=2*(z*w)*(1-d*a*x*b*y):=by clear hX hY hE hH;grind
 have hG:(z*w+z*w)+(a*b*z)*(d+d)*(x*y*w)=2*(z*w)*(1+d*a*x*b*y):=by clear hX hY hE hH;grind
 refine⟨_,_,_,_,rfl,rfl,rfl,rfl,hF,hG,?_,?_,?_⟩
 ·rw[hE,hF,hG];generalize 1-d*a*x*b*y=u;generalize 1+d*a*x*b*y=v;clear hX hY hE hH hF hG;grind
 ·rw[hH,hF,hG];generalize 1-d*a*x*b*y=u;generalize 1+d*a*x*b*y=v;clear hX hY hE hH hF hG;grind
 ·rw[hE,hH,hF,hG];generalize 1-d*a*x*b*y=u;generalize 1+d*a*x*b*y=v;clear hX hY hE hH hF hG;grind
def kn(n:Nat):K:=K.of n
theorem Zt9(n:Nat):kn (n%pN)=kn n:=by
 unfold kn;rw[K.of_eq,Int.natCast_emod,show ((pN:Nat):Int)=pF from rfl,Int.emod_emod]
theorem ZmY(a b:Nat):kn (a*b)=kn a*kn b:=by unfold kn;rw[Int.natCast_mul,K.of_mul]
theorem ZA8(a b:Nat):kn (a+b)=kn a+kn b:=by unfold kn;rw[Int.natCast_add,K.of_add]
theorem ZEP{a b:Nat}(h:b<pN):kn (a+pN-b)=kn a-kn b:=by
 unfold kn;rw[← K.of_sub,K.of_eq,show ((a+pN-b:Nat):Int)=(a:Int)-b+pF by
  have:((pN:Nat):Int)=pF:=rfl;omega,Int.add_emod_right]
theorem kn_2d:kn 74191411869338878686276167017509130379084227759686438032777571066171880567110=kD+kD:=by
 unfold kD kn;rw[← K.of_add,K.of_eq]
 decide
theorem lt_pN(n:Nat):n%pN<pN:=Nat.mod_lt _ (by decide)
theorem RepN.made{e f g h:Nat}{X Y:K}(h1:kn f≠0)(h2:kn g≠0)(hx:kn e*kn f=X*(kn f*kn g))(hy:kn g*kn h=Y*(kn f*kn g))(ht:kn e*kn h=X*Y*(kn f*kn g)):RepN (madeN e f g h) (X,Y):=by
 have k1:=Zt9 (e*f);have k2:=Zt9 (g*h);have k3:=Zt9 (f*g);have k4:=Zt9 (e*h);rw[ZmY] at k1 k2 k3 k4;refine⟨lt_pN _,lt_pN _,lt_pN _,lt_pN _,?_,?_,?_,?_⟩
 ·show kn (f*g%pN)≠0;rw[k3];exact K.mul_ne h1 h2
 ·show kn (e*f%pN)=X*kn (f*g%pN);rw[k1,k3,hx]
 ·show kn (g*h%pN)=Y*kn (f*g%pN);rw[k2,k3,hy]
 ·show kn (e*h%pN)=X*Y*kn (f*g%pN);rw[k4,k3,ht]
theorem RepN.add{a b:N4}{p q:KP}(ha:RepN a p)(hb:RepN b q)(h1:OnP p)(h2:OnP q):RepN (addN a b) (kadd p q):=by
 obtain⟨E,F,G,H,m1,m2,m3,m4,m5,m6,m7,m8,m9⟩:=ZIq (z:=kn a.2.2.1) (w:=kn b.2.2.1) (ZAe h1 h2) (ZAf h1 h2);obtain⟨w1,w2⟩:=Ziw h1 h2;have za:kn a.2.2.1≠0:=ha.z;have zb:kn b.2.2.1≠0:=hb.z;have xa:kn a.1=p.1*kn a.2.2.1:=ha.x;have ya:kn a.2.1=p.2*kn a.2.2.1:=ha.y;have ta:kn a.2.2.2=p.1*p.2*kn a.2.2.1:=ha.t;have xb:kn b.1=q.1*kn b.2.2.1:=hb.x;have yb:kn b.2.1=q.2*kn b.2.2.1:=hb.y;have tb:kn b.2.2.2=q.1*q.2*kn b.2.2.1:=hb.t;have zz:2*(kn a.2.2.1*kn b.2.2.1)≠0:=K.mul_ne K.two_ne (K.mul_ne za zb);have two:kn 2=2:=rfl;unfold addN;simp only[];have eL:kn ((a.2.1+pN-a.1)*(b.2.1+pN-b.1)%pN)=(p.2*kn a.2.2.1-p.1*kn a.2.2.1)*(q.2*kn b.2.2.1-q.1*kn b.2.2.1):=by rw[Zt9,ZmY,ZEP ha.b1,ZEP hb.b1,xa,ya,xb,yb]
 have eM:kn ((a.2.1+a.1)*(b.2.1+b.1)%pN)=(p.2*kn a.2.2.1+p.1*kn a.2.2.1)*(q.2*kn b.2.2.1+q.1*kn b.2.2.1):=by rw[Zt9,ZmY,ZA8,ZA8,xa,ya,xb,yb]
 have eC:kn (a.2.2.2*74191411869338878686276167017509130379084227759686438032777571066171880567110*b.2.2.2%pN)=(p.1*p.2*kn a.2.2.1)*(kD+kD)*(q.1*q.2*kn b.2.2.1):=by rw[Zt9,ZmY,ZmY,kn_2d,ta,tb]
 have eD:kn (2*(a.2.2.1*b.2.2.1)%pN)=kn a.2.2.1*kn b.2.2.1+kn a.2.2.1*kn b.2.2.1:=by rw[Zt9,ZmY,ZmY,two];grind
 have fE:=ZEP (a:=(a.2.1+a.1)*(b.2.1+b.1)%pN) (lt_pN ((a.2.1+pN-a.1)*(b.2.1+pN-b.1)));have fF:=ZEP (a:=2*(a.2.2.1*b.2.2.1)%pN) (lt_pN (a.2.2.2*74191411869338878686276167017509130379084227759686438032777571066171880567110*b.2.2.2));have fG:=ZA8 (2*(a.2.2.1*b.2.2.1)%pN) (a.2.2.2*74191411869338878686276167017509130379084227759686438032777571066171880567110*b.2.2.2%pN);have fH:=ZA8 ((a.2.1+a.1)*(b.2.1+b.1)%pN) ((a.2.1+pN-a.1)*(b.2.1+pN-b.1)%pN);rw[eM,eL,← m1] at fE;rw[eD,eC,← m3] at fF;rw[eD,eC,← m4] at fG;rw[eM,eL,← m2] at fH;refine RepN.made ?_ ?_ ?_ ?_ ?_
 ·rw[fF,m5];exact K.mul_ne zz w2
 ·rw[fG,m6];exact K.mul_ne zz w1
 ·rw[fE,fF,fG];exact m7
 ·rw[fF,fG,fH];exact m8
 ·rw[fE,fF,fG,fH];exact m9
theorem ZDi:RepN zeroN kzero:=⟨by decide,by decide,by decide,by decide,K.one_ne,by show (0:K)=0*1;grind,by show (1:K)=1*1;grind,by show (0:K)=0*1*1;grind⟩
theorem ZBV{a:N4}{p:KP}(h:RepN a p)(hp:OnP p):(n:Nat)→RepN (mulN a n) (nmul p n)
 |0=>ZDi
 |n+1=>(ZBV h hp n).add h (ZBX hp n) hp
theorem Zzm{a:N4}{p:KP}(h:RepN a p)(hp:OnP p):RepN (dblN a) (kdbl p):=h.add h hp hp
theorem ZIr{a c:N4}{p q:KP}(h:RepN a p)(hp:OnP p)(hc:RepN c q)(hq:OnP q)(d:Nat):RepN (rndN a c d) (rnd p q d):=by
 have q1:=Zua hq;have q2:=Zua q1;have q3:=Zua q2;exact(Zzm (Zzm (Zzm (Zzm hc hq) q1) q2) q3).add (ZBV h hp d) (Zua q3) (ZBX hp d)
theorem ZG0{a:N4}{p:KP}(h:RepN a p)(hp:OnP p)(ds:List Nat):RepN (hornN a ds) (horn p ds):=by
 unfold hornN horn;have:∀ (l:List Nat) (c:N4) (q:KP),RepN c q→OnP q→RepN (l.foldl (rndN a) c) (l.foldl (rnd p) q):=by
  intro l
  induction l with
  |nil=>intro c q hc _;exact hc
  |cons d l ih=>intro c q hc hq;exact ih _ _ (ZIr h hp hc hq d) (rnd_on hp hq d)
 exact this ds _ _ ZDi ZDV
theorem RepN.zero{a:N4}{p:KP}(h:RepN a p)(h1:a.1=0)(h2:a.2.1=a.2.2.1):p=kzero:=by
 have hx:=h.x;have hy:=h.y;have hz:=h.z;rw[h1] at hx;rw[h2] at hy;refine Prod.ext ?_ ?_
 ·rcases K.mul_zero' (show p.1*K.of a.2.2.1=0 by rw[← hx];rfl) with h|h
  ·exact h
  ·exact absurd h hz
 ·refine K.cancel hz ?_;show K.of a.2.2.1*p.2=K.of a.2.2.1*1;rw[Lean.Grind.CommRing.mul_comm,← hy];grind
def ordD:List Nat:=[1,0,0,0,0,0,0,0,0,0,0,0,0,0,0,0,0,0,0,0,0,0,0,0,0,0,0,0,0,0,0,0,1,4,13,14,15,9,13,14,10,2,15,7,9,12,13,6,5,8,1,2,6,3,1,10,5,12,15,5,13,3,14,13]
end Go.Vx
