/- Numbers, part V3: what a number is mapped to. No program in sight. -/
import Derived.Test.YtoionfdfofmplaaGreatDoorVyV2
set_option autoImplicit false
set_option linter.unusedVariables false
namespace Go.Vx
open Go
def eI:Nat:=57896044618658097711785492504343953926634992332820282019728792003956564819947
theorem k_inv{a:K}(h:a≠0):a*a^eI=1:=by
 have:=K.fermat h;rw[show eP1=eI+1 from rfl,K.pow_add,show a^1=a by grind] at this;rw[Lean.Grind.CommRing.mul_comm];exact this
structure HalfK (T X Y R V S:K) (ok:Bool) (s c:K):Prop where
 r:R=kI*T^2
 v:V=(-1-R*kD)*(R+kD)
 sr:SR ((R+1)*(1-kD^2)) V S ok
 yes:ok=true→s=S∧c= -1
 no:ok=false→(∃ w:K,w.ev∧w^2=(S*T)^2∧s= -w)∧c=R
 x:X=2*s*V*((c*(R-1)*(kD-1)^2-V)*kA)^eI
 y:Y=(1-s^2)*(1+s^2)^eI
theorem HalfK.uniq{T X Y R V S s c X' Y' R' V' S' s' c':K}{ok ok':Bool}(h:HalfK T X Y R V S ok s c)(g:HalfK T X' Y' R' V' S' ok' s' c'):X=X'∧Y=Y':=by
 obtain⟨rfl,rfl,h3,h4,h5,rfl,rfl⟩:=h;obtain⟨rfl,rfl,g3,g4,g5,rfl,rfl⟩:=g;obtain⟨rfl,rfl⟩:=h3.uniq g3;have:s=s'∧c=c':=by
  cases ok with
  |true=>exact⟨by rw[(h4 rfl).1,(g4 rfl).1],by rw[(h4 rfl).2,(g4 rfl).2]⟩
  |false=>
   obtain⟨⟨w,w1,w2,rfl⟩,rfl⟩:=h5 rfl;obtain⟨⟨w',w1',w2',rfl⟩,rfl⟩:=g5 rfl;exact⟨by rw[K.ev_root w1 w1' (by rw[w2,w2'])],rfl⟩
 obtain⟨rfl,rfl⟩:=this;exact⟨rfl,rfl⟩
theorem HalfK.on{T X Y R V S s c:K}{ok:Bool}(h:HalfK T X Y R V S ok s c):On X Y∧Even Y:=by
 obtain⟨hr,hv,h3,h4,h5,hx,hy⟩:=h;refine ell (s:=s) (v:=V) (n:=c*(R-1)*(kD-1)^2-V) (m:=kA) kA_sq hx hy (fun h=>k_inv h) (fun h=>k_inv h) ?_;by_cases hs:s=0
 ·exact .inl hs
 right;cases ok with
 |true=>
  obtain⟨rfl,rfl⟩:=h4 rfl;have u0:(R+1)*(1-kD^2)≠0:=fun e=>hs (h3.z e).2
  have v0:V≠0:=fun e=>by have:=(h3.z' u0 e).1;cases this
  have k:=(h3.q u0 v0).2.1 rfl;refine⟨v0,?_⟩;rw[ell_a (r:=R) (d:=kD) rfl hv rfl,← ZI4,k]
 |false=>
  obtain⟨⟨w,-,w2,rfl⟩,rfl⟩:=h5 rfl;have w0:w≠0:=fun e=>hs (by rw[e];grind)
  have u0:(c+1)*(1-kD^2)≠0:=fun e=>by have:=(h3.z e).1;cases this
  have v0:V≠0:=fun e=>w0 (K.sq_zero (by rw[w2,(h3.z' u0 e).2];grind))
  have k:=(h3.q u0 v0).2.2 rfl;refine⟨v0,?_⟩;have hw:V*(-w)^2=(c+1)*(1-kD^2)*c:=by
   have:(-w)^2=S^2*T^2:=by
    have:(-w)^2=w^2:=by grind
    rw[this,w2];grind
   rw[this,show V*(S^2*T^2)=(V*S^2)*T^2 by grind,k];generalize (c+1)*(1-kD^2)=u at*
   rw[hr];grind
  rw[ell_b (r:=c) (d:=kD) rfl hv rfl,← ZI4,hw]
end Go.Vx
