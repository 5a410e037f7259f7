import Derived.Test.YtoionfdfofmplaaGreatDoorVyA
import Derived.Test.YtoionfdfofmplaaGreatDoorFp
import Derived.KernelRfl
import Derived.Test.YtoionfdfofmplaaGreatDoorVyP
import Derived.Test.YtoionfdfofmplaaGreatDoorVyR
import Derived.Test.YtoionfdfofmplaaGreatDoorVyU
import Derived.Test.YtoionfdfofmplaaGreatDoorVyV3
import Derived.Test.YtoionfdfofmplaaGreatDoorVyV4
import Derived.Test.YtoionfdfofmplaaGreatDoorVyW3
import Derived.Test.YtoionfdfofmplaaGreatDoorVyS
set_option autoImplicit false
set_option linter.unusedVariables false
set_option linter.unusedSimpArgs false
namespace Go.Vx
open Go
theorem ZIz{a b c d e:Int}(ha:U a)(hb:U b)(hc:U c)(hd:U d)(he:U e):
  Zbn [a,b,c,d,e]=[a%M51+19*(e/M51),b%M51+a/M51,c%M51+b/M51,d%M51+c/M51,e%M51+d/M51]:=by
 unfold Zbn;simp only[List.getD_cons_zero,List.getD_cons_succ];simp only[Zlu ha.1 ha.2,Zlu hb.1 hb.2,Zlu hc.1 hc.2,Zlu hd.1 hd.2,Zlu he.1 he.2,ZgE,u_add,u_mul];simp only[U,M51] at*
 refine List.cons_eq_cons.2 ⟨by omega,List.cons_eq_cons.2 ⟨by omega,List.cons_eq_cons.2 ⟨by omega,List.cons_eq_cons.2 ⟨by omega,List.cons_eq_cons.2 ⟨by omega,rfl⟩⟩⟩⟩⟩
def L0(a e:Int):Int:=a%M51+19*(e/M51)
def L1(b a:Int):Int:=b%M51+a/M51
theorem light3{a b c d e:Int}(ha:U a)(hb:U b)(hc:U c)(hd:U d)(he:U e):
  ∃ x0 x1 x2 x3 x4 k,Zbn (Zbn (Zbn [a,b,c,d,e]))=[x0,x1,x2,x3,x4]∧(0≤x0∧x0≤M51+18)∧(0≤x1∧x1≤M51)∧(0≤x2∧x2≤M51)∧(0≤x3∧x3≤M51)∧(0≤x4∧x4≤M51)∧
   val [a,b,c,d,e]=val [x0,x1,x2,x3,x4]+pF*k:=by
 have step:∀ {a b c d e B:Int},U a→U b→U c→U d→U e→a≤B→b≤B→c≤B→d≤B→e≤B→∃ x0 x1 x2 x3 x4 k,Zbn [a,b,c,d,e]=[x0,x1,x2,x3,x4]∧(0≤x0∧x0≤M51-1+19*(B/M51))∧(0≤x1∧x1≤M51-1+B/M51)∧(0≤x2∧x2≤M51-1+B/M51)∧(0≤x3∧x3≤M51-1+B/M51)∧(0≤x4∧x4≤M51-1+B/M51)∧
   val [a,b,c,d,e]=val [x0,x1,x2,x3,x4]+pF*k:=by
  intro a b c d e B ha hb hc hd he a1 b1 c1 d1 e1;refine⟨_,_,_,_,_,e/M51,ZIz ha hb hc hd he,?_,?_,?_,?_,?_,?_⟩
  ·simp only[U,M51] at*;omega
  ·simp only[U,M51] at*;omega
  ·simp only[U,M51] at*;omega
  ·simp only[U,M51] at*;omega
  ·simp only[U,M51] at*;omega
  ·simp only[val,M51,pF];omega
 obtain⟨x0,x1,x2,x3,x4,k,h1,p0,p1,p2,p3,p4,hv⟩:=step (B:=18446744073709551615) ha hb hc hd he (by simp only[U] at*;omega) (by simp only[U] at*;omega) (by simp only[U] at*;omega) (by simp only[U] at*;omega) (by simp only[U] at*;omega);simp only[M51,show (18446744073709551615:Int)/2251799813685248=8191 by decide] at p0 p1 p2 p3 p4;obtain⟨y0,y1,y2,y3,y4,k',h2,q0,q1,q2,q3,q4,hv'⟩:=step (B:=2251799813685247+19*8191) (a:=x0) (b:=x1) (c:=x2) (d:=x3) (e:=x4) (by simp only[U];omega) (by simp only[U];omega) (by simp only[U];omega) (by simp only[U];omega) (by simp only[U];omega) (by omega) (by omega) (by omega) (by omega) (by omega);simp only[M51,show (2251799813685247+19*8191:Int)/2251799813685248=1 by decide] at q0 q1 q2 q3 q4;obtain⟨z0,z1,z2,z3,z4,k'',h3,r0,r1,r2,r3,r4,hv''⟩:=step (B:=2251799813685247+19) (a:=y0) (b:=y1) (c:=y2) (d:=y3) (e:=y4) (by simp only[U];omega) (by simp only[U];omega) (by simp only[U];omega) (by simp only[U];omega) (by simp only[U];omega) (by omega) (by omega) (by omega) (by omega) (by omega);simp only[M51,show (2251799813685247+19:Int)/2251799813685248=1 by decide] at r0 r1 r2 r3 r4;refine⟨z0,z1,z2,z3,z4,k+k'+k'',by rw[h1,h2,h3],?_,?_,?_,?_,?_,?_⟩
 ·simp only[M51];omega
 ·simp only[M51];omega
 ·simp only[M51];omega
 ·simp only[M51];omega
 ·simp only[M51];omega
 ·rw[hv,hv',hv'',Int.mul_add,Int.mul_add];omega
theorem ZHb{a b c d e q:Int}(ha:0≤a)(hb:0≤b)(hc:0≤c)(hd:0≤d)(he:0≤e)(h:val [a,b,c,d,e]<2*pF)
  (hq:q=(e+(d+(c+(b+(a+19)/M51)/M51)/M51)/M51)/M51):
  let x1:=a+19*q
  let x2:=b+x1/M51
  let x3:=c+x2/M51
  let x4:=d+x3/M51
  let x5:=e+x4/M51
  Can [x1%M51,x2%M51,x3%M51,x4%M51,x5%M51]∧val [x1%M51,x2%M51,x3%M51,x4%M51,x5%M51]=val [a,b,c,d,e]%pF∧(q=0∨q=1):=by
 intro x1 x2 x3 x4 x5;have hq01:q=0∧val [a,b,c,d,e]<pF∨q=1∧pF≤val [a,b,c,d,e]:=by
  simp only[val,pF,M51] at*
  omega
 have hval:val [x1%M51,x2%M51,x3%M51,x4%M51,x5%M51]=val [a,b,c,d,e]-pF*q:=by
  rcases hq01 with⟨h0,h1⟩|⟨h0,h1⟩
  ·subst h0;simp only[val,pF,M51,x1,x2,x3,x4,x5] at*
   omega
  ·subst h0;simp only[val,pF,M51,x1,x2,x3,x4,x5] at*
   omega
 have hb2:0≤val [a,b,c,d,e]-pF*q∧val [a,b,c,d,e]-pF*q<pF:=by
  rcases hq01 with⟨h0,h1⟩|⟨h0,h1⟩
  ·subst h0;simp only[val,pF] at*;omega
  ·subst h0;simp only[val,pF] at*;omega
 refine⟨⟨_,_,_,_,_,rfl,?_,?_,?_,?_,?_,by rw[hval];exact hb2.2⟩,?_,?_⟩
 ·simp only[M51];omega
 ·simp only[M51];omega
 ·simp only[M51];omega
 ·simp only[M51];omega
 ·simp only[M51];omega
 ·rw[hval];exact emod_of q (by omega) hb2.1 hb2.2
 ·rcases hq01 with⟨h0,-⟩|⟨h0,-⟩
  ·exact .inl h0
  ·exact .inr h0
def L5(a:LI):Prop:=a.length=5∧∀ x∈a,0≤x∧x≤18446744073709551615
theorem L5.get{a:LI}(h:L5 a):∃ x0 x1 x2 x3 x4,a=[x0,x1,x2,x3,x4]∧U x0∧U x1∧U x2∧U x3∧U x4:=by
 obtain⟨hl,hr⟩:=h
 match a,hl,hr with
 | [x0,x1,x2,x3,x4],_,hr=>
  have h0:=hr x0 (by simp);have h1:=hr x1 (by simp);have h2:=hr x2 (by simp);have h3:=hr x3 (by simp);have h4:=hr x4 (by simp);exact⟨x0,x1,x2,x3,x4,rfl,⟨h0.1,by omega⟩,⟨h1.1,by omega⟩,⟨h2.1,by omega⟩,⟨h3.1,by omega⟩,⟨h4.1,by omega⟩⟩
theorem Can.L5{a:LI}(h:Can a):L5 a:=by
 obtain⟨x0,x1,x2,x3,x4,rfl,hx0,hx1,hx2,hx3,hx4,-⟩:=h;refine⟨rfl,fun x hx=>?_⟩;simp only[M51,List.mem_cons,List.not_mem_nil,or_false] at*
 rcases hx with rfl|rfl|rfl|rfl|rfl<;>omega
theorem ZFA{l:LI}{x0 x1 x2 x3 x4 q:Int}(h1:Zbn (Zbn (Zbn l))=[x0,x1,x2,x3,x4])(p0:0≤x0∧x0≤M51+18)(p1:0≤x1∧x1≤M51)(p2:0≤x2∧x2≤M51)(p3:0≤x3∧x3≤M51)
  (p4:0≤x4∧x4≤M51) (hq:q=(x4+(x3+(x2+(x1+(x0+19)/M51)/M51)/M51)/M51)/M51) (hq01:q=0∨q=1):
  let y1:=x0+19*q
  let y2:=x1+y1/M51
  let y3:=x2+y2/M51
  let y4:=x3+y3/M51
  let y5:=x4+y4/M51
  Zaa l=[y1%M51,y2%M51,y3%M51,y4%M51,y5%M51]:=by
 intro y1 y2 y3 y4 y5;have hq':ibin .shr .u64 (ibin .add .u64 x4 (ibin .shr .u64 (ibin .add .u64 x3 (ibin .shr .u64 (ibin .add .u64 x2 (ibin .shr .u64 (ibin .add .u64 x1 (ibin .shr .u64 (ibin .add .u64 x0 19) 51)) 51)) 51)) 51)) 51=q:=by
  simp only[u_add,ZgE];rw[hq];simp only[M51] at*
  clear y1 y2 y3 y4 y5;omega
 clear hq;unfold Zaa;rw[h1];simp only[List.getD_cons_zero,List.getD_cons_succ,List.set_cons_zero,List.set_cons_succ];rw[hq'];clear hq' h1;have b1:0≤y1∧y1≤M51+37:=by simp only[M51,y1] at*;omega
 have e1:ibin .add .u64 x0 (ibin .mul .u64 19 q)=y1:=by simp only[u_add,u_mul,M51,y1] at*;omega
 rw[e1];clear e1;have b2:0≤y2∧y2≤M51+1:=by simp only[M51,y2] at*;omega
 have e2:ibin .add .u64 x1 (ibin .shr .u64 y1 51)=y2:=by simp only[u_add,ZgE,M51,y2] at*;omega
 rw[e2];clear e2;have b3:0≤y3∧y3≤M51+1:=by simp only[M51,y3] at*;omega
 have e3:ibin .add .u64 x2 (ibin .shr .u64 y2 51)=y3:=by simp only[u_add,ZgE,M51,y3] at*;omega
 rw[e3];clear e3;have b4:0≤y4∧y4≤M51+1:=by simp only[M51,y4] at*;omega
 have e4:ibin .add .u64 x3 (ibin .shr .u64 y3 51)=y4:=by simp only[u_add,ZgE,M51,y4] at*;omega
 rw[e4];clear e4;have b5:0≤y5∧y5≤M51+1:=by simp only[M51,y5] at*;omega
 have e5:ibin .add .u64 x4 (ibin .shr .u64 y4 51)=y5:=by simp only[u_add,ZgE,M51,y5] at*;omega
 rw[e5];clear e5;have f:∀ y:Int,0≤y→y≤M51+37→ibin .and .u64 y 2251799813685247=y%M51:=fun y h0 h1=>Zlu h0 (by simp only[M51] at*;omega)
 rw[f y1 b1.1 b1.2,f y2 b2.1 (by have:=b2.2;simp only[M51] at*;omega),f y3 b3.1 (by have:=b3.2;simp only[M51] at*;omega),f y4 b4.1 (by have:=b4.2;simp only[M51] at*;omega),f y5 b5.1 (by have:=b5.2;simp only[M51] at*;omega)]
theorem Ze8{a:LI}(h:L5 a):Can (Zaa a)∧val (Zaa a)=val a%pF:=by
 obtain⟨a,b,c,d,e,rfl,ha,hb,hc,hd,he⟩:=h.get;obtain⟨x0,x1,x2,x3,x4,k,h1,p0,p1,p2,p3,p4,hv⟩:=light3 ha hb hc hd he;have hlt:val [x0,x1,x2,x3,x4]<2*pF:=by
  clear hv h1;simp only[val,pF,M51] at*;omega
 obtain⟨t1,t2,t3⟩:=ZHb (q:=(x4+(x3+(x2+(x1+(x0+19)/M51)/M51)/M51)/M51)/M51) p0.1 p1.1 p2.1 p3.1 p4.1 hlt rfl;rw[ZFA h1 p0 p1 p2 p3 p4 rfl t3];refine⟨t1,?_⟩;rw[t2,hv,Int.add_mul_emod_self_left]
theorem ZHc{a b c d e:Int}(p0:0≤a∧a≤M51+200)(p1:0≤b∧b<M51)(p2:0≤c∧c<M51)(p3:0≤d∧d<M51)(p4:0≤e∧e<M51):
  Can (ZgS a b c d e)∧val (ZgS a b c d e)=val [a,b,c,d,e]%pF:=by
 have hlt:val [a,b,c,d,e]<2*pF:=by simp only[val,pF,M51] at*;omega
 obtain⟨t1,t2,t3⟩:=ZHb (q:=(e+(d+(c+(b+(a+19)/M51)/M51)/M51)/M51)/M51) p0.1 p1.1 p2.1 p3.1 p4.1 hlt rfl;clear hlt;have hq':ibin .shr .u64 (ibin .add .u64 e (ibin .shr .u64 (ibin .add .u64 d (ibin .shr .u64 (ibin .add .u64 c (ibin .shr .u64 (ibin .add .u64 b (ibin .shr .u64 (ibin .add .u64 a 19) 51)) 51)) 51)) 51)) 51=(e+(d+(c+(b+(a+19)/M51)/M51)/M51)/M51)/M51:=by
  clear t1 t2 t3;simp only[u_add,ZgE];simp only[M51] at*
  omega
 generalize (e+(d+(c+(b+(a+19)/M51)/M51)/M51)/M51)/M51=q at*
 have key:ZgS a b c d e=[(a+19*q)%M51,(b+(a+19*q)/M51)%M51,(c+(b+(a+19*q)/M51)/M51)%M51,(d+(c+(b+(a+19*q)/M51)/M51)/M51)%M51,(e+(d+(c+(b+(a+19*q)/M51)/M51)/M51)/M51)%M51]:=by
  clear t1 t2;unfold ZgS;rw[hq'];clear hq';have b1:0≤a+19*q∧a+19*q≤M51+300:=by simp only[M51] at*;omega
  have e1:ibin .add .u64 a (ibin .mul .u64 19 q)=a+19*q:=by simp only[u_add,u_mul,M51] at*;omega
  simp only[e1];clear e1;generalize a+19*q=y1 at*
  have b2:0≤b+y1/M51∧b+y1/M51≤M51+1:=by simp only[M51] at*;omega
  have e2:ibin .add .u64 b (ibin .shr .u64 y1 51)=b+y1/M51:=by simp only[u_add,ZgE,M51] at*;omega
  simp only[e2];clear e2;generalize b+y1/M51=y2 at*
  have b3:0≤c+y2/M51∧c+y2/M51≤M51+1:=by simp only[M51] at*;omega
  have e3:ibin .add .u64 c (ibin .shr .u64 y2 51)=c+y2/M51:=by simp only[u_add,ZgE,M51] at*;omega
  simp only[e3];clear e3;generalize c+y2/M51=y3 at*
  have b4:0≤d+y3/M51∧d+y3/M51≤M51+1:=by simp only[M51] at*;omega
  have e4:ibin .add .u64 d (ibin .shr .u64 y3 51)=d+y3/M51:=by simp only[u_add,ZgE,M51] at*;omega
  simp only[e4];clear e4;generalize d+y3/M51=y4 at*
  have b5:0≤e+y4/M51∧e+y4/M51≤M51+1:=by simp only[M51] at*;omega
  have e5:ibin .add .u64 e (ibin .shr .u64 y4 51)=e+y4/M51:=by simp only[u_add,ZgE,M51] at*;omega
  simp only[e5];clear e5;generalize e+y4/M51=y5 at*
  have f:∀ y:Int,0≤y→y≤M51+300→ibin .and .u64 y 2251799813685247=y%M51:=fun y h0 h1=>Zlu h0 (by simp only[M51] at*;omega)
  rw[f y1 b1.1 b1.2,f y2 b2.1 (by have:=b2.2;simp only[M51] at*;omega),f y3 b3.1 (by have:=b3.2;simp only[M51] at*;omega),f y4 b4.1 (by have:=b4.2;simp only[M51] at*;omega),f y5 b5.1 (by have:=b5.2;simp only[M51] at*;omega)]
 rw[key];exact⟨t1,t2⟩
abbrev W54(x:Int):Prop:=0≤x∧x<18014398509481984
theorem Zv4{a b c d e:Int}(ha:W54 a)(hb:W54 b)(hc:W54 c)(hd:W54 d)(he:W54 e):
  Can (Zbj a b c d e)∧val (Zbj a b c d e)=val [a,b,c,d,e]%pF:=by
 unfold Zbj;have b2:0≤b+a/M51∧b+a/M51≤18014398509481984+8:=by simp only[W54,M51] at*;omega
 have e2:ibin .add .u64 b (ibin .shr .u64 a 51)=b+a/M51:=by simp only[u_add,ZgE,M51,W54] at*;omega
 have hv1:b+a/M51=b+a/M51:=rfl;simp only[e2];clear e2;generalize hx1:b+a/M51=x1 at b2 ⊢;have b3:0≤c+x1/M51∧c+x1/M51≤18014398509481984+8:=by simp only[W54,M51] at*;omega
 have e3:ibin .add .u64 c (ibin .shr .u64 x1 51)=c+x1/M51:=by simp only[u_add,ZgE,M51,W54] at*;omega
 simp only[e3];clear e3;generalize hx2:c+x1/M51=x2 at b3 ⊢;have b4:0≤d+x2/M51∧d+x2/M51≤18014398509481984+8:=by simp only[W54,M51] at*;omega
 have e4:ibin .add .u64 d (ibin .shr .u64 x2 51)=d+x2/M51:=by simp only[u_add,ZgE,M51,W54] at*;omega
 simp only[e4];clear e4;generalize hx3:d+x2/M51=x3 at b4 ⊢;have b5:0≤e+x3/M51∧e+x3/M51≤18014398509481984+8:=by simp only[W54,M51] at*;omega
 have e5:ibin .add .u64 e (ibin .shr .u64 x3 51)=e+x3/M51:=by simp only[u_add,ZgE,M51,W54] at*;omega
 simp only[e5];clear e5;generalize hx4:e+x3/M51=x4 at b5 ⊢;have f:∀ y:Int,0≤y→y≤18014398509481984+8→ibin .and .u64 y 2251799813685247=y%M51:=fun y h0 h1=>Zlu h0 (by omega)
 rw[f a ha.1 (by have:=ha.2;omega),f x1 b2.1 b2.2,f x2 b3.1 b3.2,f x3 b4.1 b4.2,f x4 b5.1 b5.2];have b6:0≤a%M51+19*(x4/M51)∧a%M51+19*(x4/M51)≤M51+200:=by simp only[W54,M51] at*;omega
 have e6:ibin .add .u64 (a%M51) (ibin .mul .u64 19 (ibin .shr .u64 x4 51))=a%M51+19*(x4/M51):=by
  clear hx1 hx2 hx3 hx4;simp only[u_add,u_mul,ZgE,M51,W54] at*;omega
 simp only[e6];clear e6 f hv1;have hval:val [a,b,c,d,e]=val [a%M51+19*(x4/M51),x1%M51,x2%M51,x3%M51,x4%M51]+pF*(x4/M51):=by
  clear b2 b3 b4 b5 b6 ha hb hc hd he;simp only[val,pF,M51] at*
  omega
 have m:∀ y:Int,0≤y%M51∧y%M51<M51:=fun y=>by simp only[M51];omega
 rw[hval,Int.add_mul_emod_self_left];have hl:=ZHc b6 (m x1) (m x2) (m x3) (m x4);clear hval hx1 hx2 hx3 hx4;generalize a%M51+19*(x4/M51)=x5 at*
 by_cases h1:x5≤2251799813685247
 ·by_cases h2:x4%M51=2251799813685247
  ·have c1:icmp .leq x5 2251799813685247=true:=by simp[icmp,h1]
   have c2:icmp .neq (x4%M51) 2251799813685247=false:=by simp[icmp,h2]
   rw[c1,c2];exact hl
  ·have c1:icmp .leq x5 2251799813685247=true:=by simp[icmp,h1]
   have c2:icmp .neq (x4%M51) 2251799813685247=true:=by simp[icmp,h2]
   rw[c1,c2];simp only[cond_true];have m1:=m x1;have m2:=m x2;have m3:=m x3;have m4:=m x4;have hlt:val [x5,x1%M51,x2%M51,x3%M51,x4%M51]<pF:=by
    clear hl b2 b3 b4 b5 ha hb hc hd he m;generalize x1%M51=z1 at*
    generalize x2%M51=z2 at*
    generalize x3%M51=z3 at*
    generalize x4%M51=z4 at*
    simp only[val,pF,M51] at*
    omega
   have h0:0≤val [x5,x1%M51,x2%M51,x3%M51,x4%M51]:=by
    clear hl hlt b2 b3 b4 b5 ha hb hc hd he m;generalize x1%M51=z1 at*
    generalize x2%M51=z2 at*
    generalize x3%M51=z3 at*
    generalize x4%M51=z4 at*
    simp only[val,M51] at*
    omega
   exact⟨⟨_,_,_,_,_,rfl,⟨b6.1,by simp only[M51];omega⟩,m1,m2,m3,m4,hlt⟩,(Int.emod_eq_of_lt h0 hlt).symm⟩
 ·have c1:icmp .leq x5 2251799813685247=false:=by simp[icmp,h1]
  rw[c1];exact hl
theorem ZEQ{x y:Nat}:(x ||| y)/2^51=0↔x/2^51=0∧y/2^51=0:=by
 rw[← Nat.shiftRight_eq_div_pow,← Nat.shiftRight_eq_div_pow,← Nat.shiftRight_eq_div_pow,Nat.shiftRight_or_distrib,Nat.or_eq_zero_iff]
theorem ZHd{a b c d e:Int}(ha:U a)(hb:U b)(hc:U c)(hd:U d)(he:U e):ZaC [a,b,c,d,e]=decide (a<M51∧b<M51∧c<M51∧d<M51∧e<M51):=by
 unfold ZaC;simp only[List.getD_cons_zero,List.getD_cons_succ];have lt:∀ x y:Nat,x<18446744073709551616→y<18446744073709551616→x ||| y<18446744073709551616:=fun x y hx hy=>Nat.or_lt_two_pow (n:=64) hx hy
 simp only[U] at*
 have n1:=lt a.toNat b.toNat (by omega) (by omega);have n2:=lt _ c.toNat n1 (by omega);have n3:=lt _ d.toNat n2 (by omega);have n4:=lt _ e.toNat n3 (by omega);rw[u_or ha.1 ha.2 hb.1 hb.2,u_or (Int.natCast_nonneg _) (by omega) hc.1 hc.2,Int.toNat_natCast,u_or (Int.natCast_nonneg _) (by omega) hd.1 hd.2,Int.toNat_natCast,u_or (Int.natCast_nonneg _) (by omega) he.1 he.2,Int.toNat_natCast,ZgE];have h:(((a.toNat ||| b.toNat ||| c.toNat ||| d.toNat ||| e.toNat:Nat):Int)/2251799813685248=0)↔(a<M51∧b<M51∧c<M51∧d<M51∧e<M51):=by
  have h1:(((a.toNat ||| b.toNat ||| c.toNat ||| d.toNat ||| e.toNat:Nat):Int)/2251799813685248=0)↔(a.toNat ||| b.toNat ||| c.toNat ||| d.toNat ||| e.toNat)/2^51=0:=by
   generalize (a.toNat ||| b.toNat ||| c.toNat ||| d.toNat ||| e.toNat)=z;omega
  rw[h1,ZEQ,ZEQ,ZEQ,ZEQ];simp only[M51];clear n1 n2 n3 n4 lt h1;omega
 show ((((a.toNat ||| b.toNat ||| c.toNat ||| d.toNat ||| e.toNat:Nat):Int)/2251799813685248)==0)=_;rw[Bool.eq_iff_iff];simp[h]
def Sm(a:LI):Prop:=∃ x0 x1 x2 x3 x4,a=[x0,x1,x2,x3,x4]∧(0≤x0∧x0<M51)∧(0≤x1∧x1<M51)∧(0≤x2∧x2<M51)∧(0≤x3∧x3<M51)∧(0≤x4∧x4<M51)
theorem Can.sm{a:LI}(h:Can a):Sm a:=by
 obtain⟨x0,x1,x2,x3,x4,rfl,h0,h1,h2,h3,h4,-⟩:=h;exact⟨_,_,_,_,_,rfl,h0,h1,h2,h3,h4⟩
theorem Zyo{a:LI}(h:L5 a)(hs:ZaC a=true):Sm a:=by
 obtain⟨x0,x1,x2,x3,x4,rfl,h0,h1,h2,h3,h4⟩:=h.get;rw[ZHd h0 h1 h2 h3 h4] at hs;simp only[decide_eq_true_eq] at hs;exact⟨_,_,_,_,_,rfl,⟨h0.1,hs.1⟩,⟨h1.1,hs.2.1⟩,⟨h2.1,hs.2.2.1⟩,⟨h3.1,hs.2.2.2.1⟩,⟨h4.1,hs.2.2.2.2⟩⟩
theorem slim2{R:Type}{a b:LI}(ha:L5 a)(hb:L5 b)(f:LI→LI→R)(Q:R→Prop)(h:∀ a' b',Sm a'→Sm b'→val a'%pF=val a%pF→val b'%pF=val b%pF→Q (f a' b')):
  Q (cond (!(ZaC a)) (f (Zaa a) (Zaa b)) (cond (!(ZaC b)) (f (Zaa a) (Zaa b)) (f a b))):=by
 have la:=Ze8 ha;have lb:=Ze8 hb;have hl:Q (f (Zaa a) (Zaa b)):=h _ _ la.1.sm lb.1.sm (by rw[la.2,Int.emod_emod_of_dvd _ (Int.dvd_refl _)]) (by rw[lb.2,Int.emod_emod_of_dvd _ (Int.dvd_refl _)]);cases h1:ZaC a
 ·exact hl
 ·cases h2:ZaC b
  ·exact hl
  ·exact h a b (Zyo ha h1) (Zyo hb h2) rfl rfl
theorem slim1{R:Type}{a:LI}(ha:L5 a)(f:LI→R)(Q:R→Prop)(h:∀ a',Sm a'→val a'%pF=val a%pF→Q (f a')):
  Q (cond (!(ZaC a)) (f (Zaa a)) (f a)):=by
 have la:=Ze8 ha;cases h1:ZaC a
 ·exact h _ la.1.sm (by rw[la.2,Int.emod_emod_of_dvd _ (Int.dvd_refl _)])
 ·exact h a (Zyo ha h1) rfl
theorem ZER{a b:LI}(ha:L5 a)(hb:L5 b):Can (Zbw a b)∧val (Zbw a b)=(val a+val b)%pF:=by
 refine slim2 ha hb (fun a b=>Zbj (ibin .add .u64 (List.getD a 0 0) (List.getD b 0 0)) (ibin .add .u64 (List.getD a 1 0) (List.getD b 1 0)) (ibin .add .u64 (List.getD a 2 0) (List.getD b 2 0)) (ibin .add .u64 (List.getD a 3 0) (List.getD b 3 0)) (ibin .add .u64 (List.getD a 4 0) (List.getD b 4 0)))
  (fun r=>Can r∧val r=(val a+val b)%pF) ?_
 intro a' b' sa sb va vb;obtain⟨x0,x1,x2,x3,x4,rfl,h0,h1,h2,h3,h4⟩:=sa;obtain⟨y0,y1,y2,y3,y4,rfl,k0,k1,k2,k3,k4⟩:=sb;simp only[List.getD_cons_zero,List.getD_cons_succ];have f:∀ x y:Int,0≤x∧x<M51→0≤y∧y<M51→ibin .add .u64 x y=x+y:=fun x y hx hy=>by simp only[u_add,M51] at*;omega
 rw[f _ _ h0 k0,f _ _ h1 k1,f _ _ h2 k2,f _ _ h3 k3,f _ _ h4 k4];have w:∀ x y:Int,0≤x∧x<M51→0≤y∧y<M51→W54 (x+y):=fun x y hx hy=>by simp only[W54,M51] at*;omega
 obtain⟨c,hc⟩:=Zv4 (w _ _ h0 k0) (w _ _ h1 k1) (w _ _ h2 k2) (w _ _ h3 k3) (w _ _ h4 k4);refine⟨c,?_⟩;rw[hc,show val [x0+y0,x1+y1,x2+y2,x3+y3,x4+y4]=val [x0,x1,x2,x3,x4]+val [y0,y1,y2,y3,y4] by simp only[val];omega,Int.add_emod,va,vb,← Int.add_emod]
theorem ZBY{a b:LI}(ha:L5 a)(hb:L5 b):Can (Za3 a b)∧val (Za3 a b)=(val a-val b)%pF:=by
 refine slim2 ha hb (fun a b=>Zbj (ibin .sub .u64 (ibin .add .u64 (List.getD a 0 0) 4503599627370458) (List.getD b 0 0)) (ibin .sub .u64 (ibin .add .u64 (List.getD a 1 0) 4503599627370494) (List.getD b 1 0)) (ibin .sub .u64 (ibin .add .u64 (List.getD a 2 0) 4503599627370494) (List.getD b 2 0)) (ibin .sub .u64 (ibin .add .u64 (List.getD a 3 0) 4503599627370494) (List.getD b 3 0)) (ibin .sub .u64 (ibin .add .u64 (List.getD a 4 0) 4503599627370494) (List.getD b 4 0)))
  (fun r=>Can r∧val r=(val a-val b)%pF) ?_
 intro a' b' sa sb va vb;obtain⟨x0,x1,x2,x3,x4,rfl,h0,h1,h2,h3,h4⟩:=sa;obtain⟨y0,y1,y2,y3,y4,rfl,k0,k1,k2,k3,k4⟩:=sb;simp only[List.getD_cons_zero,List.getD_cons_succ];have f:∀ x y c:Int,0≤x∧x<M51→0≤y∧y<M51→4503599627370458≤c∧c≤4503599627370494→ibin .sub .u64 (ibin .add .u64 x c) y=x+c-y:=fun x y c hx hy hc=>by simp only[u_add,u_sub,M51] at*;omega
 rw[f _ _ 4503599627370458 h0 k0 (by decide),f _ _ 4503599627370494 h1 k1 (by decide),f _ _ 4503599627370494 h2 k2 (by decide),f _ _ 4503599627370494 h3 k3 (by decide),f _ _ 4503599627370494 h4 k4 (by decide)];have w:∀ x y c:Int,0≤x∧x<M51→0≤y∧y<M51→4503599627370458≤c∧c≤4503599627370494→W54 (x+c-y):=fun x y c hx hy hc=>by simp only[W54,M51] at*;omega
 obtain⟨c,hc⟩:=Zv4 (w _ _ 4503599627370458 h0 k0 (by decide)) (w _ _ 4503599627370494 h1 k1 (by decide)) (w _ _ 4503599627370494 h2 k2 (by decide)) (w _ _ 4503599627370494 h3 k3 (by decide)) (w _ _ 4503599627370494 h4 k4 (by decide));refine⟨c,?_⟩;rw[hc,show val [x0+4503599627370458-y0,x1+4503599627370494-y1,x2+4503599627370494-y2,x3+4503599627370494-y3,x4+4503599627370494-y4]=val [x0,x1,x2,x3,x4]-val [y0,y1,y2,y3,y4]+pF*2 by simp only[val,pF];omega,Int.add_mul_emod_self_left,Int.sub_emod,va,vb,← Int.sub_emod]
theorem zeroL5:L5 [0,0,0,0,0]:=⟨rfl,by decide⟩
theorem ZIA:Can [0,0,0,0,0]:=⟨0,0,0,0,0,rfl,by decide,by decide,by decide,by decide,by decide,by decide⟩
theorem Zur{a:LI}(ha:L5 a):Can (Za4 a)∧val (Za4 a)=(- val a)%pF:=by
 unfold Za4;obtain⟨c,h⟩:=ZBY zeroL5 ha;refine⟨c,?_⟩;rw[h,show val [0,0,0,0,0]=0 from rfl,Int.zero_sub]
theorem Zuc{a:LI}(h:Can a):Zaa a=a:=by
 obtain⟨c,hv⟩:=Ze8 h.L5;refine c.inj h ?_;rw[hv,Int.emod_eq_of_lt h.nonneg.1 h.nonneg.2]
theorem ZD3{a:LI}(ha:L5 a):Zb1 a=decide (val a%pF=0):=by
 unfold Zb1;obtain⟨c,h⟩:=Ze8 ha;have:Zaa a=[0,0,0,0,0]↔val a%pF=0:=by
  constructor
  ·intro e;rw[← h,e];rfl
  ·intro e;exact c.inj ZIA (by rw[h,e];rfl)
 simp[this]
theorem ZI5{a:Int}(a0:0≤a)(a1:a<18446744073709551616):ibin .and .u64 a 1=a%2:=by
 rw[u_and a0 a1 (by decide) (by decide)];have:a.toNat &&& (2^1-1)=a.toNat%2^1:=Nat.and_two_pow_sub_one_eq_mod _ _;rw[show (1:Int).toNat=2^1-1 from rfl,this];omega
theorem ZDl{a:LI}(h:Can a):U (List.getD a 0 0)∧(List.getD a 0 0)%2=val a%2:=by
 obtain⟨x0,x1,x2,x3,x4,rfl,h0,h1,h2,h3,h4,-⟩:=h;simp only[List.getD_cons_zero,val,U,M51] at*
 omega
theorem ZBZ{a:LI}(ha:L5 a):Zaq a=decide (val a%pF%2=1):=by
 unfold Zaq;obtain⟨c,h⟩:=Ze8 ha;obtain⟨u,p⟩:=ZDl c;rw[ZI5 u.1 u.2,p,h];show (val a%pF%2==1)=_;rw[Bool.eq_iff_iff];simp
theorem ZES(a:Int):ibin .and .i64 a 1=a%2:=by
 show IntKind.wrap .i64 ((BitVec.ofInt 64 a &&& BitVec.ofInt 64 1).toNat:Int)=_;have e:(BitVec.ofInt 64 a &&& BitVec.ofInt 64 1).toNat=(a%2).toNat:=by
  rw[BitVec.toNat_and,BitVec.toNat_ofInt,show (BitVec.ofInt 64 1).toNat=2^1-1 from rfl,Nat.and_two_pow_sub_one_eq_mod];omega
 rw[e];simp only[IntKind.wrap,IntKind.signed,IntKind.bits];rcases Int.emod_two_eq a with h|h<;>rw[h]<;>decide
theorem ZB0{x:Int}(h:U x):x.toNat &&& 18446744073709551615=x.toNat:=by
 have:=Nat.and_two_pow_sub_one_eq_mod x.toNat 64;simp only[U] at h;rw[show (18446744073709551615:Nat)=2^64-1 from rfl,this];exact Nat.mod_eq_of_lt (by omega)
theorem ZFB(y:Int):ibin .andNot .u64 y 18446744073709551615=0:=by
 show IntKind.wrap .u64 ((BitVec.ofInt 64 y &&& ~~~(BitVec.ofInt 64 18446744073709551615)).toNat:Int)=0;rw[show ~~~(BitVec.ofInt 64 18446744073709551615)=0#64 from by decide];simp[wrap64]
theorem ZD4{y:Int}(h:U y):ibin .andNot .u64 y 0=y:=by
 show IntKind.wrap .u64 ((BitVec.ofInt 64 y &&& ~~~(BitVec.ofInt 64 0)).toNat:Int)=y;rw[show ~~~(BitVec.ofInt 64 0)=BitVec.allOnes 64 from by decide,BitVec.and_allOnes,ofInt64 h.1 h.2,wrap64];simp only[U] at h;omega
theorem Zr8{x y:Int}(hx:U x):ibin .or .u64 (ibin .and .u64 x 18446744073709551615) (ibin .andNot .u64 y 18446744073709551615)=x:=by
 rw[ZFB,u_and hx.1 hx.2 (by decide) (by decide),show (18446744073709551615:Int).toNat=18446744073709551615 from rfl,ZB0 hx];have hx':=hx;simp only[U] at hx';rw[u_or (by omega) (by omega) (by decide) (by decide)];simp;omega
theorem Zpf{x y:Int}(hx:U x)(hy:U y):ibin .or .u64 (ibin .and .u64 x 0) (ibin .andNot .u64 y 0)=y:=by
 rw[ZD4 hy,u_and hx.1 hx.2 (by decide) (by decide)];have hy':=hy;simp only[U] at hy';simp only[Int.toNat_zero,Nat.and_zero];rw[u_or (by decide) (by decide) hy.1 hy.2];simp;omega
theorem Zv5{pick:Int}{a b:LI}(ha:L5 a)(hb:L5 b):Zbb pick a b=if pick%2=1 then Zaa a else Zaa b:=by
 obtain⟨x0,x1,x2,x3,x4,rfl,h0,h1,h2,h3,h4⟩:=ha.get;obtain⟨y0,y1,y2,y3,y4,rfl,k0,k1,k2,k3,k4⟩:=hb.get;unfold Zbb;rw[ZES];simp only[List.getD_cons_zero,List.getD_cons_succ,List.set_cons_zero,List.set_cons_succ];rcases Int.emod_two_eq pick with h|h
 ·rw[h,show ineg .u64 (IntKind.wrap .u64 0)=0 from by decide];rw[Zpf h0 k0,Zpf h1 k1,Zpf h2 k2,Zpf h3 k3,Zpf h4 k4];simp
 ·rw[h,show ineg .u64 (IntKind.wrap .u64 1)=18446744073709551615 from by decide];rw[Zr8 h0,Zr8 h1,Zr8 h2,Zr8 h3,Zr8 h4];simp
theorem ZIB{a:LI}(ha:L5 a):Zas a=if val a%pF%2=1 then Za4 a else Zaa a:=by
 unfold Zas;obtain⟨c,h⟩:=Ze8 ha;obtain⟨u,p⟩:=ZDl c;rw[ZI5 u.1 u.2,p,h];have e:IntKind.wrap .i64 (val a%pF%2)=val a%pF%2:=by
  rcases Int.emod_two_eq (val a%pF) with h|h<;>rw[h]<;>decide
 rw[e,Zv5 (Zur ha).1.L5 ha,Int.emod_emod_of_dvd _ (Int.dvd_refl _),Zuc (Zur ha).1]
theorem ZD5{a:Int}(h:U a):ibin .and .u64 a 4294967295=a%4294967296:=by
 rw[u_and h.1 h.2 (by decide) (by decide)];have:a.toNat &&& (2^32-1)=a.toNat%2^32:=Nat.and_two_pow_sub_one_eq_mod _ _;rw[show (4294967295:Int).toNat=2^32-1 from rfl,this];simp only[U] at h;omega
theorem ZDm{a b A B:Int}(a0:0≤a)(a1:a≤A)(b0:0≤b)(b1:b≤B):0≤a*b∧a*b≤A*B:=
 ⟨Int.mul_nonneg a0 b0,Int.mul_le_mul a1 b1 b0 (Int.le_trans a0 a1)⟩
theorem Zyp{a b:Int}(ha:U a)(hb:U b):ZgT a b=(a*b/18446744073709551616,a*b%18446744073709551616):=by
 unfold ZgT;have s32:∀ y:Int,ibin .shr .u64 y 32=y/4294967296:=fun y=>u_shr 32 (by decide)
 simp only[ZD5 ha,ZD5 hb,s32,u_mul,u_add];have ea:a=4294967296*(a/4294967296)+a%4294967296:=by omega
 have eb:b=4294967296*(b/4294967296)+b%4294967296:=by omega
 have p:a*b=18446744073709551616*(a/4294967296*(b/4294967296))+4294967296*(a/4294967296*(b%4294967296))+4294967296*(a%4294967296*(b/4294967296))+a%4294967296*(b%4294967296):=by
  conv=>lhs;rw[ea,eb]
  generalize a/4294967296=a1;generalize a%4294967296=a0;generalize b/4294967296=b1;generalize b%4294967296=b0
  grind
 have ha1:0≤a/4294967296∧a/4294967296≤4294967295:=by simp only[U] at ha;omega
 have ha0:0≤a%4294967296∧a%4294967296≤4294967295:=by omega
 have hb1:0≤b/4294967296∧b/4294967296≤4294967295:=by simp only[U] at hb;omega
 have hb0:0≤b%4294967296∧b%4294967296≤4294967295:=by omega
 have q11:=ZDm ha1.1 ha1.2 hb1.1 hb1.2;have q10:=ZDm ha1.1 ha1.2 hb0.1 hb0.2;have q01:=ZDm ha0.1 ha0.2 hb1.1 hb1.2;have q00:=ZDm ha0.1 ha0.2 hb0.1 hb0.2;rw[p];generalize a/4294967296*(b/4294967296)=h at*
 generalize a/4294967296*(b%4294967296)=m at*
 generalize a%4294967296*(b/4294967296)=n at*
 generalize a%4294967296*(b%4294967296)=l at*
 clear p ea eb ha hb ha1 ha0 hb1 hb0;have e1:(m%18446744073709551616+l%18446744073709551616/4294967296)%18446744073709551616=m+l/4294967296:=by omega
 rw[e1];have u1:U (m+l/4294967296):=by simp only[U];omega
 rw[ZD5 u1];refine Prod.ext ?_ rfl;simp only;omega
def dv(d:Int×Int):Int:=d.1*18446744073709551616+d.2
def U2(d:Int×Int):Prop:=U d.1∧U d.2
theorem Zr9{d:Int×Int}{a b:Int}(hd:U2 d)(ha:U a)(hb:U b)(h:dv d+a*b<340282366920938463463374607431768211456):
  ∃ r,Zab (d.1,d.2) a b=some r∧U2 r∧dv r=dv d+a*b:=by
 unfold Zab;rw[Zyp ha hb];have hp:0≤a*b:=Int.mul_nonneg ha.1 hb.1;generalize a*b=q at*
 obtain⟨hi,lo⟩:=d;obtain⟨h1,h2⟩:=hd;simp only[dv,U] at*
 unfold Zec;simp only[Int.add_zero];have c0:decide ((0:Int)≤1)=true:=by decide
 have c1:decide ((lo+q%18446744073709551616)/18446744073709551616≤1)=true:=by simp only[decide_eq_true_eq];omega
 simp only[c0,cond_true,mo,c1];refine⟨_,rfl,?_,?_⟩
 ·simp only[U2,U];omega
 ·simp only[dv];omega
theorem Zsa{d:Int×Int}(hd:U2 d)(h:dv d<41538374868278621028243970633760768):ZbZ (d.1,d.2)=dv d/2251799813685248:=by
 unfold ZbZ;obtain⟨hi,lo⟩:=d;obtain⟨h1,h2⟩:=hd;simp only[dv,U] at*
 have e1:ibin .shl .u64 hi 13=hi*8192:=by
  have:=u_shl (a:=hi) 13 (by decide);rw[show ((13:Nat):Int)=13 from rfl] at this;rw[this];omega
 rw[e1,ZgE,u_or (by omega) (by omega) (by omega) (by omega)];have e2:(hi*8192).toNat ||| (lo/2251799813685248).toNat=(hi*8192).toNat+(lo/2251799813685248).toNat:=by
  have:=Nat.shiftLeft_add_eq_or_of_lt (a:=hi.toNat) (b:=(lo/2251799813685248).toNat) (i:=13) (by omega);rw[Nat.shiftLeft_eq] at this;rw[show (hi*8192).toNat=hi.toNat*2^13 by omega];exact this.symm
 rw[e2];omega
theorem Zus{d:Int×Int}(hd:U2 d):ibin .and .u64 d.2 2251799813685247=dv d%2251799813685248:=by
 rw[Zlu hd.2.1 hd.2.2];simp only[dv];omega
theorem U2.nonneg{d:Int×Int}(hd:U2 d):0≤dv d:=by
 obtain⟨h1,h2⟩:=hd;simp only[dv,U] at*
 omega
theorem mod51(x:Int):0≤x%2251799813685248∧x%2251799813685248<2251799813685248:=by omega
theorem ZyN{a b c d e:Int×Int}(ha:U2 a)(hb:U2 b)(hc:U2 c)(hd:U2 d)(he:U2 e)(a1:dv a<5192296858534827628530496329220096)(b1:dv b<5192296858534827628530496329220096)(c1:dv c<5192296858534827628530496329220096)
  (d1:dv d<5192296858534827628530496329220096) (e1:dv e<5192296858534827628530496329220096):
  ∃ r,ZcL (a.1,a.2) (b.1,b.2) (c.1,c.2) (d.1,d.2) (e.1,e.2)=some r∧Can r∧val r=val [dv a,dv b,dv c,dv d,dv e]%pF:=by
 unfold ZcL;have a0:=ha.nonneg;have b0:=hb.nonneg;have c0:=hc.nonneg;have d0:=hd.nonneg;have e0:=he.nonneg;have uone:U 1:=by decide
 have o1:=Zsa ha (by omega);simp only[o1];obtain⟨r1,h1,u1,v1⟩:=Zr9 (a:=dv a/2251799813685248) (b:=1) hb (by simp only[U];omega) uone (by omega);simp only[h1,mo];have o2:=Zsa u1 (by omega);simp only[o2];obtain⟨r2,h2,u2,v2⟩:=Zr9 (a:=dv r1/2251799813685248) (b:=1) hc (by simp only[U];omega) uone (by omega);simp only[h2,mo];have o3:=Zsa u2 (by omega);simp only[o3];obtain⟨r3,h3,u3,v3⟩:=Zr9 (a:=dv r2/2251799813685248) (b:=1) hd (by simp only[U];omega) uone (by omega);simp only[h3,mo];have o4:=Zsa u3 (by omega);simp only[o4];obtain⟨r4,h4,u4,v4⟩:=Zr9 (a:=dv r3/2251799813685248) (b:=1) he (by simp only[U];omega) uone (by omega);simp only[h4,mo];have o5:=Zsa u4 (by omega);have lowa:=Zus ha;simp only[o5,lowa];have ua:U2 (0,dv a%2251799813685248):=by simp only[U2,U];omega
 have va:dv (0,dv a%2251799813685248)=dv a%2251799813685248:=by simp only[dv];omega
 obtain⟨r5,h5,u5,v5⟩:=Zr9 (d:=(0,dv a%2251799813685248)) (a:=dv r4/2251799813685248) (b:=19) ua (by simp only[U];omega) (by decide) (by rw[va];omega);rw[va] at v5;simp only at h5;simp only[h5,mo];have o6:=Zsa u5 (by omega);simp only[o6,Zus u1,Zus u2,Zus u3,Zus u4,Zus u5];have e6:ibin .add .u64 (dv r1%2251799813685248) (dv r5/2251799813685248)=dv r1%2251799813685248+dv r5/2251799813685248:=by
  rw[u_add];omega
 rw[e6];have w:∀ x:Int,W54 (x%2251799813685248):=fun x=>by simp only[W54];omega
 obtain⟨k1,k2⟩:=Zv4 (w (dv r5)) (b:=dv r1%2251799813685248+dv r5/2251799813685248) (by simp only[W54];omega) (w (dv r2)) (w (dv r3)) (w (dv r4));refine⟨_,rfl,k1,?_⟩;rw[k2];have:val [dv a,dv b,dv c,dv d,dv e]=val [dv r5%2251799813685248,dv r1%2251799813685248+dv r5/2251799813685248,dv r2%2251799813685248,dv r3%2251799813685248,dv r4%2251799813685248]+pF*(dv r4/2251799813685248):=by
  clear h1 h2 h3 h4 h5 o1 o2 o3 o4 o5 o6 k1 k2 e6 w lowa;simp only[val,pF];omega
 rw[this,Int.add_mul_emod_self_left]
def mulC(a:LI)(b:LI):Option (LI):=
 mo (Zab (0,0) (List.getD a 0 0) (List.getD b 0 0)) none fun r53=>
 mo (Zab (r53.1,r53.2) (ibin .mul .u64 19 (List.getD a 1 0)) (List.getD b 4 0)) none fun r54=>
 let x7:=(ibin .mul .u64 19 (List.getD a 2 0))
 mo (Zab (r54.1,r54.2) x7 (List.getD b 3 0)) none fun r55=>
 let x8:=(ibin .mul .u64 19 (List.getD a 3 0))
 mo (Zab (r55.1,r55.2) x8 (List.getD b 2 0)) none fun r56=>
 let x9:=(ibin .mul .u64 19 (List.getD a 4 0))
 mo (Zab (r56.1,r56.2) x9 (List.getD b 1 0)) none fun r57=>
 mo (Zab (0,0) (List.getD a 0 0) (List.getD b 1 0)) none fun r58=>
 mo (Zab (r58.1,r58.2) (List.getD a 1 0) (List.getD b 0 0)) none fun r59=>
 mo (Zab (r59.1,r59.2) x7 (List.getD b 4 0)) none fun r60=>
 mo (Zab (r60.1,r60.2) x8 (List.getD b 3 0)) none fun r61=>
 mo (Zab (r61.1,r61.2) x9 (List.getD b 2 0)) none fun r62=>
 mo (Zab (0,0) (List.getD a 0 0) (List.getD b 2 0)) none fun r63=>
 mo (Zab (r63.1,r63.2) (List.getD a 1 0) (List.getD b 1 0)) none fun r64=>
 mo (Zab (r64.1,r64.2) (List.getD a 2 0) (List.getD b 0 0)) none fun r65=>
 mo (Zab (r65.1,r65.2) x8 (List.getD b 4 0)) none fun r66=>
 mo (Zab (r66.1,r66.2) x9 (List.getD b 3 0)) none fun r67=>
 mo (Zab (0,0) (List.getD a 0 0) (List.getD b 3 0)) none fun r68=>
 mo (Zab (r68.1,r68.2) (List.getD a 1 0) (List.getD b 2 0)) none fun r69=>
 mo (Zab (r69.1,r69.2) (List.getD a 2 0) (List.getD b 1 0)) none fun r70=>
 mo (Zab (r70.1,r70.2) (List.getD a 3 0) (List.getD b 0 0)) none fun r71=>
 mo (Zab (r71.1,r71.2) x9 (List.getD b 4 0)) none fun r72=>
 mo (Zab (0,0) (List.getD a 0 0) (List.getD b 4 0)) none fun r73=>
 mo (Zab (r73.1,r73.2) (List.getD a 1 0) (List.getD b 3 0)) none fun r74=>
 mo (Zab (r74.1,r74.2) (List.getD a 2 0) (List.getD b 2 0)) none fun r75=>
 mo (Zab (r75.1,r75.2) (List.getD a 3 0) (List.getD b 1 0)) none fun r76=>
 mo (Zab (r76.1,r76.2) (List.getD a 4 0) (List.getD b 0 0)) none fun r77=>
 mo (ZcL (r57.1,r57.2) (r62.1,r62.2) (r67.1,r67.2) (r72.1,r72.2) (r77.1,r77.2)) none fun r78=>
 some r78
def sqC(a:LI):Option (LI):=
 mo (Zab (0,0) (List.getD a 0 0) (List.getD a 0 0)) none fun r17=>
 mo (Zab (r17.1,r17.2) (ibin .mul .u64 38 (List.getD a 1 0)) (List.getD a 4 0)) none fun r18=>
 let x5:=(ibin .mul .u64 38 (List.getD a 2 0))
 mo (Zab (r18.1,r18.2) x5 (List.getD a 3 0)) none fun r19=>
 let x6:=(ibin .mul .u64 2 (List.getD a 0 0))
 mo (Zab (0,0) x6 (List.getD a 1 0)) none fun r20=>
 mo (Zab (r20.1,r20.2) x5 (List.getD a 4 0)) none fun r21=>
 let x7:=(ibin .mul .u64 19 (List.getD a 3 0))
 mo (Zab (r21.1,r21.2) x7 (List.getD a 3 0)) none fun r22=>
 mo (Zab (0,0) x6 (List.getD a 2 0)) none fun r23=>
 mo (Zab (r23.1,r23.2) (List.getD a 1 0) (List.getD a 1 0)) none fun r24=>
 mo (Zab (r24.1,r24.2) (ibin .mul .u64 2 x7) (List.getD a 4 0)) none fun r25=>
 mo (Zab (0,0) x6 (List.getD a 3 0)) none fun r26=>
 let x8:=(ibin .mul .u64 2 (List.getD a 1 0))
 mo (Zab (r26.1,r26.2) x8 (List.getD a 2 0)) none fun r27=>
 mo (Zab (r27.1,r27.2) (ibin .mul .u64 19 (List.getD a 4 0)) (List.getD a 4 0)) none fun r28=>
 mo (Zab (0,0) x6 (List.getD a 4 0)) none fun r29=>
 mo (Zab (r29.1,r29.2) x8 (List.getD a 3 0)) none fun r30=>
 mo (Zab (r30.1,r30.2) (List.getD a 2 0) (List.getD a 2 0)) none fun r31=>
 mo (ZcL (r19.1,r19.2) (r22.1,r22.2) (r25.1,r25.2) (r28.1,r28.2) (r31.1,r31.2)) none fun r32=>
 some r32
theorem ZHe(a b:LI):Zad a b=cond (!(ZaC a)) (mulC (Zaa a) (Zaa b)) (cond (!(ZaC b)) (mulC (Zaa a) (Zaa b)) (mulC a b)):=rfl
theorem ZIC(a:LI):ZaB a=cond (!(ZaC a)) (sqC (Zaa a)) (sqC a):=rfl
theorem ZaF{d:Int×Int}{a b:Int}(n:Int)(hn:0≤n∧n≤10)(hd:U2 d)(hB:dv d≤n*324518553658426726783156020576256)(ha:0≤a∧a≤144115188075855872)(hb:0≤b∧b<M51):
  ∃ r,Zab (d.1,d.2) a b=some r∧U2 r∧dv r=dv d+a*b∧dv r≤(n+1)*324518553658426726783156020576256:=by
 have q:=ZDm ha.1 ha.2 hb.1 (Int.le_of_lt hb.2);have ua:U a:=by simp only[U];omega
 have ub:U b:=by simp only[U,M51] at*;omega
 obtain⟨r,h1,h2,h3⟩:=Zr9 hd ua ub (by simp only[M51] at*;omega);refine⟨r,h1,h2,h3,?_⟩;rw[h3];simp only[M51] at*
 omega
theorem zero2:U2 (0,0):=by simp[U2,U]
theorem zero2v:dv (0,0)=0:=rfl
theorem ZHf{x0 x1 x2 x3 x4 y0 y1 y2 y3 y4:Int}(hx0:0≤x0∧x0<M51)(hx1:0≤x1∧x1<M51)(hx2:0≤x2∧x2<M51)(hx3:0≤x3∧x3<M51)(hx4:0≤x4∧x4<M51)(hy0:0≤y0∧y0<M51)(hy1:0≤y1∧y1<M51)(hy2:0≤y2∧y2<M51)(hy3:0≤y3∧y3<M51)(hy4:0≤y4∧y4<M51):
  ∃ r,mulC [x0,x1,x2,x3,x4] [y0,y1,y2,y3,y4]=some r∧Can r∧val r=(val [x0,x1,x2,x3,x4]*val [y0,y1,y2,y3,y4])%pF:=by
 unfold mulC;simp only[List.getD_cons_zero,List.getD_cons_succ];have s0:ibin .mul .u64 19 x4=19*x4:=by rw[u_mul];simp only[M51] at*;omega
 have s1:ibin .mul .u64 19 x3=19*x3:=by rw[u_mul];simp only[M51] at*;omega
 have s2:ibin .mul .u64 19 x1=19*x1:=by rw[u_mul];simp only[M51] at*;omega
 have s3:ibin .mul .u64 19 x2=19*x2:=by rw[u_mul];simp only[M51] at*;omega
 simp only[s0,s1,s2,s3];obtain⟨r53,q53,u53,v53,b53⟩:=ZaF (d:=(0,0)) (a:=x0) (b:=y0) 0 (by decide) zero2 (by rw[zero2v];omega) (by have:=hx0;simp only[M51] at this;omega) hy0;simp only at q53;simp only[q53,mo];obtain⟨r54,q54,u54,v54,b54⟩:=ZaF (d:=r53) (a:=(19*x1)) (b:=y4) 1 (by decide) u53 (by simpa using b53) (by have:=hx1;simp only[M51] at this;omega) hy4;simp only[q54,mo];obtain⟨r55,q55,u55,v55,b55⟩:=ZaF (d:=r54) (a:=(19*x2)) (b:=y3) 2 (by decide) u54 (by simpa using b54) (by have:=hx2;simp only[M51] at this;omega) hy3;simp only[q55,mo];obtain⟨r56,q56,u56,v56,b56⟩:=ZaF (d:=r55) (a:=(19*x3)) (b:=y2) 3 (by decide) u55 (by simpa using b55) (by have:=hx3;simp only[M51] at this;omega) hy2;simp only[q56,mo];obtain⟨r57,q57,u57,v57,b57⟩:=ZaF (d:=r56) (a:=(19*x4)) (b:=y1) 4 (by decide) u56 (by simpa using b56) (by have:=hx4;simp only[M51] at this;omega) hy1;simp only[q57,mo];obtain⟨r58,q58,u58,v58,b58⟩:=ZaF (d:=(0,0)) (a:=x0) (b:=y1) 0 (by decide) zero2 (by rw[zero2v];omega) (by have:=hx0;simp only[M51] at this;omega) hy1;simp only at q58;simp only[q58,mo];obtain⟨r59,q59,u59,v59,b59⟩:=ZaF (d:=r58) (a:=x1) (b:=y0) 1 (by decide) u58 (by simpa using b58) (by have:=hx1;simp only[M51] at this;omega) hy0;simp only[q59,mo];obtain⟨r60,q60,u60,v60,b60⟩:=ZaF (d:=r59) (a:=(19*x2)) (b:=y4) 2 (by decide) u59 (by simpa using b59) (by have:=hx2;simp only[M51] at this;omega) hy4;simp only[q60,mo];obtain⟨r61,q61,u61,v61,b61⟩:=ZaF (d:=r60) (a:=(19*x3)) (b:=y3) 3 (by decide) u60 (by simpa using b60) (by have:=hx3;simp only[M51] at this;omega) hy3;simp only[q61,mo];obtain⟨r62,q62,u62,v62,b62⟩:=ZaF (d:=r61) (a:=(19*x4)) (b:=y2) 4 (by decide) u61 (by simpa using b61) (by have:=hx4;simp only[M51] at this;omega) hy2;simp only[q62,mo];obtain⟨r63,q63,u63,v63,b63⟩:=ZaF (d:=(0,0)) (a:=x0) (b:=y2) 0 (by decide) zero2 (by rw[zero2v];omega) (by have:=hx0;simp only[M51] at this;omega) hy2;simp only at q63;simp only[q63,mo];obtain⟨r64,q64,u64,v64,b64⟩:=ZaF (d:=r63) (a:=x1) (b:=y1) 1 (by decide) u63 (by simpa using b63) (by have:=hx1;simp only[M51] at this;omega) hy1;simp only[q64,mo];obtain⟨r65,q65,u65,v65,b65⟩:=ZaF (d:=r64) (a:=x2) (b:=y0) 2 (by decide) u64 (by simpa using b64) (by have:=hx2;simp only[M51] at this;omega) hy0;simp only[q65,mo];obtain⟨r66,q66,u66,v66,b66⟩:=ZaF (d:=r65) (a:=(19*x3)) (b:=y4) 3 (by decide) u65 (by simpa using b65) (by have:=hx3;simp only[M51] at this;omega) hy4;simp only[q66,mo];obtain⟨r67,q67,u67,v67,b67⟩:=ZaF (d:=r66) (a:=(19*x4)) (b:=y3) 4 (by decide) u66 (by simpa using b66) (by have:=hx4;simp only[M51] at this;omega) hy3;simp only[q67,mo];obtain⟨r68,q68,u68,v68,b68⟩:=ZaF (d:=(0,0)) (a:=x0) (b:=y3) 0 (by decide) zero2 (by rw[zero2v];omega) (by have:=hx0;simp only[M51] at this;omega) hy3;simp only at q68;simp only[q68,mo];obtain⟨r69,q69,u69,v69,b69⟩:=ZaF (d:=r68) (a:=x1) (b:=y2) 1 (by decide) u68 (by simpa using b68) (by have:=hx1;simp only[M51] at this;omega) hy2;simp only[q69,mo];obtain⟨r70,q70,u70,v70,b70⟩:=ZaF (d:=r69) (a:=x2) (b:=y1) 2 (by decide) u69 (by simpa using b69) (by have:=hx2;simp only[M51] at this;omega) hy1;simp only[q70,mo];obtain⟨r71,q71,u71,v71,b71⟩:=ZaF (d:=r70) (a:=x3) (b:=y0) 3 (by decide) u70 (by simpa using b70) (by have:=hx3;simp only[M51] at this;omega) hy0;simp only[q71,mo];obtain⟨r72,q72,u72,v72,b72⟩:=ZaF (d:=r71) (a:=(19*x4)) (b:=y4) 4 (by decide) u71 (by simpa using b71) (by have:=hx4;simp only[M51] at this;omega) hy4;simp only[q72,mo];obtain⟨r73,q73,u73,v73,b73⟩:=ZaF (d:=(0,0)) (a:=x0) (b:=y4) 0 (by decide) zero2 (by rw[zero2v];omega) (by have:=hx0;simp only[M51] at this;omega) hy4;simp only at q73;simp only[q73,mo];obtain⟨r74,q74,u74,v74,b74⟩:=ZaF (d:=r73) (a:=x1) (b:=y3) 1 (by decide) u73 (by simpa using b73) (by have:=hx1;simp only[M51] at this;omega) hy3;simp only[q74,mo];obtain⟨r75,q75,u75,v75,b75⟩:=ZaF (d:=r74) (a:=x2) (b:=y2) 2 (by decide) u74 (by simpa using b74) (by have:=hx2;simp only[M51] at this;omega) hy2;simp only[q75,mo];obtain⟨r76,q76,u76,v76,b76⟩:=ZaF (d:=r75) (a:=x3) (b:=y1) 3 (by decide) u75 (by simpa using b75) (by have:=hx3;simp only[M51] at this;omega) hy1;simp only[q76,mo];obtain⟨r77,q77,u77,v77,b77⟩:=ZaF (d:=r76) (a:=x4) (b:=y0) 4 (by decide) u76 (by simpa using b76) (by have:=hx4;simp only[M51] at this;omega) hy0;simp only[q77,mo];obtain⟨r,k1,k2,k3⟩:=ZyN u57 u62 u67 u72 u77 (by omega) (by omega) (by omega) (by omega) (by omega);simp only[k1,mo];refine⟨r,rfl,k2,?_⟩;rw[k3];have e:val [x0,x1,x2,x3,x4]*val [y0,y1,y2,y3,y4]=val [dv r57,dv r62,dv r67,dv r72,dv r77]+pF*(x1*y4*1+x2*y3*1+x2*y4*2251799813685248+x3*y2*1+x3*y3*2251799813685248+x3*y4*5070602400912917605986812821504+x4*y1*1+x4*y2*2251799813685248+x4*y3*5070602400912917605986812821504+x4*y4*11417981541647679048466287755595961091061972992):=by
  simp only[v53,v54,v55,v56,v57,v58,v59,v60,v61,v62,v63,v64,v65,v66,v67,v68,v69,v70,v71,v72,v73,v74,v75,v76,v77,zero2v,val,pF];clear k1 k2 k3 q53 q54 q55 q56 q57 q58 q59 q60 q61 q62 q63 q64 q65 q66 q67 q68 q69 q70 q71 q72 q73 q74 q75 q76 q77 b53 b54 b55 b56 b57 b58 b59 b60 b61 b62 b63 b64 b65 b66 b67 b68 b69 b70 b71 b72 b73 b74 b75 b76 b77 u53 u54 u55 u56 u57 u58 u59 u60 u61 u62 u63 u64 u65 u66 u67 u68 u69 u70 u71 u72 u73 u74 u75 u76 u77
  grind
 rw[e,Int.add_mul_emod_self_left]
theorem ZID{x0 x1 x2 x3 x4:Int}(hx0:0≤x0∧x0<M51)(hx1:0≤x1∧x1<M51)(hx2:0≤x2∧x2<M51)(hx3:0≤x3∧x3<M51)(hx4:0≤x4∧x4<M51):
  ∃ r,sqC [x0,x1,x2,x3,x4]=some r∧Can r∧val r=(val [x0,x1,x2,x3,x4]*val [x0,x1,x2,x3,x4])%pF:=by
 unfold sqC;simp only[List.getD_cons_zero,List.getD_cons_succ];have s0:ibin .mul .u64 38 x2=38*x2:=by rw[u_mul];simp only[M51] at*;omega
 have s1:ibin .mul .u64 2 x0=2*x0:=by rw[u_mul];simp only[M51] at*;omega
 have s2:ibin .mul .u64 2 x1=2*x1:=by rw[u_mul];simp only[M51] at*;omega
 have s3:ibin .mul .u64 38 x1=38*x1:=by rw[u_mul];simp only[M51] at*;omega
 have s4:ibin .mul .u64 19 x4=19*x4:=by rw[u_mul];simp only[M51] at*;omega
 have s5:ibin .mul .u64 19 x3=19*x3:=by rw[u_mul];simp only[M51] at*;omega
 have s6:ibin .mul .u64 2 (19*x3)=2*(19*x3):=by rw[u_mul];simp only[M51] at*;omega
 simp only[s0,s1,s2,s3,s4,s5,s6];obtain⟨r17,q17,u17,v17,b17⟩:=ZaF (d:=(0,0)) (a:=x0) (b:=x0) 0 (by decide) zero2 (by rw[zero2v];omega) (by have:=hx0;simp only[M51] at this;omega) hx0;simp only at q17;simp only[q17,mo];obtain⟨r18,q18,u18,v18,b18⟩:=ZaF (d:=r17) (a:=(38*x1)) (b:=x4) 1 (by decide) u17 (by simpa using b17) (by have:=hx1;simp only[M51] at this;omega) hx4;simp only[q18,mo];obtain⟨r19,q19,u19,v19,b19⟩:=ZaF (d:=r18) (a:=(38*x2)) (b:=x3) 2 (by decide) u18 (by simpa using b18) (by have:=hx2;simp only[M51] at this;omega) hx3;simp only[q19,mo];obtain⟨r20,q20,u20,v20,b20⟩:=ZaF (d:=(0,0)) (a:=(2*x0)) (b:=x1) 0 (by decide) zero2 (by rw[zero2v];omega) (by have:=hx0;simp only[M51] at this;omega) hx1;simp only at q20;simp only[q20,mo];obtain⟨r21,q21,u21,v21,b21⟩:=ZaF (d:=r20) (a:=(38*x2)) (b:=x4) 1 (by decide) u20 (by simpa using b20) (by have:=hx2;simp only[M51] at this;omega) hx4;simp only[q21,mo];obtain⟨r22,q22,u22,v22,b22⟩:=ZaF (d:=r21) (a:=(19*x3)) (b:=x3) 2 (by decide) u21 (by simpa using b21) (by have:=hx3;simp only[M51] at this;omega) hx3;simp only[q22,mo];obtain⟨r23,q23,u23,v23,b23⟩:=ZaF (d:=(0,0)) (a:=(2*x0)) (b:=x2) 0 (by decide) zero2 (by rw[zero2v];omega) (by have:=hx0;simp only[M51] at this;omega) hx2;simp only at q23;simp only[q23,mo];obtain⟨r24,q24,u24,v24,b24⟩:=ZaF (d:=r23) (a:=x1) (b:=x1) 1 (by decide) u23 (by simpa using b23) (by have:=hx1;simp only[M51] at this;omega) hx1;simp only[q24,mo];obtain⟨r25,q25,u25,v25,b25⟩:=ZaF (d:=r24) (a:=(2*(19*x3))) (b:=x4) 2 (by decide) u24 (by simpa using b24) (by have:=hx3;simp only[M51] at this;omega) hx4;simp only[q25,mo];obtain⟨r26,q26,u26,v26,b26⟩:=ZaF (d:=(0,0)) (a:=(2*x0)) (b:=x3) 0 (by decide) zero2 (by rw[zero2v];omega) (by have:=hx0;simp only[M51] at this;omega) hx3;simp only at q26;simp only[q26,mo];obtain⟨r27,q27,u27,v27,b27⟩:=ZaF (d:=r26) (a:=(2*x1)) (b:=x2) 1 (by decide) u26 (by simpa using b26) (by have:=hx1;simp only[M51] at this;omega) hx2;simp only[q27,mo];obtain⟨r28,q28,u28,v28,b28⟩:=ZaF (d:=r27) (a:=(19*x4)) (b:=x4) 2 (by decide) u27 (by simpa using b27) (by have:=hx4;simp only[M51] at this;omega) hx4;simp only[q28,mo];obtain⟨r29,q29,u29,v29,b29⟩:=ZaF (d:=(0,0)) (a:=(2*x0)) (b:=x4) 0 (by decide) zero2 (by rw[zero2v];omega) (by have:=hx0;simp only[M51] at this;omega) hx4;simp only at q29;simp only[q29,mo];obtain⟨r30,q30,u30,v30,b30⟩:=ZaF (d:=r29) (a:=(2*x1)) (b:=x3) 1 (by decide) u29 (by simpa using b29) (by have:=hx1;simp only[M51] at this;omega) hx3;simp only[q30,mo];obtain⟨r31,q31,u31,v31,b31⟩:=ZaF (d:=r30) (a:=x2) (b:=x2) 2 (by decide) u30 (by simpa using b30) (by have:=hx2;simp only[M51] at this;omega) hx2;simp only[q31,mo];obtain⟨r,k1,k2,k3⟩:=ZyN u19 u22 u25 u28 u31 (by omega) (by omega) (by omega) (by omega) (by omega);simp only[k1,mo];refine⟨r,rfl,k2,?_⟩;rw[k3];have e:val [x0,x1,x2,x3,x4]*val [x0,x1,x2,x3,x4]=val [dv r19,dv r22,dv r25,dv r28,dv r31]+pF*(x1*x4*1+x2*x3*1+x2*x4*2251799813685248+x3*x2*1+x3*x3*2251799813685248+x3*x4*5070602400912917605986812821504+x4*x1*1+x4*x2*2251799813685248+x4*x3*5070602400912917605986812821504+x4*x4*11417981541647679048466287755595961091061972992):=by
  simp only[v17,v18,v19,v20,v21,v22,v23,v24,v25,v26,v27,v28,v29,v30,v31,zero2v,val,pF];clear k1 k2 k3 q17 q18 q19 q20 q21 q22 q23 q24 q25 q26 q27 q28 q29 q30 q31 b17 b18 b19 b20 b21 b22 b23 b24 b25 b26 b27 b28 b29 b30 b31 u17 u18 u19 u20 u21 u22 u23 u24 u25 u26 u27 u28 u29 u30 u31
  grind
 rw[e,Int.add_mul_emod_self_left]
theorem ZB1{a b:LI}(ha:L5 a)(hb:L5 b):∃ r,Zad a b=some r∧Can r∧val r=(val a*val b)%pF:=by
 rw[ZHe];refine slim2 ha hb mulC (fun R=>∃ r,R=some r∧Can r∧val r=(val a*val b)%pF) ?_;intro a' b' sa sb va vb;obtain⟨x0,x1,x2,x3,x4,rfl,h0,h1,h2,h3,h4⟩:=sa;obtain⟨y0,y1,y2,y3,y4,rfl,k0,k1,k2,k3,k4⟩:=sb;obtain⟨r,e1,e2,e3⟩:=ZHf h0 h1 h2 h3 h4 k0 k1 k2 k3 k4;exact⟨r,e1,e2,by rw[e3,Int.mul_emod,va,vb,← Int.mul_emod]⟩
theorem ZD6{a:LI}(ha:L5 a):∃ r,ZaB a=some r∧Can r∧val r=(val a*val a)%pF:=by
 rw[ZIC];refine slim1 ha sqC (fun R=>∃ r,R=some r∧Can r∧val r=(val a*val a)%pF) ?_;intro a' sa va;obtain⟨x0,x1,x2,x3,x4,rfl,h0,h1,h2,h3,h4⟩:=sa;obtain⟨r,e1,e2,e3⟩:=ZID h0 h1 h2 h3 h4;exact⟨r,e1,e2,by rw[e3,Int.mul_emod,va,← Int.mul_emod]⟩
theorem neg_val{a:LI}(ha:L5 a):val (Za4 a)=if val a%pF=0 then 0 else pF-val a%pF:=by
 rw[(Zur ha).2];by_cases h:val a%pF=0
 ·rw[if_pos h,Int.emod_eq_zero_of_dvd];exact Int.dvd_neg.2 (Int.dvd_of_emod_eq_zero h)
 ·rw[if_neg h];have h1:0≤val a%pF:=Int.emod_nonneg _ (by decide);have h2:val a%pF<pF:=Int.emod_lt_of_pos _ ZA9;have h3: -val a=(pF-val a%pF)+pF*(-(val a/pF)-1):=by
   have:=Int.mul_ediv_add_emod (val a) pF;rw[Int.mul_sub,Int.mul_neg];omega
  rw[h3,Int.add_mul_emod_self_left,Int.emod_eq_of_lt (by omega) (by omega)]
theorem Zud(a b n:Int):(a%n*b)%n=(a*b)%n:=by rw[Int.mul_emod,Int.emod_emod_of_dvd _ (Int.dvd_refl n),← Int.mul_emod]
theorem Zxo(a b n:Int):(a*(b%n))%n=(a*b)%n:=by rw[Int.mul_emod,Int.emod_emod_of_dvd _ (Int.dvd_refl n),← Int.mul_emod]
theorem mod_mod(a n:Int):a%n%n=a%n:=Int.emod_emod_of_dvd _ (Int.dvd_refl n)
theorem pow_mod(a n:Int):(e:Nat)→(a%n)^e%n=a^e%n
 |0=>by simp
 |e+1=>by rw[Int.pow_succ,Int.pow_succ,Zxo,← Zud,pow_mod a n e,Zud]
def PowOf(x:Int)(e:Nat)(r:LI):Prop:=Can r∧val r=x^e%pF
theorem PowOf.mul{x:Int}{e f:Nat}{r s:LI}(hr:PowOf x e r)(hs:PowOf x f s):∃ t,Zad r s=some t∧PowOf x (e+f) t:=by
 obtain⟨t,h1,h2,h3⟩:=ZB1 hr.1.L5 hs.1.L5;exact⟨t,h1,h2,by rw[h3,hr.2,hs.2,Zud,Zxo,Int.pow_add]⟩
theorem PowOf.mulr{x:Int}{e:Nat}{r a:LI}(hr:PowOf x e r)(ha:L5 a)(hx:val a=x):∃ t,Zad r a=some t∧PowOf x (e+1) t:=by
 obtain⟨t,h1,h2,h3⟩:=ZB1 hr.1.L5 ha;exact⟨t,h1,h2,by rw[h3,hr.2,hx,Zud,Int.pow_succ]⟩
theorem PowOf.sq{x:Int}{e:Nat}{r:LI}(hr:PowOf x e r):∃ t,ZaB r=some t∧PowOf x (2*e) t:=by
 obtain⟨t,h1,h2,h3⟩:=ZD6 hr.1.L5;exact⟨t,h1,h2,by rw[h3,hr.2,Zud,Zxo,Nat.two_mul,Int.pow_add]⟩
theorem wrapi64{n:Int}(h0:0≤n)(h1:n≤9223372036854775807):IntKind.wrap .i64 n=n:=by
 simp[IntKind.wrap,IntKind.signed,IntKind.bits];split<;>omega
theorem ZyO{x:Int}(N:Nat)(b:Int)(hb:b≤1000):(k:Nat)→(fuel:Nat)→k<fuel→(i:Int)→0≤i→i+k=b→(e:Nat)→(r:LI)→PowOf x e r→
  ∃ t,loopF (Zbk N) fuel (((),(),b,i),(r,()))=some (.inl (((),()),(t,())))∧PowOf x (e*2^k) t
 |0,fuel+1,_,i,h0,hi,e,r,hr=>by
  refine⟨r,?_,by simpa using hr⟩;rw[Zeg];have:icmp .lss i b=false:=by simp[icmp];omega
  simp only[Zbk,this,cond_false,mo]
 |k+1,fuel+1,hf,i,h0,hi,e,r,hr=>by
  obtain⟨t,h1,h2⟩:=hr.sq;have hlt:icmp .lss i b=true:=by simp[icmp];omega
  have hadd:ibin .add .i64 i 1=i+1:=wrapi64 (n:=i+1) (by omega) (by omega);obtain⟨u,h3,h4⟩:=ZyO N b hb k fuel (by omega) (i+1) (by omega) (by omega) (2*e) t h2;refine⟨u,?_,by rw[Nat.pow_succ,Nat.mul_comm (2^k) 2,← Nat.mul_assoc,Nat.mul_comm e 2];exact h4⟩;rw[Zeg];simp only[Zbk,hlt,cond_true,h1,mo,hadd];exact h3
theorem Zeb{x:Int}{e:Nat}{r:LI}(hr:PowOf x e r)(k:Nat)(hk:k<300):∃ t,Zap 300 r (k:Int)=some t∧PowOf x (e*2^k) t:=by
 obtain⟨t,h1,h2⟩:=ZyO (x:=x) 300 (k:Int) (by omega) k 300 hk 0 (by decide) (by omega) e r hr;refine⟨t,?_,h2⟩;unfold Zap;rw[h1];rfl
theorem PowOf.cast{x:Int}{e f:Nat}{r:LI}(h:PowOf x e r)(hf:e=f):PowOf x f r:=hf▸h
theorem ZDn{a:LI}(ha:L5 a):∃ r s,ZcM 300 a=some (r,s)∧PowOf (val a) 1809251394333065553493296640760748560207343510400633813116524750123642650623 r∧PowOf (val a) 11 s:=by
 unfold ZcM;obtain⟨r1,h1,c1,v1⟩:=ZD6 ha;have p1:PowOf (val a) 2 r1:=⟨c1,by rw[v1,Int.pow_succ,Int.pow_succ,Int.pow_zero,Int.one_mul]⟩;obtain⟨r2,h2,p2⟩:=Zeb p1 2 (by decide);obtain⟨r3,h3,p3⟩:=p2.mulr ha rfl;replace p3:=p3.cast (f:=9) (by decide);obtain⟨r4,h4,p4⟩:=p3.mul p1;replace p4:=p4.cast (f:=11) (by decide);obtain⟨r5,h5,p5⟩:=p4.sq;obtain⟨r6,h6,p6⟩:=p5.mul p3;replace p6:=p6.cast (f:=31) (by decide);obtain⟨r7,h7,p7⟩:=Zeb p6 5 (by decide);obtain⟨r8,h8,p8⟩:=p7.mul p6;replace p8:=p8.cast (f:=1023) (by decide);obtain⟨r9,h9,p9⟩:=Zeb p8 10 (by decide);obtain⟨r10,h10,p10⟩:=p9.mul p8;replace p10:=p10.cast (f:=1048575) (by decide);obtain⟨r11,h11,p11⟩:=Zeb p10 20 (by decide);obtain⟨r12,h12,p12⟩:=p11.mul p10;replace p12:=p12.cast (f:=1099511627775) (by decide);obtain⟨r13,h13,p13⟩:=Zeb p12 10 (by decide);obtain⟨r14,h14,p14⟩:=p13.mul p8;replace p14:=p14.cast (f:=1125899906842623) (by decide);obtain⟨r15,h15,p15⟩:=Zeb p14 50 (by decide);obtain⟨r16,h16,p16⟩:=p15.mul p14;replace p16:=p16.cast (f:=1267650600228229401496703205375) (by decide);obtain⟨r17,h17,p17⟩:=Zeb p16 100 (by decide);obtain⟨r18,h18,p18⟩:=p17.mul p16;replace p18:=p18.cast (f:=1606938044258990275541962092341162602522202993782792835301375) (by decide);obtain⟨r19,h19,p19⟩:=Zeb p18 50 (by decide);obtain⟨r20,h20,p20⟩:=p19.mul p14;replace p20:=p20.cast (f:=1809251394333065553493296640760748560207343510400633813116524750123642650623) (by decide);refine⟨r20,r4,?_,p20,p4⟩;simp only[h1,h3,h4,h5,h6,h8,h10,h12,h14,h16,h18,h20,mo,show Zap 300 r1 2=some r2 from h2,show Zap 300 r6 5=some r7 from h7,show Zap 300 r8 10=some r9 from h9,
  show Zap 300 r10 20=some r11 from h11,show Zap 300 r12 10=some r13 from h13,show Zap 300 r14 50=some r15 from h15,show Zap 300 r16 100=some r17 from h17,show Zap 300 r18 50=some r19 from h19]
def eInv:Nat:=57896044618658097711785492504343953926634992332820282019728792003956564819947
theorem ZAj{a:LI}(ha:L5 a):∃ r,Zce 300 a=some r∧PowOf (val a) eInv r:=by
 unfold Zce;obtain⟨r,s,h1,p1,p2⟩:=ZDn ha;obtain⟨t,h2,p3⟩:=Zeb p1 5 (by decide);obtain⟨u,h3,p4⟩:=p3.mul p2;refine⟨u,?_,p4.cast (by decide)⟩;simp only[h1,mo,show Zap 300 r 5=some t from h2,h3]
theorem fermat(x:Int)(h:x%pF≠0):x^(eInv+1)%pF=1:=by
 have key:∀ (e:Nat) (n:Nat),((n:Int)^e)%(57896044618658097711785492504343953926634992332820282019728792003956564819949:Nat)=((n^e%57896044618658097711785492504343953926634992332820282019728792003956564819949:Nat):Int):=fun e n=>by
  rw[← Int.natCast_pow,← Int.natCast_emod]
 have h0:0≤x%pF:=Int.emod_nonneg _ (by decide);have hn:x%pF=((x%pF).toNat:Int):=by omega
 rw[← pow_mod,hn];have h1:(x%pF).toNat%57896044618658097711785492504343953926634992332820282019728792003956564819949≠0:=by
  have:=Int.emod_lt_of_pos x ZA9;simp only[pF] at*
  omega
 have h2:=luc_F.2 _ h1;have h3:=key (eInv+1) (x%pF).toNat;rw[show eInv+1=57896044618658097711785492504343953926634992332820282019728792003956564819949-1 from rfl,h2] at h3;exact h3
theorem inv_mul(x:Int)(h:x%pF≠0):x*(x^eInv%pF)%pF=1:=by
 rw[Zxo,Int.mul_comm,← Int.pow_succ];exact fermat x h
theorem Zyq:Can [1,0,0,0,0]:=⟨1,0,0,0,0,rfl,by decide,by decide,by decide,by decide,by decide,by decide⟩
def kv(a:LI):K:=K.of (val a)
theorem kv_of{r:LI}{x:Int}(h:val r=x%pF):kv r=K.of x:=by unfold kv;rw[h,K.of_mod]
theorem can_k{a b:LI}(ha:Can a)(hb:Can b)(h:kv a=kv b):a=b:=by
 refine ha.inj hb ?_;have h1:=K.of_eq.1 h
 rwa [Int.emod_eq_of_lt ha.nonneg.1 ha.nonneg.2,Int.emod_eq_of_lt hb.nonneg.1 hb.nonneg.2] at h1
theorem mul_k{a b:LI}(ha:L5 a)(hb:L5 b):∃ r,Zad a b=some r∧Can r∧kv r=kv a*kv b:=by
 obtain⟨r,h1,h2,h3⟩:=ZB1 ha hb;exact⟨r,h1,h2,by rw[kv_of h3,K.of_mul];rfl⟩
theorem sq_k{a:LI}(ha:L5 a):∃ r,ZaB a=some r∧Can r∧kv r=kv a*kv a:=by
 obtain⟨r,h1,h2,h3⟩:=ZD6 ha;exact⟨r,h1,h2,by rw[kv_of h3,K.of_mul];rfl⟩
theorem ZB2{a:LI}(ha:L5 a):Can (Zaa a)∧kv (Zaa a)=kv a:=⟨(Ze8 ha).1,kv_of (Ze8 ha).2⟩
theorem neg_k{a:LI}(ha:L5 a):Can (Za4 a)∧kv (Za4 a)= -kv a:=⟨(Zur ha).1,by rw[kv_of (Zur ha).2,K.of_neg];rfl⟩
theorem add_k{a b:LI}(ha:L5 a)(hb:L5 b):Can (Zbw a b)∧kv (Zbw a b)=kv a+kv b:=⟨(ZER ha hb).1,by rw[kv_of (ZER ha hb).2,K.of_add];rfl⟩
theorem sub_k{a b:LI}(ha:L5 a)(hb:L5 b):Can (Za3 a b)∧kv (Za3 a b)=kv a-kv b:=⟨(ZBY ha hb).1,by rw[kv_of (ZBY ha hb).2,K.of_sub];rfl⟩
theorem pow_k{a r:LI}{e:Nat}(h:PowOf (val a) e r):kv r=kv a^e:=by rw[kv_of h.2,K.of_pow];rfl
theorem root_k{a:LI}(ha:L5 a):∃ r,Zc7 300 a=some r∧Can r∧kv r=kv a^eR:=by
 unfold Zc7;obtain⟨r,s,h1,p1,-⟩:=ZDn ha;obtain⟨t,h2,p2⟩:=Zeb p1 2 (by decide);obtain⟨u,h3,p3⟩:=p2.mulr ha rfl;replace p3:=p3.cast (f:=eR) (by decide);refine⟨u,?_,p3.1,pow_k p3⟩;simp only[h1,mo,show Zap 300 r 2=some t from h2,h3]
theorem ZET{a:LI}(ha:L5 a):Zb1 a=true↔kv a=0:=by
 rw[ZD3 ha,decide_eq_true_eq,show (0:K)=K.of 0 from rfl];exact⟨fun h=>K.of_eq.2 (by rw[h];rfl),fun h=>by have:=K.of_eq.1 h;rw[this];rfl⟩
theorem abs_k{a:LI}(ha:L5 a):Can (Zas a)∧val (Zas a)%2=0∧(kv (Zas a)=kv a∨kv (Zas a)= -kv a):=by
 have hn:=Zur ha;have hl:=Ze8 ha;have v0:0≤val a%pF:=Int.emod_nonneg _ (by decide);have v1:val a%pF<pF:=Int.emod_lt_of_pos _ ZA9;rw[ZIB ha];split
 ·rename_i h;refine⟨hn.1,?_,.inr (neg_k ha).2⟩;rw[neg_val ha,if_neg (by omega)];simp only[pF] at*
  omega
 ·rename_i h;refine⟨hl.1,?_,.inl (ZB2 ha).2⟩;rw[hl.2];omega
theorem Zzn:Can (ZcA 1):=⟨_,_,_,_,_,rfl,by decide,by decide,by decide,by decide,by decide,by decide⟩
theorem ZI6:kv (ZcA 1)=kI:=by
 unfold kv kI;rfl
theorem sqrt_k{a b:LI}(ha:L5 a)(hb:L5 b):∃ r ok,ZbT 300 a b=some (r,ok)∧Can r∧val r%2=0∧
  (kv a=0→ok=true∧kv r=0)∧(kv a≠0→kv b=0→ok=false∧kv r=0)∧
  (kv a≠0→kv b≠0→(ok=true↔(kv a*kv b^7)^eQ=1∨(kv a*kv b^7)^eQ= -1)∧(ok=true→kv b*kv r^2=kv a)∧(ok=false→kv b*kv r^2=kv a*kI)):=by
 unfold ZbT;obtain⟨r1,h1,c1,e1⟩:=sq_k hb;obtain⟨r2,h2,c2,e2⟩:=mul_k c1.L5 hb;obtain⟨r3,h3,c3,e3⟩:=sq_k c2.L5;obtain⟨r4,h4,c4,e4⟩:=mul_k c3.L5 hb;have l:=ZB2 ha;obtain⟨r5,h5,c5,e5⟩:=mul_k l.1.L5 c2.L5;obtain⟨r6,h6,c6,e6⟩:=mul_k l.1.L5 c4.L5;obtain⟨r7,h7,c7,e7⟩:=root_k c6.L5;obtain⟨r8,h8,c8,e8⟩:=mul_k c5.L5 c7.L5;obtain⟨r9,h9,c9,e9⟩:=sq_k c8.L5;obtain⟨r10,h10,c10,e10⟩:=mul_k hb c9.L5;have n:=neg_k l.1.L5;obtain⟨r11,h11,c11,e11⟩:=mul_k c8.L5 Zzn.L5;obtain⟨r12,h12,c12,e12⟩:=mul_k n.1.L5 Zzn.L5;rw[ZI6] at e11 e12;simp only[h1,h2,h3,h4,h5,h6,h7,h8,h9,h10,h11,h12,mo];have l1:=(ZB2 ha).1;have lk:=(ZB2 ha).2;have nk:=n.2;rw[lk] at nk e5 e6;have d1:(r10=Za4 (Zaa a))↔kv r10= -kv a:=⟨fun h=>by rw[h,nk],fun h=>can_k c10 n.1 (by rw[h,nk])⟩;have d2:(r10=Zaa a)↔kv r10=kv a:=⟨fun h=>by rw[h,lk],fun h=>can_k c10 l1 (by rw[h,lk])⟩;have d3:(r10=r12)↔kv r10= -kv a*kI:=⟨fun h=>by rw[h,e12,nk],fun h=>can_k c10 c12 (by rw[h,e12,nk])⟩;have a11:=abs_k c11.L5;have a8:=abs_k c8.L5;have hw:=fun h1 h2=>K.quarter (K.mul_ne (a:=kv a) (b:=kv b^7) h1 (K.pow_ne h2 7))
 have hr:=K.ratio (kv a) (kv b);have es:kv r8=(kv a*kv b^3)*(kv a*kv b^7)^eR:=by
  have q1:kv r5=kv a*kv b^3:=by rw[e5,e2,e1];grind
  have q2:kv r6=kv a*kv b^7:=by rw[e6,e4,e3,e2,e1];grind
  rw[e8,e7,q1,q2]
 rw[← es] at hr;have ec:kv r10=kv b*kv r8^2:=by rw[e10,e9];grind
 rw[← ec] at hr;have hi:=kI_sq;have one:=K.one_ne;have two:=K.two_ne;generalize (kv a*kv b^7)^eQ=w at*
 generalize (kv a*kv b^7)^eR=t at*
 generalize hu:kv a=u at*
 generalize hv:kv b=v at*
 generalize hs:kv r8=s at*
 generalize hc:kv r10=c at*
 
 have sq11:kv (Zas r11)^2=s^2* -1:=by rcases a11.2.2 with h|h<;>rw[h,e11]<;>grind
 have sq8:kv (Zas r8)^2=s^2:=by rcases a8.2.2 with h|h<;>rw[h]<;>grind
 have z11:s=0→kv (Zas r11)=0:=fun h0=>by rcases a11.2.2 with h|h<;>rw[h,e11,h0]<;>grind
 have z8:s=0→kv (Zas r8)=0:=fun h0=>by rcases a8.2.2 with h|h<;>rw[h]<;>grind
 have zs:u=0→s=0:=fun h0=>by rw[es,h0];grind
 have zs2:v=0→s=0:=fun h0=>by rw[es,h0];grind
 have ine:kI≠0:=fun h=>by rw[h] at hi;exact one (by grind)
 have cancel:∀ {x y:K},u≠0→u*x=u*y→x=y:=fun {x y} h0 h=>by
  have:u*(x-y)=0:=by grind
  rcases K.mul_zero' this with h1|h1
  ·exact absurd h1 h0
  ·grind
 have i1:kI≠1:=fun h=>by rw[h] at hi;exact two (by grind)
 have i2:kI≠ -1:=fun h=>by rw[h] at hi;exact two (by grind)
 have o2:(1:K)≠ -1:=fun h=>two (by grind)
 by_cases hd1:c= -u
 ·refine⟨Zas r11,true,?_,a11.1,a11.2.1,fun h0=>⟨rfl,z11 (zs h0)⟩,fun h0 h1=>?_,fun h0 h1=>⟨?_,fun _=>?_,fun h=>by simp at h⟩⟩
  ·rw[decide_eq_true (d1.2 hd1)];cases decide (r10=Zaa a)<;>rfl
  ·exfalso;refine h0 ?_;have:c=0:=by rw[ec,h1];grind
   grind
  ·refine⟨fun _=>.inr (cancel h0 (by grind)),fun _=>rfl⟩
  ·rw[sq11];grind
 ·by_cases hd3:c= -u*kI
  ·have hk:decide (r10=Zaa a)=true→u=0:=fun h=>by
    have h1:=d2.1 (of_decide_eq_true h);refine Classical.byContradiction fun h0=>?_
    have:kI= -1:=cancel h0 (by grind);exact i2 this
   have u0:u≠0:=fun h0=>hd1 (by rw[ec,zs h0,h0];grind)
   have d2f:decide (r10=Zaa a)=false:=by
    cases hq:decide (r10=Zaa a)
    ·rfl
    ·exact absurd (hk hq) u0
   refine⟨Zas r11,false,?_,a11.1,a11.2.1,fun h0=>absurd h0 u0,fun h0 h1=>⟨rfl,z11 (zs2 h1)⟩,fun h0 h1=>⟨?_,fun h=>by simp at h,fun _=>?_⟩⟩
   ·rw[decide_eq_false (fun h=>hd1 (d1.1 h)),decide_eq_true (d3.2 hd3),d2f];rfl
   ·refine⟨fun h=>by simp at h,fun h=>?_⟩;exfalso;have hwk:w= -kI:=cancel h0 (by grind);rcases h with h|h
    ·exact i2 (by grind)
    ·exact i1 (by grind)
   ·rw[sq11];grind
  ·have u0:u≠0:=fun h0=>hd1 (by rw[ec,zs h0,h0];grind)
   by_cases hd2:c=u
   ·refine⟨Zas r8,true,?_,a8.1,a8.2.1,fun h0=>absurd h0 u0,fun h0 h1=>?_,fun h0 h1=>⟨⟨fun _=>.inl (cancel h0 (by grind)),fun _=>rfl⟩,fun _=>?_,fun h=>by simp at h⟩⟩
    ·rw[decide_eq_false (fun h=>hd1 (d1.1 h)),decide_eq_false (fun h=>hd3 (d3.1 h)),decide_eq_true (d2.2 hd2)];rfl
    ·exfalso;refine h0 ?_;have:c=0:=by rw[ec,h1];grind
     grind
    ·rw[sq8];grind
   ·refine⟨Zas r8,false,?_,a8.1,a8.2.1,fun h0=>absurd h0 u0,fun h0 h1=>⟨rfl,z8 (zs2 h1)⟩,fun h0 h1=>⟨?_,fun h=>by simp at h,fun _=>?_⟩⟩
    ·rw[decide_eq_false (fun h=>hd1 (d1.1 h)),decide_eq_false (fun h=>hd3 (d3.1 h)),decide_eq_false (fun h=>hd2 (d2.1 h))];rfl
    ·refine⟨fun h=>by simp at h,fun h=>?_⟩;exfalso;rcases h with h|h
     ·exact hd2 (by grind)
     ·exact hd1 (by grind)
    ·rw[sq8];rcases hw h0 h1 with h|h|h|h
     ·exact absurd (show c=u by grind) hd2
     ·exact absurd (show c= -u by grind) hd1
     ·grind
     ·exact absurd (show c= -u*kI by grind) hd3
theorem K.half{a:K}(h:a≠0):(a^2)^eQ=1∨(a^2)^eQ= -1:=by
 have e:(a^2)^eQ=(a^eQ)^2:=by rw[← K.pow_mul,← K.pow_mul,Nat.mul_comm]
 rw[e];have hi:=kI_sq;rcases K.quarter h with h|h|h|h<;>rw[h]
 ·left;grind
 ·left;grind
 ·right;grind
 ·right;grind
theorem kI_eQ:kI^eQ= -kI:=by
 have h4:kI^4=1:=by have:=kI_sq;grind
 have e:eQ=4*3618502788666131106986593281521497120414687020801267626233049500247285301246+3:=rfl;rw[e,K.pow_add,K.pow_mul,h4];have one:∀ n:Nat,(1:K)^n=1:=fun n=>by
  rw[show (1:K)=K.of 1 from rfl,← K.of_pow,Int.one_pow]
 rw[one];have:=kI_sq
 grind
theorem ZIE{a:LI}(ha:L5 a)(h:kv a≠0):Zb1 a=false:=by
 cases hq:Zb1 a
 ·rfl
 ·exact absurd ((ZET ha).1 hq) h
def numB:LI→Nat
 | []=>0
 |x::l=>x.toNat+256*numB l
def Bs(l:LI):Prop:=∀ x∈l,0≤x∧x≤255
theorem b_bit{y:Int}(h:0≤y∧y≤255)(k:Nat)(hk:k≤8):ibin .and .u8 (ibin .shr .u8 y (k:Int)) 1=((y.toNat/2^k%2:Nat):Int):=by
 have e1:ibin .shr .u8 y (k:Int)=((y.toNat/2^k:Nat):Int):=by
  show y.fdiv (2^(min (k:Int).toNat 8))=_;rw[Int.toNat_natCast,Nat.min_eq_left hk,Int.fdiv_eq_ediv_of_nonneg _ (Int.le_of_lt (Int.pow_pos (by decide)))];have:y=(y.toNat:Int):=by omega
  conv=>lhs;rw[this]
  rw[Int.natCast_ediv,Int.natCast_pow];rfl
 rw[e1];generalize hz:y.toNat/2^k=z;have hz2:z≤255:=by
  rw[← hz];exact Nat.le_trans (Nat.div_le_self _ _) (by omega)
 show IntKind.wrap .u8 ((BitVec.ofInt 8 (z:Int) &&& BitVec.ofInt 8 1).toNat:Int)=_;have:(BitVec.ofInt 8 (z:Int) &&& BitVec.ofInt 8 1).toNat=z%2:=by
  rw[BitVec.toNat_and,BitVec.toNat_ofInt,show (BitVec.ofInt 8 1).toNat=2^1-1 from rfl,Nat.and_two_pow_sub_one_eq_mod];omega
 rw[this,wrap8];omega
theorem ZHg:(l:LI)→Bs l→numB l<256^l.length
 | [],_=>by simp[numB]
 |x::l,h=>by
  have hx:=h x (by simp);have:=ZHg l (fun y hy=>h y (by simp[hy]));simp only[numB,List.length_cons,Nat.pow_succ];omega
def L32(e:LI):Prop:=e.length=32∧∀ x∈e,0≤x∧x≤255
theorem ZHh{c:LI}(h:c.length=32):∃ x0 x1 x2 x3 x4 x5 x6 x7 x8 x9 x10 x11 x12 x13 x14 x15 x16 x17 x18 x19 x20 x21 x22 x23 x24 x25 x26 x27 x28 x29 x30 x31,c=[x0,x1,x2,x3,x4,x5,x6,x7,x8,x9,x10,x11,x12,x13,x14,x15,x16,x17,x18,x19,x20,x21,x22,x23,x24,x25,x26,x27,x28,x29,x30,x31]:=by
 match c,h with
 | [x0,x1,x2,x3,x4,x5,x6,x7,x8,x9,x10,x11,x12,x13,x14,x15,x16,x17,x18,x19,x20,x21,x22,x23,x24,x25,x26,x27,x28,x29,x30,x31],_=>exact⟨x0,x1,x2,x3,x4,x5,x6,x7,x8,x9,x10,x11,x12,x13,x14,x15,x16,x17,x18,x19,x20,x21,x22,x23,x24,x25,x26,x27,x28,x29,x30,x31,rfl⟩
theorem Zue{x y K J kk:Int}(k:Nat)(hkk:kk=(k:Int))(hk:k<64)(hK:K=2^k)(hJ:J*K=18446744073709551616)(hJ0:0<J)(x0:0≤x)(x1:x<K)(y0:0≤y):
  ibin .or .u64 x (ibin .shl .u64 y kk)=x+y%J*K:=by
 have e1:ibin .shl .u64 y kk=y%J*K:=by
  rw[hkk,u_shl k (by omega),← hK,← hJ];have K0:0<K:=by rw[hK];exact Int.pow_pos (by decide)
  rw[Int.mul_comm y K,Int.mul_comm J K,Int.mul_emod_mul_of_pos _ _ K0,Int.mul_comm]
 have K0:0<K:=by rw[hK];exact Int.pow_pos (by decide)
 have m0:0≤y%J:=Int.emod_nonneg _ (by omega);have m1:y%J<J:=Int.emod_lt_of_pos _ hJ0;have q0:0≤y%J*K:=Int.mul_nonneg m0 (Int.le_of_lt K0);have q1:y%J*K≤(J-1)*K:=Int.mul_le_mul_of_nonneg_right (by omega) (Int.le_of_lt K0);rw[Int.sub_mul,hJ,Int.one_mul] at q1;rw[e1,u_or x0 (by omega) q0 (by omega)];have e2:(y%J*K).toNat=(y%J).toNat <<< k:=by
  rw[Nat.shiftLeft_eq,hK];have:(y%J)=((y%J).toNat:Int):=by omega
  rw[this];have h2:((2:Int)^k)=((2^k:Nat):Int):=by rw[Int.natCast_pow];rfl
  rw[h2,← Int.natCast_mul,Int.toNat_natCast,Int.toNat_natCast]
 have hx:x.toNat<2^k:=by
  have h2:((2:Int)^k)=((2^k:Nat):Int):=by rw[Int.natCast_pow];rfl
  rw[hK,h2] at x1;omega
 rw[e2,Nat.or_comm,← Nat.shiftLeft_add_eq_or_of_lt hx,← e2];omega
theorem Ziv{x y K J kk:Int}(k:Nat)(hkk:kk=(k:Int))(hk:k<64)(hK:K=2^k)(hJ:J*K=18446744073709551616)(hJ0:256≤J)(x0:0≤x)(x1:x<K)(hy:0≤y∧y≤255):
  ibin .or .u64 x (ibin .shl .u64 (IntKind.wrap .u64 y) kk)=x+y*K:=by
 rw[wrap64,show y%18446744073709551616=y by omega,Zue k hkk hk hK hJ (by omega) x0 x1 hy.1,Int.emod_eq_of_lt hy.1 (by omega)]
theorem word8{b0 b1 b2 b3 b4 b5 b6 b7:Int}(h0:0≤b0∧b0≤255)(h1:0≤b1∧b1≤255)(h2:0≤b2∧b2≤255)(h3:0≤b3∧b3≤255)(h4:0≤b4∧b4≤255)(h5:0≤b5∧b5≤255)(h6:0≤b6∧b6≤255)(h7:0≤b7∧b7≤255):(ibin .or .u64 (ibin .or .u64 (ibin .or .u64 (ibin .or .u64 (ibin .or .u64 (ibin .or .u64 (ibin .or .u64 (ibin .or .u64 0 (ibin .shl .u64 (IntKind.wrap .u64 b0) 0)) (ibin .shl .u64 (IntKind.wrap .u64 b1) 8)) (ibin .shl .u64 (IntKind.wrap .u64 b2) 16)) (ibin .shl .u64 (IntKind.wrap .u64 b3) 24)) (ibin .shl .u64 (IntKind.wrap .u64 b4) 32)) (ibin .shl .u64 (IntKind.wrap .u64 b5) 40)) (ibin .shl .u64 (IntKind.wrap .u64 b6) 48)) (ibin .shl .u64 (IntKind.wrap .u64 b7) 56))=b0*1+b1*256+b2*65536+b3*16777216+b4*4294967296+b5*1099511627776+b6*281474976710656+b7*72057594037927936:=by
 have e0:ibin .or .u64 0 (ibin .shl .u64 (IntKind.wrap .u64 b0) 0)=b0:=by rw[Ziv (kk:=0) (K:=1) (J:=18446744073709551616) 0 rfl (by decide) (by decide) (by decide) (by decide) (by decide) (by decide) h0];omega
 rw[e0];rw[Ziv (kk:=8) (K:=256) (J:=72057594037927936) 8 rfl (by decide) (by decide) (by decide) (by decide) (by omega) (by omega) h1];rw[Ziv (kk:=16) (K:=65536) (J:=281474976710656) 16 rfl (by decide) (by decide) (by decide) (by decide) (by omega) (by omega) h2];rw[Ziv (kk:=24) (K:=16777216) (J:=1099511627776) 24 rfl (by decide) (by decide) (by decide) (by decide) (by omega) (by omega) h3];rw[Ziv (kk:=32) (K:=4294967296) (J:=4294967296) 32 rfl (by decide) (by decide) (by decide) (by decide) (by omega) (by omega) h4];rw[Ziv (kk:=40) (K:=1099511627776) (J:=16777216) 40 rfl (by decide) (by decide) (by decide) (by decide) (by omega) (by omega) h5];rw[Ziv (kk:=48) (K:=281474976710656) (J:=65536) 48 rfl (by decide) (by decide) (by decide) (by decide) (by omega) (by omega) h6];rw[Ziv (kk:=56) (K:=72057594037927936) (J:=256) 56 rfl (by decide) (by decide) (by decide) (by decide) (by omega) (by omega) h7];omega
theorem ZiH{b0 b1 b2 b3 b4 b5 b6 b7:Int}{l:LI}(h0:0≤b0)(h1:0≤b1)(h2:0≤b2)(h3:0≤b3)(h4:0≤b4)(h5:0≤b5)(h6:0≤b6)(h7:0≤b7):
  (numB (b0::b1::b2::b3::b4::b5::b6::b7::l):Int)=b0+b1*256+b2*65536+b3*16777216+b4*4294967296+b5*1099511627776+b6*281474976710656+b7*72057594037927936+18446744073709551616*numB l:=by
 simp only[numB];omega
theorem ZHi{b:LI}(h:L32 b):Sm (Zdb b)∧val (Zdb b)=(numB b:Int)%57896044618658097711785492504343953926634992332820282019728792003956564819968:=by
 obtain⟨hl,hr⟩:=h;obtain⟨c0,c1,c2,c3,c4,c5,c6,c7,c8,c9,c10,c11,c12,c13,c14,c15,c16,c17,c18,c19,c20,c21,c22,c23,c24,c25,c26,c27,c28,c29,c30,c31,rfl⟩:=ZHh hl;have h0:=hr c0 (by simp);have h1:=hr c1 (by simp);have h2:=hr c2 (by simp);have h3:=hr c3 (by simp);have h4:=hr c4 (by simp);have h5:=hr c5 (by simp);have h6:=hr c6 (by simp);have h7:=hr c7 (by simp);have h8:=hr c8 (by simp);have h9:=hr c9 (by simp);have h10:=hr c10 (by simp);have h11:=hr c11 (by simp);have h12:=hr c12 (by simp);have h13:=hr c13 (by simp);have h14:=hr c14 (by simp);have h15:=hr c15 (by simp);have h16:=hr c16 (by simp);have h17:=hr c17 (by simp);have h18:=hr c18 (by simp);have h19:=hr c19 (by simp);have h20:=hr c20 (by simp);have h21:=hr c21 (by simp);have h22:=hr c22 (by simp);have h23:=hr c23 (by simp);have h24:=hr c24 (by simp);have h25:=hr c25 (by simp);have h26:=hr c26 (by simp);have h27:=hr c27 (by simp);have h28:=hr c28 (by simp);have h29:=hr c29 (by simp);have h30:=hr c30 (by simp);have h31:=hr c31 (by simp);clear hr hl;unfold Zdb;simp only[List.getD_cons_zero,List.getD_cons_succ];rw[word8 h0 h1 h2 h3 h4 h5 h6 h7];rw[word8 h8 h9 h10 h11 h12 h13 h14 h15];rw[word8 h16 h17 h18 h19 h20 h21 h22 h23];rw[word8 h24 h25 h26 h27 h28 h29 h30 h31];have u0:0≤c0*1+c1*256+c2*65536+c3*16777216+c4*4294967296+c5*1099511627776+c6*281474976710656+c7*72057594037927936∧c0*1+c1*256+c2*65536+c3*16777216+c4*4294967296+c5*1099511627776+c6*281474976710656+c7*72057594037927936<18446744073709551616:=by clear h8 h9 h10 h11 h12 h13 h14 h15 h16 h17 h18 h19 h20 h21 h22 h23 h24 h25 h26 h27 h28 h29 h30 h31;omega
 have u1:0≤c8*1+c9*256+c10*65536+c11*16777216+c12*4294967296+c13*1099511627776+c14*281474976710656+c15*72057594037927936∧c8*1+c9*256+c10*65536+c11*16777216+c12*4294967296+c13*1099511627776+c14*281474976710656+c15*72057594037927936<18446744073709551616:=by clear h0 h1 h2 h3 h4 h5 h6 h7 h16 h17 h18 h19 h20 h21 h22 h23 h24 h25 h26 h27 h28 h29 h30 h31;omega
 have u2:0≤c16*1+c17*256+c18*65536+c19*16777216+c20*4294967296+c21*1099511627776+c22*281474976710656+c23*72057594037927936∧c16*1+c17*256+c18*65536+c19*16777216+c20*4294967296+c21*1099511627776+c22*281474976710656+c23*72057594037927936<18446744073709551616:=by clear h0 h1 h2 h3 h4 h5 h6 h7 h8 h9 h10 h11 h12 h13 h14 h15 h24 h25 h26 h27 h28 h29 h30 h31;omega
 have u3:0≤c24*1+c25*256+c26*65536+c27*16777216+c28*4294967296+c29*1099511627776+c30*281474976710656+c31*72057594037927936∧c24*1+c25*256+c26*65536+c27*16777216+c28*4294967296+c29*1099511627776+c30*281474976710656+c31*72057594037927936<18446744073709551616:=by clear h0 h1 h2 h3 h4 h5 h6 h7 h8 h9 h10 h11 h12 h13 h14 h15 h16 h17 h18 h19 h20 h21 h22 h23;omega
 have hn:(numB [c0,c1,c2,c3,c4,c5,c6,c7,c8,c9,c10,c11,c12,c13,c14,c15,c16,c17,c18,c19,c20,c21,c22,c23,c24,c25,c26,c27,c28,c29,c30,c31]:Int)=(c0*1+c1*256+c2*65536+c3*16777216+c4*4294967296+c5*1099511627776+c6*281474976710656+c7*72057594037927936)*1+(c8*1+c9*256+c10*65536+c11*16777216+c12*4294967296+c13*1099511627776+c14*281474976710656+c15*72057594037927936)*18446744073709551616+(c16*1+c17*256+c18*65536+c19*16777216+c20*4294967296+c21*1099511627776+c22*281474976710656+c23*72057594037927936)*340282366920938463463374607431768211456+(c24*1+c25*256+c26*65536+c27*16777216+c28*4294967296+c29*1099511627776+c30*281474976710656+c31*72057594037927936)*6277101735386680763835789423207666416102355444464034512896:=by
  rw[ZiH h0.1 h1.1 h2.1 h3.1 h4.1 h5.1 h6.1 h7.1,ZiH h8.1 h9.1 h10.1 h11.1 h12.1 h13.1 h14.1 h15.1,ZiH h16.1 h17.1 h18.1 h19.1 h20.1 h21.1 h22.1 h23.1,ZiH h24.1 h25.1 h26.1 h27.1 h28.1 h29.1 h30.1 h31.1];simp only[numB];clear u0 u1 u2 u3;clear h0 h1 h2 h3 h4 h5 h6 h7 h8 h9 h10 h11 h12 h13 h14 h15 h16 h17 h18 h19 h20 h21 h22 h23 h24 h25 h26 h27 h28 h29 h30 h31;omega
 rw[hn];clear hn h0 h1 h2 h3 h4 h5 h6 h7 h8 h9 h10 h11 h12 h13 h14 h15 h16 h17 h18 h19 h20 h21 h22 h23 h24 h25 h26 h27 h28 h29 h30 h31;generalize c0*1+c1*256+c2*65536+c3*16777216+c4*4294967296+c5*1099511627776+c6*281474976710656+c7*72057594037927936=w0 at*
 generalize c8*1+c9*256+c10*65536+c11*16777216+c12*4294967296+c13*1099511627776+c14*281474976710656+c15*72057594037927936=w1 at*
 generalize c16*1+c17*256+c18*65536+c19*16777216+c20*4294967296+c21*1099511627776+c22*281474976710656+c23*72057594037927936=w2 at*
 generalize c24*1+c25*256+c26*65536+c27*16777216+c28*4294967296+c29*1099511627776+c30*281474976710656+c31*72057594037927936=w3 at*
 have s51:ibin .shr .u64 w0 51=w0/2251799813685248:=ZgE w0;have s38:ibin .shr .u64 w1 38=w1/274877906944:=u_shr 38 (by decide);have s25:ibin .shr .u64 w2 25=w2/33554432:=u_shr 25 (by decide);have s12:ibin .shr .u64 w3 12=w3/4096:=u_shr 12 (by decide);rw[s51,s38,s25,s12];rw[Zue (kk:=13) (K:=8192) (J:=2251799813685248) 13 rfl (by decide) (by decide) (by decide) (by decide) (by omega) (by omega) u1.1,
  Zue (kk:=26) (K:=67108864) (J:=274877906944) 26 rfl (by decide) (by decide) (by decide) (by decide) (by omega) (by omega) u2.1,
  Zue (kk:=39) (K:=549755813888) (J:=33554432) 39 rfl (by decide) (by decide) (by decide) (by decide) (by omega) (by omega) u3.1]
 rw[Zlu u0.1 u0.2];rw[Zlu (a:=w0/2251799813685248+w1%2251799813685248*8192) (by omega) (by omega)];rw[Zlu (a:=w1/274877906944+w2%274877906944*67108864) (by omega) (by omega)];rw[Zlu (a:=w2/33554432+w3%33554432*549755813888) (by omega) (by omega)];rw[Zlu (a:=w3/4096) (by omega) (by omega)];constructor
 ·exact⟨_,_,_,_,_,rfl,mod51 _,mod51 _,mod51 _,mod51 _,mod51 _⟩
 ·simp only[val];have e1:(w0/2251799813685248+w1%2251799813685248*8192)%2251799813685248=w0/2251799813685248+w1%274877906944*8192:=by omega
  have e2:(w1/274877906944+w2%274877906944*67108864)%2251799813685248=w1/274877906944+w2%33554432*67108864:=by omega
  have e3:(w2/33554432+w3%33554432*549755813888)%2251799813685248=w2/33554432+w3%4096*549755813888:=by omega
  rw[e1,e2,e3];clear e1 e2 e3 s51 s38 s25 s12;omega
theorem bytes8{w:Int}(h:U w)(l:LI):(numB (IntKind.wrap .u8 (ibin .shr .u64 w 0)::IntKind.wrap .u8 (ibin .shr .u64 w 8)::IntKind.wrap .u8 (ibin .shr .u64 w 16)::IntKind.wrap .u8 (ibin .shr .u64 w 24)::IntKind.wrap .u8 (ibin .shr .u64 w 32)::IntKind.wrap .u8 (ibin .shr .u64 w 40)::
  IntKind.wrap .u8 (ibin .shr .u64 w 48)::IntKind.wrap .u8 (ibin .shr .u64 w 56)::l):Int)=w+18446744073709551616*numB l:=by
 have e0:ibin .shr .u64 w 0=w:=by have:=u_shr (a:=w) 0 (by decide);simpa using this
 have e1:ibin .shr .u64 w 8=w/256:=u_shr 8 (by decide);have e2:ibin .shr .u64 w 16=w/65536:=u_shr 16 (by decide);have e3:ibin .shr .u64 w 24=w/16777216:=u_shr 24 (by decide);have e4:ibin .shr .u64 w 32=w/4294967296:=u_shr 32 (by decide);have e5:ibin .shr .u64 w 40=w/1099511627776:=u_shr 40 (by decide);have e6:ibin .shr .u64 w 48=w/281474976710656:=u_shr 48 (by decide);have e7:ibin .shr .u64 w 56=w/72057594037927936:=u_shr 56 (by decide);simp only[e0,e1,e2,e3,e4,e5,e6,e7,wrap8];rw[ZiH (by omega) (by omega) (by omega) (by omega) (by omega) (by omega) (by omega) (by omega)];simp only[U] at h;omega
theorem ZFC(n:Int):0≤IntKind.wrap .u8 n∧IntKind.wrap .u8 n≤255:=by rw[wrap8];omega
theorem Zv1{a:LI}(ha:L5 a):L32 (Zb0 a)∧(numB (Zb0 a):Int)=val a%pF:=by
 obtain⟨c,h⟩:=Ze8 ha;rw[← h];obtain⟨x0,x1,x2,x3,x4,hx,h0,h1,h2,h3,h4,-⟩:=c;clear h;unfold Zb0;rw[hx];clear hx;simp only[List.getD_cons_zero,List.getD_cons_succ];have s13:ibin .shr .u64 x1 13=x1/8192:=u_shr 13 (by decide);have s26:ibin .shr .u64 x2 26=x2/67108864:=u_shr 26 (by decide);have s39:ibin .shr .u64 x3 39=x3/549755813888:=u_shr 39 (by decide);simp only[M51] at*
 rw[s13,s26,s39];rw[Zue (kk:=51) (K:=2251799813685248) (J:=8192) 51 rfl (by decide) (by decide) (by decide) (by decide) (by omega) (by omega) h1.1,
  Zue (kk:=38) (K:=274877906944) (J:=67108864) 38 rfl (by decide) (by decide) (by decide) (by decide) (by omega) (by omega) h2.1,
  Zue (kk:=25) (K:=33554432) (J:=549755813888) 25 rfl (by decide) (by decide) (by decide) (by decide) (by omega) (by omega) h3.1,
  Zue (kk:=12) (K:=4096) (J:=4503599627370496) 12 rfl (by decide) (by decide) (by decide) (by decide) (by omega) (by omega) h4.1]
 constructor
 ·refine⟨rfl,fun y hy=>?_⟩;simp only[List.mem_cons,List.not_mem_nil,or_false] at hy;rcases hy with rfl|rfl|rfl|rfl|rfl|rfl|rfl|rfl|rfl|rfl|rfl|rfl|rfl|rfl|rfl|rfl|rfl|rfl|rfl|rfl|rfl|rfl|rfl|rfl|rfl|rfl|rfl|rfl|rfl|rfl|rfl|rfl<;>exact ZFC _
 ·rw[bytes8 (by simp only[U];omega),bytes8 (by simp only[U];omega),bytes8 (by simp only[U];omega),bytes8 (by simp only[U];omega)];simp only[numB,val];clear s13 s26 s39;omega
theorem ZEU:(a b:LI)→a.length=b.length→Bs a→Bs b→numB a=numB b→a=b
 | [],[],_,_,_,_=>rfl
 |x::a,y::b,hl,ha,hb,h=>by
  have hx:=ha x (by simp);have hy:=hb y (by simp);simp only[numB] at h;have e1:x=y:=by omega
  have e2:numB a=numB b:=by omega
  rw[e1,ZEU a b (by simpa using hl) (fun z hz=>ha z (by simp[hz])) (fun z hz=>hb z (by simp[hz])) e2]
 | [],_::_,hl,_,_,_=>by simp at hl
 |_::_,[],hl,_,_,_=>by simp at hl
theorem L32.inj{a b:LI}(ha:L32 a)(hb:L32 b)(h:(numB a:Int)=numB b):a=b:=ZEU a b (by rw[ha.1,hb.1]) ha.2 hb.2 (by omega)
theorem Sm.L5{a:LI}(h:Sm a):L5 a:=by
 obtain⟨x0,x1,x2,x3,x4,rfl,hx0,hx1,hx2,hx3,hx4⟩:=h;refine⟨rfl,fun x hx=>?_⟩;simp only[M51,List.mem_cons,List.not_mem_nil,or_false] at*
 rcases hx with rfl|rfl|rfl|rfl|rfl<;>omega
theorem Sm.can{a:LI}(h:Sm a)(hv:val a<pF):Can a:=by
 obtain⟨x0,x1,x2,x3,x4,rfl,hx0,hx1,hx2,hx3,hx4⟩:=h;exact⟨_,_,_,_,_,rfl,hx0,hx1,hx2,hx3,hx4,hv⟩
theorem ZIF{b:LI}(h:L32 b):(0≤List.getD b 31 0∧List.getD b 31 0≤255)∧(127<List.getD b 31 0↔57896044618658097711785492504343953926634992332820282019728792003956564819968≤(numB b:Int)):=by
 obtain⟨hl,hr⟩:=h;obtain⟨c0,c1,c2,c3,c4,c5,c6,c7,c8,c9,c10,c11,c12,c13,c14,c15,c16,c17,c18,c19,c20,c21,c22,c23,c24,c25,c26,c27,c28,c29,c30,c31,rfl⟩:=ZHh hl;have h0:=hr c0 (by simp);have h1:=hr c1 (by simp);have h2:=hr c2 (by simp);have h3:=hr c3 (by simp);have h4:=hr c4 (by simp);have h5:=hr c5 (by simp);have h6:=hr c6 (by simp);have h7:=hr c7 (by simp);have h8:=hr c8 (by simp);have h9:=hr c9 (by simp);have h10:=hr c10 (by simp);have h11:=hr c11 (by simp);have h12:=hr c12 (by simp);have h13:=hr c13 (by simp);have h14:=hr c14 (by simp);have h15:=hr c15 (by simp);have h16:=hr c16 (by simp);have h17:=hr c17 (by simp);have h18:=hr c18 (by simp);have h19:=hr c19 (by simp);have h20:=hr c20 (by simp);have h21:=hr c21 (by simp);have h22:=hr c22 (by simp);have h23:=hr c23 (by simp);have h24:=hr c24 (by simp);have h25:=hr c25 (by simp);have h26:=hr c26 (by simp);have h27:=hr c27 (by simp);have h28:=hr c28 (by simp);have h29:=hr c29 (by simp);have h30:=hr c30 (by simp);have h31:=hr c31 (by simp);simp only[List.getD_cons_zero,List.getD_cons_succ];refine⟨h31,?_⟩;rw[ZiH h0.1 h1.1 h2.1 h3.1 h4.1 h5.1 h6.1 h7.1,ZiH h8.1 h9.1 h10.1 h11.1 h12.1 h13.1 h14.1 h15.1,ZiH h16.1 h17.1 h18.1 h19.1 h20.1 h21.1 h22.1 h23.1,ZiH h24.1 h25.1 h26.1 h27.1 h28.1 h29.1 h30.1 h31.1];simp only[numB];have u0:0≤c0+c1*256+c2*65536+c3*16777216+c4*4294967296+c5*1099511627776+c6*281474976710656+c7*72057594037927936∧c0+c1*256+c2*65536+c3*16777216+c4*4294967296+c5*1099511627776+c6*281474976710656+c7*72057594037927936<18446744073709551616:=by clear h8 h9 h10 h11 h12 h13 h14 h15 h16 h17 h18 h19 h20 h21 h22 h23 h24 h25 h26 h27 h28 h29 h30 h31;omega
 have u1:0≤c8+c9*256+c10*65536+c11*16777216+c12*4294967296+c13*1099511627776+c14*281474976710656+c15*72057594037927936∧c8+c9*256+c10*65536+c11*16777216+c12*4294967296+c13*1099511627776+c14*281474976710656+c15*72057594037927936<18446744073709551616:=by clear h0 h1 h2 h3 h4 h5 h6 h7 h16 h17 h18 h19 h20 h21 h22 h23 h24 h25 h26 h27 h28 h29 h30 h31;omega
 have u2:0≤c16+c17*256+c18*65536+c19*16777216+c20*4294967296+c21*1099511627776+c22*281474976710656+c23*72057594037927936∧c16+c17*256+c18*65536+c19*16777216+c20*4294967296+c21*1099511627776+c22*281474976710656+c23*72057594037927936<18446744073709551616:=by clear h0 h1 h2 h3 h4 h5 h6 h7 h8 h9 h10 h11 h12 h13 h14 h15 h24 h25 h26 h27 h28 h29 h30 h31;omega
 have u3:0≤c24+c25*256+c26*65536+c27*16777216+c28*4294967296+c29*1099511627776+c30*281474976710656∧c24+c25*256+c26*65536+c27*16777216+c28*4294967296+c29*1099511627776+c30*281474976710656<72057594037927936:=by clear h0 h1 h2 h3 h4 h5 h6 h7 h8 h9 h10 h11 h12 h13 h14 h15 h16 h17 h18 h19 h20 h21 h22 h23 h31;omega
 clear h0 h1 h2 h3 h4 h5 h6 h7 h8 h9 h10 h11 h12 h13 h14 h15 h16 h17 h18 h19 h20 h21 h22 h23 h24 h25 h26 h27 h28 h29 h30;generalize c0+c1*256+c2*65536+c3*16777216+c4*4294967296+c5*1099511627776+c6*281474976710656+c7*72057594037927936=w0 at*
 generalize c8+c9*256+c10*65536+c11*16777216+c12*4294967296+c13*1099511627776+c14*281474976710656+c15*72057594037927936=w1 at*
 generalize c16+c17*256+c18*65536+c19*16777216+c20*4294967296+c21*1099511627776+c22*281474976710656+c23*72057594037927936=w2 at*
 generalize c24+c25*256+c26*65536+c27*16777216+c28*4294967296+c29*1099511627776+c30*281474976710656=w3 at*
 omega
theorem ZD7{b:LI}(h:L32 b):((numB b:Int)<pF∧(ZaG b).2=0∧Can (ZaG b).1∧val (ZaG b).1=numB b)∨(pF≤(numB b:Int)∧ZaG b=([0,0,0,0,0],3)):=by
 obtain⟨-,ht⟩:=ZIF h;obtain⟨sm,hv⟩:=ZHi h;unfold ZaG;by_cases h1:127<List.getD b 31 0
 ·refine .inr ⟨by have:=ht.1 h1;simp only[pF];omega,?_⟩;rw[show icmp .gtr (List.getD b 31 0) 127=true from decide_eq_true h1];rfl
 ·rw[show icmp .gtr (List.getD b 31 0) 127=false from decide_eq_false h1,cond_false];have hlt:(numB b:Int)<57896044618658097711785492504343953926634992332820282019728792003956564819968:=Int.not_le.1 fun hh=>h1 (ht.2 hh)
  rw[Int.emod_eq_of_lt (by omega) hlt] at hv;by_cases h2:(numB b:Int)<pF
  ·have c:Can (Zdb b):=sm.can (by rw[hv];exact h2);rw[Zuc c,decide_eq_true rfl];exact .inl ⟨h2,rfl,c,hv⟩
  ·have:¬ Zdb b=Zaa (Zdb b):=fun e=>by
    have:=(Ze8 sm.L5).1.nonneg.2;rw[← e,hv] at this;exact h2 this
   rw[decide_eq_false this];exact .inr ⟨by omega,rfl⟩
theorem can_v{a:LI}(h:Can a):(kv a).v=val a:=by
 have:=h.nonneg;show val a%pF=val a;exact Int.emod_eq_of_lt this.1 this.2
theorem ZHj{a:LI}(h:Can a):(kv a).ev↔val a%2=0:=by
 unfold K.ev;rw[can_v h]
theorem ZEV{a:LI}(h:Can a):Zaq a=true↔¬ (kv a).ev:=by
 rw[ZBZ h.L5,ZHj h,Int.emod_eq_of_lt h.nonneg.1 h.nonneg.2,decide_eq_true_eq];omega
theorem Zsy{a:LI}(h:Can a)(e:(kv a).ev):Zaq a=false:=by
 cases hq:Zaq a
 ·rfl
 ·exact absurd e ((ZEV h).1 hq)
theorem ZHk{a b:LI}(ha:L5 a)(hb:L5 b):∃ r ok,ZbT 300 a b=some (r,ok)∧Can r∧SR (kv a) (kv b) (kv r) ok:=by
 obtain⟨r,ok,h1,h2,h3,h4,h5,h6⟩:=sqrt_k ha hb;exact⟨r,ok,h1,h2,⟨(ZHj h2).2 h3,h4,h5,h6⟩⟩
theorem ZI7{a:LI}(ha:L5 a):Can (Zas a)∧(kv (Zas a)).ev∧kv (Zas a)^2=kv a^2:=by
 obtain⟨h1,h2,h3⟩:=abs_k ha;exact⟨h1,(ZHj h1).2 h2,by rcases h3 with h|h<;>rw[h]<;>grind⟩
theorem ZEW:Can (ZcA 2):=⟨_,_,_,_,_,rfl,by decide,by decide,by decide,by decide,by decide,by decide⟩
theorem ZI8:kv (ZcA 2)=kD:=by unfold kv kD;rfl
theorem ZHl:Can (ZcA 4):=⟨_,_,_,_,_,rfl,by decide,by decide,by decide,by decide,by decide,by decide⟩
theorem const2':Zdh 2=some (ZcA 2):=rfl
theorem const1':Zdh 1=some (ZcA 1):=rfl
theorem const4':Zdh 4=some (ZcA 4):=rfl
theorem one_k(a:LI):Can (Zbx a)∧kv (Zbx a)=1:=⟨Zyq,rfl⟩
theorem Ziy{a b:LI}(ha:L5 a)(hb:Can b):Zbb (ZbM false) a b=b:=by
 rw[Zv5 ha hb.L5,show ZbM false=0 from rfl,if_neg (by decide),Zuc hb]
theorem ZEX{a:LI}(h:Can a):Zaa a=a:=Zuc h
theorem ZD8{a b:LI}(ha:Can a)(hb:Can b)(hon:kv b^2-kv a^2=1+kD*kv a^2*kv b^2):
  ∃ t,Zdi a b=some ((a,b,[1,0,0,0,0],t),0)∧Can t∧kv t=kv a*kv b:=by
 obtain⟨r1,h1,c1,e1⟩:=sq_k ha.L5;obtain⟨r2,h2,c2,e2⟩:=sq_k hb.L5;obtain⟨r4,h4,c4,e4⟩:=mul_k ZEW.L5 c1.L5;obtain⟨r5,h5,c5,e5⟩:=mul_k c4.L5 c2.L5;obtain⟨r6,h6,c6,e6⟩:=mul_k ha.L5 hb.L5;have k1:=sub_k c2.L5 c1.L5;have k2:=add_k Zyq.L5 c5.L5;have hd:Za3 r2 r1=Zbw [1,0,0,0,0] r5:=by
  refine can_k k1.1 k2.1 ?_;rw[k1.2,k2.2,e5,e4,e1,e2,ZI8,show kv [1,0,0,0,0]=1 from rfl]
  grind
 refine⟨r6,?_,c6,e6⟩;unfold Zdi;simp only[ZEX ha,ZEX hb,h1,h2,const2',h4,h5,mo,hd,decide_true,Bool.not_true,cond_false,Zzi,h6]
theorem pdecode(p:LI×LI×LI×LI){b s:LI}(hd:ZaG b=(s,0))(hs:Can s)(hev:(kv s).ev):
  (∃ x y t,ZaW 300 p b=some ((x,y,[1,0,0,0,0],t),0)∧Can x∧Can y∧Can t∧kv t=kv x*kv y∧Stands (kv s) (kv x) (kv y))∨
  (ZaW 300 p b=some (([0,0,0,0,0],[0,0,0,0,0],[0,0,0,0,0],[0,0,0,0,0]),50)∧∀ x y,¬ Stands (kv s) x y):=by
 obtain⟨r1,h1,c1,e1⟩:=sq_k hs.L5;have one:=one_k s;have x2:=sub_k one.1.L5 c1.L5;have x3:=add_k one.1.L5 c1.L5;obtain⟨r3,h3,c3,e3⟩:=sq_k x2.1.L5;obtain⟨r4,h4,c4,e4⟩:=mul_k ZEW.L5 c3.L5;obtain⟨r5,h5,c5,e5⟩:=sq_k x3.1.L5;have n4:=neg_k c4.L5;have x5:=sub_k n4.1.L5 c5.L5;obtain⟨r7,h7,c7,e7⟩:=mul_k x5.1.L5 c5.L5;obtain⟨r8,ok,h8,c8,sr⟩:=ZHk one.1.L5 c7.L5;obtain⟨r9,h9,c9,e9⟩:=mul_k c8.L5 x3.1.L5;have ss:=add_k hs.L5 hs.L5;obtain⟨r10,h10,c10,e10⟩:=mul_k ss.1.L5 c9.L5;obtain⟨r11,h11,c11,e11⟩:=mul_k x2.1.L5 c8.L5;obtain⟨r13,h13,c13,e13⟩:=mul_k c11.L5 c9.L5;obtain⟨r14,h14,c14,e14⟩:=mul_k c13.L5 x5.1.L5;obtain⟨a1,a2,a3⟩:=ZI7 c10.L5;obtain⟨r15,h15,c15,e15⟩:=mul_k a1.L5 c14.L5;have neg0:=Zsy hs hev
 
 have E1:kv r1=kv s^2:=by rw[e1];grind
 have X2:kv (Za3 (Zbx s) r1)=1-kv s^2:=by rw[x2.2,one.2,E1]
 have X3:kv (Zbw (Zbx s) r1)=1+kv s^2:=by rw[x3.2,one.2,E1]
 have X5:kv (Za3 (Za4 r4) r5)= -(kD*(1-kv s^2)^2)-(1+kv s^2)^2:=by
  rw[x5.2,n4.2,e4,e5,e3,X2,X3,ZI8];grind
 have E7:kv r7=(-(kD*(1-kv s^2)^2)-(1+kv s^2)^2)*(1+kv s^2)^2:=by rw[e7,X5,e5,X3];grind
 rw[one.2,E7] at sr;have E14:kv r14=(1-kv s^2)*kv r8*(kv r8*(1+kv s^2))*(-(kD*(1-kv s^2)^2)-(1+kv s^2)^2):=by rw[e14,X5,e13,e11,e9,X2,X3]
 have E10:kv r10=2*kv s*(kv r8*(1+kv s^2)):=by rw[e10,ss.2,e9,X3];grind
 have U:ZaW 300 p b=cond (!ok) (some (([0,0,0,0,0],[0,0,0,0,0],[0,0,0,0,0],[0,0,0,0,0]),50))
   (cond (Zaq r15) (some (([0,0,0,0,0],[0,0,0,0,0],[0,0,0,0,0],[0,0,0,0,0]),50))
    (cond (Zb1 r14) (some (([0,0,0,0,0],[0,0,0,0,0],[0,0,0,0,0],[0,0,0,0,0]),50))
     (mo (Zdi (Zas r10) r14) none fun r16=>
      cond (icmp .neq r16.2 0) (some (([0,0,0,0,0],[0,0,0,0,0],[0,0,0,0,0],[0,0,0,0,0]),50))
       (some ((r16.1.1,r16.1.2.1,r16.1.2.2.1,r16.1.2.2.2),0))))):=by
  unfold ZaW;simp only[hd,show icmp .neq 0 0=false from rfl,cond_false,neg0,h1,const2',h3,h4,h5,h7,h8,h9,h10,h11,h13,h14,h15,mo]
 generalize hS:kv s=S at*
 
 by_cases hvw:(-(kD*(1-S^2)^2)-(1+S^2)^2)*(1+S^2)^2=0
 ·right;have:=sr.z' K.one_ne hvw;refine⟨by rw[U,this.1];rfl,fun x y h=>?_⟩;exact K.mul_ne h.v0 (K.pow_ne h.w0 2) hvw
 ·obtain⟨v0,w2⟩:=K.ne_mul hvw;have w0:1+S^2≠0:=fun e=>w2 (by rw[e];grind)
  obtain⟨q1,q2,-⟩:=sr.q K.one_ne hvw;cases ok with
  |false=>
   right;refine⟨by rw[U];rfl,fun x y h=>?_⟩;obtain⟨r,hr⟩:=h.root;have:=(sr.found hvw hr).1;cases this
  |true=>
   have hr:=q2 rfl;have Y:kv r14*(1+S^2)=1-S^2:=by rw[E14];exact dec_y hr
   have X:(-(kD*(1-S^2)^2)-(1+S^2)^2)*kv (Zas r10)^2=4*S^2:=by rw[a3,E10];exact dec_x hr
   by_cases hn:(kv r15).ev
   ·by_cases hz:kv r14=0
    ·right;refine⟨by rw[U,Zsy c15 hn,(ZET c14.L5).2 hz];rfl,fun x y h=>h.y0 ?_⟩;refine K.cancel w0 ?_;rw[Lean.Grind.CommRing.mul_comm,h.yw,← Y,hz];grind
    ·left;have st:Stands S (kv (Zas r10)) (kv r14):=⟨hev,a2,by rw[← e15];exact hn,hz,w0,Y,v0,X⟩;obtain⟨t,f1,f2,f3⟩:=ZD8 a1 c14 st.on;refine⟨_,_,t,?_,a1,c14,f2,f3,st⟩;rw[U,Zsy c15 hn,ZIE c14.L5 hz];simp only[Bool.not_true,cond_false,f1,mo,show icmp .neq 0 0=false from rfl]
   ·right;refine⟨by rw[U,(ZEV c15).2 hn];rfl,fun x y h=>hn ?_⟩;have hy:kv r14=y:=K.cancel w0 (by rw[Lean.Grind.CommRing.mul_comm,Y,← h.yw,Lean.Grind.CommRing.mul_comm]);have hx:kv (Zas r10)=x:=K.ev_root a2 h.x_ev (K.cancel v0 (by rw[X,h.xv]));rw[e15,hx,hy];exact h.xy_ev
theorem ZHm(n:Nat):(1:K)^n=1:=by
 rw[show (1:K)=K.of 1 from rfl,← K.of_pow,Int.one_pow]
theorem ZFD{x y t:LI}(hx:Can x)(hy:Can y):Zbc 300 (x,y,[1,0,0,0,0],t)=some (x,y):=by
 obtain⟨r1,h1,p1⟩:=ZAj (a:=[1,0,0,0,0]) Zyq.L5;have e1:kv r1=1:=by rw[pow_k p1,show kv [1,0,0,0,0]=1 from rfl,ZHm]
 obtain⟨r2,h2,c2,e2⟩:=mul_k hx.L5 p1.1.L5;obtain⟨r3,h3,c3,e3⟩:=mul_k hy.L5 p1.1.L5;have f2:r2=x:=can_k c2 hx (by rw[e2,e1];grind);have f3:r3=y:=can_k c3 hy (by rw[e3,e1];grind);subst f2;subst f3;unfold Zbc Zb2;have hz:decide (([1,0,0,0,0]:LI)=[0,0,0,0,0])=false:=by decide
 simp only[hz,cond_false,h1,h2,h3,mo]
theorem Zsz{a b:LI}(ha:Can a)(hb:L5 b):Zbb (ZbM true) a b=a:=by
 rw[Zv5 ha.L5 hb,show ZbM true=1 from rfl,if_pos (by decide),Zuc ha]
theorem ZEY{a:LI}(h:Can a)(e:¬ (kv a).ev):Zaq a=true:=(ZEV h).2 e
theorem tab4_k:kv (ZcA 4)=kM:=by unfold kv kM;rfl
theorem ZIG{x y r q:K}{ok:Bool}(hq:(1+y)*(1-y)=q^2)(hn:x*y≠0)(hu:(1+y)*(1-y)≠0)(sr:SR 1 (((1+y)*(1-y))*(x*y)^2) r ok):r^2*(((1+y)*(1-y))*(x*y)^2)=1:=by
 have q0:q≠0:=fun e=>hu (by rw[hq,e];grind)
 obtain⟨z,hz⟩:=ZAh (K.mul_ne q0 hn);have hv:((1+y)*(1-y))*(x*y)^2=(q*(x*y))^2:=by rw[hq];grind
 have:=(sr.found (r:=z) (K.mul_ne hu (K.pow_ne hn 2)) (by rw[hv];generalize q*(x*y)=w at*;grind)).2;rw[this,hv];generalize q*(x*y)=w at*
 grind
theorem u_ne{x y:K}(on:y^2-x^2=1+kD*x^2*y^2)(hn:x*y≠0):(1+y)*(1-y)≠0:=by
 intro h;have hm:=kM_sq;have hx:=(K.ne_mul hn).1;have h1:(-1-kD)*x^2=0:=by generalize kD=d at*;grind
 rcases K.mul_zero' h1 with h1|h1
 ·rw[h1] at hm;exact K.one_ne (by rw[← hm];grind)
 ·exact hx (K.sq_zero h1)
theorem ZDo(b:K): - -b=b:=by grind
theorem ZFE(a b:K): -a* -b=a*b:=by grind
theorem ZBa{a:K}(h: -a=0):a=0:=by grind
theorem ZIH(a b:K):Rel a b (-a) (-b):=.inr (.inr (.inl ⟨(ZDo a).symm,(ZDo b).symm⟩))
theorem on_neg{a b d:K}(h:b^2-a^2=1+d*a^2*b^2):(-b)^2-(-a)^2=1+d*(-a)^2*(-b)^2:=by grind
theorem on_turn{a b d:K}(h:b^2-a^2=1+d*a^2*b^2):(a*kI)^2-(b*kI)^2=1+d*(b*kI)^2*(a*kI)^2:=by
 have hi:=kI_sq
 grind
theorem ZII(a b:K):Rel a b (b*kI) (a*kI):=by
 have hi:=kI_sq;exact .inr (.inr (.inr ⟨by grind,by grind⟩))
theorem ZIJ(a b:K):b*kI*(a*kI)= -(a*b):=by
 have hi:=kI_sq
 grind
theorem ZIK{u t2 m w r d:K}(tn:t2≠0)(R:r^2*(u*t2)=1)(tt:u*w=(-1-d)*t2)(hm:(-1-d)*m^2=1):(r*u*m)^2*w=1:=by
 refine K.cancel tn ?_;have:t2*((r*u*m)^2*w)=(r^2*(u*t2))*m^2*(u*w):=by grind
 rw[this,R,tt]
 grind
theorem fin_neg(b:K):(1+ -b)*(1 - -b)=(1+b)*(1-b):=by grind
theorem fin_one(r x y:K):(r*(x*y))^2*((1+y)*(1-y))=r^2*(((1+y)*(1-y))*(x*y)^2):=by
 generalize x*y=t;generalize (1+y)*(1-y)=u
 grind
theorem pencode{p1 p2 p3 p4 x y:LI}{q:K}(h1:Zbc 300 (p1,p2,p3,p4)=some (x,y))(hx:Can x)(hy:Can y)(on:kv y^2-kv x^2=1+kD*kv x^2*kv y^2)(hq:(1+kv y)*(1-kv y)=q^2):
  ∃ s X Y,ZaV 300 (p1,p2,p3,p4)=some (Zb0 s)∧Can s∧Stands (kv s) X Y∧Rel (kv x) (kv y) X Y:=by
 obtain⟨r2,h2,c2,e2⟩:=mul_k hx.L5 hy.L5;have one:=one_k x;have a1:=add_k one.1.L5 hy.L5;have s1:=sub_k one.1.L5 hy.L5;obtain⟨r3,h3,c3,e3⟩:=mul_k a1.1.L5 s1.1.L5;obtain⟨r4,h4,c4,e4⟩:=sq_k c2.L5;obtain⟨r5,h5,c5,e5⟩:=mul_k c3.L5 c4.L5;obtain⟨r6,ok,h6,c6,sr⟩:=ZHk one.1.L5 c5.L5;obtain⟨r7,h7,c7,e7⟩:=mul_k c6.L5 c3.L5;obtain⟨r8,h8,c8,e8⟩:=mul_k c6.L5 c2.L5;obtain⟨r9,h9,c9,e9⟩:=mul_k c7.L5 c8.L5;obtain⟨r10,h10,c10,e10⟩:=mul_k c9.L5 c2.L5;obtain⟨r11,h11,c11,e11⟩:=mul_k c2.L5 c10.L5;obtain⟨r13,h13,c13,e13⟩:=mul_k hx.L5 Zzn.L5;obtain⟨r14,h14,c14,e14⟩:=mul_k hy.L5 Zzn.L5;obtain⟨r16,h16,c16,e16⟩:=mul_k c7.L5 ZHl.L5;rw[ZI6] at e13 e14;rw[tab4_k] at e16;have E3:kv r3=(1+kv y)*(1-kv y):=by rw[e3,a1.2,s1.2,one.2]
 have E5:kv r5=((1+kv y)*(1-kv y))*(kv x*kv y)^2:=by rw[e5,E3,e4,e2];generalize kv x*kv y=t;grind
 rw[one.2,E5] at sr;have E10:kv r10=kv r6^2*(((1+kv y)*(1-kv y))*(kv x*kv y)^2):=by
  rw[e10,e9,e8,e7,e2,E3];generalize (1+kv y)*(1-kv y)=u;generalize kv x*kv y=t
  grind
 
 have U:∀ (b1 b2:Bool) (x1 y1 dn:LI),Zaq r11=b1→Zbb (ZbM b1) r14 x=x1→Zbb (ZbM b1) r13 y=y1→Zbb (ZbM b1) r16 r8=dn→Can x1→Can y1→Can dn→
   (∀ r17,Zad x1 r10=some r17→Zaq r17=b2)→
   ∃ s,ZaV 300 (p1,p2,p3,p4)=some (Zb0 s)∧Can s∧(kv s).ev∧kv s^2=(kv dn*(1-(bif b2 then-kv y1 else kv y1)))^2:=by
  intro b1 b2 x1 y1 dn g1 g2 g3 g4 k1 k2 k3 g5;obtain⟨r17,h17,c17,e17⟩:=mul_k k1.L5 c10.L5;have g6:=g5 r17 h17;have ny:=neg_k k2.L5;have hsel:Can (Zbb (ZbM b2) (Za4 y1) y1)∧kv (Zbb (ZbM b2) (Za4 y1) y1)=(bif b2 then-kv y1 else kv y1):=by
   cases b2
   ·rw[Ziy ny.1.L5 k2];exact⟨k2,rfl⟩
   ·rw[Zsz ny.1 k2.L5];exact⟨ny.1,ny.2⟩
  have s2:=sub_k one.1.L5 hsel.1.L5;obtain⟨r18,h18,c18,e18⟩:=mul_k k3.L5 s2.1.L5;obtain⟨m1,m2,m3⟩:=ZI7 c18.L5;refine⟨_,?_,m1,m2,by rw[m3,e18,s2.2,hsel.2,one.2]⟩;unfold ZaV;simp only[h1,h2,h3,h4,h5,h6,h7,h8,h9,h10,h11,const1',h13,h14,const4',h16,mo,g1,g2,g3,g4,h17,g6,h18]
 have hi:=kI_sq;by_cases hn:kv x*kv y=0
 ·
  have z6:kv r6=0:=(sr.z' K.one_ne (by rw[hn];grind)).2;have z10:kv r10=0:=by rw[E10,z6];grind
  have z8:kv r8=0:=by rw[e8,z6];grind
  have n11:Zaq r11=false:=Zsy c11 (by rw[e11,z10,show kv r2*0=0 by grind];exact K.ev_zero);obtain⟨s,k1,k2,k3,k4⟩:=U false false x y r8 n11 (Ziy c14.L5 hx) (Ziy c13.L5 hy) (Ziy c16.L5 c8) hx hy c8 (fun r17 h17=>by
   obtain⟨r,j1,j2,j3⟩:=mul_k hx.L5 c10.L5;rw[h17] at j1;obtain rfl:=oI j1;exact Zsy j2 (by rw[j3,z10,show kv x*0=0 by grind];exact K.ev_zero))
  have s0:kv s=0:=K.sq_zero (by rw[k4,z8];grind);exact⟨s,0,1,k1,k2,by rw[s0];exact ZDZ,ZIu on hn⟩
 ·have hu:=u_ne on hn;have R:=ZIG hq hn hu sr;have Z:kv r10=1:=by rw[E10,R]
  obtain⟨x0,y0⟩:=K.ne_mul hn;have e11':kv r11=kv x*kv y:=by rw[e11,e2,Z];grind
  have neg17:∀ x1,Can x1→∀ r17,Zad x1 r10=some r17→Can r17∧kv r17=kv x1:=by
   intro x1 k r17 h17;obtain⟨r,j1,j2,j3⟩:=mul_k k.L5 c10.L5;rw[h17] at j1;obtain rfl:=oI j1;exact⟨j2,by rw[j3,Z];grind⟩
  
  have fin:∀ (b1:Bool) (x1 y1 dn:LI),Zaq r11=b1→Zbb (ZbM b1) r14 x=x1→Zbb (ZbM b1) r13 y=y1→Zbb (ZbM b1) r16 r8=dn→Can x1→Can y1→Can dn→
    (kv x1*kv y1).ev→kv x1≠0→kv y1≠0→kv y1^2-kv x1^2=1+kD*kv x1^2*kv y1^2→kv dn^2*((1+kv y1)*(1-kv y1))=1→Rel (kv x) (kv y) (kv x1) (kv y1)→
    ∃ s X Y,ZaV 300 (p1,p2,p3,p4)=some (Zb0 s)∧Can s∧Stands (kv s) X Y∧Rel (kv x) (kv y) X Y:=by
   intro b1 x1 y1 dn g1 g2 g3 g4 k1 k2 k3 xyev x10 y10 on1 de rel;by_cases hev:(kv x1).ev
   ·obtain⟨s,j1,j2,j3,j4⟩:=U b1 false x1 y1 dn g1 g2 g3 g4 k1 k2 k3 (fun r17 h17=>by
     obtain⟨q1,q2⟩:=neg17 x1 k1 r17 h17;exact Zsy q1 (by rw[q2];exact hev))
    exact⟨s,kv x1,kv y1,j1,j2,ZDj (e:=kv dn) j3 hev xyev x10 y10 on1 de j4,rel⟩
   ·obtain⟨s,j1,j2,j3,j4⟩:=U b1 true x1 y1 dn g1 g2 g3 g4 k1 k2 k3 (fun r17 h17=>by
     obtain⟨q1,q2⟩:=neg17 x1 k1 r17 h17;exact ZEY q1 (by rw[q2];exact hev))
    refine⟨s,-kv x1,-kv y1,j1,j2,ZDj (e:=kv dn) j3 ((K.ev_neg x10).2 hev) ?_ ?_ ?_ ?_ ?_ j4,rel.trans (ZIH _ _)⟩
    ·rw[ZFE];exact xyev
    ·exact fun h=>x10 (ZBa h)
    ·exact fun h=>y10 (ZBa h)
    ·exact on_neg on1
    ·rw[fin_neg];exact de
  by_cases hneg:(kv x*kv y).ev
  ·refine fin false x y r8 (Zsy c11 (by rw[e11'];exact hneg)) (Ziy c14.L5 hx) (Ziy c13.L5 hy) (Ziy c16.L5 c8) hx hy c8 hneg x0 y0 on ?_ (Rel.refl _ _);rw[e8,e2,fin_one,R]
  ·have t11:=ZEY c11 (by rw[e11'];exact hneg);refine fin true r14 r13 r16 t11 (Zsz c14 hx.L5) (Zsz c13 hy.L5) (Zsz c16 c8.L5) c14 c13 c16 ?_ ?_ ?_ ?_ ?_ ?_
   ·rw[e13,e14,ZIJ];exact(K.ev_neg hn).2 hneg
   ·rw[e14];exact K.mul_ne y0 (fun h=>by rw[h] at hi;exact K.one_ne (by grind))
   ·rw[e13];exact K.mul_ne x0 (fun h=>by rw[h] at hi;exact K.one_ne (by grind))
   ·rw[e13,e14];exact on_turn on
   ·rw[e16,e7,E3,e13];exact ZIK (K.pow_ne hn 2) R (turn_id on) kM_sq
   ·rw[e13,e14];exact ZII _ _
theorem inv_k{a:LI}(ha:L5 a):∃ r,Zce 300 a=some r∧Can r∧kv r=kv a^eI:=by
 obtain⟨r,h1,p1⟩:=ZAj ha;exact⟨r,h1,p1.1,pow_k p1⟩
abbrev P4:=LI×LI×LI×LI
abbrev o5:LI:=[1,0,0,0,0]
abbrev z5:LI:=[0,0,0,0,0]
theorem ZI9:Can z5:=⟨_,_,_,_,_,rfl,by decide,by decide,by decide,by decide,by decide,by decide⟩
structure Rep0 (p:P4) (X Y:K):Prop where
 cx:Can p.1
 cy:Can p.2.1
 cz:Can p.2.2.1
 ct:Can p.2.2.2
 z:kv p.2.2.1≠0
 x:kv p.1=X*kv p.2.2.1
 y:kv p.2.1=Y*kv p.2.2.1
 t:kv p.2.2.2=X*Y*kv p.2.2.1
def Rep(p:P4)(X Y:K):Prop:=Rep0 p X Y∨(p.2.2.1=z5∧X=0∧Y=1)
theorem Rep.whole{p:P4}{X Y:K}(h:Rep p X Y):Rep0 (Zb2 p) X Y:=by
 unfold Zb2;rcases h with h|⟨h,rfl,rfl⟩
 ·have:decide (p.2.2.1=[0,0,0,0,0])=false:=decide_eq_false fun e=>h.z (by rw[e];rfl)
  rw[this];exact h
 ·rw[h];exact⟨ZI9,Zyq,Zyq,ZI9,K.one_ne,by show (0:K)=0*1;grind,by show (1:K)=1*1;grind,by show (0:K)=0*1*1;grind⟩
theorem rep_one{x y t:LI}(hx:Can x)(hy:Can y)(ht:Can t)(h:kv t=kv x*kv y):Rep (x,y,o5,t) (kv x) (kv y):=
 .inl ⟨hx,hy,Zyq,ht,K.one_ne,by show _=_*(1:K);grind,by show _=_*(1:K);grind,by show _=_*(1:K);rw[h];grind⟩
theorem ZIk:Rep (z5,z5,z5,z5) 0 1:=.inr ⟨rfl,rfl,rfl⟩
theorem Rep.affine{p:P4}{X Y:K}(h:Rep p X Y):∃ x y,Zbc 300 p=some (x,y)∧Can x∧Can y∧kv x=X∧kv y=Y:=by
 have w:=h.whole;unfold Zbc;generalize Zb2 (p.1,p.2.1,p.2.2.1,p.2.2.2)=q at*
 obtain⟨r1,h1,c1,e1⟩:=inv_k w.cz.L5;obtain⟨r2,h2,c2,e2⟩:=mul_k w.cx.L5 c1.L5;obtain⟨r3,h3,c3,e3⟩:=mul_k w.cy.L5 c1.L5;have hi:=k_inv w.z;have hx:=w.x;have hy:=w.y;refine⟨r2,r3,by simp only[h1,h2,h3,mo],c2,c3,?_,?_⟩
 ·rw[e2,e1,hx];generalize kv q.2.2.1^eI=i at*;grind
 ·rw[e3,e1,hy];generalize kv q.2.2.1^eI=i at*;grind
end Go.Vx
namespace Go.Vx.Ref
open Go
abbrev refP:LI:=[67108845,67108863,67108863,67108863,67108863,67108863,67108863,67108863,67108863,2097151]
abbrev T255:Int:=57896044618658097711785492504343953926634992332820282019728792003956564819968
theorem P260:((2:Int)^26)^10=1852673427797059126777135760139006525652319754650249024631321344126610074238976:=by decide
theorem ZFF(x0 x1 x2 x3 x4 x5 x6 x7 x8 x9 y0 y1 y2 y3 y4 y5 y6 y7 y8 y9:Int):ZbU [x0,x1,x2,x3,x4,x5,x6,x7,x8,x9] [y0,y1,y2,y3,y4,y5,y6,y7,y8,y9]=borrow64 0 [x0,x1,x2,x3,x4,x5,x6,x7,x8,x9] [y0,y1,y2,y3,y4,y5,y6,y7,y8,y9]:=rfl
theorem ZBb{a b:LI}(ha:a.length=10)(hb:b.length=10)(da:Dg 26 a)(db:Dg 26 b)(h:num b≤num a):
  (ZbU a b).length=10∧Dg 26 (ZbU a b)∧num (ZbU a b)=num a-num b:=by
 have e:ZbU a b=borrow64 0 a b:=by
  obtain⟨x0,x1,x2,x3,x4,x5,x6,x7,x8,x9,rfl⟩:=ten ha;obtain⟨y0,y1,y2,y3,y4,y5,y6,y7,y8,y9,rfl⟩:=ten hb;exact ZFF _ _ _ _ _ _ _ _ _ _ _ _ _ _ _ _ _ _ _ _
 obtain⟨h1,h2,c,h3,h4⟩:=ZAk a b (by rw[ha,hb]) da db 0 (by decide);rw[e];refine⟨by rw[h1,ha],h2,?_⟩;have h5:=ZD9 _ h2;rw[h1,ha] at h5;rw[ha] at h4;rw[P260] at h4 h5;have:c=0:=by
  rcases(show c= -1∨c=0 by omega) with rfl|rfl
  ·exfalso;clear e;simp only[num] at*;omega
  ·rfl
 subst this;simp only[num] at*
 omega
theorem ZFG(x0 x1 x2 x3 x4 x5 x6 x7 x8 x9 y0 y1 y2 y3 y4 y5 y6 y7 y8 y9:Int):ZcN [x0,x1,x2,x3,x4,x5,x6,x7,x8,x9] [y0,y1,y2,y3,y4,y5,y6,y7,y8,y9]=cmpH [x9,x8,x7,x6,x5,x4,x3,x2,x1,x0] [y9,y8,y7,y6,y5,y4,y3,y2,y1,y0]:=by kernel_rfl
theorem ZEZ(x0 x1 x2 x3 x4 x5 x6 x7 x8 x9:Int):numH [x9,x8,x7,x6,x5,x4,x3,x2,x1,x0]=num [x0,x1,x2,x3,x4,x5,x6,x7,x8,x9]:=by
 simp only[numH,num,numW,List.length_cons,List.length_nil];omega
theorem ZBc{a b:LI}(ha:a.length=10)(hb:b.length=10)(da:Dg 26 a)(db:Dg 26 b):ZcN a b=true↔num a<num b:=by
 obtain⟨x0,x1,x2,x3,x4,x5,x6,x7,x8,x9,rfl⟩:=ten ha;obtain⟨y0,y1,y2,y3,y4,y5,y6,y7,y8,y9,rfl⟩:=ten hb;rw[ZFG,← ZEZ,← ZEZ];refine ZE0 _ _ rfl (fun z hz=>da z ?_) (fun z hz=>db z ?_)
 ·simp only[List.mem_cons,List.not_mem_nil,or_false] at hz ⊢;grind
 ·simp only[List.mem_cons,List.not_mem_nil,or_false] at hz ⊢;grind
def rW(c:Int)(o:LI):LI×Int:=sweep64 0 (o.set 0 (ibin .add .i64 (List.getD o 0 0) c))
def rC(c:Int)(o:LI):Int:=ibin .add .i64 (ibin .mul .i64 608 (rW c o).2) (ibin .mul .i64 19 (ibin .quo .i64 (List.getD (rW c o).1 9 0) 2097152))
def rO(c:Int)(o:LI):LI:=(rW c o).1.set 9 (ibin .rem .i64 (List.getD (rW c o).1 9 0) 2097152)
theorem ZFH(N:Nat)(c:Int)(x0 x1 x2 x3 x4 x5 x6 x7 x8 x9:Int):ZaS N (((),c,(),true),((),(),[x0,x1,x2,x3,x4,x5,x6,x7,x8,x9]))=
  some (.inl (((),rC c [x0,x1,x2,x3,x4,x5,x6,x7,x8,x9],(),icmp .gtr (rC c [x0,x1,x2,x3,x4,x5,x6,x7,x8,x9]) 0),((),(),rO c [x0,x1,x2,x3,x4,x5,x6,x7,x8,x9]))):=by kernel_rfl
theorem Zyr{o:LI}(ho:o.length=10)(hr:∀ x∈o,0≤x∧x<1099511627776){c:Int}(hc:0≤c∧c<1099511627776):
  (rO c o).length=10∧Dg 26 (rO c o)∧num (rO c o)=(num o+c)%T255∧rC c o=19*((num o+c)/T255)∧rC c o<1099511627776:=by
 obtain⟨x0,x1,x2,x3,x4,x5,x6,x7,x8,x9,rfl⟩:=ten ho;have e0:ibin .add .i64 x0 c=x0+c:=i_add (by have:=hr x0 (by simp);omega) (by have:=hr x0 (by simp);omega);have hlist:∀ x∈((x0+c)::[x1,x2,x3,x4,x5,x6,x7,x8,x9]),0≤x∧x<4611686018427387904:=by
  intro x hx;rcases List.mem_cons.1 hx with rfl|hx
  ·have:=hr x0 (by simp);omega
  ·have:=hr x (by simp only[List.mem_cons] at hx ⊢;grind);omega
 obtain⟨h1,h2,h3,h4⟩:=Zys _ hlist 0 (by decide) (by decide);have ew:rW c [x0,x1,x2,x3,x4,x5,x6,x7,x8,x9]=sweep64 0 ((x0+c)::[x1,x2,x3,x4,x5,x6,x7,x8,x9]):=by
  show sweep64 0 (ibin .add .i64 x0 c::[x1,x2,x3,x4,x5,x6,x7,x8,x9])=_;rw[e0]
 rw[← ew] at h1 h2 h3 h4;simp only[List.length_cons,List.length_nil,Nat.reduceAdd] at h1 h4;rw[P260] at h4;have hb:num [x0,x1,x2,x3,x4,x5,x6,x7,x8,x9]+c<20000*1852673427797059126777135760139006525652319754650249024631321344126610074238976:=by
  have g0:=hr x0 (by simp);have g1:=hr x1 (by simp);have g2:=hr x2 (by simp);have g3:=hr x3 (by simp);have g4:=hr x4 (by simp);have g5:=hr x5 (by simp);have g6:=hr x6 (by simp);have g7:=hr x7 (by simp);have g8:=hr x8 (by simp);have g9:=hr x9 (by simp);simp only[num,numW];omega
 have hV:num ((x0+c)::[x1,x2,x3,x4,x5,x6,x7,x8,x9])=num [x0,x1,x2,x3,x4,x5,x6,x7,x8,x9]+c:=by simp only[num,numW];omega
 rw[hV,Int.zero_add] at h4;generalize num [x0,x1,x2,x3,x4,x5,x6,x7,x8,x9]+c=V at*
 simp only[rC,rO];generalize hw:(rW c [x0,x1,x2,x3,x4,x5,x6,x7,x8,x9]).1=w at*
 generalize (rW c [x0,x1,x2,x3,x4,x5,x6,x7,x8,x9]).2=k at*
 clear hw ew hV hlist hr e0 ho;obtain⟨z0,z1,z2,z3,z4,z5,z6,z7,z8,z9,rfl⟩:=ten h1;have d0:=h2 z0 (by simp);have d1:=h2 z1 (by simp);have d2:=h2 z2 (by simp);have d3:=h2 z3 (by simp);have d4:=h2 z4 (by simp);have d5:=h2 z5 (by simp);have d6:=h2 z6 (by simp);have d7:=h2 z7 (by simp);have d8:=h2 z8 (by simp);have d9:=h2 z9 (by simp);clear h2;change 0≤z0∧z0<67108864 at d0;change 0≤z1∧z1<67108864 at d1;change 0≤z2∧z2<67108864 at d2;change 0≤z3∧z3<67108864 at d3;change 0≤z4∧z4<67108864 at d4;change 0≤z5∧z5<67108864 at d5;change 0≤z6∧z6<67108864 at d6;change 0≤z7∧z7<67108864 at d7;change 0≤z8∧z8<67108864 at d8;change 0≤z9∧z9<67108864 at d9;have e9:List.getD [z0,z1,z2,z3,z4,z5,z6,z7,z8,z9] 9 0=z9:=rfl;have hn:num [z0,z1,z2,z3,z4,z5,z6,z7,z8,z9]=z0+67108864*z1+4503599627370496*z2+302231454903657293676544*z3+20282409603651670423947251286016*z4+1361129467683753853853498429727072845824*z5+91343852333181432387730302044767688728495783936*z6+6129982163463555433433388108601236734474956488734408704*z7+411376139330301510538742295639337626245683966408394965837152256*z8+27606985387162255149739023449108101809804435888681546220650096895197184*z9:=by
  simp only[num,numW];omega
 have hk:k<20000:=by
  rw[hn] at h4;omega
 have q1:ibin .quo .i64 z9 2097152=z9/2097152:=by
  have e:z9=((z9.toNat:Nat):Int):=by omega
  rw[e,show (2097152:Int)=((2097152:Nat):Int) from rfl,i_quo _ (by omega)];rfl
 have q2:ibin .rem .i64 z9 2097152=z9%2097152:=by
  have e:z9=((z9.toNat:Nat):Int):=by omega
  rw[e,show (2097152:Int)=((2097152:Nat):Int) from rfl,i_rem];rfl
 have q3:ibin .mul .i64 608 k=608*k:=i_mul (by omega) (by omega);have q4:ibin .mul .i64 19 (z9/2097152)=19*(z9/2097152):=i_mul (by omega) (by omega);have q5:ibin .add .i64 (608*k) (19*(z9/2097152))=608*k+19*(z9/2097152):=i_add (by omega) (by omega);rw[e9,q1,q2,q3,q4,q5];have es:List.set [z0,z1,z2,z3,z4,z5,z6,z7,z8,z9] 9 (z9%2097152)=[z0,z1,z2,z3,z4,z5,z6,z7,z8,z9%2097152]:=rfl;rw[es];have hn2:num [z0,z1,z2,z3,z4,z5,z6,z7,z8,z9%2097152]=z0+67108864*z1+4503599627370496*z2+302231454903657293676544*z3+20282409603651670423947251286016*z4+1361129467683753853853498429727072845824*z5+91343852333181432387730302044767688728495783936*z6+6129982163463555433433388108601236734474956488734408704*z7+411376139330301510538742295639337626245683966408394965837152256*z8+27606985387162255149739023449108101809804435888681546220650096895197184*(z9%2097152):=by
  simp only[num,numW];omega
 have hV2:V=num [z0,z1,z2,z3,z4,z5,z6,z7,z8,z9%2097152]+T255*(32*k+z9/2097152):=by
  rw[hn2,← h4,hn];simp only[T255];omega
 have hlt:0≤num [z0,z1,z2,z3,z4,z5,z6,z7,z8,z9%2097152]∧num [z0,z1,z2,z3,z4,z5,z6,z7,z8,z9%2097152]<T255:=by
  rw[hn2];simp only[T255];omega
 refine⟨rfl,?_,?_,?_,by omega⟩
 ·intro x hx;show 0≤x∧x<67108864;simp only[List.mem_cons,List.not_mem_nil,or_false] at hx;rcases hx with rfl|rfl|rfl|rfl|rfl|rfl|rfl|rfl|rfl|rfl
  all_goals first|assumption|omega
 ·rw[hV2,Int.add_mul_emod_self_left,Int.emod_eq_of_lt hlt.1 hlt.2]
 ·have:V/T255=32*k+z9/2097152:=by
   rw[hV2,Int.add_mul_ediv_left _ _ (by decide),Int.ediv_eq_zero_of_lt hlt.1 hlt.2,Int.zero_add]
  rw[this];omega
theorem ZFI(N k:Nat)(c:Int)(o:LI):loopF (ZaS N) (k+1) (((),c,(),false),((),(),o))=some (.inl (((),()),((),(),o))):=rfl
theorem Zv6(N k:Nat)(c:Int){o:LI}(ho:o.length=10):loopF (ZaS N) (k+1) (((),c,(),true),((),(),o))=loopF (ZaS N) k (((),rC c o,(),icmp .gtr (rC c o) 0),((),(),rO c o)):=by
 obtain⟨x0,x1,x2,x3,x4,x5,x6,x7,x8,x9,rfl⟩:=ten ho;rw[Zeg,ZFH];rfl
theorem Dg.small{o:LI}(h:Dg 26 o):∀ x∈o,0≤x∧x<1099511627776:=fun x hx=>by
 have:=h x hx;change 0≤x∧x<67108864 at this;omega
theorem Zyt(N k:Nat){o:LI}(ho:o.length=10)(hr:∀ x∈o,0≤x∧x<1099511627776){c:Int}(hc:0≤c∧c<1099511627776)(h:num o+c<T255)(h0:0≤num o):
  ∃ r,loopF (ZaS N) (k+2) (((),c,(),true),((),(),o))=some (.inl (((),()),((),(),r)))∧r.length=10∧Dg 26 r∧num r=num o+c:=by
 obtain⟨h1,h2,h3,h4,h5⟩:=Zyr ho hr hc;rw[Int.ediv_eq_zero_of_lt (by omega) h] at h4;rw[Int.emod_eq_of_lt (by omega) h] at h3;refine⟨rO c o,?_,h1,h2,h3⟩;rw[Zv6 _ _ _ ho,show icmp .gtr (rC c o) 0=false by rw[h4];rfl,ZFI]
theorem ZHn(N k:Nat){o:LI}(ho:o.length=10)(hr:∀ x∈o,0≤x∧x<1099511627776){c:Int}(hc:0≤c∧c<1099511627776)(h:num o+c<T255+1099511627776)(h0:0≤num o):
  ∃ r j,loopF (ZaS N) (k+3) (((),c,(),true),((),(),o))=some (.inl (((),()),((),(),r)))∧r.length=10∧Dg 26 r∧num r<T255∧num o+c=num r+pF*j:=by
 by_cases hl:num o+c<T255
 ·obtain⟨r,h1,h2,h3,h4⟩:=Zyt N (k+1) ho hr hc hl h0;exact⟨r,0,h1,h2,h3,by omega,by omega⟩
 ·obtain⟨h1,h2,h3,h4,h5⟩:=Zyr ho hr hc;have t1:(num o+c)/T255=1:=by simp only[T255] at*;omega
  have t2:(num o+c)%T255=num o+c-T255:=by simp only[T255] at*;omega
  rw[t1] at h4;rw[t2] at h3;rw[Zv6 _ _ _ ho,h4,show icmp .gtr (19*1) 0=true from rfl];obtain⟨r,g1,g2,g3,g4⟩:=Zyt N k h1 h2.small (c:=19*1) (by decide) (by rw[h3];simp only[T255] at*;omega) h2.nonneg;refine⟨r,1,g1,g2,g3,?_,?_⟩
  ·rw[g4,h3];simp only[T255] at*;omega
  ·rw[g4,h3];simp only[T255,pF] at*;omega
theorem ZFJ(N k:Nat){o:LI}(ho:o.length=10)(hr:∀ x∈o,0≤x∧x<1099511627776){c:Int}(hc:0≤c∧c<1099511627776)(h0:0≤num o):
  ∃ r j,loopF (ZaS N) (k+4) (((),c,(),true),((),(),o))=some (.inl (((),()),((),(),r)))∧r.length=10∧Dg 26 r∧num r<T255∧num o+c=num r+pF*j:=by
 by_cases hl:num o+c<T255
 ·obtain⟨r,h1,h2,h3,h4⟩:=Zyt N (k+2) ho hr hc hl h0;exact⟨r,0,h1,h2,h3,by omega,by omega⟩
 ·obtain⟨h1,h2,h3,h4,h5⟩:=Zyr ho hr hc;have t1:1≤(num o+c)/T255:=by simp only[T255] at*;omega
  have t2:num o+c=(num o+c)%T255+T255*((num o+c)/T255):=(Int.emod_add_mul_ediv _ _).symm;have t3:(num o+c)%T255<T255:=Int.emod_lt_of_pos _ (by decide);rw[Zv6 _ _ _ ho,show icmp .gtr (rC c o) 0=true from decide_eq_true (by rw[h4];omega)];obtain⟨r,j,g1,g2,g3,g4,g5⟩:=ZHn N k h1 h2.small (c:=rC c o) ⟨by rw[h4];omega,h5⟩ (by rw[h3];omega) h2.nonneg;refine⟨r,j+(num o+c)/T255,g1,g2,g3,g4,?_⟩;rw[h3,h4] at g5;generalize num o+c=V at*
  generalize V/T255=t at*
  generalize V%T255=m at*
  rw[Int.mul_add];simp only[T255,pF] at*
  omega
def fold20(e:LI):LI:=List.zipWith (fun x y=>ibin .add .i64 x (ibin .mul .i64 608 y)) (e.take 10) (e.drop 10)
theorem ZFK(N:Nat)(x0 x1 x2 x3 x4 x5 x6 x7 x8 x9 y0 y1 y2 y3 y4 y5 y6 y7 y8 y9:Int):Zbg N ([x0,x1,x2,x3,x4,x5,x6,x7,x8,x9]++[y0,y1,y2,y3,y4,y5,y6,y7,y8,y9])=
  mo (loopF (ZaS N) N (((),0,(),true),((),(),fold20 (sweep64 0 ([x0,x1,x2,x3,x4,x5,x6,x7,x8,x9]++[y0,y1,y2,y3,y4,y5,y6,y7,y8,y9])).1))) none fun r=>
   match r with
   | .inl u=>cond (!(ZcN u.2.2.2 refP)) (some (ZbU u.2.2.2 refP)) (some u.2.2.2)
   | .inr _=>none:=by kernel_rfl
theorem ZHo{e:LI}(he:e.length=20)(hd:Dg 26 e):(fold20 e).length=10∧(∀ x∈fold20 e,0≤x∧x<1099511627776)∧∃ j,num e=num (fold20 e)+pF*j:=by
 obtain⟨x0,x1,x2,x3,x4,x5,x6,x7,x8,x9,y0,y1,y2,y3,y4,y5,y6,y7,y8,y9,rfl⟩:=twenty he;have D:∀ x y:Int,0≤x∧x<67108864→0≤y∧y<67108864→ibin .add .i64 x (ibin .mul .i64 608 y)=x+608*y:=by
  intro x y hx hy;rw[i_mul (by omega) (by omega),i_add (by omega) (by omega)]
 have hm:∀ z∈[x0,x1,x2,x3,x4,x5,x6,x7,x8,x9]++[y0,y1,y2,y3,y4,y5,y6,y7,y8,y9],0≤z∧z<67108864:=hd;have E:fold20 ([x0,x1,x2,x3,x4,x5,x6,x7,x8,x9]++[y0,y1,y2,y3,y4,y5,y6,y7,y8,y9])=[x0+608*y0,x1+608*y1,x2+608*y2,x3+608*y3,x4+608*y4,x5+608*y5,x6+608*y6,x7+608*y7,x8+608*y8,x9+608*y9]:=by
  show [ibin .add .i64 x0 (ibin .mul .i64 608 y0),ibin .add .i64 x1 (ibin .mul .i64 608 y1),ibin .add .i64 x2 (ibin .mul .i64 608 y2),ibin .add .i64 x3 (ibin .mul .i64 608 y3),ibin .add .i64 x4 (ibin .mul .i64 608 y4),ibin .add .i64 x5 (ibin .mul .i64 608 y5),ibin .add .i64 x6 (ibin .mul .i64 608 y6),ibin .add .i64 x7 (ibin .mul .i64 608 y7),ibin .add .i64 x8 (ibin .mul .i64 608 y8),ibin .add .i64 x9 (ibin .mul .i64 608 y9)]=_;rw[D x0 y0,D x1 y1,D x2 y2,D x3 y3,D x4 y4,D x5 y5,D x6 y6,D x7 y7,D x8 y8,D x9 y9]
  all_goals exact hm _ (by simp)
 change (fold20 ([x0,x1,x2,x3,x4,x5,x6,x7,x8,x9]++[y0,y1,y2,y3,y4,y5,y6,y7,y8,y9])).length=10∧(∀ x∈fold20 ([x0,x1,x2,x3,x4,x5,x6,x7,x8,x9]++[y0,y1,y2,y3,y4,y5,y6,y7,y8,y9]),0≤x∧x<1099511627776)∧∃ j,num ([x0,x1,x2,x3,x4,x5,x6,x7,x8,x9]++[y0,y1,y2,y3,y4,y5,y6,y7,y8,y9])=num (fold20 ([x0,x1,x2,x3,x4,x5,x6,x7,x8,x9]++[y0,y1,y2,y3,y4,y5,y6,y7,y8,y9]))+pF*j;rw[E];refine⟨rfl,?_,32*num [y0,y1,y2,y3,y4,y5,y6,y7,y8,y9],?_⟩
 ·have key:∀ u v:Int,0≤u∧u<67108864→0≤v∧v<67108864→0≤u+608*v∧u+608*v<1099511627776:=by intro u v hu hv;omega
  intro x hx;simp only[List.mem_cons,List.not_mem_nil,or_false] at hx;rcases hx with rfl|rfl|rfl|rfl|rfl|rfl|rfl|rfl|rfl|rfl
  all_goals exact key _ _ (hm _ (by simp)) (hm _ (by simp))
 ·clear hm hd D E he;show num [x0,x1,x2,x3,x4,x5,x6,x7,x8,x9,y0,y1,y2,y3,y4,y5,y6,y7,y8,y9]=_;simp only[num,numW,pF];omega
theorem Zzo:num refP=pF:=by decide
theorem ZB3:Dg 26 refP:=by
 intro x hx;show 0≤x∧x<67108864;simp only[refP,List.mem_cons,List.not_mem_nil,or_false] at hx;rcases hx with rfl|rfl|rfl|rfl|rfl|rfl|rfl|rfl|rfl|rfl<;>decide
theorem Zv7{d:LI}(hd:d.length=20)(hr:∀ x∈d,0≤x∧x<4611686018427387904)(hn:num d<1852673427797059126777135760139006525652319754650249024631321344126610074238976*1852673427797059126777135760139006525652319754650249024631321344126610074238976):
  ∃ r,Zbg 300 d=some r∧CF r∧num r=num d%pF:=by
 obtain⟨s1,s2,s3,s4⟩:=Zys d hr 0 (by decide) (by decide);have s5:(sweep64 0 d).2=0:=by
  have g:=s2.nonneg;rw[hd,show ((2:Int)^26)^20=1852673427797059126777135760139006525652319754650249024631321344126610074238976*1852673427797059126777135760139006525652319754650249024631321344126610074238976 by decide] at s4;simp only[num] at*
  generalize (sweep64 0 d).2=k at*
  generalize numW 26 (sweep64 0 d).1=m at*
  generalize numW 26 d=v at*
  omega
 rw[s5,Int.mul_zero,Int.add_zero,Int.zero_add] at s4;obtain⟨f1,f2,j,f3⟩:=ZHo (s1.trans hd) s2;obtain⟨r,i,l1,l2,l3,l4,l5⟩:=ZFJ 300 296 f1 f2 (c:=0) (by decide) (Zv8 _ fun x hx=>(f2 x hx).1);have e:Zbg 300 d=cond (!(ZcN r refP)) (some (ZbU r refP)) (some r):=by
  obtain⟨x0,x1,x2,x3,x4,x5,x6,x7,x8,x9,y0,y1,y2,y3,y4,y5,y6,y7,y8,y9,rfl⟩:=twenty hd;refine(ZFK 300 _ _ _ _ _ _ _ _ _ _ _ _ _ _ _ _ _ _ _ _).trans ?_;exact(congrArg (fun z=>mo z none _) l1).trans rfl
 have hV:num d=num r+pF*(i+j):=by rw[← s4,f3,Int.mul_add];omega
 have n0:=l3.nonneg;rw[e];cases hb:ZcN r refP
 ·have hge:num refP≤num r:=by
   rcases Int.lt_or_le (num r) (num refP) with h|h
   ·rw[(ZBc l2 rfl l3 ZB3).2 h] at hb;cases hb
   ·exact h
  obtain⟨m1,m2,m3⟩:=ZBb l2 rfl l3 ZB3 hge;rw[Zzo] at m3 hge;have hlt:num r-pF<pF:=by simp only[pF,T255] at*;omega
  refine⟨_,rfl,⟨m1,m2,by rw[m3];exact hlt⟩,?_⟩;rw[m3,hV,Int.add_mul_emod_self_left,← Int.emod_eq_of_lt (by omega) hlt,Int.sub_emod_right]
 ·have h:=(ZBc l2 rfl l3 ZB3).1 hb;rw[Zzo] at h;exact⟨_,rfl,⟨l2,l3,h⟩,by rw[hV,Int.add_mul_emod_self_left,Int.emod_eq_of_lt n0 h]⟩
end Go.Vx.Ref
namespace Go.Vx.Ref
open Go
theorem s_bit{y:Int}(k:Nat)(hk:k≤64):ibin .and .i64 (ibin .shr .i64 y (k:Int)) 1=y/2^k%2:=by
 rw[i_shr k hk,ZES]
theorem ZB4(x:Int)(h:x=0∨x=1):icmp .eql x 1=decide (x=1):=by
 rcases h with rfl|rfl<;>rfl
theorem bit01(x:Int):x%2=0∨x%2=1:=by omega
theorem Zxp{n:Nat}{i:Nat}(h:i<n):decide (0≤(i:Int)∧(i:Int)<((n:Nat):Int))=true:=decide_eq_true ⟨by omega,by omega⟩
theorem ZBd(i:Nat):decide (0≤(i:Int))=true:=decide_eq_true (by omega)
theorem i_inc{i:Nat}(h:i<1000000):ibin .add .i64 (i:Int) 1=((i+1:Nat):Int):=by rw[i_add (by omega) (by omega)];omega
def Cols(M:Int)(d:LI):Prop:=d.length=20∧∀ x∈d,0≤x∧x<M+1
theorem ZIL(y:Int)(b:Nat)(n:Nat):y/2^b*2^(n+b)=y/2^b%2*2^(n+b)+y/2^(b+1)*2^(n+(b+1)):=by
 have e:y/2^(b+1)=y/2^b/2:=by rw[Int.pow_succ,← Int.ediv_ediv_of_nonneg (Int.le_of_lt (Int.pow_pos (by decide)))]
 rw[e,show n+(b+1)=n+b+1 by omega,Int.pow_succ];generalize y/2^b=z;generalize (2:Int)^(n+b)=t;have:=Int.emod_add_mul_ediv z 2;generalize z%2=u at*
 generalize z/2=v at*
 subst this;rw[Int.add_mul,Int.mul_comm t,← Int.mul_assoc,Int.mul_comm v]
theorem ZHp(N:Nat){a l:LI}(ha:CF a){n:Nat}(hn:n<255)(hd:Dg 8 l)(hl:l.length=32)(hm:numW 8 l=num a%2^n):
  ∃ l',Zbl N (((),(),(),(n:Int)),(a,(),l))=some (.inl (((),(),(),((n+1:Nat):Int)),(a,(),l')))∧Dg 8 l'∧l'.length=32∧numW 8 l'=num a%2^(n+1):=by
 have x1:ibin .quo .i64 (n:Int) 26=((n/26:Nat):Int):=i_quo 26 (by omega);have x2:ibin .rem .i64 (n:Int) 26=((n%26:Nat):Int):=i_rem 26;have x3:ibin .quo .i64 (n:Int) 8=((n/8:Nat):Int):=i_quo 8 (by omega);have x4:ibin .rem .i64 (n:Int) 8=((n%8:Nat):Int):=i_rem 8;have r1:n%26<26:=Nat.mod_lt _ (by decide);have r2:n%8<8:=Nat.mod_lt _ (by decide);have q1:n/26<10:=by omega
 have q2:n/8<32:=by omega
 have hc:icmp .lss (n:Int) 255=true:=by
  have h:(n:Int)<255:=by omega
  simpa [icmp] using h
 have hbit:List.getD a (n/26) 0/2^(n%26)%2=num a/2^n%2:=by
  rw[ZAl (w:=26) _ _ ha.2.1 _ r1,Nat.div_add_mod]
 have hs:=ZIM (num a) n;have hlt:num a%2^n<2^n:=Int.emod_lt_of_pos _ (Int.pow_pos (by decide));obtain⟨p0,p1,p2⟩:=put_bit (w:=8) (n:=n) (k:=n/8) (r:=n%8) hd (Nat.div_add_mod _ _).symm r2 (by rw[hl];exact q2) (by rw[hm];exact hlt);have hw:(2:Int)*2^(n%8)≤2^8:=by
  have:(2:Nat)^(n%8+1)≤2^8:=Nat.pow_le_pow_right (by decide) (by omega);rw[Nat.pow_succ,Nat.mul_comm] at this
  exact_mod_cast this
 have hp:(0:Int)<2^(n%8):=Int.pow_pos (by decide);rw[show (2:Int)^8=256 from rfl] at hw;have o1:ibin .shl .u8 1 ((n%8:Nat):Int)=2^(n%8):=by
  show IntKind.wrap .u8 (1*2^(min ((n%8:Nat):Int).toNat 8))=_;rw[Int.toNat_natCast,Nat.min_eq_left (by omega),Int.one_mul,wrap8,Int.emod_eq_of_lt (by omega) (by omega)]
 have o2:ibin .add .u8 (List.getD l (n/8) 0) (2^(n%8))=List.getD l (n/8) 0+2^(n%8):=by
  show IntKind.wrap .u8 _=_;rw[wrap8,Int.emod_eq_of_lt (by omega) (by omega)]
 unfold Zbl;simp only[hc,cond_true,x1,x2,x3,x4,Zxp q1,Zxp q2,ZBd,Int.toNat_natCast,s_bit (n%26) (by omega),i_inc (show n<1000000 by omega),o1,o2,hbit];rw[ZB4 _ (bit01 _)];rcases bit01 (num a/2^n) with h|h
 ·rw[h] at hs ⊢;exact⟨l,rfl,hd,hl,by rw[hm,hs];omega⟩
 ·rw[h] at hs ⊢;exact⟨_,rfl,p1,by rw[List.length_set];exact hl,by rw[p2,hm,hs];omega⟩
theorem ZDp(N:Nat){a:LI}(ha:CF a):(k:Nat)→(n:Nat)→n+k=255→(fuel:Nat)→k<fuel→(l:LI)→Dg 8 l→l.length=32→numW 8 l=num a%2^n→
  ∃ l',loopF (Zbl N) fuel (((),(),(),(n:Int)),(a,(),l))=some (.inl (((),()),((),l')))∧Dg 8 l'∧l'.length=32∧numW 8 l'=num a%2^255
 |0,n,hn,fuel+1,_,l,hd,hl,hm=>by
  obtain rfl:n=255:=by omega
  exact⟨l,rfl,hd,hl,hm⟩
 |k+1,n,hn,fuel+1,hf,l,hd,hl,hm=>by
  obtain⟨l1,h1,h2,h3,h4⟩:=ZHp N ha (show n<255 by omega) hd hl hm;obtain⟨l2,g1,g2⟩:=ZDp N ha k (n+1) (by omega) fuel (by omega) l1 h2 h3 h4;exact⟨l2,by rw[Zeg,h1];exact g1,g2⟩
theorem ZHq{a:LI}(ha:CF a):∃ l,ZaT 300 a=some l∧Dg 8 l∧l.length=32∧numW 8 l=num a:=by
 obtain⟨l,h1,h2,h3,h4⟩:=ZDp 300 ha 255 0 rfl 300 (by decide) [0,0,0,0,0,0,0,0,0,0,0,0,0,0,0,0,0,0,0,0,0,0,0,0,0,0,0,0,0,0,0,0] (by intro x hx;simp only[List.mem_cons,List.not_mem_nil,or_false,or_self] at hx;subst hx;decide) rfl (by
  rw[Int.pow_zero,Int.emod_one];decide)
 refine⟨l,?_,h2,h3,?_⟩
 ·unfold ZaT;rw[show (0:Int)=((0:Nat):Int) from rfl] at*
  rw[h1];rfl
 ·rw[h4];have:=ha.2.2;have h0:=ha.2.1.nonneg;refine Int.emod_eq_of_lt h0 ?_;rw[show (2:Int)^255=T255 by decide];simp only[pF,T255] at*
  omega
theorem CF.dig{a:LI}(h:CF a):∀ x∈a,0≤x∧x<67108864:=h.2.1
theorem ZDq{a b:LI}(ha:CF a)(hb:CF b):∃ r,ZbB 300 a b=some r∧CF r∧num r=(num a+num b)%pF:=by
 have a2:=ha.2.2;have b2:=hb.2.2;obtain⟨x0,x1,x2,x3,x4,x5,x6,x7,x8,x9,rfl⟩:=ten ha.1;obtain⟨y0,y1,y2,y3,y4,y5,y6,y7,y8,y9,rfl⟩:=ten hb.1;have D:∀ x y:Int,0≤x∧x<67108864→0≤y∧y<67108864→ibin .add .i64 x y=x+y:=fun x y hx hy=>i_add (by omega) (by omega)
 have g0:=ha.dig x0 (by simp);have k0:=hb.dig y0 (by simp);have g1:=ha.dig x1 (by simp);have k1:=hb.dig y1 (by simp);have g2:=ha.dig x2 (by simp);have k2:=hb.dig y2 (by simp);have g3:=ha.dig x3 (by simp);have k3:=hb.dig y3 (by simp);have g4:=ha.dig x4 (by simp);have k4:=hb.dig y4 (by simp);have g5:=ha.dig x5 (by simp);have k5:=hb.dig y5 (by simp);have g6:=ha.dig x6 (by simp);have k6:=hb.dig y6 (by simp);have g7:=ha.dig x7 (by simp);have k7:=hb.dig y7 (by simp);have g8:=ha.dig x8 (by simp);have k8:=hb.dig y8 (by simp);have g9:=ha.dig x9 (by simp);have k9:=hb.dig y9 (by simp);have e:ZbB 300 [x0,x1,x2,x3,x4,x5,x6,x7,x8,x9] [y0,y1,y2,y3,y4,y5,y6,y7,y8,y9]=mo (Zbg 300 ([x0+y0,x1+y1,x2+y2,x3+y3,x4+y4,x5+y5,x6+y6,x7+y7,x8+y8,x9+y9]++[0,0,0,0,0,0,0,0,0,0])) none fun r=>some r:=by
  show mo (Zbg 300 [ibin .add .i64 x0 y0,ibin .add .i64 x1 y1,ibin .add .i64 x2 y2,ibin .add .i64 x3 y3,ibin .add .i64 x4 y4,ibin .add .i64 x5 y5,ibin .add .i64 x6 y6,ibin .add .i64 x7 y7,ibin .add .i64 x8 y8,ibin .add .i64 x9 y9,0,0,0,0,0,0,0,0,0,0]) none (fun r=>some r)=_;rw[D x0 y0,D x1 y1,D x2 y2,D x3 y3,D x4 y4,D x5 y5,D x6 y6,D x7 y7,D x8 y8,D x9 y9]
  ·rfl
  all_goals assumption
 have hn:num ([x0+y0,x1+y1,x2+y2,x3+y3,x4+y4,x5+y5,x6+y6,x7+y7,x8+y8,x9+y9]++[0,0,0,0,0,0,0,0,0,0])=num [x0,x1,x2,x3,x4,x5,x6,x7,x8,x9]+num [y0,y1,y2,y3,y4,y5,y6,y7,y8,y9]:=by
  clear ha hb D e a2 b2;show num [x0+y0,x1+y1,x2+y2,x3+y3,x4+y4,x5+y5,x6+y6,x7+y7,x8+y8,x9+y9,0,0,0,0,0,0,0,0,0,0]=_;simp only[num,numW];omega
 obtain⟨r,h1,h2,h3⟩:=Zv7 (d:=[x0+y0,x1+y1,x2+y2,x3+y3,x4+y4,x5+y5,x6+y6,x7+y7,x8+y8,x9+y9]++[0,0,0,0,0,0,0,0,0,0]) rfl (by
  have key:∀ u v:Int,0≤u∧u<67108864→0≤v∧v<67108864→0≤u+v∧u+v<4611686018427387904:=by intro u v hu hv;omega
  intro x hx;simp only[List.cons_append,List.nil_append,List.mem_cons,List.not_mem_nil,or_false,or_self] at hx;rcases hx with rfl|rfl|rfl|rfl|rfl|rfl|rfl|rfl|rfl|rfl|rfl
  all_goals first|decide|exact key _ _ (by assumption) (by assumption)) (by rw[hn];simp only[pF] at*;omega)
 exact⟨r,by rw[e,h1];rfl,h2,by rw[h3,hn]⟩
theorem ZAd:CF [0,0,0,0,0,0,0,0,0,0]:=⟨rfl,by intro x hx;simp only[List.mem_cons,List.not_mem_nil,or_false,or_self] at hx;subst hx;decide,by decide⟩
theorem ZB5:num [0,0,0,0,0,0,0,0,0,0]=0:=by decide
theorem Zyk:CF [1,0,0,0,0,0,0,0,0,0]:=⟨rfl,by
 intro x hx;show 0≤x∧x<67108864;simp only[List.mem_cons,List.not_mem_nil,or_false,or_self] at hx;rcases hx with rfl|rfl<;>decide,by decide⟩
theorem num_one:num [1,0,0,0,0,0,0,0,0,0]=1:=by decide
theorem CF.zero_iff{a:LI}(ha:CF a):a=[0,0,0,0,0,0,0,0,0,0]↔num a=0:=
 ⟨fun h=>by rw[h];exact ZB5,fun h=>ha.inj ZAd (by rw[h,ZB5])⟩
theorem ZAm{a:LI}(ha:CF a):CF (Zat a)∧num (Zat a)=(- num a)%pF:=by
 unfold Zat;by_cases h:a=[0,0,0,0,0,0,0,0,0,0]
 ·rw[decide_eq_true h,cond_true];exact⟨ha,by rw[h,ZB5];rfl⟩
 ·rw[decide_eq_false h,cond_false];have h0:=ha.2.1.nonneg;have h1:num a≠0:=fun e=>h (ha.zero_iff.2 e)
  have h2:=ha.2.2;obtain⟨m1,m2,m3⟩:=ZBb (a:=refP) (b:=a) rfl ha.1 ZB3 ha.2.1 (by rw[Zzo];omega);rw[Zzo] at m3;simp only[num] at*
  refine⟨⟨m1,m2,by simp only[num];rw[m3];omega⟩,?_⟩;rw[m3,show-numW 26 a=(pF-numW 26 a)+pF*(-1) by omega,Int.add_mul_emod_self_left,Int.emod_eq_of_lt (by omega) (by omega)]
theorem ZHr{a b:LI}(ha:CF a)(hb:CF b):∃ r,Zcb 300 a b=some r∧CF r∧num r=(num a-num b)%pF:=by
 obtain⟨n1,n2⟩:=ZAm hb;obtain⟨r,h1,h2,h3⟩:=ZDq ha n1;refine⟨r,by unfold Zcb;rw[h1];rfl,h2,?_⟩;rw[h3,n2,Int.add_emod_emod,Int.sub_eq_add_neg]
theorem ZHs(N:Nat)(x0 x1 x2 x3 x4 x5 x6 x7 x8 x9 y0 y1 y2 y3 y4 y5 y6 y7 y8 y9:Int):Zam N [x0,x1,x2,x3,x4,x5,x6,x7,x8,x9] [y0,y1,y2,y3,y4,y5,y6,y7,y8,y9]=mo (Zbg N (mul64 [y0,y1,y2,y3,y4,y5,y6,y7,y8,y9] [x0,x1,x2,x3,x4,x5,x6,x7,x8,x9] [0,0,0,0,0,0,0,0,0,0,0,0,0,0,0,0,0,0,0,0])) none fun r=>some r:=by kernel_rfl
theorem ZHt{a b:LI}(ha:CF a)(hb:CF b):∃ r,Zam 300 a b=some r∧CF r∧num r=(num a*num b)%pF:=by
 have z:num [0,0,0,0,0,0,0,0,0,0,0,0,0,0,0,0,0,0,0,0]=0:=by decide
 obtain⟨h1,h2,h3⟩:=ZyP hb.2.1 a [0,0,0,0,0,0,0,0,0,0,0,0,0,0,0,0,0,0,0,0] ha.dig 0 (by decide) (by rw[ha.1];decide) (by rw[ha.1,hb.1];decide) (by decide);rw[z,Int.zero_add] at h3;have e:Zam 300 a b=mo (Zbg 300 (mul64 b a [0,0,0,0,0,0,0,0,0,0,0,0,0,0,0,0,0,0,0,0])) none fun r=>some r:=by
  obtain⟨x0,x1,x2,x3,x4,x5,x6,x7,x8,x9,rfl⟩:=ten ha.1;obtain⟨y0,y1,y2,y3,y4,y5,y6,y7,y8,y9,rfl⟩:=ten hb.1;exact ZHs _ _ _ _ _ _ _ _ _ _ _ _ _ _ _ _ _ _ _ _ _
 have hlt:num a*num b<1852673427797059126777135760139006525652319754650249024631321344126610074238976*1852673427797059126777135760139006525652319754650249024631321344126610074238976:=by
  have a2:=ha.2.2;have b2:=hb.2.2;have a0:=ha.2.1.nonneg;have b0:=hb.2.1.nonneg;have:num a*num b≤pF*pF:=Int.mul_le_mul (by omega) (by omega) b0 (by decide);refine Int.lt_of_le_of_lt this (by decide)
 rw[ha.1] at h2;obtain⟨r,l1,l2,l3⟩:=Zv7 h1 (fun x hx=>by have:=h2 x hx;omega) (by rw[h3];exact hlt);exact⟨r,by rw[e,l1];rfl,l2,by rw[l3,h3]⟩
end Go.Vx.Ref
namespace Go.Vx.Ref
open Go
theorem ZAn{a:LI}(ha:CF a):ibin .and .i64 (List.getD a 0 0) 1=num a%2:=by
 rw[ZES];obtain⟨x0,x1,x2,x3,x4,x5,x6,x7,x8,x9,rfl⟩:=ten ha.1;simp only[List.getD_cons_zero,num,numW];omega
theorem ZAM{a:LI}(ha:CF a):Zbh a=decide (num a%2=1):=by
 unfold Zbh;rw[ZAn ha,ZB4 _ (bit01 _)]
theorem ZHu{a:LI}(ha:CF a):Zcp a=if num a%2=1 then Zat a else a:=by
 unfold Zcp;rw[ZAn ha,ZB4 _ (bit01 _)];by_cases h:num a%2=1
 ·rw[decide_eq_true h,cond_true,if_pos h]
 ·rw[decide_eq_false h,cond_false,if_neg h]
end Go.Vx.Ref
namespace Go.Vx.Ref
open Go
theorem ZHv:(l:LI)→Bs l→(numB l:Int)=numW 8 l
 | [],_=>rfl
 |x::l,h=>by
  have h1:=h x (by simp);have h2:=ZHv l (fun y hy=>h y (by simp[hy]));simp only[numB,numW];rw[← h2];show ((x.toNat+256*numB l:Nat):Int)=x+256*(numB l:Int);omega
theorem Bs.dg{l:LI}(h:Bs l):Dg 8 l:=fun x hx=>by
 have:=h x hx;show 0≤x∧x<256;omega
theorem nbit{y:Int}(h:0≤y∧y≤255)(k:Nat)(hk:k≤8):ibin .and .u8 (ibin .shr .u8 y (k:Int)) 1=y/2^k%2:=by
 rw[b_bit h k hk,Int.natCast_emod,Int.natCast_ediv,Int.natCast_pow];have:((y.toNat:Nat):Int)=y:=by omega
 rw[this];rfl
theorem ZEa(N:Nat){l d:LI}(hl:Bs l)(hlen:l.length≤64){M:Int}(hM:0≤M∧M<1152921504606846976)(hd:Cols M d){n:Nat}(hn:n<8*l.length):
  ∃ d',Za5 N ((l.length,(),(),(n:Int)),((l.length,l),(),d))=some (.inl ((l.length,(),(),((n+1:Nat):Int)),((l.length,l),(),d')))∧Cols (M+33554432) d'∧num d'=num d+(numW 8 l/2^n%2)*2^n:=by
 have hy:0≤List.getD l (n/8) 0∧List.getD l (n/8) 0≤255:=by
  have:=Zut (lo:=0) (hi:=256) (by decide) l (fun x hx=>by have:=hl x hx;omega) (n/8);omega
 have x1:ibin .quo .i64 (n:Int) 8=((n/8:Nat):Int):=i_quo 8 (by omega);have x2:ibin .rem .i64 (n:Int) 8=((n%8:Nat):Int):=i_rem 8;have x3:ibin .quo .i64 (n:Int) 26=((n/26:Nat):Int):=i_quo 26 (by omega);have x4:ibin .rem .i64 (n:Int) 26=((n%26:Nat):Int):=i_rem 26;have hlt:n/26<20:=by omega
 have hr:n%26<26:=Nat.mod_lt _ (by decide);have hr8:n%8<8:=Nat.mod_lt _ (by decide);have hx:26*(n/26)+n%26=n:=Nat.div_add_mod _ _;have hx8:8*(n/8)+n%8=n:=Nat.div_add_mod _ _;have hm:ibin .mul .i64 8 ((l.length:Nat):Int)=((8*l.length:Nat):Int):=by rw[i_mul (by omega) (by omega)];omega
 have hc:icmp .lss (n:Int) ((8*l.length:Nat):Int)=true:=by
  have h:(n:Int)<((8*l.length:Nat):Int):=by omega
  simpa [icmp] using h
 have hbit:ibin .and .u8 (ibin .shr .u8 (List.getD l (n/8) 0) ((n%8:Nat):Int)) 1=numW 8 l/2^n%2:=by
  rw[nbit hy _ (by omega),ZAl (w:=8) _ _ (Bs.dg hl) _ hr8,hx8]
 unfold Za5;simp only[hm,hc,cond_true,x1,x2,x3,x4,Zxp (show n/8<l.length by omega),Zxp hlt,ZBd,Int.toNat_natCast,Nat.zero_add,hbit,i_inc (show n<1000000 by omega),i_shl (show n%26<62 by omega)];rw[ZB4 _ (bit01 _)];rcases bit01 (numW 8 l/2^n) with h|h
 ·rw[h];exact⟨d,rfl,⟨hd.1,fun x hx=>by have:=hd.2 x hx;omega⟩,by omega⟩
 ·rw[h];have h3:=Zut (lo:=0) (hi:=M+1) ⟨Int.le_refl 0,by omega⟩ d hd.2 (n/26);have h4:(2:Int)^(n%26)≤2^25:=by
   have:(2:Nat)^(n%26)≤2^25:=Nat.pow_le_pow_right (by decide) (by omega)
   exact_mod_cast this
  have h5:(0:Int)<2^(n%26):=Int.pow_pos (by decide);rw[show (2:Int)^25=33554432 from rfl] at h4;have e2:ibin .add .i64 (List.getD d (n/26) 0) (2^(n%26))=List.getD d (n/26) 0+2^(n%26):=i_add (by omega) (by omega);rw[e2];refine⟨_,rfl,⟨by rw[List.length_set];exact hd.1,ZAo (by omega) d (fun x hx=>by have:=hd.2 x hx;omega) _⟩,?_⟩;rw[num,ZB6 _ d _ (by rw[hd.1];exact hlt),← Int.pow_add,Nat.add_comm,hx,Int.one_mul]
theorem ZAp(N:Nat){l:LI}(hl:Bs l)(hlen:l.length≤64):(k:Nat)→(n:Nat)→n+k=8*l.length→(fuel:Nat)→k<fuel→(M:Int)→0≤M→M+33554432*k<1152921504606846976→(d:LI)→Cols M d→
  ∃ d',loopF (Za5 N) fuel ((l.length,(),(),(n:Int)),((l.length,l),(),d))=some (.inl (((),()),((),d')))∧Cols (M+33554432*k) d'∧num d'=num d+numW 8 l/2^n*2^n
 |0,n,hn,fuel+1,_,M,_,_,d,hd=>by
  have hm:ibin .mul .i64 8 ((l.length:Nat):Int)=((8*l.length:Nat):Int):=by rw[i_mul (by omega) (by omega)];omega
  have hc:icmp .lss (n:Int) ((8*l.length:Nat):Int)=false:=by
   have h:¬ (n:Int)<((8*l.length:Nat):Int):=by omega
   simpa [icmp] using h
  have h1:=ZD9 l (Bs.dg hl);rw[← Int.pow_mul,show 8*l.length=n by omega] at h1;refine⟨d,?_,by simpa using hd,?_⟩
  ·rw[Zeg];simp only[Za5,hm,hc,cond_false,mo]
  ·rw[Int.ediv_eq_zero_of_lt (Bs.dg hl).nonneg h1];omega
 |k+1,n,hn,fuel+1,hf,M,h0,hM,d,hd=>by
  obtain⟨d1,h1,h2,h3⟩:=ZEa N hl hlen (M:=M) ⟨h0,by omega⟩ hd (show n<8*l.length by omega);obtain⟨d2,g1,g2,g3⟩:=ZAp N hl hlen k (n+1) (by omega) fuel (by omega) (M+33554432) (by omega) (by omega) d1 h2;refine⟨d2,?_,?_,?_⟩
  ·rw[Zeg,h1];exact g1
  ·rw[show M+33554432*((k+1:Nat):Int)=M+33554432+33554432*(k:Int) by omega];exact g2
  ·have hh:=ZIL (numW 8 l) n 0;simp only[Nat.zero_add] at hh;rw[g3,h3,hh];omega
theorem numB_32{l:LI}(hl:L32 l):(numB l:Int)<115792089237316195423570985008687907853269984665640564039457584007913129639936:=by
 have:=ZHg l hl.2;rw[hl.1] at this;have e:(256:Nat)^32=115792089237316195423570985008687907853269984665640564039457584007913129639936:=by decide
 rw[e] at this;omega
theorem ZEb(N:Nat)(l d r:LI)(h:loopF (Za5 N) N ((32,(),(),0),((32,l),(),[0,0,0,0,0,0,0,0,0,0,0,0,0,0,0,0,0,0,0,0]))=some (.inl (((),()),((),d))))(hr:Zbg N d=some r):
  Zcu N ((32,l),())=some r:=by
 unfold Zcu;simp only[h,hr,mo]
theorem ZAc{l:LI}(hl:L32 l):∃ r,Zcu 300 ((32,l),())=some r∧CF r∧num r=(numB l:Int)%pF:=by
 have z0:Cols 0 [0,0,0,0,0,0,0,0,0,0,0,0,0,0,0,0,0,0,0,0]:=⟨rfl,by decide⟩;have n0:num [0,0,0,0,0,0,0,0,0,0,0,0,0,0,0,0,0,0,0,0]=0:=by decide
 obtain⟨d,h1,h2,h3⟩:=ZAp 300 (l:=l) hl.2 (by rw[hl.1];decide) 256 0 (by rw[hl.1]) 300 (by decide) 0 (by decide) (by decide) _ z0;rw[n0,Int.pow_zero,Int.ediv_one,Int.mul_one,Int.zero_add,← ZHv l hl.2] at h3;have hb:=numB_32 hl;obtain⟨r,l1,l2,l3⟩:=Zv7 h2.1 (fun x hx=>by have:=h2.2 x hx;omega) (by
  rw[h3];omega)
 refine⟨r,?_,l2,by rw[l3,h3]⟩;rw[hl.1] at h1;have h1':loopF (Za5 300) 300 ((32,(),(),0),((32,l),(),[0,0,0,0,0,0,0,0,0,0,0,0,0,0,0,0,0,0,0,0]))=some (.inl (((),()),((),d))):=h1;exact ZEb 300 l d r h1' l1
theorem ZEK{a:LI}(ha:CF a):∃ b,ZaT 300 a=some b∧L32 b∧(numB b:Int)=num a:=by
 obtain⟨b,h1,h2,h3,h4⟩:=ZHq ha;have hb:Bs b:=fun x hx=>by
  have:=h2 x hx;change 0≤x∧x<256 at this;omega
 exact⟨b,h1,⟨h3,hb⟩,by rw[ZHv b hb,h4]⟩
end Go.Vx.Ref
namespace Go.Vx.Ref
open Go
def kf(a:LI):K:=K.of (num a)
theorem kf_of{r:LI}{x:Int}(h:num r=x%pF):kf r=K.of x:=by unfold kf;rw[h,K.of_mod]
theorem cf_k{a b:LI}(ha:CF a)(hb:CF b)(h:kf a=kf b):a=b:=by
 refine ha.inj hb ?_;have h1:=K.of_eq.1 h
 rwa [Int.emod_eq_of_lt ha.2.1.nonneg ha.2.2,Int.emod_eq_of_lt hb.2.1.nonneg hb.2.2] at h1
theorem ZeC{a b:LI}(ha:CF a)(hb:CF b):∃ r,Zam 300 a b=some r∧CF r∧kf r=kf a*kf b:=by
 obtain⟨r,h1,h2,h3⟩:=ZHt ha hb;exact⟨r,h1,h2,by rw[kf_of h3,K.of_mul];rfl⟩
theorem Zuf{a:LI}(ha:CF a):a=[0,0,0,0,0,0,0,0,0,0]↔kf a=0:=
 ⟨fun h=>by rw[h];rfl,fun h=>cf_k ha ZAd (by rw[h];rfl)⟩
theorem kpow1(a:K):a^1=a:=by grind
theorem ZE1{a h0:LI}{b:Int}{n:Nat}(hb:ibin .quo .i64 b 2=(n:Int))(hn:n<1000):(k:Nat)→(i:Nat)→i+k=n→(fuel:Nat)→k<fuel→(r:LI)→CF r→
  ∃ t,loopF (Zbq 300) fuel ((b,(),(),(),(),(i:Int)),(a,(),h0,r))=some (.inl ((b,(),(),(),()),(a,(),h0,t)))∧CF t∧kf t=kf r^(2^k)
 |0,i,hi,fuel+1,_,r,cr=>by
  refine⟨r,?_,cr,by rw[Nat.pow_zero];grind⟩;have g:icmp .lss (i:Int) (n:Int)=false:=by simp[icmp];omega
  rw[Zeg];simp only[Zbq,hb,g,cond_false,mo]
 |k+1,i,hi,fuel+1,hf,r,cr=>by
  obtain⟨t,h1,ct,h2⟩:=ZeC cr cr;obtain⟨u,h3,cu,h4⟩:=ZE1 (a:=a) (h0:=h0) hb hn k (i+1) (by omega) fuel (by omega) t ct;have g:icmp .lss (i:Int) (n:Int)=true:=by simp[icmp];omega
  refine⟨u,?_,cu,?_⟩
  ·rw[Zeg];simp only[Zbq,hb,g,cond_true,h1,mo,i_inc (show i<1000000 by omega)];exact h3
  ·have e:kf t=kf r^2:=by rw[h2];grind
   rw[h4,e,← K.pow_mul,Nat.pow_succ,Nat.mul_comm]
theorem ZB7{a:LI}(ha:CF a):(m:Nat)→(n:Nat)→1≤n→n≤m→n<290→∃ r E,Zcc 300 m a (n:Int)=some r∧CF r∧E+1=2^n∧kf r=kf a^E
 |0,n,h1,h2,_=>by omega
 |m+1,n,h1,h2,h3=>by
  show ∃ r E,ZbQ (Zcc 300 m) 300 a (n:Int)=some r∧_;unfold ZbQ;by_cases hn:n=1
  ·subst hn;exact⟨a,1,rfl,ha,rfl,by grind⟩
  ·have g1:icmp .eql (n:Int) 1=false:=by simp[icmp];omega
   have g2:ibin .quo .i64 (n:Int) 2=((n/2:Nat):Int):=i_quo 2 (by omega);have g3:ibin .rem .i64 (n:Int) 2=((n%2:Nat):Int):=i_rem 2;obtain⟨r1,E,k1,c1,k2,k3⟩:=ZB7 ha m (n/2) (by omega) (by omega) (by omega);obtain⟨t,k4,ct,k5⟩:=ZE1 (a:=a) (h0:=r1) g2 (by omega) (n/2) 0 (by omega) 300 (by omega) r1 c1;obtain⟨u,k6,cu,k7⟩:=ZeC ct c1;have hu:kf u=kf a^(E*(E+1)+E):=by rw[k7,k5,k3,← K.pow_mul,← K.pow_add,k2]
   have hE:E*(E+1)+E+1=2^(n/2)*2^(n/2):=by rw[← k2];grind
   have k4':loopF (Zbq 300) 300 (((n:Int),(),(),(),(),0),(a,(),r1,r1))=some (.inl (((n:Int),(),(),(),()),(a,(),r1,t))):=k4;simp only[g1,cond_false,g2,k1,mo,k4',k6,g3];rcases Nat.mod_two_eq_zero_or_one n with hz|hz
   ·have c:icmp .eql (((n%2:Nat)):Int) 1=false:=by rw[hz];decide
    simp only[c,cond_false];refine⟨u,_,rfl,cu,?_,hu⟩;rw[hE,← Nat.pow_add];exact congrArg (fun z=>2^z) (show n/2+n/2=n by omega)
   ·have c:icmp .eql (((n%2:Nat)):Int) 1=true:=by rw[hz];decide
    obtain⟨v,k8,cv,k9⟩:=ZeC cu cu;obtain⟨w,l1,cw,l2⟩:=ZeC cv ha;simp only[c,cond_true,k8,l1];refine⟨w,(E*(E+1)+E)+(E*(E+1)+E)+1,rfl,cw,?_,?_⟩
    ·have e:(2:Nat)^n=2*(2^(n/2)*2^(n/2)):=by
      rw[← Nat.pow_add,← Nat.pow_succ'];exact congrArg (fun z=>2^z) (show n=n/2+n/2+1 by omega)
     rw[e,← hE];omega
    ·rw[l2,k9,hu,K.pow_add _ _ 1,K.pow_add _ (E*(E+1)+E),kpow1]
theorem ZDr{a:LI}(ha:CF a):∃ r,ZbP 300 a=some r∧CF r∧kf r=kf a^eInv:=by
 obtain⟨r1,E,h1,c1,hE,e1⟩:=ZB7 ha 300 250 (by decide) (by decide) (by decide);obtain⟨r2,h2,c2,e2⟩:=ZeC c1 c1;obtain⟨r3,h3,c3,e3⟩:=ZeC c2 c2;obtain⟨r4,h4,c4,e4⟩:=ZeC c3 c3;obtain⟨r5,h5,c5,e5⟩:=ZeC c4 c4;obtain⟨r6,h6,c6,e6⟩:=ZeC c5 c5;obtain⟨r7,h7,c7,e7⟩:=ZeC ha ha;obtain⟨r8,h8,c8,e8⟩:=ZeC c7 c7;obtain⟨r9,h9,c9,e9⟩:=ZeC c8 c7;obtain⟨r10,h10,c10,e10⟩:=ZeC c9 c7;obtain⟨r11,h11,c11,e11⟩:=ZeC c6 c10;obtain⟨r12,h12,c12,e12⟩:=ZeC c11 c7;obtain⟨r13,h13,c13,e13⟩:=ZeC c12 ha;have h1':Zdj 300 a 250=some r1:=h1;refine⟨r13,?_,c13,?_⟩
 ·unfold ZbP;simp only[h1',h2,h3,h4,h5,h6,h7,h8,h9,h10,h11,h12,h13,mo]
 ·have g1:kf r6=(kf a^E)^32:=by rw[e6,e5,e4,e3,e2,e1];generalize kf a^E=z;grind
  have g2:kf r13=kf r6*kf a^11:=by rw[e13,e12,e11,e10,e9,e8,e7];grind
  have g3:eInv=E*32+11:=by
   have:E=1809251394333065553493296640760748560207343510400633813116524750123642650623:=by
    have:(2:Nat)^250=1809251394333065553493296640760748560207343510400633813116524750123642650624:=by decide
    omega
   subst this;rfl
  rw[g2,g1,g3,K.pow_add,K.pow_mul]
theorem I_cf:CF Zfo:=⟨rfl,by
 intro x hx;show 0≤x∧x<67108864;simp only[Zfo,List.mem_cons,List.not_mem_nil,or_false] at hx;rcases hx with rfl|rfl|rfl|rfl|rfl|rfl|rfl|rfl|rfl|rfl<;>decide,by decide⟩
theorem I_k:kf Zfo=kI:=by unfold kf kI;rfl
theorem ZJa{a:LI}(ha:CF a):CF (Zcp a)∧num (Zcp a)%2=0∧kf (Zcp a)^2=kf a^2:=by
 rw[ZHu ha];by_cases h:num a%2=1
 ·rw[if_pos h];obtain⟨c,e⟩:=ZAm ha;refine⟨c,?_,?_⟩
  ·have h0:=ha.2.1.nonneg;have h1:=ha.2.2;have e2:(- num a)%pF=pF-num a:=by
    simp only[num] at*;rw[show-numW 26 a=(pF-numW 26 a)+pF*(-1) by omega,Int.add_mul_emod_self_left,Int.emod_eq_of_lt (by omega) (by omega)]
   rw[e,e2];simp only[pF] at*
   omega
  ·have:kf (Zat a)= -kf a:=by rw[kf_of e,K.of_neg];rfl
   rw[this];grind
 ·rw[if_neg h];exact⟨ha,by omega,rfl⟩
theorem ZHw{a:LI}(ha:CF a)(h0:kf a≠0):
  ((kf a^eQ=1∨kf a^eQ= -1)→∃ s,ZcJ 300 a=some (s,true)∧CF s∧num s%2=0∧kf s^2=kf a)∧
  (¬ (kf a^eQ=1∨kf a^eQ= -1)→ZcJ 300 a=some ([0,0,0,0,0,0,0,0,0,0],false)):=by
 obtain⟨r1,E,h1,c1,hE,e1⟩:=ZB7 ha 300 251 (by decide) (by decide) (by decide);obtain⟨r2,h2,c2,e2⟩:=ZeC c1 c1;obtain⟨r3,h3,c3,e3⟩:=ZeC c2 c2;obtain⟨r4,h4,c4,e4⟩:=ZeC c2 I_cf;obtain⟨r5,h5,c5,e5⟩:=ZeC c4 c4;obtain⟨r6,h6,c6,e6⟩:=ZeC c4 I_cf;have h1':Zdj 300 a 251=some r1:=h1;have g1:kf r3=kf a^eQ*kf a:=by
  have:eQ+1=E*4:=by
   have:E=3618502788666131106986593281521497120414687020801267626233049500247285301247:=by
    have:(2:Nat)^251=3618502788666131106986593281521497120414687020801267626233049500247285301248:=by decide
    omega
   subst this;rfl
  have e:kf r3=(kf a^E)^4:=by rw[e3,e2,e1];generalize kf a^E=z;grind
  rw[e,← K.pow_mul,← this,K.pow_add,kpow1]
 have hi:=kI_sq;have g2:kf r5= -(kf a^eQ*kf a):=by rw[← g1,e5,e4,e3,I_k];grind
 have one:=K.one_ne;have two:=K.two_ne;have d1:(r3=a)↔kf a^eQ=1:=by
  constructor
  ·intro h;rw[h] at g1;have:kf a*(kf a^eQ-1)=0:=by generalize kf a^eQ=w at*;grind
   rcases K.mul_zero' this with h|h
   ·exact absurd h h0
   ·generalize kf a^eQ=w at*;grind
  ·intro h;exact cf_k c3 ha (by rw[g1,h];grind)
 have d2:(r5=a)↔kf a^eQ= -1:=by
  constructor
  ·intro h;rw[h] at g2;have:kf a*(kf a^eQ+1)=0:=by generalize kf a^eQ=w at*;grind
   rcases K.mul_zero' this with h|h
   ·exact absurd h h0
   ·generalize kf a^eQ=w at*;grind
  ·intro h;exact cf_k c5 ha (by rw[g2,h];grind)
 have a2:=ZJa c2;have a4:=ZJa c4;have q2:kf r2^2=kf r3:=by rw[e3];grind
 have q4:kf r4^2=kf r5:=by rw[e5];grind
 unfold ZcJ;simp only[h1',h2,h3,mo];by_cases hA:r3=a
 ·have hw:=d1.1 hA;refine⟨fun _=>⟨_,by rw[decide_eq_true hA,cond_true],a2.1,a2.2.1,by rw[a2.2.2,q2,hA]⟩,fun h=>absurd (.inl hw) h⟩
 ·simp only[decide_eq_false hA,cond_false,h4,h5,mo];by_cases hB:r5=a
  ·have hw:=d2.1 hB;refine⟨fun _=>⟨_,by rw[decide_eq_true hB,cond_true],a4.1,a4.2.1,by rw[a4.2.2,q4,hB]⟩,fun h=>absurd (.inr hw) h⟩
  ·refine⟨fun h=>?_,fun _=>?_⟩
   ·rcases h with h|h
    ·exact absurd (d1.2 h) hA
    ·exact absurd (d2.2 h) hB
   ·simp only[decide_eq_false hB,cond_false,h6,mo]
theorem rsqrt_k{a b:LI}(ha:CF a)(hb:CF b):∃ s ok,Zbr 300 a b=some (s,ok)∧CF s∧num s%2=0∧
  (kf a=0→ok=true∧kf s=0)∧(kf a≠0→kf b=0→ok=false∧kf s=0)∧
  (kf a≠0→kf b≠0→(ok=true↔(kf a*kf b^7)^eQ=1∨(kf a*kf b^7)^eQ= -1)∧(ok=true→kf b*kf s^2=kf a)∧(ok=false→kf b*kf s^2=kf a*kI)):=by
 unfold Zbr;by_cases hz:a=[0,0,0,0,0,0,0,0,0,0]
 ·have hk:=(Zuf ha).1 hz;rw[decide_eq_true hz,cond_true];exact⟨_,_,rfl,ZAd,rfl,fun _=>⟨rfl,rfl⟩,fun h=>absurd hk h,fun h=>absurd hk h⟩
 ·have hk:kf a≠0:=fun h=>hz ((Zuf ha).2 h)
  rw[decide_eq_false hz,cond_false];by_cases hy:b=[0,0,0,0,0,0,0,0,0,0]
  ·have hl:=(Zuf hb).1 hy;rw[decide_eq_true hy,cond_true];exact⟨_,_,rfl,ZAd,rfl,fun h=>absurd h hk,fun _ _=>⟨rfl,rfl⟩,fun _ h=>absurd hl h⟩
  ·have hl:kf b≠0:=fun h=>hy ((Zuf hb).2 h)
   rw[decide_eq_false hy,cond_false];obtain⟨r1,h1,c1,e1⟩:=ZDr hb;obtain⟨r2,h2,c2,e2⟩:=ZeC ha c1;obtain⟨r4,h4,c4,e4⟩:=ZeC c2 I_cf;have inv:kf r1*kf b=1:=by
    rw[e1];have:=K.fermat hl;rw[show eP1=eInv+1 from rfl,K.pow_add] at this;rw[kpow1] at this;exact this
   have hx:kf r2*kf b=kf a:=by
    rw[e2];have:kf a*kf r1*kf b=kf a*(kf r1*kf b):=by grind
    rw[this,inv];grind
   have x0:kf r2≠0:=fun h=>hk (by rw[← hx,h];grind)
   have hi:=kI_sq;have i0:kI≠0:=fun h=>by rw[h] at hi;exact K.one_ne (by grind)
   have y0:kf r4≠0:=by rw[e4,I_k];exact K.mul_ne x0 i0
   have hw:(kf a*kf b^7)^eQ=kf r2^eQ:=by
    have e:kf a*kf b^7=kf r2*(kf b^2)^4:=by rw[← hx];grind
    rw[e,K.mul_pow,← K.pow_mul,Nat.mul_comm 4,K.pow_mul];have h4:((kf b^2)^eQ)^4=1:=by
     rcases K.half hl with h|h<;>rw[h]<;>grind
    rw[h4];grind
   have hy4:kf r4^eQ=kf r2^eQ* -kI:=by rw[e4,I_k,K.mul_pow,kI_eQ]
   obtain⟨p1,p2⟩:=ZHw c2 x0;obtain⟨p3,p4⟩:=ZHw c4 y0;have one:=K.one_ne;have two:=K.two_ne;simp only[h1,h2,mo];rw[hw];by_cases hq:kf r2^eQ=1∨kf r2^eQ= -1
   ·obtain⟨s,k1,k2,k3,k4⟩:=p1 hq;simp only[k1,cond_true];refine⟨s,true,rfl,k2,k3,fun h=>absurd h hk,fun _ h=>absurd h hl,fun _ _=>⟨⟨fun _=>hq,fun _=>rfl⟩,fun _=>?_,fun h=>by cases h⟩⟩;rw[k4,← hx];grind
   ·have hq2:kf r4^eQ=1∨kf r4^eQ= -1:=by
     rw[hy4];rcases K.quarter x0 with h|h|h|h
     ·exact absurd (.inl h) hq
     ·exact absurd (.inr h) hq
     ·left;rw[h];grind
     ·right;rw[h];grind
    obtain⟨s,k1,k2,k3,k4⟩:=p3 hq2;simp only[p2 hq,cond_false,h4,mo,k1];refine⟨s,false,rfl,k2,k3,fun h=>absurd h hk,fun _ h=>absurd h hl,fun _ _=>⟨⟨(fun h=>by cases h),fun h=>absurd h hq⟩,(fun h=>by cases h),fun _=>?_⟩⟩;rw[k4,e4,I_k,← hx];grind
end Go.Vx.Ref
namespace Go.Vx.Ref
open Go
theorem ZHx{a b:LI}(ha:CF a)(hb:CF b):∃ r,Zcb 300 a b=some r∧CF r∧kf r=kf a-kf b:=by
 obtain⟨r,h1,h2,h3⟩:=ZHr ha hb;exact⟨r,h1,h2,by rw[kf_of h3,K.of_sub];rfl⟩
theorem ZAq{a:LI}(ha:CF a):CF (Zat a)∧kf (Zat a)= -kf a:=by
 obtain⟨h2,h3⟩:=ZAm ha;exact⟨h2,by rw[kf_of h3,K.of_neg];rfl⟩
theorem D_cf:CF ZlY:=⟨rfl,by
 intro x hx;show 0≤x∧x<67108864;simp only[ZlY,List.mem_cons,List.not_mem_nil,or_false] at hx;rcases hx with rfl|rfl|rfl|rfl|rfl|rfl|rfl|rfl|rfl|rfl<;>decide,by decide⟩
theorem ZGT:kf [1,0,0,0,0,0,0,0,0,0]=1:=by unfold kf;rw[num_one];rfl
end Go.Vx.Ref
namespace Go.Vx.Ref
open Go
theorem cf_v{a:LI}(h:CF a):(kf a).v=num a:=by
 show num a%pF=num a;exact Int.emod_eq_of_lt h.2.1.nonneg h.2.2
theorem cf_ev{a:LI}(h:CF a):(kf a).ev↔num a%2=0:=by unfold K.ev;rw[cf_v h]
theorem ZEc{a:LI}(h:CF a):Zbh a=true↔¬ (kf a).ev:=by
 rw[ZAM h,cf_ev h,decide_eq_true_eq];omega
theorem ZDs{a:LI}(h:CF a)(e:(kf a).ev):Zbh a=false:=by
 cases hq:Zbh a
 ·rfl
 ·exact absurd e ((ZEc h).1 hq)
theorem ZB8{a b:LI}(ha:CF a)(hb:CF b):∃ s ok,Zbr 300 a b=some (s,ok)∧CF s∧SR (kf a) (kf b) (kf s) ok:=by
 obtain⟨s,ok,h1,h2,h3,h4,h5,h6⟩:=rsqrt_k ha hb;exact⟨s,ok,h1,h2,⟨(cf_ev h2).2 h3,h4,h5,h6⟩⟩
theorem ZDt{a b:LI}(ha:CF a)(hb:CF b):∃ r,ZbB 300 a b=some r∧CF r∧kf r=kf a+kf b:=by
 obtain⟨r,h1,h2,h3⟩:=ZDq ha hb;exact⟨r,h1,h2,by rw[kf_of h3,K.of_add];rfl⟩
theorem D_k:kf ZlY=kD:=by unfold kf kD;rfl
theorem rinv_k{a:LI}(ha:CF a)(h:kf a≠0):∃ r,ZbP 300 a=some r∧CF r∧kf r*kf a=1:=by
 obtain⟨r,h1,h2,h3⟩:=ZDr ha;refine⟨r,h1,h2,?_⟩;rw[h3];have:=K.fermat h;rw[show eP1=eInv+1 from rfl,K.pow_add,kpow1] at this;exact this
theorem Zpg{a:LI}(ha:CF a)(h:kf a≠0):decide (a=[0,0,0,0,0,0,0,0,0,0])=false:=decide_eq_false fun e=>h ((Zuf ha).1 e)
abbrev z10:LI:=[0,0,0,0,0,0,0,0,0,0]
theorem rstands{s:LI}(hs:CF s)(hev:(kf s).ev):
  (∃ x y,ZbA 300 s=some ((x,y),true)∧CF x∧CF y∧Stands (kf s) (kf x) (kf y))∨
  (∃ p,ZbA 300 s=some (p,false)∧p=(Zai.1,Zai.2)∧∀ x y,¬ Stands (kf s) x y):=by
 obtain⟨r1,h1,c1,e1⟩:=ZeC hs hs;obtain⟨r2,h2,c2,e2⟩:=ZHx Zyk c1;obtain⟨r3,h3,c3,e3⟩:=ZDt Zyk c1;obtain⟨r4,h4,c4,e4⟩:=ZeC c2 c2;have nd:=ZAq D_cf;obtain⟨r5,h5,c5,e5⟩:=ZeC nd.1 c4;obtain⟨r6,h6,c6,e6⟩:=ZeC c3 c3;obtain⟨r7,h7,c7,e7⟩:=ZHx c5 c6;obtain⟨r8,ok,h8,c8,sr8⟩:=ZB8 c7 Zyk;obtain⟨r11,h11,c11,e11⟩:=ZDt c1 c1;obtain⟨r12,h12,c12,e12⟩:=ZDt c11 c1;obtain⟨r13,h13,c13,e13⟩:=ZDt c12 c1;obtain⟨r14,ok2,h14,c14,sr14⟩:=ZB8 c13 c7;rw[ZGT] at e2 e3 sr8;have E1:kf r1=kf s^2:=by rw[e1];grind
 have E7:kf r7= -(kD*(1-kf s^2)^2)-(1+kf s^2)^2:=by rw[e7,e6,e5,e4,nd.2,D_k,e3,e2,E1];generalize kf s=a;generalize kD=d;grind
 have E3:kf r3=1+kf s^2:=by rw[e3,E1]
 have E2:kf r2=1-kf s^2:=by rw[e2,E1]
 have E13:kf r13=4*kf s^2:=by rw[e13,e12,e11,E1];grind
 rw[E7] at sr8 sr14;rw[E13] at sr14;by_cases hw:kf r3=0
 ·right;refine⟨_,?_,rfl,fun x y h=>h.w0 (by rw[← E3,hw])⟩;unfold ZbA;simp only[h1,h2,h3,h4,h5,h6,h7,mo,decide_eq_true ((Zuf c3).2 hw),cond_true]
 ·by_cases hv:kf r7=0
  ·right;refine⟨_,?_,rfl,fun x y h=>h.v0 (by rw[← E7,hv])⟩;unfold ZbA;simp only[h1,h2,h3,h4,h5,h6,h7,mo,Zpg c3 hw,decide_eq_true ((Zuf c7).2 hv),cond_true,cond_false]
  ·obtain⟨r9,h9,c9,e9⟩:=rinv_k c3 hw;obtain⟨r10,h10,c10,e10⟩:=ZeC c2 c9;obtain⟨r15,h15,c15,e15⟩:=ZeC c14 c10;have U:ZbA 300 s=cond (!ok) (some ((Zai.1,Zai.2),false)) (cond (decide (r10=[0,0,0,0,0,0,0,0,0,0])) (some ((Zai.1,Zai.2),false)) (cond (Zbh r15) (some ((Zai.1,Zai.2),false)) (some ((r14,r10),true)))):=by
    unfold ZbA;simp only[h1,h2,h3,h4,h5,h6,h7,mo,Zpg c3 hw,Zpg c7 hv,cond_false,h8,h9,h10,h11,h12,h13,h14,h15]
   rw[E3] at hw e9;rw[E7] at hv;rw[E2] at e10;have Y:kf r10*(1+kf s^2)=1-kf s^2:=by rw[e10];generalize 1+kf s^2=w at*;grind
   clear e1 e2 e3 e4 e5 e6 e7 e11 e12 e13 E1 E2 E3 E13 h1 h2 h3 h4 h5 h6 h7 h8 h9 h10 h11 h12 h13 h14 h15;cases ok with
   |false=>
    right;refine⟨_,by rw[U];rfl,rfl,fun x y h=>?_⟩;obtain⟨r,hr⟩:=h.root
    
    obtain⟨z,hz⟩:=ZAh (K.mul_ne hw (show r≠0 from fun e=>K.one_ne (by rw[← hr,e];grind)));have hz2:1*z^2= -(kD*(1-kf s^2)^2)-(1+kf s^2)^2:=by
     generalize -(kD*(1-kf s^2)^2)-(1+kf s^2)^2=v at*
     generalize 1+kf s^2=w at*
     grind
    have:=(sr8.found K.one_ne hz2).1;cases this
   |true=>
    have hsq:=(sr8.q hv K.one_ne).2.1 rfl;have X:(-(kD*(1-kf s^2)^2)-(1+kf s^2)^2)*kf r14^2=4*kf s^2:=by
     obtain⟨z,hz⟩:=ZAh (show kf r8≠0 from fun e=>hv (by rw[← hsq,e];grind));have:=(sr14.found (r:=2*kf s*z) hv (by rw[← hsq];grind)).2;rw[this,← hsq];grind
    by_cases hz:kf r10=0
    ·right;refine⟨_,by rw[U,decide_eq_true ((Zuf c10).2 hz)];rfl,rfl,fun x y h=>h.y0 ?_⟩;refine K.cancel hw ?_;rw[Lean.Grind.CommRing.mul_comm,h.yw,← Y,hz];grind
    ·by_cases hn:(kf r15).ev
     ·left;refine⟨r14,r10,by rw[U,Zpg c10 hz,ZDs c15 hn];rfl,c14,c10,⟨hev,sr14.ev,by rw[← e15];exact hn,hz,hw,Y,hv,X⟩⟩
     ·right;refine⟨_,by rw[U,Zpg c10 hz,(ZEc c15).2 hn];rfl,rfl,fun x y h=>hn ?_⟩;have hy:kf r10=y:=K.cancel hw (by rw[Lean.Grind.CommRing.mul_comm,Y,← h.yw,Lean.Grind.CommRing.mul_comm]);have hx:kf r14=x:=K.ev_root sr14.ev h.x_ev (K.cancel hv (by rw[X,h.xv]));rw[e15,hx,hy];exact h.xy_ev
theorem Zv2(N:Nat)(p:LI×LI):ZaA N p=mo (Zcq N ((Zaz (p.1,p.2)).1,(Zaz (p.1,p.2)).2)) none fun r1=>
  cnd N p r1.1.2 (cnd N p r1.2.1.2 (cnd N p r1.2.2.1.2 (cnd N p r1.2.2.2.2 (some [0,0,0,0,0,0,0,0,0,0,0,0,0,0,0,0,0,0,0,0,0,0,0,0,0,0,0,0,0,0,0,0])))):=rfl
theorem ZHy{x y:LI}(hx:CF x)(hy:CF y):∃ a b,Zcq 300 (x,y)=some ((x,y),(a,b),((Zat x),(Zat y)),((Zat a),(Zat b)))∧CF a∧CF b∧kf a=kf y*kI∧kf b=kf x*kI:=by
 obtain⟨r1,h1,c1,e1⟩:=ZeC hy I_cf;obtain⟨r2,h2,c2,e2⟩:=ZeC hx I_cf;rw[I_k] at e1 e2;refine⟨r1,r2,?_,c1,c2,e1,e2⟩;unfold Zcq;simp only[h1,h2,mo]
theorem at_k{x y:LI}(hx:CF x)(hy:CF y)(h:kf x≠0∨kf y≠0):Zaz (x,y)=(x,y):=by
 unfold Zaz;rcases h with h|h
 ·simp only[Zpg hx h,Bool.false_and,cond_false]
 ·simp only[Zpg hy h,Bool.false_and,Bool.and_false,cond_false]
theorem dec2{a b c d:LI}(ha:CF a)(hb:CF b)(hc:CF c)(hd:CF d):((decide (a=c))&&((decide (b=d))&&true))=true↔(kf c=kf a∧kf d=kf b):=by
 rw[Bool.and_true,bA,decide_eq_true_eq,decide_eq_true_eq];constructor
 ·rintro⟨rfl,rfl⟩;exact⟨rfl,rfl⟩
 ·rintro⟨h1,h2⟩;exact⟨cf_k ha hc h1.symm,cf_k hb hd h2.symm⟩
theorem same_k{x y X Y:LI}(hx:CF x)(hy:CF y)(hX:CF X)(hY:CF Y)(h:kf x≠0∨kf y≠0)(h':kf X≠0∨kf Y≠0):
  ∃ b,Zbi 300 (x,y) (X,Y)=some b∧(b=true↔Rel (kf x) (kf y) (kf X) (kf Y)):=by
 obtain⟨a,c,h1,ca,cc,ea,ec⟩:=ZHy hX hY;have nX:=ZAq hX;have nY:=ZAq hY;have na:=ZAq ca;have nc:=ZAq cc;have d1:=dec2 hX hY hx hy;have d2:=dec2 ca cc hx hy;have d3:=dec2 nX.1 nY.1 hx hy;have d4:=dec2 na.1 nc.1 hx hy;rw[ea,ec] at d2;rw[nX.2,nY.2] at d3;rw[na.2,nc.2,ea,ec] at d4;unfold Zbi Rel;simp only[at_k hX hY h',at_k hx hy h,h1,mo];rw[← d1,← d2,← d3,← d4];generalize ((decide (X=x))&&((decide (Y=y))&&true))=b1;generalize ((decide (a=x))&&((decide (c=y))&&true))=b2;generalize ((decide (Zat X=x))&&((decide (Zat Y=y))&&true))=b3;generalize ((decide (Zat a=x))&&((decide (Zat c=y))&&true))=b4;cases b1<;>cases b2<;>cases b3<;>cases b4<;>simp
theorem cnd_k{x y w:LI}(hx:CF x)(hy:CF y)(hw:CF w)(h:kf x≠0∨kf y≠0)(C:Option (LI)):
  (∃ s X Y,cnd 300 (x,y) w C=ZaT 300 s∧CF s∧Stands (kf s) X Y∧Rel (kf x) (kf y) X Y)∨
  (cnd 300 (x,y) w C=C∧∀ s X,Stands s X (kf w)→¬ Rel (kf x) (kf y) X (kf w)):=by
 obtain⟨r2,h2,c2,e2⟩:=ZHx Zyk hw;obtain⟨r3,h3,c3,e3⟩:=ZDt Zyk hw;obtain⟨r4,ok,h4,c4,sr⟩:=ZB8 c2 c3;rw[ZGT] at e2 e3;rw[e2,e3] at sr;have one:∀ s X,Stands s X (kf w)→ok=true∧kf r4=s:=fun s X st=>by
  obtain⟨f1,f2⟩:=sr.found st.one_plus.2.2 st.s_eq;exact⟨f1,K.ev_root sr.ev st.s_ev f2⟩
 cases ok with
 |false=>
  right;refine⟨?_,fun s X st=>?_⟩
  ·unfold cnd;simp only[h2,h3,h4,mo,cond_false]
  ·have:=(one s X st).1;cases this
 |true=>
  rcases rstands c4 sr.ev with⟨X,Y,k1,cX,cY,st⟩|⟨p,k1,rfl,k2⟩
  ·obtain⟨b,k3,k4⟩:=same_k hx hy cX cY h (.inr st.y0);cases b with
   |true=>
    left;refine⟨r4,kf X,kf Y,?_,c4,st,k4.1 rfl⟩;unfold cnd;simp only[h2,h3,h4,mo,cond_true,k1,k3];cases ZaT 300 r4<;>rfl
   |false=>
    right;refine⟨?_,fun s X' st' rel=>?_⟩
    ·unfold cnd;simp only[h2,h3,h4,mo,cond_true,cond_false,k1,k3]
    ·obtain⟨-,rfl⟩:=one s X' st';obtain⟨rfl,e⟩:=st.same st';rw[← e] at rel;have:=k4.2 rel;cases this
  ·right;refine⟨?_,fun s X st=>?_⟩
   ·unfold cnd;simp only[h2,h3,h4,mo,cond_true,cond_false,k1]
   ·obtain⟨-,rfl⟩:=one s X st;exact absurd st (k2 _ _)
theorem rencode{x y s:LI}(hx:CF x)(hy:CF y)(hs:CF s)(h:kf x≠0∨kf y≠0){X Y:K}(st:Stands (kf s) X Y)(rel:Rel (kf x) (kf y) X Y):
  ZaA 300 (x,y)=ZaT 300 s:=by
 obtain⟨a,c,h1,ca,cc,ea,ec⟩:=ZHy hx hy;have hi:=kI_sq;have ny:=ZAq hy;have nc:=ZAq cc;have good:∀ {s':LI} {X' Y':K},CF s'→Stands (kf s') X' Y'→Rel (kf x) (kf y) X' Y'→ZaT 300 s'=ZaT 300 s:=fun {s' X' Y'} c' st' rel'=>by
  have:=(st.uniq st' (rel'.back.trans rel)).1;rw[cf_k hs c' this]
 rw[Zv2];simp only[at_k hx hy h,h1,mo];rcases cnd_k hx hy hy h (cnd 300 (x,y) c (cnd 300 (x,y) (Zat y) (cnd 300 (x,y) (Zat c) (some [0,0,0,0,0,0,0,0,0,0,0,0,0,0,0,0,0,0,0,0,0,0,0,0,0,0,0,0,0,0,0,0])))) with⟨s',X',Y',g1,g2,g3,g4⟩|⟨g1,n1⟩
 ·rw[g1];exact good g2 g3 g4
 rw[g1];rcases cnd_k hx hy cc h (cnd 300 (x,y) (Zat y) (cnd 300 (x,y) (Zat c) (some [0,0,0,0,0,0,0,0,0,0,0,0,0,0,0,0,0,0,0,0,0,0,0,0,0,0,0,0,0,0,0,0]))) with⟨s',X',Y',g1,g2,g3,g4⟩|⟨g2,n2⟩
 ·rw[g1];exact good g2 g3 g4
 rw[g2];rcases cnd_k hx hy ny.1 h (cnd 300 (x,y) (Zat c) (some [0,0,0,0,0,0,0,0,0,0,0,0,0,0,0,0,0,0,0,0,0,0,0,0,0,0,0,0,0,0,0,0])) with⟨s',X',Y',g1,g2,g3,g4⟩|⟨g3,n3⟩
 ·rw[g1];exact good g2 g3 g4
 rw[g3];rcases cnd_k hx hy nc.1 h (some [0,0,0,0,0,0,0,0,0,0,0,0,0,0,0,0,0,0,0,0,0,0,0,0,0,0,0,0,0,0,0,0]) with⟨s',X',Y',g1,g2,g3,g4⟩|⟨g4,n4⟩
 ·rw[g1];exact good g2 g3 g4
 
 exfalso;rw[ec] at n2;rw[ny.2] at n3;rw[nc.2,ec] at n4;have mv:∀ W,Y=W→Stands (kf s) X W∧Rel (kf x) (kf y) X W:=fun W e=>by subst e;exact⟨st,rel⟩
 rcases rel.back with⟨r1,r2⟩|⟨r1,r2⟩|⟨r1,r2⟩|⟨r1,r2⟩
 ·exact n1 _ X (mv _ r2).1 (mv _ r2).2
 ·exact n2 _ X (mv _ r2).1 (mv _ r2).2
 ·exact n3 _ X (mv _ r2).1 (mv _ r2).2
 ·exact n4 _ X (mv _ r2).1 (mv _ r2).2
end Go.Vx.Ref
namespace Go.Vx.Ref
open Go
end Go.Vx.Ref
namespace Go.Vx.Ref
open Go
end Go.Vx.Ref
namespace Go.Vx.Ref
open Go
theorem Stands.even{s x y:K}(h:Stands s x y):Even y:=by
 obtain⟨e1,e2,-⟩:=h.one_plus;obtain⟨i,hi⟩:=ZAh h.w0;refine⟨2*s*i,?_⟩;have:(1+y)*(1-y)=((1+y)*(1+s^2))*((1-y)*(1+s^2))*i^2:=by
  generalize 1+s^2=w at*
  grind
 rw[this,e1,e2];grind
theorem ZHz{b:LI}(hb:L32 b):
  (∃ r,Zcv 300 b=some (r,0)∧CF r∧(ZaG b).2=0∧Can (ZaG b).1∧kf r=kv (ZaG b).1∧val (ZaG b).1=numB b)∨
  (Zcv 300 b=some ([0,0,0,0,0,0,0,0,0,0],3)∧ZaG b=([0,0,0,0,0],3)):=by
 obtain⟨r,h1,c1,e1⟩:=ZAc hb;obtain⟨z,h2,lz,ez⟩:=ZEK c1;unfold Zcv;simp only[h1,h2,mo];rcases ZD7 hb with⟨g1,g2,g3,g4⟩|⟨g1,g2⟩
 ·left;have hz:z=b:=lz.inj hb (by rw[ez,e1,Int.emod_eq_of_lt (by omega) g1]);rw[decide_eq_true hz];refine⟨r,rfl,c1,g2,g3,?_,g4⟩;show K.of (num r)=K.of (val (ZaG b).1);rw[g4,e1,K.of_eq,Int.emod_emod]
 ·right;have hz:z≠b:=fun h=>by
   have:=c1.2.2;rw[h] at ez;rw[← ez] at this;exact absurd this (by omega)
  rw[decide_eq_false hz];exact⟨rfl,g2⟩
theorem ZDU(N:Nat)(hN:N=300){a:LI}(ha:L32 a)(p:P4):
  (∃ x y t x' y',ZaW N p a=some ((x,y,o5,t),0)∧Zbp N a=some ((x',y'),0)∧CF x'∧CF y'∧Rep (x,y,o5,t) (kf x') (kf y')∧On (kf x') (kf y')∧Even (kf y')∧ZaV N (x,y,o5,t)=some a)∨
  (∃ e,ZaW N p a=some ((z5,z5,z5,z5),e)∧Zbp N a=some ((Zbz.1,Zbz.2),e)∧(e=3∨e=50)):=by
 rcases ZHz ha with⟨r,h1,h2,h3,h4,h5,h6⟩|⟨h1,h2⟩
 ·rw[← hN] at h1;have hpair:ZaG a=((ZaG a).1,0):=by rw[← h3]
  generalize (ZaG a).1=s at*
  by_cases ev:(kv s).ev
  ·have rev:Zbh r=false:=ZDs h2 (by rw[h5];exact ev);rcases pdecode p hpair h4 ev with⟨x,y,t,k1,k2,k3,k4,k5,k6⟩|⟨k1,k2⟩
   ·left;rw[← hN] at k1;rcases rstands h2 (by rw[h5];exact ev) with⟨x',y',g1,g2,g3,g4⟩|⟨q,-,-,g2⟩
    ·rw[h5] at g4;rw[← hN] at g1;obtain⟨u1,u2⟩:=g4.same k6;refine⟨x,y,t,x',y',k1,?_,g2,g3,by rw[u1,u2];exact rep_one k2 k3 k4 k5,g4.on,Stands.even g4,?_⟩
     ·unfold Zbp;simp only[h1,mo,show icmp .neq 0 0=false from rfl,cond_false,rev,g1,Bool.not_true]
     ·obtain⟨q,hq⟩:=Stands.even k6;obtain⟨s',X,Y,f1,f2,f3,f4⟩:=pencode (ZFD k2 k3) k2 k3 k6.on hq;have:s'=s:=can_k f2 h4 ((f3.uniq k6 f4).1);rw[← hN] at f1;rw[f1,this];have e:=Zv1 h4.L5;refine congrArg some (e.1.inj ha ?_);rw[e.2,h6,Int.emod_eq_of_lt]
      ·omega
      ·rw[← h6];exact h4.nonneg.2
    ·exact absurd k6 (by rw[h5] at g2;exact g2 _ _)
   ·right;rw[← hN] at k1;refine⟨50,k1,?_,.inr rfl⟩;rcases rstands h2 (by rw[h5];exact ev) with⟨x',y',g1,g2,g3,g4⟩|⟨q,g1,-,g2⟩
    ·rw[h5] at g4;exact absurd g4 (k2 _ _)
    ·rw[← hN] at g1;unfold Zbp;simp only[h1,mo,show icmp .neq 0 0=false from rfl,cond_false,rev,g1,Bool.not_false,cond_true]
  ·right;refine⟨3,?_,?_,.inl rfl⟩
   ·unfold ZaW;simp only[hpair,show icmp .neq 0 0=false from rfl,cond_false,(ZEV h4).2 ev,cond_true]
   ·unfold Zbp;simp only[h1,mo,show icmp .neq 0 0=false from rfl,cond_false,(ZEc h2).2 (by rw[h5];exact ev),cond_true]
 ·right;rw[← hN] at h1;refine⟨3,?_,?_,.inl rfl⟩
  ·unfold ZaW;simp only[h2,show icmp .neq 3 0=true from rfl,cond_true]
  ·unfold Zbp;simp only[h1,mo,show icmp .neq 3 0=true from rfl,cond_true]
end Go.Vx.Ref
