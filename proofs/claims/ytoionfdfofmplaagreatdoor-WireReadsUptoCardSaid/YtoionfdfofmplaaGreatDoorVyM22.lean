import Derived.Test.YtoionfdfofmplaaGreatDoorVyM8
import Derived.Test.YtoionfdfofmplaaGreatDoorVyY2
set_option autoImplicit false
set_option linter.unusedVariables false
set_option linter.unusedSimpArgs false
namespace Go.Vx
open Go
theorem RepN.same{a b:N4}{p:KP}(ha:RepN a p)(hb:RepN b p):a.1*b.2.2.1%pN=b.1*a.2.2.1%pN:=by
 have h:kn (a.1*b.2.2.1)=kn (b.1*a.2.2.1):=by
  rw[ZmY,ZmY];have xa:kn a.1=p.1*kn a.2.2.1:=ha.x;have xb:kn b.1=p.1*kn b.2.2.1:=hb.x;rw[xa,xb];grind
 have:=K.of_eq.1 h;have e:∀ n:Nat,((n%pN:Nat):Int)=(n:Int)%pF:=fun n=>by rw[Int.natCast_emod];rfl
 rw[← e,← e] at this;exact Int.ofNat.inj this
end Go.Vx
namespace Go.Vx
open Go
end Go.Vx
namespace Go.Vx
open Go
theorem yes{c:Bool}{p:Prop}(h:c=true↔p)(hp:p):c=true:=h.2 hp
theorem no{c:Bool}{p:Prop}(h:c=true↔p)(hp:¬ p):c=false:=Bool.eq_false_iff.2 fun e=>hp (h.1 e)
end Go.Vx
namespace Go.Vx
open Go
end Go.Vx
namespace Go.Vx
open Go
def U4(a:LI):Prop:=∃ x0 x1 x2 x3,a=[x0,x1,x2,x3]∧U x0∧U x1∧U x2∧U x3
def v4(a:LI):Int:=List.getD a 0 0+List.getD a 1 0*18446744073709551616+List.getD a 2 0*340282366920938463463374607431768211456+List.getD a 3 0*6277101735386680763835789423207666416102355444464034512896
theorem Zuu{x y c:Int}(hx:U x)(hy:U y)(hc:c=0∨c=1):∃ r d,ZgR x y c=some (r,d)∧U r∧(d=0∨d=1)∧r=x-y-c+d*18446744073709551616:=by
 have hd:decide (c≤1)=true:=decide_eq_true (by omega);unfold U at hx hy;by_cases h:x<y+c
 ·refine⟨_,1,by unfold ZgR;rw[hd,cond_true,decide_eq_true h,cond_true],?_,.inr rfl,?_⟩
  ·unfold U;omega
  ·omega
 ·refine⟨_,0,by unfold ZgR;rw[hd,cond_true,decide_eq_false h,cond_false],?_,.inl rfl,?_⟩
  ·unfold U;omega
  ·omega
theorem Zsb{x y c:Int}(hx:U x)(hy:U y)(hc:c=0∨c=1):∃ r d,Zec x y c=some (r,d)∧U r∧(d=0∨d=1)∧r+d*18446744073709551616=x+y+c:=by
 have hd:decide (c≤1)=true:=decide_eq_true (by omega);unfold U at hx hy;refine⟨_,_,by unfold Zec;rw[hd,cond_true],?_,?_,?_⟩
 ·unfold U;omega
 ·omega
 ·omega
theorem v4_mk(x0 x1 x2 x3:Int):v4 [x0,x1,x2,x3]=x0+x1*18446744073709551616+x2*340282366920938463463374607431768211456+x3*6277101735386680763835789423207666416102355444464034512896:=rfl
theorem U4.rng{a:LI}(h:U4 a):0≤v4 a∧v4 a<115792089237316195423570985008687907853269984665640564039457584007913129639936:=by
 obtain⟨x0,x1,x2,x3,rfl,h0,h1,h2,h3⟩:=h;unfold U at*
 rw[v4_mk];omega
theorem ZHC{a b:LI}(ha:U4 a)(hb:U4 b):∃ r c,ZkG a b=some (r,c)∧U4 r∧((c=0∧v4 b≤v4 a∧v4 r=v4 a-v4 b)∨(c=1∧v4 a<v4 b∧v4 r=v4 a-v4 b+115792089237316195423570985008687907853269984665640564039457584007913129639936)):=by
 obtain⟨x0,x1,x2,x3,rfl,a0,a1,a2,a3⟩:=ha;obtain⟨y0,y1,y2,y3,rfl,b0,b1,b2,b3⟩:=hb;obtain⟨r0,c0,h0,u0,d0,e0⟩:=Zuu a0 b0 (.inl rfl);obtain⟨r1,c1,h1,u1,d1,e1⟩:=Zuu a1 b1 d0;obtain⟨r2,c2,h2,u2,d2,e2⟩:=Zuu a2 b2 d1;obtain⟨r3,c3,h3,u3,d3,e3⟩:=Zuu a3 b3 d2;refine⟨[r0,r1,r2,r3],c3,?_,⟨_,_,_,_,rfl,u0,u1,u2,u3⟩,?_⟩
 ·unfold ZkG;simp only[List.getD_cons_zero,List.getD_cons_succ,h0,h1,h2,h3,mo]
 ·have hr:U4 [r0,r1,r2,r3]:=⟨_,_,_,_,rfl,u0,u1,u2,u3⟩;have rr:=hr.rng;rw[v4_mk] at rr ⊢;rw[v4_mk,v4_mk];rcases d3 with rfl|rfl
  ·left;refine⟨rfl,?_,?_⟩<;>omega
  ·right;refine⟨rfl,?_,?_⟩<;>omega
theorem plus_k{a b:LI}(ha:U4 a)(hb:U4 b):∃ r c,Zoq a b=some (r,c)∧U4 r∧(c=0∨c=1)∧v4 r+c*115792089237316195423570985008687907853269984665640564039457584007913129639936=v4 a+v4 b:=by
 obtain⟨x0,x1,x2,x3,rfl,a0,a1,a2,a3⟩:=ha;obtain⟨y0,y1,y2,y3,rfl,b0,b1,b2,b3⟩:=hb;obtain⟨r0,c0,h0,u0,d0,e0⟩:=Zsb a0 b0 (.inl rfl);obtain⟨r1,c1,h1,u1,d1,e1⟩:=Zsb a1 b1 d0;obtain⟨r2,c2,h2,u2,d2,e2⟩:=Zsb a2 b2 d1;obtain⟨r3,c3,h3,u3,d3,e3⟩:=Zsb a3 b3 d2;refine⟨[r0,r1,r2,r3],c3,?_,⟨_,_,_,_,rfl,u0,u1,u2,u3⟩,d3,?_⟩
 ·unfold Zoq;simp only[List.getD_cons_zero,List.getD_cons_succ,h0,h1,h2,h3,mo]
 ·rw[v4_mk,v4_mk,v4_mk];omega
theorem ZB9{x:Int}(h:U x):ibin .and .u64 x 18446744073709551615=x:=by
 unfold U at h;rw[u_and h.1 (by omega) (by decide) (by decide),show (18446744073709551615:Int).toNat=2^64-1 from rfl,Nat.and_two_pow_sub_one_eq_mod];omega
theorem ZE4{x:Int}(h:U x):ibin .and .u64 x 0=0:=by
 unfold U at h;rw[u_and h.1 (by omega) (by decide) (by decide)];simp
theorem or_no{x:Int}(h:U x):ibin .or .u64 x 0=x:=by
 unfold U at h;show IntKind.wrap .u64 ((BitVec.ofInt 64 x ||| BitVec.ofInt 64 0).toNat:Int)=x;rw[show BitVec.ofInt 64 0=0#64 from rfl,BitVec.or_zero,ofInt64 h.1 (by omega),wrap64];omega
theorem no_or{x:Int}(h:U x):ibin .or .u64 0 x=x:=by
 unfold U at h;show IntKind.wrap .u64 ((BitVec.ofInt 64 0 ||| BitVec.ofInt 64 x).toNat:Int)=x;rw[show BitVec.ofInt 64 0=0#64 from rfl,BitVec.zero_or,ofInt64 h.1 (by omega),wrap64];omega
theorem ZFL(x:Int):ibin .andNot .u64 x 18446744073709551615=0:=by
 show IntKind.wrap .u64 ((BitVec.ofInt 64 x &&& ~~~(BitVec.ofInt 64 18446744073709551615)).toNat:Int)=0;rw[show ~~~(BitVec.ofInt 64 18446744073709551615)=0#64 by decide,BitVec.and_zero];rfl
theorem Zxq{x:Int}(h:U x):ibin .andNot .u64 x 0=x:=by
 unfold U at h;show IntKind.wrap .u64 ((BitVec.ofInt 64 x &&& ~~~(BitVec.ofInt 64 0)).toNat:Int)=x;rw[show ~~~(BitVec.ofInt 64 0)=BitVec.allOnes 64 by decide,BitVec.and_allOnes,ofInt64 h.1 (by omega),wrap64];omega
theorem ZE5{a b:LI}(ha:U4 a)(hb:U4 b):Zfi (ineg .u64 0) a b=b∧Zfi (ineg .u64 1) a b=a:=by
 obtain⟨x0,x1,x2,x3,rfl,a0,a1,a2,a3⟩:=ha;obtain⟨y0,y1,y2,y3,rfl,b0,b1,b2,b3⟩:=hb;have z:U 0:=⟨by decide,by decide⟩;constructor
 ·rw[show ineg .u64 0=0 from rfl];unfold Zfi;simp only[List.getD_cons_zero,List.getD_cons_succ,List.set_cons_zero,List.set_cons_succ,ZE4 a0,ZE4 a1,ZE4 a2,ZE4 a3,Zxq b0,Zxq b1,Zxq b2,Zxq b3,no_or b0,no_or b1,no_or b2,no_or b3]
 ·rw[show ineg .u64 1=18446744073709551615 from rfl];unfold Zfi;simp only[List.getD_cons_zero,List.getD_cons_succ,List.set_cons_zero,List.set_cons_succ,ZB9 a0,ZB9 a1,ZB9 a2,ZB9 a3,ZFL,or_no a0,or_no a1,or_no a2,or_no a3]
abbrev lL:LI:=[6346243789798364141,1503914060200516822,0,1152921504606846976]
theorem lL_U:U4 lL:=⟨_,_,_,_,rfl,⟨by decide,by decide⟩,⟨by decide,by decide⟩,⟨by decide,by decide⟩,⟨by decide,by decide⟩⟩
theorem lL_v:v4 lL=7237005577332262213973186563042994240857116359379907606001950938285454250989:=by decide
theorem ZHD{a:LI}(ha:U4 a)(h:v4 a<2*7237005577332262213973186563042994240857116359379907606001950938285454250989):∃ r,ZmE a=some r∧U4 r∧0≤v4 r∧v4 r<7237005577332262213973186563042994240857116359379907606001950938285454250989∧(v4 r=v4 a∨v4 r=v4 a-7237005577332262213973186563042994240857116359379907606001950938285454250989):=by
 obtain⟨r,c,h1,u,hc⟩:=ZHC ha lL_U;rw[lL_v] at hc;have ra:=ha.rng;obtain⟨k0,k1⟩:=ZE5 ha u;unfold ZmE;rcases hc with⟨rfl,g1,g2⟩|⟨rfl,g1,g2⟩
 ·exact⟨r,by simp only[h1,mo,k0],u,by omega,by omega,.inr g2⟩
 ·exact⟨a,by simp only[h1,mo,k1],ha,ra.1,g1,.inl rfl⟩
theorem sleast{a:LI}(ha:U4 a):∃ r,ZcZ a=some r∧U4 r∧0≤v4 r∧v4 r<7237005577332262213973186563042994240857116359379907606001950938285454250989∧∃ k:Int,0≤k∧k<16∧v4 a=v4 r+k*7237005577332262213973186563042994240857116359379907606001950938285454250989:=by
 have rng:=ha.rng;obtain⟨x0,x1,x2,x3,rfl,a0,a1,a2,a3⟩:=ha;unfold ZcZ;by_cases hs:x3<1152921504606846976
 ·have hc:icmp .lss (List.getD [x0,x1,x2,x3] 3 0) 1152921504606846976=true:=decide_eq_true hs;refine⟨_,by rw[hc,cond_true],⟨_,_,_,_,rfl,a0,a1,a2,a3⟩,rng.1,?_,0,by decide,by decide,by omega⟩;rw[v4_mk];unfold U at*
  omega
 ·have hc:icmp .lss (List.getD [x0,x1,x2,x3] 3 0) 1152921504606846976=false:=decide_eq_false hs;rw[hc,cond_false];have hq:ibin .shr .u64 (List.getD [x0,x1,x2,x3] 3 0) 60=x3/1152921504606846976:=u_shr (a:=x3) 60 (by decide);have hm:ibin .and .u64 (List.getD [x0,x1,x2,x3] 3 0) 1152921504606846975=x3%1152921504606846976:=by
   unfold U at a3;show ibin .and .u64 x3 1152921504606846975=_;rw[u_and a3.1 (by omega) (by decide) (by decide),show (1152921504606846975:Int).toNat=2^60-1 from rfl,Nat.and_two_pow_sub_one_eq_mod];omega
  rw[hq,hm];generalize hQ:x3/1152921504606846976=q;generalize hL:x3%1152921504606846976=m;have q16:0≤q∧q<16:=by unfold U at a3;omega
  have hm60:0≤m∧m<1152921504606846976:=by omega
  have hx3:x3=q*1152921504606846976+m:=by omega
  have uq:U q:=⟨q16.1,by omega⟩;have t0:U 6346243789798364141:=⟨by decide,by decide⟩;have t1:U 1503914060200516822:=⟨by decide,by decide⟩;rw[Zyp uq t0,Zyp uq t1];simp only;have p0:U (q*6346243789798364141%18446744073709551616):=⟨by omega,by omega⟩;have p1:U (q*1503914060200516822%18446744073709551616):=⟨by omega,by omega⟩;have p2:U (q*6346243789798364141/18446744073709551616):=⟨by omega,by omega⟩;obtain⟨s1,d1,h1,u1,e1,f1⟩:=Zsb p1 p2 (.inl rfl);have hset:List.set [x0,x1,x2,x3] 3 m=[x0,x1,x2,m]:=rfl;rw[hset];have um:U m:=⟨hm60.1,by omega⟩;have hadd:ibin .add .u64 (q*1503914060200516822/18446744073709551616) d1=q*1503914060200516822/18446744073709551616+d1:=by
   rw[u_add];omega
  have u2:U (q*1503914060200516822/18446744073709551616+d1):=⟨by omega,by omega⟩;have z:U 0:=⟨by decide,by decide⟩;have lowU:U4 [x0,x1,x2,m]:=⟨_,_,_,_,rfl,a0,a1,a2,um⟩;have cU:U4 [q*6346243789798364141%18446744073709551616,s1,q*1503914060200516822/18446744073709551616+d1,0]:=⟨_,_,_,_,rfl,p0,u1,u2,z⟩;have cv:v4 [q*6346243789798364141%18446744073709551616,s1,q*1503914060200516822/18446744073709551616+d1,0]=q*27742317777372353535851937790883648493:=by
   rw[v4_mk];omega
  have lv:v4 [x0,x1,x2,x3]=q*7237005577332262213973186563042994240829374041602535252466099000494570602496+v4 [x0,x1,x2,m]:=by
   rw[v4_mk,v4_mk,hx3];omega
  have lr:0≤v4 [x0,x1,x2,m]∧v4 [x0,x1,x2,m]<7237005577332262213973186563042994240829374041602535252466099000494570602496:=by
   rw[v4_mk];unfold U at a0 a1 a2;omega
  obtain⟨r,c,h2,ur,hcr⟩:=ZHC lowU cU;rw[cv] at hcr;obtain⟨e,g,h3,ue,hg,heq⟩:=plus_k ur lL_U;rw[lL_v] at heq;obtain⟨k0,k1⟩:=ZE5 ue ur;have re:=ue.rng;have rr:=ur.rng;rw[lv];generalize v4 [x0,x1,x2,m]=low at*
  simp only[h1,hadd,h2,h3,mo];rcases hcr with⟨rfl,g1,g2⟩|⟨rfl,g1,g2⟩
  ·rw[k0];obtain⟨w,j1,j2,j3,j4,j5⟩:=ZHD ur (by omega);refine⟨w,by rw[j1],j2,j3,j4,q,q16.1,q16.2,?_⟩;rcases j5 with j5|j5<;>omega
  ·rw[k1];obtain⟨w,j1,j2,j3,j4,j5⟩:=ZHD ue (by omega);refine⟨w,by rw[j1],j2,j3,j4,q-1,by omega,by omega,?_⟩;rcases j5 with j5|j5<;>omega
abbrev tk(l:LI)(i:Nat):Int:=Ref.numW 8 (l.take i)
theorem z32:L32 [0,0,0,0,0,0,0,0,0,0,0,0,0,0,0,0,0,0,0,0,0,0,0,0,0,0,0,0,0,0,0,0]:=⟨rfl,by decide⟩
abbrev oB:LI:=[237,211,245,92,26,99,18,88,214,156,247,162,222,249,222,20,0,0,0,0,0,0,0,0,0,0,0,0,0,0,0,16]
theorem ZIN{x r q L:Nat}(h:x=r+q*L)(hr:r<L):r=x%L:=by rw[h,Nat.add_mul_mod_self_right,Nat.mod_eq_of_lt hr]
abbrev sc(a:LI):Nat:=(v4 a).toNat%ordl
structure Lm (r:LI) (n:Nat):Prop where
 u:U4 r
 v:v4 r=n
 lt:n<ordl
theorem Lm.uniq{r s:LI}{n:Nat}(h:Lm r n)(g:Lm s n):r=s:=by
 obtain⟨⟨x0,x1,x2,x3,rfl,a0,a1,a2,a3⟩,hv,-⟩:=h;obtain⟨⟨y0,y1,y2,y3,rfl,b0,b1,b2,b3⟩,gv,-⟩:=g;rw[v4_mk] at hv gv;unfold U at*
 have e0:x0=y0:=by omega
 have e1:x1=y1:=by omega
 have e2:x2=y2:=by omega
 have e3:x3=y3:=by omega
 rw[e0,e1,e2,e3]
theorem Lm.sc{r:LI}{n:Nat}(h:Lm r n):sc r=n:=by
 show (v4 r).toNat%ordl=n;rw[h.v,Int.toNat_natCast,Nat.mod_eq_of_lt h.lt]
theorem sleast'{a:LI}(ha:U4 a):∃ r,ZcZ a=some r∧Lm r (sc a):=by
 obtain⟨r,h1,hr,h2,h3,k,k0,k16,hk⟩:=sleast ha;have e:(v4 r).toNat=sc a:=by
  have ra:=ha.rng;refine ZIN (q:=k.toNat) ?_ ?_
  ·unfold ordl;omega
  ·unfold ordl;omega
 exact⟨r,h1,hr,by omega,by rw[← e];unfold ordl;omega⟩
def v5(t:LI):Int:=List.getD t 0 0+List.getD t 1 0*18446744073709551616+List.getD t 2 0*340282366920938463463374607431768211456+List.getD t 3 0*6277101735386680763835789423207666416102355444464034512896+List.getD t 4 0*115792089237316195423570985008687907853269984665640564039457584007913129639936
theorem Zsv{α β γ:Type}{b:α→Option (α ⊕ (β ⊕ γ))}{v w:α}(h:b v=some (.inl w))(f:Nat):loopF b (f+1) v=loopF b f w:=by rw[Zeg,h];rfl
theorem ZeH{α β γ:Type}{b:α→Option (α ⊕ (β ⊕ γ))}{v:α}{x:β ⊕ γ}(h:b v=some (.inr x))(f:Nat):loopF b (f+1) v=some x:=by rw[Zeg,h];rfl
end Go.Vx
