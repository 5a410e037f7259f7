import Derived.Test.YtoionfdfofmplaaGreatDoorVyM8
import Derived.Test.YtoionfdfofmplaaGreatDoorVyMDs
set_option autoImplicit false
set_option linter.unusedVariables false
set_option linter.unusedSimpArgs false
set_option linter.unusedSectionVars false
namespace Go.Vx
open Go
namespace Dr
theorem ZGR{α R:Type}(b:Bool)(x y:Option α)(f:R)(k:α→R):mo (cond b x y) f k=cond b (mo x f k) (mo y f k):=by cases b<;>rfl
theorem ZIZ{α β R:Type}(x:Option α)(g:α→Option β)(f:R)(k:β→R):mo (mo x none g) f k=mo x f fun a=>mo (g a) f k:=by cases x<;>rfl
theorem ZEI{α R:Type}(a:α)(f:R)(k:α→R):mo (some a) f k=k a:=rfl
theorem ZEJ{α R:Type}(f:R)(k:α→R):mo (none:Option α) f k=f:=rfl
theorem formDec(N:Nat)(p:LI×LI×LI×LI)(c:LI):Zca N (p,c) () ()=mo (ZaW N p c) none fun r=>some (r,()):=by
 unfold Zca ZaW;simp only[ZGR,ZIZ,ZEI,ZEJ]
theorem formEnc(N:Nat)(p:LI×LI×LI×LI):Zb9 N p () ()=mo (ZaV N p) none fun r=>some (r,()):=by
 unfold Zb9 ZaV;simp only[ZGR,ZIZ,ZEI,ZEJ]
end Dr
namespace Dr
open Pr
end Dr
namespace Mono
structure Le {α:Type} (a b:Option α):Prop where
 h:∀ x,a=some x→b=some x
theorem Le.refl{α:Type}(a:Option α):Le a a:=⟨fun _ h=>h⟩
theorem Le.none{α:Type}(b:Option α):Le none b:=⟨fun _ h=>by cases h⟩
theorem le_mo{α β:Type}{x y:Option α}{k k':α→Option β}(h:Le x y)(hk:∀ r,Le (k r) (k' r)):Le (mo x none k) (mo y none k'):=by
 refine⟨fun z hz=>?_⟩;cases x with
 |none=>cases hz
 |some a=>rw[h.h a rfl];exact(hk a).h z hz
theorem ZcR{α:Type}{c:Bool}{a b a' b':Option α}(h:Le a a')(h':Le b b'):Le (cond c a b) (cond c a' b'):=by cases c<;>assumption
theorem Zyj{V U:Type}{s s':V→Option (V ⊕ U)}(h:∀ v,Le (s v) (s' v)):{k k':Nat}→k≤k'→(v:V)→Le (loopF s k v) (loopF s' k' v)
 |0,_,_,v=>Le.none _
 |k+1,0,hk,v=>by omega
 |k+1,k'+1,hk,v=>by
  rw[Zeg,Zeg];refine le_mo (h v) fun r=>?_
  cases r with
  |inl v'=>exact Zyj h (by omega) v'
  |inr u=>exact Le.refl _
theorem Zpr{N:Nat}(hN:300≤N)(x0:_):Le (Zbk 300 x0) (Zbk N x0):=by
 unfold Zbk
 repeat' first
  |with_reducible exact Le.none _
  |with_reducible refine le_mo ?_ ?_
  |with_reducible refine ZcR ?_ ?_
  |with_reducible exact Le.refl _
  |(intro r;try dsimp only)
  |(split<;>try dsimp only)
theorem ZgD{N:Nat}(hN:300≤N)(x0 x1:_):Le (Zap 300 x0 x1) (Zap N x0 x1):=by
 unfold Zap
 repeat' first
  |with_reducible exact Zyj (fun _=>Zpr hN _) hN _
  |with_reducible exact Le.none _
  |with_reducible refine le_mo ?_ ?_
  |with_reducible refine ZcR ?_ ?_
  |with_reducible exact Le.refl _
  |(intro r;try dsimp only)
  |(split<;>try dsimp only)
theorem ZnH{N:Nat}(hN:300≤N)(x0:_):Le (ZcM 300 x0) (ZcM N x0):=by
 unfold ZcM
 repeat' first
  |with_reducible exact ZgD hN _ _
  |with_reducible exact Le.none _
  |with_reducible refine le_mo ?_ ?_
  |with_reducible refine ZcR ?_ ?_
  |with_reducible exact Le.refl _
  |(intro r;try dsimp only)
  |(split<;>try dsimp only)
theorem Ztg{N:Nat}(hN:300≤N)(x0:_):Le (Zce 300 x0) (Zce N x0):=by
 unfold Zce
 repeat' first
  |with_reducible exact ZgD hN _ _
  |with_reducible exact ZnH hN _
  |with_reducible exact Le.none _
  |with_reducible refine le_mo ?_ ?_
  |with_reducible refine ZcR ?_ ?_
  |with_reducible exact Le.refl _
  |(intro r;try dsimp only)
  |(split<;>try dsimp only)
theorem ZuP{N:Nat}(hN:300≤N)(x0:_):Le (Zc7 300 x0) (Zc7 N x0):=by
 unfold Zc7
 repeat' first
  |with_reducible exact ZgD hN _ _
  |with_reducible exact ZnH hN _
  |with_reducible exact Le.none _
  |with_reducible refine le_mo ?_ ?_
  |with_reducible refine ZcR ?_ ?_
  |with_reducible exact Le.refl _
  |(intro r;try dsimp only)
  |(split<;>try dsimp only)
theorem ZnI{N:Nat}(hN:300≤N)(x0 x1:_):Le (ZbT 300 x0 x1) (ZbT N x0 x1):=by
 unfold ZbT
 repeat' first
  |with_reducible exact ZuP hN _
  |with_reducible exact Le.none _
  |with_reducible refine le_mo ?_ ?_
  |with_reducible refine ZcR ?_ ?_
  |with_reducible exact Le.refl _
  |(intro r;try dsimp only)
  |(split<;>try dsimp only)
theorem Zsw{N:Nat}(hN:300≤N)(x0:_):Le (Zbc 300 x0) (Zbc N x0):=by
 unfold Zbc
 repeat' first
  |with_reducible exact Ztg hN _
  |with_reducible exact Le.none _
  |with_reducible refine le_mo ?_ ?_
  |with_reducible refine ZcR ?_ ?_
  |with_reducible exact Le.refl _
  |(intro r;try dsimp only)
  |(split<;>try dsimp only)
theorem mono_group_Point_Encode{N:Nat}(hN:300≤N)(x0:_):Le (ZaV 300 x0) (ZaV N x0):=by
 unfold ZaV
 repeat' first
  |with_reducible exact ZnI hN _ _
  |with_reducible exact Zsw hN _
  |with_reducible exact Le.none _
  |with_reducible refine le_mo ?_ ?_
  |with_reducible refine ZcR ?_ ?_
  |with_reducible exact Le.refl _
  |(intro r;try dsimp only)
  |(split<;>try dsimp only)
theorem mono_group_Point_Decode{N:Nat}(hN:300≤N)(x0 x1:_):Le (ZaW 300 x0 x1) (ZaW N x0 x1):=by
 unfold ZaW
 repeat' first
  |with_reducible exact ZnI hN _ _
  |with_reducible exact Le.none _
  |with_reducible refine le_mo ?_ ?_
  |with_reducible refine ZcR ?_ ?_
  |with_reducible exact Le.refl _
  |(intro r;try dsimp only)
  |(split<;>try dsimp only)
theorem Zsx{N:Nat}(hN:300≤N)(x0:_):Le (ZaS 300 x0) (ZaS N x0):=by
 unfold ZaS
 repeat' first
  |with_reducible exact Le.none _
  |with_reducible refine le_mo ?_ ?_
  |with_reducible refine ZcR ?_ ?_
  |with_reducible exact Le.refl _
  |(intro r;try dsimp only)
  |(split<;>try dsimp only)
theorem Zjw{N:Nat}(hN:300≤N)(x0:_):Le (Zbg 300 x0) (Zbg N x0):=by
 unfold Zbg
 repeat' first
  |with_reducible exact Zyj (fun _=>Zsx hN _) hN _
  |with_reducible exact Le.none _
  |with_reducible refine le_mo ?_ ?_
  |with_reducible refine ZcR ?_ ?_
  |with_reducible exact Le.refl _
  |(intro r;try dsimp only)
  |(split<;>try dsimp only)
theorem Zjx{N:Nat}(hN:300≤N)(x0 x1:_):Le (ZbB 300 x0 x1) (ZbB N x0 x1):=by
 unfold ZbB
 repeat' first
  |with_reducible exact Zjw hN _
  |with_reducible exact Le.none _
  |with_reducible refine le_mo ?_ ?_
  |with_reducible refine ZcR ?_ ?_
  |with_reducible exact Le.refl _
  |(intro r;try dsimp only)
  |(split<;>try dsimp only)
theorem ZnJ{N:Nat}(hN:300≤N)(x0 x1:_):Le (Zcb 300 x0 x1) (Zcb N x0 x1):=by
 unfold Zcb
 repeat' first
  |with_reducible exact Zjx hN _ _
  |with_reducible exact Le.none _
  |with_reducible refine le_mo ?_ ?_
  |with_reducible refine ZcR ?_ ?_
  |with_reducible exact Le.refl _
  |(intro r;try dsimp only)
  |(split<;>try dsimp only)
theorem Zcn{N:Nat}(hN:300≤N)(x0 x1:_):Le (Zam 300 x0 x1) (Zam N x0 x1):=by
 unfold Zam
 repeat' first
  |with_reducible exact Zjw hN _
  |with_reducible exact Le.none _
  |with_reducible refine le_mo ?_ ?_
  |with_reducible refine ZcR ?_ ?_
  |with_reducible exact Le.refl _
  |(intro r;try dsimp only)
  |(split<;>try dsimp only)
theorem Zr6{N:Nat}(hN:300≤N)(x0:_):Le (Zbq 300 x0) (Zbq N x0):=by
 unfold Zbq
 repeat' first
  |with_reducible exact Zcn hN _ _
  |with_reducible exact Le.none _
  |with_reducible refine le_mo ?_ ?_
  |with_reducible refine ZcR ?_ ?_
  |with_reducible exact Le.refl _
  |(intro r;try dsimp only)
  |(split<;>try dsimp only)
theorem Zps{N:Nat}(hN:300≤N){rec rec':_}(hr:∀ x0 x1,Le (rec x0 x1) (rec' x0 x1)):∀ x0 x1,Le (ZbQ rec 300 x0 x1) (ZbQ rec' N x0 x1):=by
 intro x0 x1;unfold ZbQ
 repeat' first
  |with_reducible exact Zcn hN _ _
  |with_reducible exact hr _ _
  |with_reducible exact Zyj (fun _=>by first|with_reducible exact Zr6 hN _) hN _
  |with_reducible exact Le.none _
  |with_reducible refine le_mo ?_ ?_
  |with_reducible refine ZcR ?_ ?_
  |with_reducible exact Le.refl _
  |(intro r;try dsimp only)
  |(split<;>try dsimp only)
theorem ZkR{N:Nat}(hN:300≤N):(m m':Nat)→m≤m'→∀ x0 x1,Le (Zcc 300 m x0 x1) (Zcc N m' x0 x1)
 |0,m',h=>fun _ _=>Le.none _
 |m+1,0,h=>by omega
 |m+1,m'+1,h=>Zps hN (ZkR hN m m' (by omega))
theorem ZmW{N:Nat}(hN:300≤N)(x0 x1:_):Le (Zdj 300 x0 x1) (Zdj N x0 x1):=ZkR hN 300 N hN x0 x1
theorem Zls{N:Nat}(hN:300≤N)(x0:_):Le (ZbP 300 x0) (ZbP N x0):=by
 unfold ZbP
 repeat' first
  |with_reducible exact Zcn hN _ _
  |with_reducible exact ZmW hN _ _
  |with_reducible exact Le.none _
  |with_reducible refine le_mo ?_ ?_
  |with_reducible refine ZcR ?_ ?_
  |with_reducible exact Le.refl _
  |(intro r;try dsimp only)
  |(split<;>try dsimp only)
theorem Zv0{N:Nat}(hN:300≤N)(x0:_):Le (ZcJ 300 x0) (ZcJ N x0):=by
 unfold ZcJ
 repeat' first
  |with_reducible exact Zcn hN _ _
  |with_reducible exact ZmW hN _ _
  |with_reducible exact Le.none _
  |with_reducible refine le_mo ?_ ?_
  |with_reducible refine ZcR ?_ ?_
  |with_reducible exact Le.refl _
  |(intro r;try dsimp only)
  |(split<;>try dsimp only)
theorem ZkS{N:Nat}(hN:300≤N)(x0 x1:_):Le (Zbr 300 x0 x1) (Zbr N x0 x1):=by
 unfold Zbr
 repeat' first
  |with_reducible exact Zcn hN _ _
  |with_reducible exact Zls hN _
  |with_reducible exact Zv0 hN _
  |with_reducible exact Le.none _
  |with_reducible refine le_mo ?_ ?_
  |with_reducible refine ZcR ?_ ?_
  |with_reducible exact Le.refl _
  |(intro r;try dsimp only)
  |(split<;>try dsimp only)
theorem Zpt{N:Nat}(hN:300≤N)(x0:_):Le (Zbl 300 x0) (Zbl N x0):=by
 unfold Zbl
 repeat' first
  |with_reducible exact Le.none _
  |with_reducible refine le_mo ?_ ?_
  |with_reducible refine ZcR ?_ ?_
  |with_reducible exact Le.refl _
  |(intro r;try dsimp only)
  |(split<;>try dsimp only)
theorem Zlt{N:Nat}(hN:300≤N)(x0:_):Le (ZaT 300 x0) (ZaT N x0):=by
 unfold ZaT
 repeat' first
  |with_reducible exact Zyj (fun _=>Zpt hN _) hN _
  |with_reducible exact Le.none _
  |with_reducible refine le_mo ?_ ?_
  |with_reducible refine ZcR ?_ ?_
  |with_reducible exact Le.refl _
  |(intro r;try dsimp only)
  |(split<;>try dsimp only)
theorem Zr7{N:Nat}(hN:300≤N)(x0:_):Le (Za5 300 x0) (Za5 N x0):=by
 unfold Za5
 repeat' first
  |with_reducible exact Le.none _
  |with_reducible refine le_mo ?_ ?_
  |with_reducible refine ZcR ?_ ?_
  |with_reducible exact Le.refl _
  |(intro r;try dsimp only)
  |(split<;>try dsimp only)
theorem Zt5{N:Nat}(hN:300≤N)(x0:_):Le (Zcu 300 x0) (Zcu N x0):=by
 unfold Zcu
 repeat' first
  |with_reducible exact Zjw hN _
  |with_reducible exact Zyj (fun _=>Zr7 hN _) hN _
  |with_reducible exact Le.none _
  |with_reducible refine le_mo ?_ ?_
  |with_reducible refine ZcR ?_ ?_
  |with_reducible exact Le.refl _
  |(intro r;try dsimp only)
  |(split<;>try dsimp only)
theorem Zt6{N:Nat}(hN:300≤N)(x0:_):Le (Zcv 300 x0) (Zcv N x0):=by
 unfold Zcv
 repeat' first
  |with_reducible exact Zlt hN _
  |with_reducible exact Zt5 hN _
  |with_reducible exact Le.none _
  |with_reducible refine le_mo ?_ ?_
  |with_reducible refine ZcR ?_ ?_
  |with_reducible exact Le.refl _
  |(intro r;try dsimp only)
  |(split<;>try dsimp only)
theorem ZnK{N:Nat}(hN:300≤N)(x0:_):Le (Zcq 300 x0) (Zcq N x0):=by
 unfold Zcq
 repeat' first
  |with_reducible exact Zcn hN _ _
  |with_reducible exact Le.none _
  |with_reducible refine le_mo ?_ ?_
  |with_reducible refine ZcR ?_ ?_
  |with_reducible exact Le.refl _
  |(intro r;try dsimp only)
  |(split<;>try dsimp only)
theorem ZqW{N:Nat}(hN:300≤N)(x0 x1:_):Le (Zbi 300 x0 x1) (Zbi N x0 x1):=by
 unfold Zbi
 repeat' first
  |with_reducible exact ZnK hN _
  |with_reducible exact Le.none _
  |with_reducible refine le_mo ?_ ?_
  |with_reducible refine ZcR ?_ ?_
  |with_reducible exact Le.refl _
  |(intro r;try dsimp only)
  |(split<;>try dsimp only)
theorem ZmX{N:Nat}(hN:300≤N)(x0:_):Le (ZbA 300 x0) (ZbA N x0):=by
 unfold ZbA
 repeat' first
  |with_reducible exact Zjx hN _ _
  |with_reducible exact ZnJ hN _ _
  |with_reducible exact Zcn hN _ _
  |with_reducible exact Zls hN _
  |with_reducible exact ZkS hN _ _
  |with_reducible exact Le.none _
  |with_reducible refine le_mo ?_ ?_
  |with_reducible refine ZcR ?_ ?_
  |with_reducible exact Le.refl _
  |(intro r;try dsimp only)
  |(split<;>try dsimp only)
theorem mono_veilref05_Decode{N:Nat}(hN:300≤N)(x0:_):Le (Zbp 300 x0) (Zbp N x0):=by
 unfold Zbp
 repeat' first
  |with_reducible exact Zt6 hN _
  |with_reducible exact ZmX hN _
  |with_reducible exact Le.none _
  |with_reducible refine le_mo ?_ ?_
  |with_reducible refine ZcR ?_ ?_
  |with_reducible exact Le.refl _
  |(intro r;try dsimp only)
  |(split<;>try dsimp only)
theorem mono_veilref05_Point_Encode{N:Nat}(hN:300≤N)(x0:_):Le (ZaA 300 x0) (ZaA N x0):=by
 unfold ZaA Ref.cnd
 repeat' first
  |with_reducible exact Zjx hN _ _
  |with_reducible exact ZnJ hN _ _
  |with_reducible exact ZkS hN _ _
  |with_reducible exact Zlt hN _
  |with_reducible exact ZnK hN _
  |with_reducible exact ZqW hN _ _
  |with_reducible exact ZmX hN _
  |with_reducible exact Le.none _
  |with_reducible refine le_mo ?_ ?_
  |with_reducible refine ZcR ?_ ?_
  |with_reducible exact Le.refl _
  |(intro r;try dsimp only)
  |(split<;>try dsimp only)
end Mono
end Go.Vx
namespace Go.Vx.Ref
open Go Go.Vx
theorem cf_of6{a:LI}(ha:Can a):∃ n,CF n∧kf n=kv a:=by
 have e:=Zv1 ha.L5;obtain⟨n,-,h2,h3⟩:=ZAc e.1;refine⟨n,h2,kf_of ?_⟩;rw[h3,e.2,Int.emod_emod_of_dvd _ (Int.dvd_refl _)]
theorem ZGS{p1 p2 p3 p4 x y x' y':LI}{q:K}(h1:Zbc 300 (p1,p2,p3,p4)=some (x,y))(hx:Can x)(hy:Can y)(hx':CF x')(hy':CF y')(ex:kf x'=kv x)(ey:kf y'=kv y)
  (on:kv y^2-kv x^2=1+kD*kv x^2*kv y^2) (hq:(1+kv y)*(1-kv y)=q^2):
  ∃ b,ZaV 300 (p1,p2,p3,p4)=some b∧ZaA 300 (x',y')=some b∧L32 b:=by
 obtain⟨s,X,Y,k1,k2,k3,k4⟩:=pencode h1 hx hy on hq;obtain⟨n,n1,n2⟩:=cf_of6 k2;have hne:kf x'≠0∨kf y'≠0:=by
  by_cases h0:kv x=0
  ·right;intro h2;rw[ey] at h2;rw[h0,h2] at on;exact K.one_ne (by generalize kD=d at*;grind)
  ·left;rw[ex];exact h0
 have r:=rencode hx' hy' n1 hne (X:=X) (Y:=Y) (by rw[n2];exact k3) (by rw[ex,ey];exact k4);obtain⟨b,b1,b2,b3⟩:=ZEK n1;have e:=Zv1 k2.L5;refine⟨_,k1,?_,e.1⟩;rw[r,b1];refine congrArg some (b2.inj e.1 ?_);have v1:num n=val s:=by rw[← cf_v n1,n2,can_v k2]
 rw[b3,e.2,v1,Int.emod_eq_of_lt k2.nonneg.1 k2.nonneg.2]
theorem ZEL{p1 p2 p3 p4 x' y':LI}{X Y:K}(h:Rep (p1,p2,p3,p4) X Y)(hx:CF x')(hy:CF y')(ex:kf x'=X)(ey:kf y'=Y)(on:On X Y)(ev:Even Y):
  ∃ b,ZaV 300 (p1,p2,p3,p4)=some b∧ZaA 300 (x',y')=some b∧L32 b:=by
 obtain⟨x,y,k1,k2,k3,k4,k5⟩:=h.affine;obtain⟨q,hq⟩:=ev;exact ZGS k1 k2 k3 hx hy (ex.trans k4.symm) (ey.trans k5.symm) (by rw[k4,k5];exact on) (by rw[k5];exact hq)
theorem ZEM:Zaz (z10,z10)=(Zai.1,Zai.2):=rfl
theorem ZDg(N:Nat):ZaA N (z10,z10)=ZaA N (Zai.1,Zai.2):=by
 have en:Zaz (Zai.1,Zai.2)=(Zai.1,Zai.2):=rfl;have hs:∀ r,Zbi N (z10,z10) r=Zbi N (Zai.1,Zai.2) r:=by
  intro r;unfold Zbi;simp only[ZEM,en]
  first|rfl|(congr 1)
 have hc:∀ y C,cnd N (z10,z10) y C=cnd N (Zai.1,Zai.2) y C:=by
  intro y C;unfold cnd;simp only[hs]
 rw[Zv2,Zv2];simp only[ZEM,en,hc]
theorem ZGP{N:Nat}(hN:300≤N):∃ b,ZaV N (z5,z5,z5,z5)=some b∧ZaA N (z10,z10)=some b:=by
 obtain⟨b,h1,h2,-⟩:=ZEL (x':=Zai.1) (y':=Zai.2) ZIk ZAd Zyk rfl ZGT (by unfold On;generalize kD=d;grind) ⟨0,by grind⟩;rw[ZDg];exact⟨b,(Mono.mono_group_Point_Encode hN _).h _ h1,(Mono.mono_veilref05_Point_Encode hN _).h _ h2⟩
theorem ZIj{N:Nat}(hN:300≤N){a:LI}(ha:L32 a)(p:P4):
  (∃ v v' c,ZaW N p a=some (v,0)∧Zbp N a=some (v',0)∧ZaV N v=some c∧ZaA N v'=some c)∨
  (∃ e,ZaW N p a=some ((z5,z5,z5,z5),e)∧Zbp N a=some ((Zbz.1,Zbz.2),e)∧(e=3∨e=50)):=by
 rcases ZDU 300 rfl ha p with⟨x,y,t,x',y',h1,h2,h3,h4,h5,h6,h7,h8⟩|⟨e,h1,h2,h3⟩
 ·obtain⟨b,k1,k2,-⟩:=ZEL h5 h3 h4 rfl rfl h6 h7;exact .inl ⟨_,_,b,(Mono.mono_group_Point_Decode hN _ _).h _ h1,(Mono.mono_veilref05_Decode hN _).h _ h2,(Mono.mono_group_Point_Encode hN _).h _ k1,(Mono.mono_veilref05_Point_Encode hN _).h _ k2⟩
 ·exact .inr ⟨e,(Mono.mono_group_Point_Decode hN _ _).h _ h1,(Mono.mono_veilref05_Decode hN _).h _ h2,h3⟩
end Go.Vx.Ref
