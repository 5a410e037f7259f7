/- Numbers, part A: what the operations on 64 bits do, as numbers. -/
import Derived.Test.YtoionfdfofmplaaGreatDoorVxR2
set_option autoImplicit false
set_option linter.unusedVariables false
namespace Go.Vx
open Go
theorem wrap64(n:Int):IntKind.wrap .u64 n=n%18446744073709551616:=by simp[IntKind.wrap,IntKind.signed,IntKind.bits]
theorem wrap8(n:Int):IntKind.wrap .u8 n=n%256:=by simp[IntKind.wrap,IntKind.signed,IntKind.bits]
theorem u_add(a b:Int):ibin .add .u64 a b=(a+b)%18446744073709551616:=wrap64 _
theorem u_sub(a b:Int):ibin .sub .u64 a b=(a-b)%18446744073709551616:=wrap64 _
theorem u_mul(a b:Int):ibin .mul .u64 a b=(a*b)%18446744073709551616:=wrap64 _
theorem ofInt64{a:Int}(h0:0≤a)(h1:a<18446744073709551616):(BitVec.ofInt 64 a).toNat=a.toNat:=by
 rw[BitVec.toNat_ofInt];omega
theorem u_and{a b:Int}(a0:0≤a)(a1:a<18446744073709551616)(b0:0≤b)(b1:b<18446744073709551616):ibin .and .u64 a b=((a.toNat &&& b.toNat:Nat):Int):=by
 show IntKind.wrap .u64 ((BitVec.ofInt 64 a &&& BitVec.ofInt 64 b).toNat:Int)=_;rw[wrap64,BitVec.toNat_and,ofInt64 a0 a1,ofInt64 b0 b1];have:a.toNat &&& b.toNat≤a.toNat:=Nat.and_le_left;omega
theorem u_or{a b:Int}(a0:0≤a)(a1:a<18446744073709551616)(b0:0≤b)(b1:b<18446744073709551616):ibin .or .u64 a b=((a.toNat ||| b.toNat:Nat):Int):=by
 show IntKind.wrap .u64 ((BitVec.ofInt 64 a ||| BitVec.ofInt 64 b).toNat:Int)=_;rw[wrap64,BitVec.toNat_or,ofInt64 a0 a1,ofInt64 b0 b1];have:a.toNat ||| b.toNat<2^64:=Nat.or_lt_two_pow (by omega) (by omega);omega
theorem Zlu{a:Int}(a0:0≤a)(a1:a<18446744073709551616):ibin .and .u64 a 2251799813685247=a%2251799813685248:=by
 rw[u_and a0 a1 (by decide) (by decide)];have:a.toNat &&& (2^51-1)=a.toNat%2^51:=Nat.and_two_pow_sub_one_eq_mod _ _;rw[show (2251799813685247:Int).toNat=2^51-1 from rfl,this];omega
theorem u_shr{a:Int}(k:Nat)(hk:k≤64):ibin .shr .u64 a (k:Int)=a/2^k:=by
 show a.fdiv (2^(min (k:Int).toNat 64))=_;rw[Int.toNat_natCast,Nat.min_eq_left hk];exact Int.fdiv_eq_ediv_of_nonneg _ (Int.le_of_lt (Int.pow_pos (by decide)))
theorem ZgE(a:Int):ibin .shr .u64 a 51=a/2251799813685248:=u_shr 51 (by decide)
theorem u_shl{a:Int}(k:Nat)(hk:k≤64):ibin .shl .u64 a (k:Int)=(a*2^k)%18446744073709551616:=by
 show IntKind.wrap .u64 (a*2^(min (k:Int).toNat 64))=_;rw[Int.toNat_natCast,Nat.min_eq_left hk,wrap64]
abbrev M51:Int:=2251799813685248
def pF:Int:=57896044618658097711785492504343953926634992332820282019728792003956564819949
abbrev U(x:Int):Prop:=0≤x∧x<18446744073709551616
def val:LI→Int
 | [a,b,c,d,e]=>a+2251799813685248*b+5070602400912917605986812821504*c+11417981541647679048466287755595961091061972992*d+25711008708143844408671393477458601640355247900524685364822016*e
 |_=>0
def Can(a:LI):Prop:=∃ x0 x1 x2 x3 x4,a=[x0,x1,x2,x3,x4]∧(0≤x0∧x0<M51)∧(0≤x1∧x1<M51)∧(0≤x2∧x2<M51)∧(0≤x3∧x3<M51)∧(0≤x4∧x4<M51)∧val a<pF
theorem Can.inj{a b:LI}(ha:Can a)(hb:Can b)(h:val a=val b):a=b:=by
 obtain⟨x0,x1,x2,x3,x4,rfl,hx0,hx1,hx2,hx3,hx4,-⟩:=ha;obtain⟨y0,y1,y2,y3,y4,rfl,hy0,hy1,hy2,hy3,hy4,-⟩:=hb;simp only[val,M51] at*
 have e0:x0=y0:=by omega
 subst e0;have e1:x1=y1:=by omega
 subst e1;have e2:x2=y2:=by omega
 subst e2;have e3:x3=y3:=by omega
 subst e3;have e4:x4=y4:=by omega
 rw[e4]
theorem Can.nonneg{a:LI}(ha:Can a):0≤val a∧val a<pF:=by
 obtain⟨x0,x1,x2,x3,x4,rfl,hx0,hx1,hx2,hx3,hx4,h⟩:=ha;refine⟨?_,h⟩;simp only[val];omega
theorem ZA9:0<pF:=by decide
theorem emod_of{v r:Int}(k:Int)(h:v=r+pF*k)(h0:0≤r)(h1:r<pF):r=v%pF:=by
 rw[h,Int.add_mul_emod_self_left,Int.emod_eq_of_lt h0 h1]
end Go.Vx
