import Derived.Test.YtoionfdfofmplaaGreatDoorVyM22
import Derived.Test.YtoionfdfofmplaaGreatDoorVyM8
import Derived.Test.YtoionfdfofmplaaGreatDoorVyZ
import Derived.Test.YtoionfdfofmplaaGreatDoorVyZ2
set_option autoImplicit false
set_option linter.unusedVariables false
set_option linter.unusedSimpArgs false
namespace Go.Vx
open Go
instance:Std.Associative (α:=E) (· + ·):=⟨E.add_assoc⟩
instance:Std.Commutative (α:=E) (· + ·):=⟨E.add_comm⟩
end Go.Vx
namespace Go.Vx
open Go Ref
structure RR (q:LI×LI) (a:E):Prop where
 x:CF q.1
 y:CF q.2
 ex:kf q.1=a.p.1
 ey:kf q.2=a.p.2
end Go.Vx
namespace Go.Vx
open Go Ref
end Go.Vx
namespace Go.Vx
open Go Ref
theorem ZIm{a b:LI}(ha:U4 a)(hb:U4 b):ZcO a b=true↔v4 a<v4 b:=by
 obtain⟨x0,x1,x2,x3,rfl,a0,a1,a2,a3⟩:=ha;obtain⟨y0,y1,y2,y3,rfl,b0,b1,b2,b3⟩:=hb;rw[v4_mk,v4_mk];have ne:∀ x y:Int,icmp .neq x y= !decide (x=y):=fun x y=>rfl
 have ls:∀ x y:Int,icmp .lss x y=decide (x<y):=fun x y=>rfl
 unfold ZcO;simp only[List.getD_cons_zero,List.getD_cons_succ,ne,ls];unfold U at*
 by_cases h3:x3=y3
 ·by_cases h2:x2=y2
  ·by_cases h1:x1=y1
   ·by_cases h0:x0=y0
    ·simp only[h3,h2,h1,h0,decide_true,Bool.not_true,cond_false];constructor
     ·intro h;cases h
     ·intro h;omega
    ·simp only[h3,h2,h1,h0,decide_true,decide_false,Bool.not_true,Bool.not_false,cond_false,cond_true,decide_eq_true_eq];omega
   ·simp only[h3,h2,h1,decide_true,decide_false,Bool.not_true,Bool.not_false,cond_false,cond_true,decide_eq_true_eq];omega
  ·simp only[h3,h2,decide_true,decide_false,Bool.not_true,Bool.not_false,cond_false,cond_true,decide_eq_true_eq];omega
 ·simp only[h3,decide_false,Bool.not_false,cond_true,decide_eq_true_eq];omega
theorem ZI0{x w:Int}(k:Nat)(hk:k≤64)(hx:U x)(hw:0≤w∧w<2^k)(hw':w<18446744073709551616):ibin .or .u64 (ibin .shl .u64 x (k:Int)) w=x*2^k%18446744073709551616+w:=by
 rw[u_shl k hk];unfold U at hx;obtain⟨n,rfl⟩:∃ n:Nat,x=n:=⟨x.toNat,by omega⟩;obtain⟨m,rfl⟩:∃ m:Nat,w=m:=⟨w.toNat,by omega⟩;have hm:m<2^k:=by
  have:=hw.2;have e:((2:Int)^k)=((2^k:Nat):Int):=by simp
  rw[e] at this;exact Int.ofNat_lt.1 this
 have e:((n:Int)*2^k%18446744073709551616)=((n*2^k%2^64:Nat):Int):=by simp
 have hdvd:n*2^k%2^64=2^k*(n%2^(64-k)):=by
  have:(2:Nat)^64=2^k*2^(64-k):=by rw[← Nat.pow_add];congr 1;omega
  rw[this,Nat.mul_comm n,Nat.mul_mod_mul_left]
 have hlt:n*2^k%2^64<2^64:=Nat.mod_lt _ (by decide);rw[e,u_or (by omega) (by omega) (by omega) hw',Int.toNat_natCast,Int.toNat_natCast,hdvd,← Nat.two_pow_add_eq_or_of_lt hm,Int.natCast_add]
end Go.Vx
namespace Go.Vx
open Go Ref
end Go.Vx
