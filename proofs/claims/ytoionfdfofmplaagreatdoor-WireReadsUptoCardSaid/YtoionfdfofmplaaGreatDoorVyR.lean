/- Numbers, part R: fourth roots of one; roots of ratios. -/
import Derived.Test.YtoionfdfofmplaaGreatDoorVyQ
set_option autoImplicit false
set_option linter.unusedVariables false
namespace Go.Vx
def eP1:Nat:=57896044618658097711785492504343953926634992332820282019728792003956564819948
def eQ:Nat:=14474011154664524427946373126085988481658748083205070504932198000989141204987
def eR:Nat:=7237005577332262213973186563042994240829374041602535252466099000494570602493
theorem K.fermat{a:K}(h:a≠0):a^eP1=1:=by
 induction a using K.ind with
 |h x=>
  rw[← K.of_pow,show (1:K)=K.of 1 from rfl,K.of_eq];have hx:x%pF≠0:=fun e=>h (by rw[show (0:K)=K.of 0 from rfl,K.of_eq,e];rfl)
  have key:∀ (e:Nat) (n:Nat),((n:Int)^e)%(57896044618658097711785492504343953926634992332820282019728792003956564819949:Nat)=((n^e%57896044618658097711785492504343953926634992332820282019728792003956564819949:Nat):Int):=fun e n=>by
   rw[← Int.natCast_pow,← Int.natCast_emod]
  have h0:0≤x%pF:=Int.emod_nonneg _ (by decide);have hn:x%pF=((x%pF).toNat:Int):=by omega
  rw[← mpow,hn];have h1:(x%pF).toNat%57896044618658097711785492504343953926634992332820282019728792003956564819949≠0:=by
   have:=Int.emod_lt_of_pos x ZA9;simp only[pF] at*
   omega
  have h2:=luc_F.2 _ h1;have h3:=key eP1 (x%pF).toNat;rw[show eP1=57896044618658097711785492504343953926634992332820282019728792003956564819949-1 from rfl,h2] at h3;exact h3
theorem K.pow_add(a:K)(m n:Nat):a^(m+n)=a^m*a^n:=by
 induction a using K.ind with|h x=>rw[← K.of_pow,← K.of_pow,← K.of_pow,← K.of_mul,Int.pow_add]
theorem K.pow_mul(a:K)(m n:Nat):a^(m*n)=(a^m)^n:=by
 induction a using K.ind with|h x=>rw[← K.of_pow,← K.of_pow,← K.of_pow,Int.pow_mul]
theorem K.mul_pow(a b:K)(n:Nat):(a*b)^n=a^n*b^n:=by
 induction a using K.ind with|h x=>induction b using K.ind with|h y=>rw[← K.of_pow,← K.of_pow,← K.of_mul,← K.of_mul,← K.of_pow,Int.mul_pow]
def kI:K:=K.of 19681161376707505956807079304988542015446066515923890162744021073123829784752
theorem kI_sq:kI*kI= -1:=by
 unfold kI;rw[← K.of_mul,show (-1:K)=K.of (-1) from by rw[K.of_neg];rfl,K.of_eq]
 decide
theorem K.one_ne:(1:K)≠0:=fun h=>by
 have:=K.of_eq.1 (show K.of 1=K.of 0 from h)
 revert this;decide
theorem K.two_ne:(2:K)≠0:=fun h=>by
 have:=K.of_eq.1 (show K.of 2=K.of 0 from h)
 revert this;decide
theorem K.quarter{a:K}(h:a≠0):a^eQ=1∨a^eQ= -1∨a^eQ=kI∨a^eQ= -kI:=by
 have h4:(a^eQ)^4=1:=by
  rw[← K.pow_mul,show eQ*4=eP1 from rfl];exact K.fermat h
 have hi:=kI_sq;generalize a^eQ=w at*
 have e:(w-1)*((w+1)*((w-kI)*(w+kI)))=0:=by grind
 rcases K.mul_zero' e with h1|h1
 ·exact .inl (by grind)
 ·rcases K.mul_zero' h1 with h1|h1
  ·exact .inr (.inl (by grind))
  ·rcases K.mul_zero' h1 with h1|h1
   ·exact .inr (.inr (.inl (by grind)))
   ·exact .inr (.inr (.inr (by grind)))
theorem K.mul_ne{a b:K}(ha:a≠0)(hb:b≠0):a*b≠0:=fun h=>(K.mul_zero' h).elim ha hb
theorem K.pow_ne{a:K}(ha:a≠0):(n:Nat)→a^n≠0
 |0=>by rw[show a^0=1 from Lean.Grind.Semiring.pow_zero a];exact K.one_ne
 |n+1=>by rw[Lean.Grind.Semiring.pow_succ];exact K.mul_ne (K.pow_ne ha n) ha
theorem eQ_eq:eQ=eR*2+1:=rfl
theorem K.ratio(u v:K):v*((u*v^3)*(u*v^7)^eR)^2=u*(u*v^7)^eQ:=by
 have h:(u*v^7)^eQ=((u*v^7)^eR)^2*(u*v^7):=by
  rw[eQ_eq,Lean.Grind.Semiring.pow_succ,K.pow_mul]
 rw[h];generalize (u*v^7)^eR=t
 grind
end Go.Vx
