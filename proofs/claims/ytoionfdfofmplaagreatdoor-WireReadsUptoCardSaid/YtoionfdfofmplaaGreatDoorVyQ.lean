/- Numbers, part Q: the field of p elements as a ring that 'grind' knows. -/
import Derived.Test.YtoionfdfofmplaaGreatDoorVyA
import Derived.Test.YtoionfdfofmplaaGreatDoorVyP
set_option autoImplicit false
set_option linter.unusedVariables false
namespace Go.Vx
theorem mmod(a n:Int):a%n%n=a%n:=Int.emod_emod_of_dvd _ (Int.dvd_refl _)
theorem mml(a b n:Int):(a%n*b)%n=(a*b)%n:=by rw[Int.mul_emod,mmod,← Int.mul_emod]
theorem mmr(a b n:Int):(a*(b%n))%n=(a*b)%n:=by rw[Int.mul_emod,mmod,← Int.mul_emod]
theorem mneg(a n:Int):(- (a%n))%n=(- a)%n:=by rw[← Int.zero_sub,Int.sub_emod_emod,Int.zero_sub]
theorem mpow(a n:Int):(e:Nat)→(a%n)^e%n=a^e%n
 |0=>by simp
 |e+1=>by rw[Int.pow_succ,Int.pow_succ,mmr,← mml,mpow a n e,mml]
structure K where
 v:Int
 h:v%pF=v
theorem K.ext{a b:K}(h:a.v=b.v):a=b:=by
 cases a;cases b;cases h;rfl
def K.of(x:Int):K:=⟨x%pF,mmod _ _⟩
theorem K.of_v(a:K):K.of a.v=a:=K.ext a.h
theorem K.of_eq{x y:Int}:K.of x=K.of y↔x%pF=y%pF:=⟨fun h=>congrArg K.v h,fun h=>K.ext h⟩
instance:Add K:=⟨fun a b=>K.of (a.v+b.v)⟩
instance:Mul K:=⟨fun a b=>K.of (a.v*b.v)⟩
instance:Neg K:=⟨fun a=>K.of (- a.v)⟩
instance:Sub K:=⟨fun a b=>K.of (a.v-b.v)⟩
instance:NatCast K:=⟨fun n=>K.of n⟩
instance:IntCast K:=⟨fun n=>K.of n⟩
instance (n:Nat):OfNat K n:=⟨K.of n⟩
instance:HPow K Nat K:=⟨fun a n=>K.of (a.v^n)⟩
instance:SMul Nat K:=⟨fun n a=>K.of n*a⟩
instance:SMul Int K:=⟨fun n a=>K.of n*a⟩
theorem K.add_def(a b:K):a+b=K.of (a.v+b.v):=rfl
theorem K.mul_def(a b:K):a*b=K.of (a.v*b.v):=rfl
theorem K.neg_def(a:K): -a=K.of (- a.v):=rfl
theorem K.sub_def(a b:K):a-b=K.of (a.v-b.v):=rfl
theorem K.pow_def(a:K)(n:Nat):a^n=K.of (a.v^n):=rfl
theorem K.v_of(x:Int):(K.of x).v=x%pF:=rfl
theorem K.of_add(x y:Int):K.of (x+y)=K.of x+K.of y:=by rw[K.add_def,K.of_eq,K.v_of,K.v_of,Int.emod_add_emod,Int.add_emod_emod]
theorem K.of_mul(x y:Int):K.of (x*y)=K.of x*K.of y:=by rw[K.mul_def,K.of_eq,K.v_of,K.v_of,mml,mmr]
theorem K.of_neg(x:Int):K.of (- x)= -K.of x:=by rw[K.neg_def,K.of_eq,K.v_of,mneg]
theorem K.of_sub(x y:Int):K.of (x-y)=K.of x-K.of y:=by rw[K.sub_def,K.of_eq,K.v_of,K.v_of,Int.emod_sub_emod,Int.sub_emod_emod]
theorem K.of_pow(x:Int)(n:Nat):K.of (x^n)=K.of x^n:=by rw[K.pow_def,K.of_eq,K.v_of,mpow]
theorem K.of_mod(x:Int):K.of (x%pF)=K.of x:=by rw[K.of_eq,mmod]
theorem K.ind{Q:K→Prop}(h:∀ x,Q (K.of x))(a:K):Q a:=by rw[← K.of_v a];exact h _
instance:Lean.Grind.CommRing K where
 nsmul:=inferInstance
 zsmul:=inferInstance
 npow:=inferInstance
 add_zero a:=by induction a using K.ind with|h x=>rw[show (0:K)=K.of 0 from rfl,← K.of_add,Int.add_zero]
 add_comm a b:=by rw[K.add_def,K.add_def,Int.add_comm]
 add_assoc a b c:=by
  induction a using K.ind with|h x=>induction b using K.ind with|h y=>induction c using K.ind with|h z=>simp only[← K.of_add,Int.add_assoc]
 mul_assoc a b c:=by
  induction a using K.ind with|h x=>induction b using K.ind with|h y=>induction c using K.ind with|h z=>simp only[← K.of_mul,Int.mul_assoc]
 mul_one a:=by induction a using K.ind with|h x=>rw[show (1:K)=K.of 1 from rfl,← K.of_mul,Int.mul_one]
 one_mul a:=by induction a using K.ind with|h x=>rw[show (1:K)=K.of 1 from rfl,← K.of_mul,Int.one_mul]
 left_distrib a b c:=by
  induction a using K.ind with|h x=>induction b using K.ind with|h y=>induction c using K.ind with|h z=>simp only[← K.of_add,← K.of_mul,Int.mul_add]
 right_distrib a b c:=by
  induction a using K.ind with|h x=>induction b using K.ind with|h y=>induction c using K.ind with|h z=>simp only[← K.of_add,← K.of_mul,Int.add_mul]
 zero_mul a:=by induction a using K.ind with|h x=>rw[show (0:K)=K.of 0 from rfl,← K.of_mul,Int.zero_mul]
 mul_zero a:=by induction a using K.ind with|h x=>rw[show (0:K)=K.of 0 from rfl,← K.of_mul,Int.mul_zero]
 pow_zero a:=by rw[K.pow_def,Int.pow_zero];rfl
 pow_succ a n:=by induction a using K.ind with|h x=>rw[← K.of_pow,← K.of_pow,← K.of_mul,Int.pow_succ]
 ofNat_succ a:=by
  show K.of ((a+1:Nat):Int)=K.of (a:Int)+K.of 1;rw[← K.of_add];rfl
 neg_add_cancel a:=by induction a using K.ind with|h x=>rw[← K.of_neg,← K.of_add,Int.add_left_neg];rfl
 sub_eq_add_neg a b:=by
  induction a using K.ind with|h x=>induction b using K.ind with|h y=>rw[← K.of_neg,← K.of_add,← K.of_sub,Int.sub_eq_add_neg]
 neg_zsmul i a:=by
  show K.of (-i)*a= -(K.of i*a)
  induction a using K.ind with|h x=>rw[← K.of_mul,← K.of_mul,← K.of_neg,Int.neg_mul]
 intCast_neg i:=K.of_neg i
 mul_comm a b:=by rw[K.mul_def,K.mul_def,Int.mul_comm]
example (a b c:K) (h:a*b=c):(a+b)^2=a^2+2*c+b^2:=by grind
theorem K.mul_zero'{a b:K}(h:a*b=0):a=0∨b=0:=by
 induction a using K.ind with
 |h x=>induction b using K.ind with
  |h y=>
   rw[← K.of_mul,show (0:K)=K.of 0 from rfl,K.of_eq] at h;rw[show (0:K)=K.of 0 from rfl,K.of_eq,K.of_eq];have h0:(0:Int)%pF=0:=rfl;rw[h0] at h ⊢;have hd:(pF:Int) ∣ x*y:=Int.dvd_of_emod_eq_zero h;have hn:(57896044618658097711785492504343953926634992332820282019728792003956564819949:Nat) ∣ x.natAbs*y.natAbs:=by
    have:=Int.natAbs_dvd_natAbs.2 hd
    rwa [Int.natAbs_mul] at this
   rcases luc_F.1.dvd_mul hn with h1|h1
   ·exact .inl (Int.emod_eq_zero_of_dvd (Int.natAbs_dvd_natAbs.1 h1))
   ·exact .inr (Int.emod_eq_zero_of_dvd (Int.natAbs_dvd_natAbs.1 h1))
end Go.Vx
