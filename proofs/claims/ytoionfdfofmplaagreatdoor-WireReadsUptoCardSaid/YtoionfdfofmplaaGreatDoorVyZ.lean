/- Numbers, part Z: the even points are those of the order 4 l; the elements modulo the four points. No program in sight. -/
import Derived.Test.YtoionfdfofmplaaGreatDoorVyY2
set_option autoImplicit false
set_option linter.unusedVariables false
namespace Go.Vx
open Go
abbrev Ev(a:E):Prop:=Even a.p.2
theorem ev_zero:Ev 0:=⟨0,by show (1+1)*(1-1)=(0:K)^2;grind⟩
theorem ev_neg{a:E}(h:Ev a):Ev (-a):=h
def Eqv(a b:E):Prop:=(4:Nat) • (a+ -b)=0
theorem Zyl{a b:E}:Eqv a b↔(4:Nat) • a=(4:Nat) • b:=by
 unfold Eqv;rw[E.ns_sum,E.ns_neg];constructor
 ·intro h;exact E.cancel (a:= -((4:Nat) • b)) (by rw[E.neg_add,E.add_comm];exact h)
 ·intro h;rw[h,E.add_neg]
theorem Eqv.of_eq{a b:E}(h:a=b):Eqv a b:=by rw[h,Zyl]
theorem Eqv.trans{a b c:E}(h:Eqv a b)(g:Eqv b c):Eqv a c:=by rw[Zyl] at*;rw[h,g]
theorem Eqv.symm{a b:E}(h:Eqv a b):Eqv b a:=by rw[Zyl] at*;rw[h]
theorem Eqv.add{a b c d:E}(h:Eqv a b)(g:Eqv c d):Eqv (a+c) (b+d):=by
 rw[Zyl] at*
 rw[E.ns_sum,E.ns_sum,h,g]
theorem Eqv.neg{a b:E}(h:Eqv a b):Eqv (-a) (-b):=by
 rw[Zyl] at*
 rw[E.ns_neg,E.ns_neg,h]
theorem Eqv.ns{a b:E}(h:Eqv a b)(n:Nat):Eqv (n • a) (n • b):=by
 rw[Zyl] at*
 rw[← E.ns_mul,← E.ns_mul,Nat.mul_comm,E.ns_mul,E.ns_mul,h]
end Go.Vx
