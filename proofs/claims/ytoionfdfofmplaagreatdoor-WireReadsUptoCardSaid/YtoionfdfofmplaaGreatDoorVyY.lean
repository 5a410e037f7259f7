/- Numbers, part Y: the curve as a group; its order; every point is a multiple of the base and one of the torsion point. No program in sight. -/
import Derived.Test.YtoionfdfofmplaaGreatDoorVyX
set_option autoImplicit false
set_option linter.unusedVariables false
namespace Go.Vx
open Go
structure E where
 p:KP
 on:OnP p
theorem E.ext{a b:E}(h:a.p=b.p):a=b:=by
 cases a;cases b;cases h;rfl
instance:Zero E:=⟨⟨kzero,ZDV⟩⟩
instance:Add E:=⟨fun a b=>⟨kadd a.p b.p,Zym a.on b.on⟩⟩
instance:Neg E:=⟨fun a=>⟨kneg a.p,ZGW a.on⟩⟩
instance:Sub E:=⟨fun a b=>a+ -b⟩
def E.ns(a:E):Nat→E
 |0=>0
 |n+1=>E.ns a n+a
instance instSN:SMul Nat E:=⟨fun n a=>E.ns a n⟩
theorem E.add_zero(a:E):a+0=a:=E.ext (ZGX _)
theorem E.add_comm(a b:E):a+b=b+a:=E.ext ZGY
theorem E.add_assoc(a b c:E):a+b+c=a+(b+c):=E.ext (ZFv a.on b.on c.on)
theorem E.zero_add(a:E):0+a=a:=by rw[E.add_comm,E.add_zero]
theorem E.add_neg(a:E):a+ -a=0:=E.ext (ZIn a.on)
theorem E.neg_add(a:E): -a+a=0:=by rw[E.add_comm,E.add_neg]
theorem E.cancel{a b c:E}(h:a+b=a+c):b=c:=by
 rw[← E.zero_add b,← E.zero_add c,← E.neg_add a,E.add_assoc,E.add_assoc,h]
theorem E.neg_uniq{a b:E}(h:a+b=0):b= -a:=E.cancel (a:=a) (by rw[h,E.add_neg])
theorem E.add_swap(a b c d:E):a+b+(c+d)=a+c+(b+d):=by
 rw[E.add_assoc,E.add_assoc,← E.add_assoc b c d,E.add_comm b c,E.add_assoc c b d]
theorem E.neg_sum(a b:E): -(a+b)= -a+ -b:=(E.neg_uniq (by rw[E.add_swap,E.add_neg,E.add_neg,E.add_zero])).symm
theorem E.neg_zero: -(0:E)=0:=(E.neg_uniq (E.add_zero 0)).symm
theorem E.ns_zero(a:E):(0:Nat) • a=0:=rfl
theorem E.ns_succ(n:Nat)(a:E):(n+1) • a=n • a+a:=rfl
theorem E.ns_add(m n:Nat)(a:E):(m+n) • a=m • a+n • a:=by
 induction n with
 |zero=>rw[Nat.add_zero,E.ns_zero,E.add_zero]
 |succ n ih=>rw[← Nat.add_assoc,E.ns_succ,ih,E.ns_succ,E.add_assoc]
theorem E.ns_mul(m n:Nat)(a:E):(m*n) • a=m • (n • a):=by
 induction m with
 |zero=>rw[Nat.zero_mul,E.ns_zero,E.ns_zero]
 |succ m ih=>rw[Nat.succ_mul,E.ns_add,ih,E.ns_succ]
theorem E.ns_sum(n:Nat)(a b:E):n • (a+b)=n • a+n • b:=by
 induction n with
 |zero=>rw[E.ns_zero,E.ns_zero,E.ns_zero,E.add_zero]
 |succ n ih=>rw[E.ns_succ,E.ns_succ,E.ns_succ,ih,E.add_swap]
theorem E.ns_neg(n:Nat)(a:E):n • (-a)= -(n • a):=by
 induction n with
 |zero=>rw[E.ns_zero,E.ns_zero,E.neg_zero]
 |succ n ih=>rw[E.ns_succ,E.ns_succ,ih,E.neg_sum]
theorem E.ns_p(n:Nat)(a:E):(n • a).p=nmul a.p n:=by
 induction n with
 |zero=>rfl
 |succ n ih=>
  show kadd (n • a).p a.p=kadd (nmul a.p n) a.p;rw[ih]
def ordl:Nat:=7237005577332262213973186563042994240857116359379907606001950938285454250989
def eT:E:=⟨kT,kT_on⟩
theorem T8:(8:Nat) • eT=0:=E.ext (by
 rw[E.ns_p];have h:=ZBV ZIo kT_on 8;rw[tabT_8] at h;exact h.zero rfl rfl)
def code(a:E):Nat:=a.p.2.v.toNat*2+(a.p.1.v%2).toNat
end Go.Vx
