/- Numbers, part S: digits to a base that is a power of two; signed operations that stay in range; carries. -/
import Derived.Test.YtoionfdfofmplaaGreatDoorVyR
import Derived.Test.YtoionfdfofmplaaGreatDoorVyA
set_option autoImplicit false
set_option linter.unusedSimpArgs false
set_option linter.unusedVariables false
namespace Go.Vx.Ref
open Go
theorem wrapi{n:Int}(h0: -9223372036854775808≤n)(h1:n≤9223372036854775807):IntKind.wrap .i64 n=n:=by
 have e:IntKind.wrap .i64 n=if n%18446744073709551616≥9223372036854775808 then n%18446744073709551616-18446744073709551616 else n%18446744073709551616:=by
  simp[IntKind.wrap,IntKind.signed,IntKind.bits]
 rw[e];split<;>omega
theorem i_add{a b:Int}(h0: -9223372036854775808≤a+b)(h1:a+b≤9223372036854775807):ibin .add .i64 a b=a+b:=wrapi h0 h1
theorem i_sub{a b:Int}(h0: -9223372036854775808≤a-b)(h1:a-b≤9223372036854775807):ibin .sub .i64 a b=a-b:=wrapi h0 h1
theorem i_mul{a b:Int}(h0: -9223372036854775808≤a*b)(h1:a*b≤9223372036854775807):ibin .mul .i64 a b=a*b:=wrapi h0 h1
theorem i_shr{a:Int}(k:Nat)(hk:k≤64):ibin .shr .i64 a (k:Int)=a/2^k:=by
 show a.fdiv (2^(min (k:Int).toNat 64))=_;rw[Int.toNat_natCast,Nat.min_eq_left hk];exact Int.fdiv_eq_ediv_of_nonneg _ (Int.le_of_lt (Int.pow_pos (by decide)))
theorem ZHA(a:Int):ibin .shr .i64 a 26=a/67108864:=i_shr 26 (by decide)
theorem ZHB(a:Int):ibin .and .i64 a 67108863=a%67108864:=by
 show IntKind.wrap .i64 ((BitVec.ofInt 64 a &&& BitVec.ofInt 64 67108863).toNat:Int)=_;have:(BitVec.ofInt 64 a &&& BitVec.ofInt 64 67108863).toNat=(a%18446744073709551616).toNat%67108864:=by
  rw[BitVec.toNat_and,BitVec.toNat_ofInt,show (BitVec.ofInt 64 67108863).toNat=2^26-1 from rfl,Nat.and_two_pow_sub_one_eq_mod];rfl
 rw[this,wrapi (by omega) (by omega)];omega
theorem ZES(a:Int):ibin .and .i64 a 1=a%2:=by
 show IntKind.wrap .i64 ((BitVec.ofInt 64 a &&& BitVec.ofInt 64 1).toNat:Int)=_;have:(BitVec.ofInt 64 a &&& BitVec.ofInt 64 1).toNat=(a%18446744073709551616).toNat%2:=by
  rw[BitVec.toNat_and,BitVec.toNat_ofInt,show (BitVec.ofInt 64 1).toNat=2^1-1 from rfl,Nat.and_two_pow_sub_one_eq_mod];rfl
 rw[this,wrapi (by omega) (by omega)];omega
theorem i_quo{a:Nat}(k:Nat)(h:a≤9223372036854775807):ibin .quo .i64 (a:Int) (k:Int)=((a/k:Nat):Int):=by
 show IntKind.wrap .i64 ((a:Int).tdiv (k:Int))=_;have e:(a:Int).tdiv (k:Int)=((a/k:Nat):Int):=rfl;rw[e];have:=Nat.div_le_self a k;generalize a/k=q at*
 exact wrapi (by omega) (by omega)
theorem i_rem{a:Nat}(k:Nat):ibin .rem .i64 (a:Int) (k:Int)=((a%k:Nat):Int):=by
 show (a:Int).tmod (k:Int)=_;exact Int.ofNat_tmod a k
theorem i_shl{k:Nat}(hk:k<62):ibin .shl .i64 1 (k:Int)=2^k:=by
 show IntKind.wrap .i64 (1*2^(min (k:Int).toNat 64))=_;rw[Int.toNat_natCast,Nat.min_eq_left (by omega),Int.one_mul];have h:(2:Int)^k≤2^62:=by
  have:(2:Nat)^k≤2^62:=Nat.pow_le_pow_right (by decide) (by omega)
  exact_mod_cast this
 have h0:(0:Int)<2^k:=Int.pow_pos (by decide);exact wrapi (by omega) (by omega)
def numW(w:Nat):LI→Int
 | []=>0
 |x::l=>x+2^w*numW w l
abbrev num(l:LI):Int:=numW 26 l
def Dg(w:Nat)(l:LI):Prop:=∀ x∈l,0≤x∧x<2^w
theorem Dg.tail{w:Nat}{x:Int}{l:LI}(h:Dg w (x::l)):Dg w l:=fun y hy=>h y (by simp[hy])
theorem Dg.head{w:Nat}{x:Int}{l:LI}(h:Dg w (x::l)):0≤x∧x<2^w:=h x (by simp)
theorem Zv8{w:Nat}:(l:LI)→(∀ x∈l,0≤x)→0≤numW w l
 | [],_=>by simp[numW]
 |x::l,h=>by
  have h1:=h x (by simp);have h2:=Zv8 (w:=w) l (fun y hy=>h y (by simp[hy]));have h3:(0:Int)≤2^w*numW w l:=Int.mul_nonneg (Int.le_of_lt (Int.pow_pos (by decide))) h2;simp only[numW];omega
theorem Dg.nonneg{w:Nat}{l:LI}(h:Dg w l):0≤numW w l:=Zv8 l fun x hx=>(h x hx).1
theorem ZD9{w:Nat}:(l:LI)→Dg w l→numW w l<(2^w)^l.length
 | [],_=>by simp[numW]
 |x::l,h=>by
  have h1:=h.head;have h2:=ZD9 l h.tail;have hp:(0:Int)<2^w:=Int.pow_pos (by decide);have h3:2^w*(numW w l+1)≤2^w*((2^w)^l.length):=Int.mul_le_mul_of_nonneg_left (by omega) (Int.le_of_lt hp);rw[Int.mul_add,Int.mul_one] at h3;simp only[numW,List.length_cons,Int.pow_succ];rw[Int.mul_comm ((2^w)^l.length)];omega
theorem ZE2{w:Nat}:(a b:LI)→a.length=b.length→Dg w a→Dg w b→numW w a=numW w b→a=b
 | [],[],_,_,_,_=>rfl
 | [],_::_,h,_,_,_=>by simp at h
 |_::_,[],h,_,_,_=>by simp at h
 |x::a,y::b,hl,ha,hb,h=>by
  simp only[numW] at h;have hx:=ha.head;have hy:=hb.head;have e1:(x+2^w*numW w a)%2^w=x:=by rw[Int.add_mul_emod_self_left,Int.emod_eq_of_lt hx.1 hx.2]
  have e2:(y+2^w*numW w b)%2^w=y:=by rw[Int.add_mul_emod_self_left,Int.emod_eq_of_lt hy.1 hy.2]
  have hxy:x=y:=by rw[← e1,← e2,h]
  subst hxy;have h5:(2:Int)^w*numW w a=2^w*numW w b:=by omega
  have h6:=Int.eq_of_mul_eq_mul_left (Int.ne_of_gt (Int.pow_pos (by decide))) h5;rw[ZE2 a b (by simpa using hl) ha.tail hb.tail h6]
theorem ZE3{w:Nat}{x:Int}{l:LI}(h:0≤x∧x<2^w):numW w (x::l)/2^w=numW w l:=by
 simp only[numW];rw[Int.add_mul_ediv_left _ _ (Int.ne_of_gt (Int.pow_pos (by decide))),Int.ediv_eq_zero_of_lt h.1 h.2,Int.zero_add]
theorem ZAl{w:Nat}:(k:Nat)→(l:LI)→Dg w l→(r:Nat)→r<w→List.getD l k 0/2^r%2=numW w l/2^(w*k+r)%2
 |_,[],_,r,_=>by simp[numW]
 |0,x::l,_,r,hr=>by
  simp only[List.getD_cons_zero,numW,Nat.mul_zero,Nat.zero_add];have e:(2:Int)^w=2^r*(2*2^(w-r-1)):=by
   rw[← Int.pow_succ',← Int.pow_add];exact congrArg _ (by omega)
  rw[e,Int.mul_assoc,Int.add_mul_ediv_left _ _ (Int.ne_of_gt (Int.pow_pos (by decide))),Int.mul_assoc,Int.add_mul_emod_self_left]
 |k+1,x::l,hd,r,hr=>by
  rw[List.getD_cons_succ,ZAl k l hd.tail r hr];have e:(2:Int)^(w*(k+1)+r)=2^w*2^(w*k+r):=by rw[← Int.pow_add];exact congrArg _ (by rw[Nat.mul_add,Nat.mul_one];omega)
  rw[e,← Int.ediv_ediv_of_nonneg (Int.le_of_lt (Int.pow_pos (by decide))),ZE3 hd.head]
theorem ZB6{w:Nat}:(k:Nat)→(l:LI)→(v:Int)→k<l.length→numW w (l.set k (List.getD l k 0+v))=numW w l+v*2^(w*k)
 |_,[],_,h=>by simp at h
 |0,x::l,v,_=>by simp only[List.set_cons_zero,List.getD_cons_zero,numW,Nat.mul_zero,Int.pow_zero];omega
 |k+1,x::l,v,h=>by
  have e:(2:Int)^(w*(k+1))=2^w*2^(w*k):=by rw[← Int.pow_add];exact congrArg _ (by rw[Nat.mul_add,Nat.mul_one,Nat.add_comm])
  simp only[List.set_cons_succ,List.getD_cons_succ,numW];rw[ZB6 k l v (by simpa using h),e,Int.mul_add,Int.mul_left_comm v];omega
theorem ZDu{w:Nat}:(k:Nat)→(l:LI)→Dg w l→(r:Nat)→numW w l<2^(w*k+r)→List.getD l k 0<2^r
 |_,[],_,r,_=>by simp only[List.getD_nil];exact Int.pow_pos (by decide)
 |0,x::l,hd,r,h=>by
  have h1:=hd.tail.nonneg;have h2:(0:Int)≤2^w*numW w l:=Int.mul_nonneg (Int.le_of_lt (Int.pow_pos (by decide))) h1;simp only[numW,Nat.mul_zero,Nat.zero_add] at h;simp only[List.getD_cons_zero];omega
 |k+1,x::l,hd,r,h=>by
  rw[List.getD_cons_succ];refine ZDu k l hd.tail r ?_;have e:(2:Int)^(w*(k+1)+r)=2^w*2^(w*k+r):=by rw[← Int.pow_add];exact congrArg _ (by rw[Nat.mul_add,Nat.mul_one];omega)
  rw[e] at h;rw[← ZE3 hd.head];refine Int.ediv_lt_of_lt_mul (Int.pow_pos (by decide)) ?_;rw[Int.mul_comm];exact h
theorem Zut{lo hi:Int}(h0:lo≤0∧0<hi):(l:LI)→(∀ x∈l,lo≤x∧x<hi)→(k:Nat)→lo≤List.getD l k 0∧List.getD l k 0<hi
 | [],_,k=>by simpa using h0
 |x::l,h,0=>by simpa using h x (by simp)
 |x::l,h,k+1=>by simpa using Zut h0 l (fun y hy=>h y (by simp[hy])) k
theorem ZAo{lo hi v:Int}(hv:lo≤v∧v<hi):(l:LI)→(∀ x∈l,lo≤x∧x<hi)→(k:Nat)→∀ x∈l.set k v,lo≤x∧x<hi
 | [],h,k=>by simp
 |x::l,h,0=>by
  intro y hy;simp only[List.set_cons_zero,List.mem_cons] at hy;rcases hy with rfl|hy
  ·exact hv
  ·exact h y (by simp[hy])
 |x::l,h,k+1=>by
  intro y hy;simp only[List.set_cons_succ,List.mem_cons] at hy;rcases hy with rfl|hy
  ·exact h _ (by simp)
  ·exact ZAo hv l (fun z hz=>h z (by simp[hz])) k y hy
theorem put_bit{w:Nat}{l:LI}{n k r:Nat}(hd:Dg w l)(hn:n=w*k+r)(hr:r<w)(hk:k<l.length)(hlt:numW w l<2^n):
  (0≤List.getD l k 0∧List.getD l k 0<2^r)∧Dg w (l.set k (List.getD l k 0+2^r))∧numW w (l.set k (List.getD l k 0+2^r))=numW w l+2^n:=by
 subst hn;have h1:=ZDu k l hd r hlt;have h0:=(Zut ⟨Int.le_refl 0,Int.pow_pos (by decide)⟩ l hd k).1;have hp:(0:Int)<2^r:=Int.pow_pos (by decide);have h2:(2:Int)*2^r≤2^w:=by
  have e:(2:Int)^w=2*2^r*2^(w-r-1):=by
   rw[← Int.pow_succ',← Int.pow_add];exact congrArg _ (by omega)
  have h3:(1:Int)≤2^(w-r-1):=Int.pow_pos (by decide);have h4:=Int.mul_le_mul_of_nonneg_left h3 (show (0:Int)≤2*2^r by omega);rw[Int.mul_one] at h4;rw[e];exact h4
 refine⟨⟨h0,h1⟩,ZAo (by omega) l hd k,?_⟩;rw[ZB6 k l _ hk,← Int.pow_add,Nat.add_comm r]
theorem ZIM(x:Int)(n:Nat):x%2^(n+1)=x%2^n+x/2^n%2*2^n:=by
 have hp:(0:Int)<2^n:=Int.pow_pos (by decide);have h1:=Int.emod_add_mul_ediv x (2^n);have h2:=Int.emod_add_mul_ediv (x/2^n) 2;have h3:=Int.emod_nonneg x (Int.ne_of_gt hp);have h4:=Int.emod_lt_of_pos x hp;have h5:0≤x/2^n%2∧x/2^n%2<2:=by omega
 have e:x=(x%2^n+x/2^n%2*2^n)+2^(n+1)*(x/2^n/2):=by
  rw[Int.pow_succ];generalize x%2^n=a at*
  generalize x/2^n=b at*
  generalize b%2=c at*
  generalize b/2=d at*
  subst h2;rw[← h1,Int.mul_add,Int.mul_comm c,Int.mul_assoc,Int.add_assoc]
 conv=>lhs;rw[e]
 rw[Int.add_mul_emod_self_left];refine Int.emod_eq_of_lt ?_ ?_
 ·have:=Int.mul_nonneg h5.1 (Int.le_of_lt hp);omega
 ·rw[Int.pow_succ];have:x/2^n%2*2^n≤1*2^n:=Int.mul_le_mul_of_nonneg_right (by omega) (Int.le_of_lt hp);omega
def sweep64:Int→LI→LI×Int
 |c,[]=>([],c)
 |c,x::l=>((ibin .and .i64 (ibin .add .i64 c x) 67108863)::(sweep64 (ibin .shr .i64 (ibin .add .i64 c x) 26) l).1,(sweep64 (ibin .shr .i64 (ibin .add .i64 c x) 26) l).2)
theorem Zys:(l:LI)→(∀ x∈l,0≤x∧x<4611686018427387904)→(c:Int)→0≤c→c<4611686018427387904→
  (sweep64 c l).1.length=l.length∧Dg 26 (sweep64 c l).1∧0≤(sweep64 c l).2∧num (sweep64 c l).1+(2^26)^l.length*(sweep64 c l).2=c+num l
 | [],_,c,c0,c1=>by simp[sweep64,numW,Dg,c0]
 |x::l,h,c,c0,c1=>by
  have hx:=h x (by simp);have e1:ibin .add .i64 c x=c+x:=i_add (by omega) (by omega);obtain⟨h1,h2,h3,h4⟩:=Zys l (fun y hy=>h y (by simp[hy])) ((c+x)/67108864) (by omega) (by omega);simp only[sweep64,e1,ZHB,ZHA,List.length_cons];refine⟨by rw[h1],?_,h3,?_⟩
  ·intro y hy;rcases List.mem_cons.1 hy with rfl|hy
   ·exact⟨by omega,by show _<(67108864:Int);omega⟩
   ·exact h2 y hy
  ·simp only[num,numW] at h4 ⊢;rw[Int.pow_succ ((2:Int)^26) l.length,Int.mul_comm ((2^26)^l.length) (2^26),Int.mul_assoc,Int.add_assoc,← Int.mul_add,h4];show (c+x)%67108864+67108864*((c+x)/67108864+numW 26 l)=c+(x+67108864*numW 26 l);omega
def borrow64:Int→LI→LI→LI
 |c,x::a,y::b=>(ibin .and .i64 (ibin .sub .i64 (ibin .add .i64 c x) y) 67108863)::borrow64 (ibin .shr .i64 (ibin .sub .i64 (ibin .add .i64 c x) y) 26) a b
 |_,_,_=>[]
theorem ZAk:(a b:LI)→a.length=b.length→Dg 26 a→Dg 26 b→(c:Int)→ -1≤c∧c≤0→
  (borrow64 c a b).length=a.length∧Dg 26 (borrow64 c a b)∧∃ c',(-1≤c'∧c'≤0)∧num (borrow64 c a b)+(2^26)^a.length*c'=c+num a-num b
 | [],[],_,_,_,c,hc=>by exact⟨rfl,by simp[Dg,borrow64],c,hc,by simp[numW,borrow64]⟩
 | [],_::_,h,_,_,_,_=>by simp at h
 |_::_,[],h,_,_,_,_=>by simp at h
 |x::a,y::b,hl,ha,hb,c,hc=>by
  have hx:=ha.head;have hy:=hb.head;change 0≤x∧x<67108864 at hx;change 0≤y∧y<67108864 at hy;have e1:ibin .add .i64 c x=c+x:=i_add (by omega) (by omega);have e2:ibin .sub .i64 (c+x) y=c+x-y:=i_sub (by omega) (by omega);obtain⟨h1,h2,c',h3,h4⟩:=ZAk a b (by simpa using hl) ha.tail hb.tail ((c+x-y)/67108864) (by omega);simp only[borrow64,e1,e2,ZHB,ZHA,List.length_cons];refine⟨by rw[h1],?_,c',h3,?_⟩
  ·intro z hz;rcases List.mem_cons.1 hz with rfl|hz
   ·exact⟨by omega,by show _<(67108864:Int);omega⟩
   ·exact h2 z hz
  ·simp only[num,numW] at h4 ⊢;rw[Int.pow_succ ((2:Int)^26) a.length,Int.mul_comm ((2^26)^a.length) (2^26),Int.mul_assoc,Int.add_assoc,← Int.mul_add,h4];show (c+x-y)%67108864+67108864*((c+x-y)/67108864+numW 26 a-numW 26 b)=c+(x+67108864*numW 26 a)-(y+67108864*numW 26 b);omega
def cmpH:LI→LI→Bool
 |x::a,y::b=>cond (icmp .neq x y) (icmp .lss x y) (cmpH a b)
 |_,_=>false
def numH:LI→Int
 | []=>0
 |x::l=>x*(2^26)^l.length+numH l
theorem ZEd:(l:LI)→Dg 26 l→0≤numH l∧numH l<(2^26)^l.length
 | [],_=>by simp[numH]
 |x::l,h=>by
  have h1:=h.head;have h2:=ZEd l h.tail;have hp:(0:Int)<(2^26)^l.length:=Int.pow_pos (by decide);have h3:(x+1)*(2^26)^l.length≤2^26*(2^26)^l.length:=Int.mul_le_mul_of_nonneg_right (by omega) (Int.le_of_lt hp);have h4:=Int.mul_nonneg h1.1 (Int.le_of_lt hp);simp only[numH,List.length_cons,Int.pow_succ ((2:Int)^26)];rw[Int.add_mul,Int.one_mul] at h3;rw[Int.mul_comm ((2^26)^l.length)];omega
theorem ZE0:(a b:LI)→a.length=b.length→Dg 26 a→Dg 26 b→(cmpH a b=true↔numH a<numH b)
 | [],[],_,_,_=>by simp[cmpH,numH]
 | [],_::_,h,_,_=>by simp at h
 |_::_,[],h,_,_=>by simp at h
 |x::a,y::b,hl,ha,hb=>by
  have hl':a.length=b.length:=by simpa using hl
  have h1:=ZEd a ha.tail;have h2:=ZEd b hb.tail;have hp:(0:Int)<(2^26)^b.length:=Int.pow_pos (by decide);have ih:=ZE0 a b hl' ha.tail hb.tail;simp only[cmpH,numH,icmp,hl'] at h1 ⊢;by_cases hxy:x=y
  ·subst hxy;simp only[bne_self_eq_false,cond_false];rw[ih];omega
  ·have:(x != y)=true:=by simpa using hxy
   rw[this,cond_true,decide_eq_true_iff];rcases Int.lt_or_gt_of_ne hxy with h|h
   ·have h3:(x+1)*(2^26)^b.length≤y*(2^26)^b.length:=Int.mul_le_mul_of_nonneg_right (by omega) (Int.le_of_lt hp);rw[Int.add_mul,Int.one_mul] at h3;constructor<;>intro _<;>omega
   ·have h3:(y+1)*(2^26)^b.length≤x*(2^26)^b.length:=Int.mul_le_mul_of_nonneg_right (by omega) (Int.le_of_lt hp);rw[Int.add_mul,Int.one_mul] at h3;constructor<;>intro _<;>omega
theorem ten{a:LI}(h:a.length=10):∃ x0 x1 x2 x3 x4 x5 x6 x7 x8 x9,a=[x0,x1,x2,x3,x4,x5,x6,x7,x8,x9]:=by
 match a,h with
 | [x0,x1,x2,x3,x4,x5,x6,x7,x8,x9],_=>exact⟨x0,x1,x2,x3,x4,x5,x6,x7,x8,x9,rfl⟩
theorem twenty{a:LI}(h:a.length=20):∃ x0 x1 x2 x3 x4 x5 x6 x7 x8 x9 y0 y1 y2 y3 y4 y5 y6 y7 y8 y9,a=[x0,x1,x2,x3,x4,x5,x6,x7,x8,x9,y0,y1,y2,y3,y4,y5,y6,y7,y8,y9]:=by
 match a,h with
 | [x0,x1,x2,x3,x4,x5,x6,x7,x8,x9,y0,y1,y2,y3,y4,y5,y6,y7,y8,y9],_=>exact⟨x0,x1,x2,x3,x4,x5,x6,x7,x8,x9,y0,y1,y2,y3,y4,y5,y6,y7,y8,y9,rfl⟩
def CF(a:LI):Prop:=a.length=10∧Dg 26 a∧num a<pF
theorem CF.inj{a b:LI}(ha:CF a)(hb:CF b)(h:num a=num b):a=b:=ZE2 a b (by rw[ha.1,hb.1]) ha.2.1 hb.2.1 h
def addRow64(x:Int):LI→LI→LI
 |d::ds,y::b=>ibin .add .i64 d (ibin .mul .i64 x y)::addRow64 x ds b
 |ds,[]=>ds
 | [],_=>[]
def mul64(b:LI):LI→LI→LI
 |x::a,d=>match addRow64 x d b with
  |d0::ds=>d0::mul64 b a ds
  | []=>[]
 | [],d=>d
theorem ZAr{x M:Int}(hx:0≤x∧x<67108864)(hM:0≤M∧M<1000000000000000000):(d b:LI)→b.length≤d.length→(∀ y∈d,0≤y∧y≤M)→Dg 26 b→
  (addRow64 x d b).length=d.length∧(∀ y∈addRow64 x d b,0≤y∧y≤M+4503599627370496)∧num (addRow64 x d b)=num d+x*num b
 |d,[],_,hd,_=>by
  have e:addRow64 x d []=d:=by cases d<;>rfl
  rw[e];exact⟨rfl,fun y hy=>by have:=hd y hy;omega,by simp[numW]⟩
 | [],_::_,h,_,_=>by simp at h
 |d::ds,y::b,h,hd,hb=>by
  have h1:=hd d (by simp);have hy:=hb.head;change 0≤y∧y<67108864 at hy;have hp0:0≤x*y:=Int.mul_nonneg hx.1 hy.1;have hp1:x*y≤67108864*67108864:=Int.mul_le_mul (by omega) (by omega) hy.1 (by decide);have e1:ibin .mul .i64 x y=x*y:=i_mul (by omega) (by omega);have e2:ibin .add .i64 d (x*y)=d+x*y:=i_add (by omega) (by omega);obtain⟨g1,g2,g3⟩:=ZAr hx hM ds b (by simpa using h) (fun z hz=>hd z (by simp[hz])) hb.tail;simp only[addRow64,e1,e2,List.length_cons];refine⟨by rw[g1],?_,?_⟩
  ·intro z hz;rcases List.mem_cons.1 hz with rfl|hz
   ·omega
   ·exact g2 z hz
  ·simp only[num,numW] at g3 ⊢;rw[g3,Int.mul_add,Int.mul_add,Int.mul_left_comm x];omega
theorem ZyP{b:LI}(hb:Dg 26 b):(a d:LI)→(∀ x∈a,0≤x∧x<67108864)→(M:Int)→0≤M→M+4503599627370496*a.length<1000000000000000000→a.length+b.length≤d.length→(∀ y∈d,0≤y∧y≤M)→
  (mul64 b a d).length=d.length∧(∀ y∈mul64 b a d,0≤y∧y≤M+4503599627370496*a.length)∧num (mul64 b a d)=num d+num a*num b
 | [],d,_,M,h0,h1,hl,hd=>by
  have e:mul64 b [] d=d:=rfl;rw[e];exact⟨rfl,fun y hy=>by have:=hd y hy;simp only[List.length_nil];omega,by simp[numW]⟩
 |x::a,d,ha,M,h0,h1,hl,hd=>by
  simp only[List.length_cons] at h1 hl ⊢;obtain⟨g1,g2,g3⟩:=ZAr (ha x (by simp)) (M:=M) ⟨h0,by omega⟩ d b (by omega) hd hb;cases hr:addRow64 x d b with
  |nil=>rw[hr] at g1;simp only[List.length_nil] at g1;omega
  |cons d0 ds=>
   rw[hr] at g1 g2 g3;simp only[List.length_cons] at g1;obtain⟨k1,k2,k3⟩:=ZyP hb a ds (fun y hy=>ha y (by simp[hy])) (M+4503599627370496) (by omega) (by omega) (by omega) (fun y hy=>g2 y (by simp[hy]));have e:mul64 b (x::a) d=d0::mul64 b a ds:=by simp only[mul64,hr]
   rw[e];refine⟨by simp only[List.length_cons,k1,g1],?_,?_⟩
   ·intro y hy;rcases List.mem_cons.1 hy with rfl|hy
    ·have:=g2 y (by simp);omega
    ·have:=k2 y hy;omega
   ·simp only[num,numW] at k3 g3 ⊢;rw[k3,Int.add_mul,Int.mul_add,Int.mul_assoc];omega
end Go.Vx.Ref
