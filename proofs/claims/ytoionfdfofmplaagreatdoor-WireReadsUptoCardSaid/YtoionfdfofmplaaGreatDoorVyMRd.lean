import Derived.Test.YtoionfdfofmplaaGreatDoorVyMDs
import Derived.KernelRfl
import Derived.Test.YtoionfdfofmplaaGreatDoorVyMRe
set_option autoImplicit false
set_option linter.unusedVariables false
set_option linter.unusedSimpArgs false
set_option linter.unusedSectionVars false
namespace Go.Vx
open Go
namespace Rd
abbrev Byte(x:Int):Prop:=0≤x∧x≤255
theorem ZBS{x:Int}(h:Byte x):∃ n:Nat,n<256∧x=(n:Int):=⟨x.toNat,by omega,by omega⟩
theorem wrapi{n:Int}(h0: -9223372036854775808≤n)(h1:n≤9223372036854775807):IntKind.wrap .i64 n=n:=by
 have hm:∀ m:Int,IntKind.wrap .i64 m=if m%18446744073709551616≥9223372036854775808 then m%18446744073709551616-18446744073709551616 else m%18446744073709551616:=by
  intro m;simp[IntKind.wrap,IntKind.signed,IntKind.bits]
 rw[hm];split<;>omega
theorem wrap64(n:Int):IntKind.wrap .u64 n=n%18446744073709551616:=by simp[IntKind.wrap,IntKind.signed,IntKind.bits]
theorem ofInt64{a:Int}(h0:0≤a)(h1:a<18446744073709551616):(BitVec.ofInt 64 a).toNat=a.toNat:=by
 rw[BitVec.toNat_ofInt];omega
theorem or64{a b:Int}(a0:0≤a)(a1:a<18446744073709551616)(b0:0≤b)(b1:b<18446744073709551616):ibin .or .u64 a b=((a.toNat ||| b.toNat:Nat):Int):=by
 show IntKind.wrap .u64 ((BitVec.ofInt 64 a ||| BitVec.ofInt 64 b).toNat:Int)=_;rw[wrap64,BitVec.toNat_or,ofInt64 a0 a1,ofInt64 b0 b1];have:a.toNat ||| b.toNat<2^64:=Nat.or_lt_two_pow (by omega) (by omega);omega
theorem and127:∀ n:Nat,n<256→ibin .and .u8 (n:Int) 127=((n%128:Nat):Int):=by decide+kernel
theorem ZED{x i:Nat}(hx:x<256)(hi:i≤9)(hs:i=9→x≤1):(x%128)*128^i<18446744073709551616:=by
 have hd:x%128<128:=Nat.mod_lt _ (by decide);have hc:i=0∨i=1∨i=2∨i=3∨i=4∨i=5∨i=6∨i=7∨i=8∨i=9:=by omega
 rcases hc with rfl|rfl|rfl|rfl|rfl|rfl|rfl|rfl|rfl|rfl
 all_goals first|omega|(have:=hs rfl;omega)
theorem p_small{v i:Nat}(hv:v<128^i)(hi:i≤9):v<18446744073709551616:=by
 have hc:i=0∨i=1∨i=2∨i=3∨i=4∨i=5∨i=6∨i=7∨i=8∨i=9:=by omega
 rcases hc with rfl|rfl|rfl|rfl|rfl|rfl|rfl|rfl|rfl|rfl<;>omega
theorem ZDS{v x i:Nat}(hv:v<128^i)(hx:x<256)(hi:i≤9)(hs:i=9→x≤1):v+(x%128)*128^i<18446744073709551616:=by
 have hd:x%128<128:=Nat.mod_lt _ (by decide);have hc:i=0∨i=1∨i=2∨i=3∨i=4∨i=5∨i=6∨i=7∨i=8∨i=9:=by omega
 rcases hc with rfl|rfl|rfl|rfl|rfl|rfl|rfl|rfl|rfl|rfl
 all_goals first|omega|(have:=hs rfl;omega)
theorem dg_eq{x i:Nat}(hx:x<256)(hi:i≤9)(hs:i=9→x≤1):dg (x:Int) i=(((x%128)*128^i:Nat):Int):=by
 unfold dg;rw[and127 x hx,wrap64];have hb:=ZED hx hi hs;show IntKind.wrap .u64 ((((x%128:Nat):Int)%18446744073709551616)*2^(min (((7*i:Nat):Int)).toNat 64))=_;rw[Int.toNat_natCast,Nat.min_eq_left (by omega),wrap64,show (((x%128:Nat):Int)%18446744073709551616)=((x%128:Nat):Int) by omega];have:(((x%128:Nat):Int)*2^(7*i))=(((x%128)*128^i:Nat):Int):=by
  rw[show (128:Nat)^i=2^(7*i) by rw[show (128:Nat)=2^7 from rfl,← Nat.pow_mul]]
  push_cast
  rfl
 rw[this];omega
theorem orD_eq{v x i:Nat}(hv:v<128^i)(hx:x<256)(hi:i≤9)(hs:i=9→x≤1):ibin .or .u64 (v:Int) (dg (x:Int) i)=((v+(x%128)*128^i:Nat):Int):=by
 have e128:128^i=2^(7*i):=by rw[show (128:Nat)=2^7 from rfl,← Nat.pow_mul]
 have hb:=ZED hx hi hs;have hv64:=p_small hv hi;rw[dg_eq hx hi hs,or64 (by omega) (by omega) (by omega) (by omega),Int.toNat_natCast,Int.toNat_natCast]
 congr 1
 have:=Nat.two_pow_add_eq_or_of_lt (i:=7*i) (b:=v) (by rw[← e128];exact hv) (x%128);rw[e128,Nat.or_comm,Nat.mul_comm (x%128),← this];omega
theorem addD_eq{v x i:Nat}(hv:v<128^i)(hx:x<256)(hi:i≤9)(hs:i=9→x≤1):ibin .add .u64 (v:Int) (dg (x:Int) i)=((v+(x%128)*128^i:Nat):Int):=by
 have hb:=ZDS hv hx hi hs;rw[dg_eq hx hi hs];show IntKind.wrap .u64 ((v:Int)+(((x%128)*128^i:Nat):Int))=_;rw[wrap64];omega
def scan:Nat→Nat→Nat→LI→Int×Nat×Nat
 |0,_,_,_=>(102,0,0)
 |_+1,_,_,[]=>(100,0,0)
 |f+1,k,v,x::t=>if k=9∧1<x then (102,0,0) else if x<128 then (if x=0∧0<k then (102,0,0) else (0,v+x.toNat%128*128^k,k+1)) else scan f (k+1) (v+x.toNat%128*128^k) t
theorem ZGK:(f k v:Nat)→(l:LI)→(∀ x∈l,Byte x)→f+k=10→v<128^k→
  ((scan f k v l).1=0∧(scan f k v l).2.1<18446744073709551616∧k+1≤(scan f k v l).2.2∧(scan f k v l).2.2≤k+l.length)∨(((scan f k v l).1=100∨(scan f k v l).1=102)∧(scan f k v l).2.1=0∧(scan f k v l).2.2=0)
 |0,k,v,l,hb,hf,hv=>.inr ⟨.inr rfl,rfl,rfl⟩
 |f+1,k,v,[],hb,hf,hv=>.inr ⟨.inl rfl,rfl,rfl⟩
 |f+1,k,v,x::t,hb,hf,hv=>by
  obtain⟨n,hn,rfl⟩:=ZBS (hb x (by simp));unfold scan;by_cases h9:k=9∧(1:Int)<(n:Int)
  ·rw[if_pos h9];exact .inr ⟨.inr rfl,rfl,rfl⟩
  ·rw[if_neg h9];have hs:k=9→n≤1:=fun e=>by
    have:¬ (1:Int)<(n:Int):=fun h=>h9 ⟨e,h⟩
    omega
   have sm:=ZDS hv hn (show k≤9 by omega) hs;by_cases hx:(n:Int)<128
   ·rw[if_pos hx];by_cases h0:(n:Int)=0∧0<k
    ·rw[if_pos h0];exact .inr ⟨.inr rfl,rfl,rfl⟩
    ·rw[if_neg h0];refine .inl ⟨rfl,?_,Nat.le_refl _,by simp only[List.length_cons];omega⟩;simpa using sm
   ·rw[if_neg hx];have hv':v+(n:Int).toNat%128*128^k<128^(k+1):=by
     rw[Int.toNat_natCast,Nat.pow_succ];have:n%128*128^k≤127*128^k:=Nat.mul_le_mul_right _ (by omega);omega
    rcases ZGK f (k+1) (v+(n:Int).toNat%128*128^k) t (fun y hy=>hb y (by simp[hy])) (by omega) hv' with⟨h1,h2,h3,h4⟩|h
    ·exact .inl ⟨h1,h2,by omega,by simp only[List.length_cons];omega⟩
    ·exact .inr h
theorem cnt_io(b:Nat×LI)(m:MdS):ZbS () b m=cnt 10 0 0 b m:=by kernel_rfl
theorem beq_f{i j:Nat}(h:i≠j):Nat.beq i j=false:=by
 cases hq:Nat.beq i j with
 |true=>exact absurd (Nat.eq_of_beq_eq_true hq) h
 |false=>rfl
theorem ZDe{l:LI}{k:Nat}{x:Int}{t:LI}(h:l.drop k=x::t):List.getD l k 0=x:=by
 have:=congrArg (fun l=>l[0]?) h;simp only[List.getElem?_drop,Nat.add_zero,List.getElem?_cons_zero] at this;rw[List.getD_eq_getElem?_getD,this];rfl
theorem ZEE{l t:LI}{k:Nat}{x:Int}(h:l.drop k=x::t):l.drop (k+1)=t∧k<l.length:=by
 have h1:k<l.length:=by
  have:=congrArg List.length h;simp at this;omega
 exact⟨by rw[← List.drop_drop,h];rfl,h1⟩
def outP(lo n z:Nat)(s:Int×Nat×Nat):Option (Int×MdS):=if s.1=0 then some ((s.2.1:Int),(true,(lo+s.2.2,n-s.2.2,lo),0)) else some (0,(true,(lo,n,z),s.1))
theorem ZIh(l:LI)(B lo n z:Nat)(hb:∀ x∈l,Byte x)(hl:l.length≤100000000)(hn:lo+n=l.length):∀ (f k v:Nat) (t:LI),f+k=10→k≤n→v<128^k→l.drop (lo+k)=t→
  cnt f k (v:Int) (B,l) (true,(lo,n,z),0)=outP lo n z (scan f k v t):=by
 intro f
 induction f with
 |zero=>intro k v t hf hk hv ht;rfl
 |succ f ih=>
  intro k v t hf hk hv ht;unfold cnt;cases t with
  |nil=>
   have hkn:k=n:=by
    have:=congrArg List.length ht;simp at this;omega
   have h1:icmp .eql ((k:Nat):Int) ((n:Nat):Int)=true:=by simp[icmp,hkn]
   simp only[h1,cond_true];rfl
  |cons x t=>
   obtain⟨hd,hlt⟩:=ZEE ht;obtain⟨c,hc,rfl⟩:=ZBS (hb x (by
    have:x∈l.drop (lo+k):=by rw[ht];simp
    exact List.mem_of_mem_drop this))
   have h1:icmp .eql ((k:Nat):Int) ((n:Nat):Int)=false:=by
    have:¬ ((k:Nat):Int)=((n:Nat):Int):=by omega
    simpa [icmp] using this
   have h2:decide ((0:Int)≤((k:Nat):Int)∧((k:Nat):Int)<((n:Nat):Int))=true:=decide_eq_true (by omega);simp only[h1,h2,Int.toNat_natCast,ZDe ht,cond_true,cond_false];unfold scan;by_cases h9:k=9∧(1:Int)<(c:Int)
   ·have h3:cond (Nat.beq k 9) (icmp .gtr (c:Int) 1) false=true:=by
     rw[h9.1];show decide _=true;exact decide_eq_true h9.2
    simp only[h3,cond_true];rw[if_pos h9];rfl
   ·have hs:k=9→c≤1:=fun e=>by
     have:¬ (1:Int)<(c:Int):=fun h=>h9 ⟨e,h⟩
     omega
    have h3:cond (Nat.beq k 9) (icmp .gtr (c:Int) 1) false=false:=by
     by_cases e:k=9
     ·have:=hs e;subst e;show decide _=false;exact decide_eq_false (by omega)
     ·rw[beq_f e];rfl
    have hor:=orD_eq hv hc (show k≤9 by omega) hs;simp only[h3,cond_false,hor];rw[if_neg h9];have hok:∀ u:Nat,okF (u:Int) k (true,(lo,n,z),0)=outP lo n z (0,u,k+1):=by
     intro u;unfold okF;have:decide ((0:Int)≤((k+1:Nat):Int)∧((k+1:Nat):Int)≤((n:Nat):Int))=true:=decide_eq_true (by omega);simp only[this,cond_true];rfl
    by_cases hx:(c:Int)<128
    ·have h4:icmp .lss (c:Int) 128=true:=by simp only[icmp,decide_eq_true_eq];exact hx
     simp only[h4,cond_true];rw[if_pos hx];by_cases h0:(c:Int)=0
     ·have h5:icmp .eql (c:Int) 0=true:=by simp[icmp,h0]
      simp only[h5,cond_true];by_cases hk0:k=0
      ·subst hk0;rw[if_neg (fun h=>absurd h.2 (Nat.lt_irrefl 0)),Int.toNat_natCast];exact hok _
      ·rw[beq_f hk0,if_pos ⟨h0,by omega⟩];rfl
     ·have h5:icmp .eql (c:Int) 0=false:=by simpa [icmp] using h0
      simp only[h5,cond_false];rw[if_neg (fun h=>h0 h.1),Int.toNat_natCast];exact hok _
    ·have h4:icmp .lss (c:Int) 128=false:=by simp only[icmp,decide_eq_false_iff_not];exact hx
     simp only[h4,cond_false];rw[if_neg hx];have hv':v+c%128*128^k<128^(k+1):=by
      rw[Nat.pow_succ];have:c%128*128^k≤127*128^k:=Nat.mul_le_mul_right _ (by omega);omega
     rw[Int.toNat_natCast];exact ih (k+1) _ t (by omega) (by omega) hv' (by rw[← Nat.add_assoc];exact hd)
theorem ZBT(l:LI)(B lo n z:Nat)(hb:∀ x∈l,Byte x)(hl:l.length≤100000000)(hn:lo+n=l.length):ZbS () (B,l) (true,(lo,n,z),0)=outP lo n z (scan 10 0 0 (l.drop lo)):=by
 rw[cnt_io];exact ZIh l B lo n z hb hl hn 10 0 0 _ rfl (Nat.zero_le _) (by decide) rfl
def nlen:Nat→Nat→Nat
 |0,_=>0
 |f+1,w=>if w<128 then 1 else nlen f (w/128)+1
theorem ZBU:(f w k:Nat)→w<128^(k+1)→nlen f w≤k+1
 |0,w,k,h=>Nat.zero_le _
 |f+1,w,k,h=>by
  unfold nlen;by_cases hw:w<128
  ·rw[if_pos hw];omega
  ·rw[if_neg hw];cases k with
   |zero=>simp at h;omega
   |succ k=>
    have:=ZBU f (w/128) k (by rw[Nat.div_lt_iff_lt_mul (by decide),← Nat.pow_succ];exact h);omega
theorem ZGL:(f w k:Nat)→128^k≤w→k<f→k+1≤nlen f w
 |0,w,k,h,hf=>by omega
 |f+1,w,0,h,hf=>by
  unfold nlen;by_cases hw:w<128
  ·rw[if_pos hw];omega
  ·rw[if_neg hw];omega
 |f+1,w,k+1,h,hf=>by
  unfold nlen;have h2:128≤128^(k+1):=by
   have:0<128^k:=Nat.pow_pos (by decide);rw[Nat.pow_succ];omega
  rw[if_neg (by omega)];have:=ZGL f (w/128) k (by rw[Nat.le_div_iff_mul_le (by decide),← Nat.pow_succ];exact h) (by omega);omega
theorem ok1{k:Nat}(h:k≤100000000):decide (k*1≤140737488355328∧k≤9223372036854775807)=true:=decide_eq_true (by omega)
theorem quo128{w:Nat}(h:w<18446744073709551616):ibin .quo .u64 ((w:Nat):Int) 128=((w/128:Nat):Int):=by
 show IntKind.wrap .u64 (Int.tdiv (w:Int) 128)=_;rw[Int.tdiv_eq_ediv_of_nonneg (by omega),wrap64];omega
theorem ZGM(N:Nat):(f w:Nat)→(n:Nat)→(out:LI)→w<128^f→n+f≤1000→w<18446744073709551616→(g:Nat)→f<g→
  ∃ (u:Int) (out':LI),loopF (Zcz N) g ((((w:Nat):Int),(),n),(n,out))=some (.inl ((u,n+(nlen f w-1)),(n+(nlen f w-1),out')))
 |0,w,n,out,hw,hn,h64,g,hg=>by
  obtain⟨g,rfl⟩:∃ h,g=h+1:=⟨g-1,by omega⟩;have hw0:w=0:=by simpa using hw
  subst hw0;refine⟨0,out,ZeH ?_ g⟩;rfl
 |f+1,w,n,out,hw,hn,h64,g,hg=>by
  obtain⟨g,rfl⟩:∃ h,g=h+1:=⟨g-1,by omega⟩;unfold nlen;by_cases h:w<128
  ·rw[if_pos h];refine⟨((w:Nat):Int),out,ZeH ?_ g⟩;have c:icmp .geq ((w:Nat):Int) 128=false:=decide_eq_false (by omega:¬ ((w:Nat):Int)≥128);unfold Zcz;simp only[c,cond_false,Nat.sub_self,Nat.add_zero]
  ·rw[if_neg h];obtain⟨u,out',e⟩:=ZGM N f (w/128) (n+1) (out++[(ibin .add .u8 (IntKind.wrap .u8 (ibin .rem .u64 ((w:Nat):Int) 128)) 128)]) (by rw[Nat.div_lt_iff_lt_mul (by decide),← Nat.pow_succ];exact hw) (by omega) (by omega) g (by omega);refine⟨u,out',(Zsv ?_ g).trans (e.trans ?_)⟩
   ·have c:icmp .geq ((w:Nat):Int) 128=true:=decide_eq_true (by omega:((w:Nat):Int)≥128);unfold Zcz;simp only[c,cond_true,ok1 (k:=n+1) (by omega),quo128 h64]
   ·have h1:1≤nlen f (w/128):=by
     cases f with
     |zero=>rw[Nat.pow_one] at hw;omega
     |succ f=>unfold nlen;split<;>omega
    rw[show n+1+(nlen f (w/128)-1)=n+(nlen f (w/128)+1-1) by omega]
theorem nd_len{N w:Nat}(hN:11≤N)(hw:w<18446744073709551616):∃ l,ZgM N ((w:Nat):Int)=some ((nlen 10 w,l),()):=by
 obtain⟨u,out',e⟩:=ZGM N 10 w 0 [] (by omega) (by omega) hw N (by omega);have h1:1≤nlen 10 w:=by unfold nlen;split<;>omega
 have h2:=ZBU 10 w 9 (by omega);refine⟨out'++[IntKind.wrap .u8 u],?_⟩;unfold ZgM;simp only[e,mo,ok1 (k:=0+(nlen 10 w-1)+1) (by omega),cond_true];rw[show 0+(nlen 10 w-1)+1=nlen 10 w by omega]
theorem rnum_io(N:Nat)(b:MdR):ZbE N () b ()=rnum N 10 0 0 b:=by kernel_rfl
def outR(s:Int×Nat×Nat):Option ((Int×Int×Int)×Unit):=some (((s.2.1:Int),(s.2.2:Int),s.1),())
theorem rn_scan{N:Nat}(hN:11≤N)(l:LI)(lo:Nat)(fa:Int)(hb:∀ x∈l,Byte x)(hl:l.length≤100000000)(hlo:lo≤l.length):∀ (f k v:Nat) (t:LI),f+k=10→lo+k≤l.length→v<128^k→l.drop (lo+k)=t→
  rnum N f k (v:Int) ((l.length,(lo:Int),fa),(l.length,l))=outR (scan f k v t):=by
 intro f
 induction f with
 |zero=>intro k v t hf hk hv ht;rfl
 |succ f ih=>
  intro k v t hf hk hv ht;have e1:ibin .add .i64 ((lo:Nat):Int) ((k:Nat):Int)=((lo+k:Nat):Int):=by
   show IntKind.wrap .i64 (((lo:Nat):Int)+((k:Nat):Int))=_;rw[wrapi (by omega) (by omega)];omega
  unfold rnum;simp only[e1];cases t with
  |nil=>
   have hkn:lo+k=l.length:=by
    have:=congrArg List.length ht;simp at this;omega
   have h1:icmp .geq ((lo+k:Nat):Int) ((l.length:Nat):Int)=true:=decide_eq_true (by omega:((lo+k:Nat):Int)≥((l.length:Nat):Int));simp only[h1,cond_true];rfl
  |cons x t=>
   obtain⟨hd,hlt⟩:=ZEE ht;obtain⟨c,hc,rfl⟩:=ZBS (hb x (by
    have:x∈l.drop (lo+k):=by rw[ht];simp
    exact List.mem_of_mem_drop this))
   have h1:icmp .geq ((lo+k:Nat):Int) ((l.length:Nat):Int)=false:=decide_eq_false (by omega:¬ ((lo+k:Nat):Int)≥((l.length:Nat):Int));have h2:decide ((0:Int)≤((lo+k:Nat):Int)∧((lo+k:Nat):Int)<((l.length:Nat):Int))=true:=decide_eq_true (by omega);simp only[h1,h2,Int.toNat_natCast,ZDe ht,cond_true,cond_false];unfold scan;by_cases h9:k=9∧(1:Int)<(c:Int)
   ·have h3:cond (Nat.beq k 9) (icmp .gtr (c:Int) 1) false=true:=by
     rw[h9.1];show decide _=true;exact decide_eq_true h9.2
    simp only[h3,cond_true];rw[if_pos h9];rfl
   ·have hs:k=9→c≤1:=fun e=>by
     have:¬ (1:Int)<(c:Int):=fun h=>h9 ⟨e,h⟩
     omega
    have h3:cond (Nat.beq k 9) (icmp .gtr (c:Int) 1) false=false:=by
     by_cases e:k=9
     ·have:=hs e;subst e;show decide _=false;exact decide_eq_false (by omega)
     ·rw[beq_f e];rfl
    have had:=addD_eq hv hc (show k≤9 by omega) hs;have hsm:=ZDS hv hc (show k≤9 by omega) hs;simp only[h3,cond_false,had];rw[if_neg h9];by_cases hx:(c:Int)<128
    ·have h4:icmp .lss (c:Int) 128=true:=by simp only[icmp,decide_eq_true_eq];exact hx
     obtain⟨l1,hnum⟩:=nd_len hN hsm;simp only[h4,cond_true,hnum,mo];rw[if_pos hx,Int.toNat_natCast];have hc128:c%128=c:=Nat.mod_eq_of_lt (by omega);rw[hc128];by_cases h0:(c:Int)=0∧0<k
     ·rw[if_pos h0];have hc0:c=0:=by omega
      subst hc0;obtain⟨k',rfl⟩:∃ k',k=k'+1:=⟨k-1,by omega⟩;have hle:=ZBU 10 (v+0*128^(k'+1)) k' (by simpa using hv);have h5:icmp .neq ((nlen 10 (v+0*128^(k'+1)):Nat):Int) ((k'+1+1:Nat):Int)=true:=by
       simp only[icmp,bne_iff_ne,ne_eq,Int.natCast_inj];omega
      simp only[h5,cond_true];rfl
     ·rw[if_neg h0];have hnl:nlen 10 (v+c*128^k)=k+1:=by
       have hup:=ZBU 10 (v+c*128^k) k (by
        rw[Nat.pow_succ];have:c*128^k≤127*128^k:=Nat.mul_le_mul_right _ (by omega);omega)
       by_cases hk0:k=0
       ·subst hk0;have h1':1≤nlen 10 (v+c*128^0):=by unfold nlen;split<;>omega
        omega
       ·have hc1:1≤c:=by
         refine Nat.pos_of_ne_zero fun e=>h0 ⟨by omega,by omega⟩
        have:128^k≤c*128^k:=Nat.le_mul_of_pos_left _ hc1;have:=ZGL 10 (v+c*128^k) k (by omega) (by omega);omega
      have h5:icmp .neq ((nlen 10 (v+c*128^k):Nat):Int) ((k+1:Nat):Int)=false:=by rw[hnl];simp[icmp]
      simp only[h5,cond_false];rfl
    ·have h4:icmp .lss (c:Int) 128=false:=by simp only[icmp,decide_eq_false_iff_not];exact hx
     simp only[h4,cond_false];rw[if_neg hx];have hv':v+c%128*128^k<128^(k+1):=by
      rw[Nat.pow_succ];have:c%128*128^k≤127*128^k:=Nat.mul_le_mul_right _ (by omega);omega
     rw[Int.toNat_natCast];exact ih (k+1) _ t (by omega) (by omega) hv' (by rw[← Nat.add_assoc];exact hd)
theorem num_r{N:Nat}(hN:11≤N)(l:LI)(lo:Nat)(fa:Int)(hb:∀ x∈l,Byte x)(hl:l.length≤100000000)(hlo:lo≤l.length):ZbE N () ((l.length,(lo:Int),fa),(l.length,l)) ()=outR (scan 10 0 0 (l.drop lo)):=by
 rw[rnum_io];exact rn_scan hN l lo fa hb hl hlo 10 0 0 _ rfl (by omega) (by decide) rfl
end Rd
namespace Rd
def RelP(B:LI)(lo:Nat)(f:Int)(m:MdS):Prop:=∃ z,m=(true,(lo,B.length-lo,z),f)
def st(B:LI)(lo:Nat)(f:Int):MdR:=((B.length,((lo:Nat):Int),f),(B.length,B))
def Adv(B:LI)(lo:Nat)(f:Int)(lo':Nat)(f':Int):Prop:=lo'≤B.length∧lo≤lo'∧(f'=0→f=0∧lo+1≤lo')∧(f≠0→f'=f∧lo'=lo)
theorem eql0:icmp .eql 0 0=true:=rfl
theorem neq0:icmp .neq 0 0=false:=rfl
theorem eqlF{f:Int}(h:f≠0):icmp .eql f 0=false:=by simp[icmp,h]
theorem neqT{f:Int}(h:f≠0):icmp .neq f 0=true:=by simp[icmp,h]
theorem ZbC(b:Nat×LI)(lo n z:Nat)(f:Int):ZaK () ((true,(lo,n,z),f),b) ()=some (icmp .eql f 0,()):=rfl
theorem fail0(e:Int)(b:Nat×LI)(lo n z:Nat):Zav ((),e) b (true,(lo,n,z),0)=some ((),(true,(lo,n,z),e)):=rfl
theorem add64{a b:Nat}(ha:a≤1000000000)(hb:b≤1000000000):ibin .add .i64 ((a:Nat):Int) ((b:Nat):Int)=((a+b:Nat):Int):=by
 show IntKind.wrap .i64 (((a:Nat):Int)+((b:Nat):Int))=_;rw[wrapi (by omega) (by omega)];omega
theorem sub64{a b:Nat}(ha:a≤1000000000)(hb:b≤a):ibin .sub .i64 ((a:Nat):Int) ((b:Nat):Int)=((a-b:Nat):Int):=by
 show IntKind.wrap .i64 (((a:Nat):Int)-((b:Nat):Int))=_;rw[wrapi (by omega) (by omega)];omega
theorem wrapu{a:Int}(h0:0≤a)(h1:a<18446744073709551616):IntKind.wrap .u64 a=a:=by rw[wrap64];omega
section
variable {B:LI} (hb:∀ x∈B,Byte x) (hl:B.length≤2000000) {lo:Nat} {f:Int} (hlo:lo≤B.length)
include hl hlo
theorem ZIX{m:MdS}(h:RelP B lo f m):Zde () (m,(B.length,B)) ()=some (((B.length-lo:Nat):Int),()):=by
 obtain⟨z,rfl⟩:=h;rfl
theorem ZA7:Za9 () (st B lo f) ()=some (((B.length-lo:Nat):Int),()):=by
 unfold Za9 st;simp only[sub64 (show B.length≤1000000000 by omega) hlo]
theorem err_p{m:MdS}(h:RelP B lo f m):Zbd () (m,(B.length,B)) ()=some (f,()):=by
 obtain⟨z,rfl⟩:=h;rfl
def endF(B:LI)(lo:Nat)(f:Int):Int:=if f=0∧lo<B.length then 101 else f
theorem end_c:(∀ m,RelP B lo f m→∃ m',Zcg () (B.length,B) m=some (endF B lo f,m')∧RelP B lo (endF B lo f) m')∧Zbu () () (st B lo f)=some (endF B lo f,st B lo (endF B lo f)):=by
 unfold endF;by_cases h0:f=0
 ·subst h0;by_cases h1:lo<B.length
  ·rw[if_pos ⟨rfl,h1⟩];have c:icmp .gtr ((B.length-lo:Nat):Int) 0=true:=decide_eq_true (by omega:((B.length-lo:Nat):Int)>0);refine⟨fun m hm=>?_,?_⟩
   ·obtain⟨z,rfl⟩:=hm;refine⟨(true,(lo,B.length-lo,z),101),?_,z,rfl⟩;unfold Zcg;simp only[ZbC,mo,eql0,cond_true,c,fail0];rfl
   ·have hL:=ZA7 (f:=0) hl hlo;unfold Zbu;unfold st at hL ⊢;simp only[eql0,cond_true,hL,mo,c]
  ·rw[if_neg (fun h=>h1 h.2)];have c:icmp .gtr ((B.length-lo:Nat):Int) 0=false:=decide_eq_false (by omega:¬ ((B.length-lo:Nat):Int)>0);refine⟨fun m hm=>?_,?_⟩
   ·obtain⟨z,rfl⟩:=hm;refine⟨(true,(lo,B.length-lo,z),0),?_,z,rfl⟩;unfold Zcg;simp only[ZbC,mo,eql0,cond_true,c,cond_false];rfl
   ·have hL:=ZA7 (f:=0) hl hlo;unfold Zbu;unfold st at hL ⊢;simp only[eql0,cond_true,hL,mo,c,cond_false]
 ·rw[if_neg (fun h=>h0 h.1)];refine⟨fun m hm=>?_,?_⟩
  ·obtain⟨z,rfl⟩:=hm;refine⟨(true,(lo,B.length-lo,z),f),?_,z,rfl⟩;unfold Zcg;simp only[ZbC,mo,eqlF h0,cond_false];rfl
  ·unfold Zbu st;simp only[eqlF h0,cond_false]
theorem fail_c(e:Int):(∀ m,RelP B lo f m→∃ m',Zav ((),e) (B.length,B) m=some ((),m')∧RelP B lo (if f=0 then e else f) m')∧Zch ((),e) () (st B lo f)=some ((),st B lo (if f=0 then e else f)):=by
 by_cases h0:f=0
 ·subst h0;rw[if_pos rfl];refine⟨fun m hm=>?_,?_⟩
  ·obtain⟨z,rfl⟩:=hm;exact⟨_,rfl,z,rfl⟩
  ·rfl
 ·rw[if_neg h0];refine⟨fun m hm=>?_,?_⟩
  ·obtain⟨z,rfl⟩:=hm;refine⟨(true,(lo,B.length-lo,z),f),?_,z,rfl⟩;unfold Zav;simp only[ZbC,mo,eqlF h0,cond_false]
  ·unfold Zch st;simp only[eqlF h0,cond_false]
include hb
theorem ZAa:((scan 10 0 0 (B.drop lo)).1=0∧(scan 10 0 0 (B.drop lo)).2.1<18446744073709551616∧1≤(scan 10 0 0 (B.drop lo)).2.2∧lo+(scan 10 0 0 (B.drop lo)).2.2≤B.length)∨((scan 10 0 0 (B.drop lo)).1≠0∧(scan 10 0 0 (B.drop lo)).2.1=0∧(scan 10 0 0 (B.drop lo)).2.2=0):=by
 rcases ZGK 10 0 0 (B.drop lo) (fun x hx=>hb x (List.mem_of_mem_drop hx)) rfl (by decide) with⟨h1,h2,h3,h4⟩|⟨h1,h2,h3⟩
 ·rw[List.length_drop] at h4;exact .inl ⟨h1,h2,by omega,by omega⟩
 ·exact .inr ⟨by rcases h1 with h|h<;>rw[h]<;>decide,h2,h3⟩
theorem ZIi{N:Nat}(hN:300≤N)(a:Int):∃ x lo' f',Adv B lo f lo' f'∧(∀ m,RelP B lo f m→∃ m',ZbK ((),a) (B.length,B) m=some (x,m')∧RelP B lo' f' m')∧Zba N ((),a) () (st B lo f)=some (x,st B lo' f'):=by
 by_cases h0:f=0
 ·subst h0;have hc:=fun z=>ZBT B B.length lo (B.length-lo) z hb (by omega) (by omega)
  have hr:=num_r (N:=N) (by omega) B lo 0 hb (by omega) hlo;rcases ZAa hb hl hlo with⟨s1,s2,s3,s4⟩|⟨s1,s2,s3⟩
  ·unfold outP at hc;unfold outR at hr;rw[s1] at hr;simp only[s1,if_true] at hc;generalize (scan 10 0 0 (B.drop lo)).2.1=w at*
   generalize (scan 10 0 0 (B.drop lo)).2.2=c at*
   by_cases hg:(w:Int)>a
   ·have cg:icmp .gtr (w:Int) a=true:=decide_eq_true hg;refine⟨0,lo,102,⟨hlo,Nat.le_refl _,fun h=>(by cases h),fun h=>absurd rfl h⟩,fun m hm=>?_,?_⟩
    ·obtain⟨z,rfl⟩:=hm;refine⟨(true,(lo,B.length-lo,z),102),?_,z,rfl⟩;unfold ZbK;simp only[ZbC,mo,eql0,Bool.not_true,cond_false,hc,cond_true,cg,fail0]
    ·unfold Zba st;simp only[neq0,cond_false,hr,mo,eql0,cond_true,cg]
   ·have cg:icmp .gtr (w:Int) a=false:=decide_eq_false hg;refine⟨(w:Int),lo+c,0,⟨s4,by omega,fun _=>⟨rfl,by omega⟩,fun h=>absurd rfl h⟩,fun m hm=>?_,?_⟩
    ·obtain⟨z,rfl⟩:=hm;refine⟨(true,(lo+c,B.length-lo-c,lo),0),?_,lo,by rw[Nat.sub_sub]⟩;unfold ZbK;simp only[ZbC,mo,eql0,Bool.not_true,cond_false,hc,cond_true,cg]
    ·unfold Zba st;simp only[neq0,cond_false,hr,mo,eql0,cond_true,cg,add64 (show lo≤1000000000 by omega) (show c≤1000000000 by omega)]
  ·unfold outP at hc;unfold outR at hr;simp only[if_neg s1] at hc;rw[s2,s3] at hr;generalize (scan 10 0 0 (B.drop lo)).1=e at*
   refine⟨0,lo,e,⟨hlo,Nat.le_refl _,fun h=>absurd h s1,fun h=>absurd rfl h⟩,fun m hm=>?_,?_⟩
   ·obtain⟨z,rfl⟩:=hm;refine⟨(true,(lo,B.length-lo,z),e),?_,z,rfl⟩;unfold ZbK;simp only[ZbC,mo,eql0,Bool.not_true,cond_false,hc,eqlF s1]
   ·unfold Zba st;simp only[neq0,cond_false,hr,mo,eqlF s1,neqT s1,cond_true,Int.natCast_zero]
 ·refine⟨0,lo,f,⟨hlo,Nat.le_refl _,fun h=>absurd h h0,fun _=>⟨rfl,rfl⟩⟩,fun m hm=>?_,?_⟩
  ·obtain⟨z,rfl⟩:=hm;refine⟨(true,(lo,B.length-lo,z),f),?_,z,rfl⟩;unfold ZbK;simp only[ZbC,mo,eqlF h0,Bool.not_false,cond_true]
  ·unfold Zba st;simp only[neqT h0,cond_true]
theorem ZDT{N:Nat}(hN:300≤N)(a:Int)(ha:0≤a)(ha':a≤9223372036854775807):
  ((scan 10 0 0 (B.drop lo)).1=0∧((scan 10 0 0 (B.drop lo)).2.1:Int)≤a∧Zau N ((),a) () (st B lo 0)=some ((((scan 10 0 0 (B.drop lo)).2.1:Int),((scan 10 0 0 (B.drop lo)).2.2:Int)),st B lo 0))∨
  ((scan 10 0 0 (B.drop lo)).1=0∧¬ ((scan 10 0 0 (B.drop lo)).2.1:Int)≤a∧Zau N ((),a) () (st B lo 0)=some ((0,0),st B lo 103))∨
  ((scan 10 0 0 (B.drop lo)).1≠0∧Zau N ((),a) () (st B lo 0)=some ((0,0),st B lo (scan 10 0 0 (B.drop lo)).1)):=by
 have hr:=num_r (N:=N) (by omega) B lo 0 hb (by omega) hlo;have cl:icmp .lss a 0=false:=decide_eq_false (by omega:¬ a<0);unfold outR at hr;rcases ZAa hb hl hlo with⟨s1,s2,s3,s4⟩|⟨s1,s2,s3⟩
 ·rw[s1] at hr;by_cases hg:((scan 10 0 0 (B.drop lo)).2.1:Int)≤a
  ·refine .inl ⟨s1,hg,?_⟩;generalize (scan 10 0 0 (B.drop lo)).2.1=w at*
   generalize (scan 10 0 0 (B.drop lo)).2.2=c at*
   have cg:icmp .gtr (w:Int) a=false:=decide_eq_false (by omega:¬ (w:Int)>a);unfold Zau st;simp only[neq0,cond_false,cl,hr,mo,eql0,cond_true,wrapu ha (show a<18446744073709551616 by omega),cg,wrapi (n:=(w:Int)) (by omega) (by omega)]
  ·refine .inr (.inl ⟨s1,hg,?_⟩);generalize (scan 10 0 0 (B.drop lo)).2.1=w at*
   generalize (scan 10 0 0 (B.drop lo)).2.2=c at*
   have cg:icmp .gtr (w:Int) a=true:=decide_eq_true (by omega:(w:Int)>a);unfold Zau st;simp only[neq0,cond_false,cl,hr,mo,eql0,cond_true,wrapu ha (show a<18446744073709551616 by omega),cg]
 ·refine .inr (.inr ⟨s1,?_⟩);rw[s2,s3] at hr;generalize (scan 10 0 0 (B.drop lo)).1=e at*
  unfold Zau st;simp only[neq0,cond_false,cl,hr,mo,eqlF s1,neqT s1,cond_true]
theorem ZAb{N:Nat}(a:Int)(ha:a<0):Zau N ((),a) () (st B lo 0)=some ((0,0),st B lo 1):=by
 have cl:icmp .lss a 0=true:=decide_eq_true ha;unfold Zau st;simp only[neq0,cond_false,cl,cond_true]
theorem Zyi{N:Nat}(a:Int)(h0:f≠0):Zau N ((),a) () (st B lo f)=some ((0,0),st B lo f):=by
 unfold Zau st;simp only[neqT h0,cond_true]
theorem ZGN{N:Nat}(hN:300≤N)(a:Int)(ha':a≤9223372036854775807):∃ x lo' f',Adv B lo f lo' f'∧(∀ m,RelP B lo f m→∃ m',Zbe ((),a) (B.length,B) m=some (x,(m',()))∧RelP B lo' f' m')∧ZaJ N ((),a) () (st B lo f)=some (x,((st B lo' f').1,(),(st B lo' f').2)):=by
 by_cases h0:f=0
 ·subst h0;have hc:=fun z=>ZBT B B.length lo (B.length-lo) z hb (by omega) (by omega)
  by_cases hneg:a<0
  ·have cl:icmp .lss a 0=true:=decide_eq_true hneg;have hr:=ZAb (N:=N) hb hl hlo a hneg;refine⟨[],lo,1,⟨hlo,Nat.le_refl _,fun h=>(by cases h),fun h=>absurd rfl h⟩,fun m hm=>?_,?_⟩
   ·obtain⟨z,rfl⟩:=hm;refine⟨(true,(lo,B.length-lo,z),1),?_,z,rfl⟩;unfold Zbe;simp only[ZbC,mo,eql0,Bool.not_true,cond_false,cl,cond_true,fail0]
   ·unfold st at hr ⊢;unfold ZaJ;simp only[hr,mo,show icmp .neq 1 0=true from rfl,cond_true]
  ·have cl:icmp .lss a 0=false:=decide_eq_false hneg;have cw:=wrapu (a:=a) (by omega) (by omega);have hr:=ZDT (N:=N) hb hl hlo hN a (by omega) ha';rcases ZAa hb hl hlo with⟨s1,s2,s3,s4⟩|⟨s1,s2,s3⟩
   ·unfold outP at hc;simp only[s1,if_true] at hc;rcases hr with⟨-,g1,g2⟩|⟨-,g1,g2⟩|⟨g1,-⟩
    ·generalize (scan 10 0 0 (B.drop lo)).2.1=w at*
     generalize (scan 10 0 0 (B.drop lo)).2.2=c at*
     have cg:icmp .gtr (w:Int) a=false:=decide_eq_false (by omega:¬ (w:Int)>a);have hL:=ZA7 (f:=0) hl hlo;by_cases hw:w≤B.length-lo-c
     ·have cx:icmp .gtr (w:Int) ((B.length-lo-c:Nat):Int)=false:=decide_eq_false (by omega:¬ (w:Int)>((B.length-lo-c:Nat):Int));have hlen:(List.take w (List.drop (lo+c) B)).length=w:=by rw[List.length_take,List.length_drop];omega
      refine⟨List.take w (List.drop (lo+c) B),lo+c+w,0,⟨by omega,by omega,fun _=>⟨rfl,by omega⟩,fun h=>absurd rfl h⟩,fun m hm=>?_,?_⟩
      ·obtain⟨z,rfl⟩:=hm;have hcl:Za7 ((w,List.take w (List.drop (lo+c) B)),())=some ((w,List.take w (List.drop (lo+c) B)),()):=by
        unfold Za7;simp only[Nat.zero_add,ok1 (k:=w) (by omega),cond_true,List.drop_zero];rw[List.take_of_length_le (by omega:(List.take w (List.drop (lo+c) B)).length≤w)]
       have cd:decide ((0:Int)≤((w:Nat):Int)∧((w:Nat):Int)≤((B.length-lo-c:Nat):Int))=true:=decide_eq_true (by omega);refine⟨(true,(lo+c+w,B.length-lo-c-w,cond (Nat.beq w 0) lo (lo+c)),0),?_,cond (Nat.beq w 0) lo (lo+c),by rw[Nat.sub_sub,Nat.sub_sub,← Nat.add_assoc]⟩;unfold Zbe;simp only[ZbC,mo,eql0,Bool.not_true,cond_false,cl,hc,neq0,cw,cg,wrapu (a:=((B.length-lo-c:Nat):Int)) (by omega) (by omega),cx,cd,cond_true,Int.toNat_natCast,hcl]
      ·have e1:=sub64 (a:=B.length-lo) (b:=c) (by omega) (by omega);have e2:=add64 (a:=lo) (b:=c) (by omega) (by omega);have e3:=add64 (a:=lo+c) (b:=w) (by omega) (by omega);have c1:decide ((0:Int)≤((lo+c+w:Nat):Int)∧((lo+c+w:Nat):Int)≤((B.length:Nat):Int))=true:=decide_eq_true (by omega);have c2:decide ((0:Int)≤((lo+c:Nat):Int)∧((lo+c:Nat):Int)≤((lo+c+w:Nat):Int))=true:=decide_eq_true (by omega);unfold st at g2 hL ⊢;unfold ZaJ;simp only[g2,mo,neq0,cond_false,hL,e1,cx,e2,e3,c1,c2,cond_true,Int.toNat_natCast,show lo+c+w-(lo+c)=w by omega,hlen,ok1 (k:=w) (by omega)]
     ·have cx:icmp .gtr (w:Int) ((B.length-lo-c:Nat):Int)=true:=decide_eq_true (by omega:(w:Int)>((B.length-lo-c:Nat):Int));refine⟨[],lo,100,⟨hlo,Nat.le_refl _,fun h=>(by cases h),fun h=>absurd rfl h⟩,fun m hm=>?_,?_⟩
      ·obtain⟨z,rfl⟩:=hm;refine⟨(true,(lo,B.length-lo,z),100),?_,z,rfl⟩;unfold Zbe;simp only[ZbC,mo,eql0,Bool.not_true,cond_false,cl,hc,neq0,cw,cg,wrapu (a:=((B.length-lo-c:Nat):Int)) (by omega) (by omega),cx,cond_true,fail0]
      ·have e1:=sub64 (a:=B.length-lo) (b:=c) (by omega) (by omega);unfold st at g2 hL ⊢;unfold ZaJ;simp only[g2,mo,neq0,cond_false,hL,e1,cx,cond_true]
    ·generalize (scan 10 0 0 (B.drop lo)).2.1=w at*
     generalize (scan 10 0 0 (B.drop lo)).2.2=c at*
     have cg:icmp .gtr (w:Int) a=true:=decide_eq_true (by omega:(w:Int)>a);refine⟨[],lo,103,⟨hlo,Nat.le_refl _,fun h=>(by cases h),fun h=>absurd rfl h⟩,fun m hm=>?_,?_⟩
     ·obtain⟨z,rfl⟩:=hm;refine⟨(true,(lo,B.length-lo,z),103),?_,z,rfl⟩;unfold Zbe;simp only[ZbC,mo,eql0,Bool.not_true,cond_false,cl,hc,neq0,cw,cg,cond_true,fail0]
     ·unfold st at g2 ⊢;unfold ZaJ;simp only[g2,mo,show icmp .neq 103 0=true from rfl,cond_true]
    ·exact absurd s1 g1
   ·unfold outP at hc;simp only[if_neg s1] at hc;rcases hr with⟨g1,-,-⟩|⟨g1,-,-⟩|⟨-,g2⟩
    ·exact absurd g1 s1
    ·exact absurd g1 s1
    ·generalize (scan 10 0 0 (B.drop lo)).1=e at*
     refine⟨[],lo,e,⟨hlo,Nat.le_refl _,fun h=>absurd h s1,fun h=>absurd rfl h⟩,fun m hm=>?_,?_⟩
     ·obtain⟨z,rfl⟩:=hm;refine⟨(true,(lo,B.length-lo,z),e),?_,z,rfl⟩;unfold Zbe;simp only[ZbC,mo,eql0,Bool.not_true,cond_false,cl,hc,neqT s1,cond_true]
     ·unfold st at g2 ⊢;unfold ZaJ;simp only[g2,mo,neqT s1,cond_true]
 ·have hr:=Zyi (N:=N) hb hl hlo a h0;refine⟨[],lo,f,⟨hlo,Nat.le_refl _,fun h=>absurd h h0,fun _=>⟨rfl,rfl⟩⟩,fun m hm=>?_,?_⟩
  ·obtain⟨z,rfl⟩:=hm;refine⟨(true,(lo,B.length-lo,z),f),?_,z,rfl⟩;unfold Zbe;simp only[ZbC,mo,eqlF h0,Bool.not_false,cond_true]
  ·unfold st at hr ⊢;unfold ZaJ;simp only[hr,mo,neqT h0,cond_true]
abbrev z32:LI:=[0,0,0,0,0,0,0,0,0,0,0,0,0,0,0,0,0,0,0,0,0,0,0,0,0,0,0,0,0,0,0,0]
theorem b32_c:∃ x lo' f',Adv B lo f lo' f'∧((f'=0∧L32 x∧lo'=lo+32∧f=0)∨(f'≠0∧lo'=lo))∧(∀ z,∃ z',Za2 () (B.length,B) (true,(lo,B.length-lo,z),f)=some (x,(true,(lo',B.length-lo',z'),f'))∧(f'≠0→z'=z))∧ZaM () () (st B lo f)=some (x,st B lo' f'):=by
 by_cases h0:f=0
 ·subst h0;have hL:=ZA7 (f:=0) hl hlo;by_cases hn:B.length-lo<32
  ·have c:icmp .lss ((B.length-lo:Nat):Int) 32=true:=decide_eq_true (by omega:((B.length-lo:Nat):Int)<32);refine⟨z32,lo,100,⟨hlo,Nat.le_refl _,fun h=>(by cases h),fun h=>absurd rfl h⟩,.inr ⟨by decide,rfl⟩,fun z=>⟨z,?_,fun _=>rfl⟩,?_⟩
   ·unfold Za2;simp only[ZbC,mo,eql0,Bool.not_true,cond_false,c,cond_true,fail0]
   ·unfold st at hL ⊢;unfold ZaM;simp only[neq0,cond_false,hL,mo,c,cond_true]
  ·have c:icmp .lss ((B.length-lo:Nat):Int) 32=false:=decide_eq_false (by omega:¬ ((B.length-lo:Nat):Int)<32);have c2:decide ((0:Int)≤32∧32≤((B.length-lo:Nat):Int))=true:=decide_eq_true (by omega);have e2:ibin .add .i64 ((lo:Nat):Int) 32=((lo+32:Nat):Int):=add64 (b:=32) (by omega) (by omega);have c3:decide ((0:Int)≤((lo+32:Nat):Int)∧((lo+32:Nat):Int)≤((B.length:Nat):Int))=true:=decide_eq_true (by omega);have c4:decide ((0:Int)≤((lo:Nat):Int)∧((lo:Nat):Int)≤((lo+32:Nat):Int))=true:=decide_eq_true (by omega);have hlen:(List.take 32 (List.drop lo B)).length=32:=by rw[List.length_take,List.length_drop];omega
   refine⟨List.take 32 (List.drop lo B),lo+32,0,⟨by omega,by omega,fun _=>⟨rfl,by omega⟩,fun h=>absurd rfl h⟩,.inl ⟨rfl,⟨hlen,fun x hx=>hb x (List.mem_of_mem_drop (List.mem_of_mem_take hx))⟩,rfl,rfl⟩,fun z=>⟨lo,?_,fun h=>absurd rfl h⟩,?_⟩
   ·unfold Za2;simp only[ZbC,mo,eql0,Bool.not_true,cond_false,c,c2,cond_true];rw[Nat.sub_sub]
   ·unfold st at hL ⊢;unfold ZaM;simp only[neq0,cond_false,hL,mo,c,e2,c3,c4,cond_true,Int.toNat_natCast,show lo+32-lo=32 by omega];rw[List.take_take,show List.drop 32 z32=[] from rfl,List.append_nil];rfl
 ·refine⟨z32,lo,f,⟨hlo,Nat.le_refl _,fun h=>absurd h h0,fun _=>⟨rfl,rfl⟩⟩,.inr ⟨h0,rfl⟩,fun z=>⟨z,?_,fun _=>rfl⟩,?_⟩
  ·unfold Za2;simp only[ZbC,mo,eqlF h0,Bool.not_false,cond_true]
  ·unfold ZaM st;simp only[neqT h0,cond_true]
theorem back32(h:lo+32≤B.length):ibin .sub .i64 ((lo+32:Nat):Int) 32=((lo:Nat):Int):=by
 have:=sub64 (a:=lo+32) (b:=32) (by omega) (by omega);rw[show lo+32-32=lo by omega] at this;exact this
theorem ZGO{N:Nat}(hN:300≤N):∃ x lo' f',Adv B lo f lo' f'∧(∀ m,RelP B lo f m→∃ m',Zby N () (B.length,B) m=some (x,m')∧RelP B lo' f' m')∧ZaQ N () () (st B lo f)=some (x,st B lo' f'):=by
 by_cases h0:f=0
 ·subst h0;obtain⟨x,lo',f',⟨a1,a2,a3,a4⟩,hcase,hp,hr⟩:=b32_c (f:=0) hb hl hlo;rcases hcase with⟨rfl,hx,rfl,-⟩|⟨hf,rfl⟩
  ·rcases Pr.dk_k N (by omega) hx with⟨g1,s,g2,g3⟩|⟨g1,g2⟩
   ·rcases Dr.dkr N (by omega) hx with⟨-,s',k2,k3⟩|⟨k1,-⟩
    ·obtain rfl:=g3.uniq k3;refine⟨s,lo+32,0,⟨a1,a2,a3,a4⟩,fun m hm=>?_,?_⟩
     ·obtain⟨z,rfl⟩:=hm;obtain⟨z',e,-⟩:=hp z;refine⟨_,?_,z',rfl⟩;unfold Zby;simp only[ZbC,mo,eql0,Bool.not_true,cond_false,e,neq0,g2]
     ·unfold st at hr ⊢;unfold ZaQ;simp only[hr,mo,neq0,cond_false,k2]
    ·exact absurd g1 k1
   ·rcases Dr.dkr N (by omega) hx with⟨k1,-⟩|⟨-,k2⟩
    ·exact absurd k1 g1
    ·refine⟨[0,0,0,0],lo,3,⟨hlo,Nat.le_refl _,fun h=>(by cases h),fun h=>absurd rfl h⟩,fun m hm=>?_,?_⟩
     ·obtain⟨z,rfl⟩:=hm;obtain⟨z',e,-⟩:=hp z;refine⟨(true,(lo,B.length-lo,z),3),?_,z,rfl⟩;unfold Zby;simp only[ZbC,mo,eql0,Bool.not_true,cond_false,e,neq0,g2,show icmp .neq 3 0=true from rfl,cond_true,fail0]
     ·unfold st at hr ⊢;unfold ZaQ;simp only[hr,mo,neq0,cond_false,k2,show icmp .neq 3 0=true from rfl,cond_true,back32 hb hl hlo a1]
  ·refine⟨[0,0,0,0],lo',f',⟨a1,a2,a3,a4⟩,fun m hm=>?_,?_⟩
   ·obtain⟨z,rfl⟩:=hm;obtain⟨z',e,-⟩:=hp z;refine⟨_,?_,z',rfl⟩;unfold Zby;simp only[ZbC,mo,eql0,Bool.not_true,cond_false,e,neqT hf,cond_true]
   ·unfold st at hr ⊢;unfold ZaQ;simp only[hr,mo,neqT hf,cond_true]
 ·obtain⟨x,lo',f',⟨a1,a2,a3,a4⟩,hcase,hp,hr⟩:=b32_c (f:=f) hb hl hlo;obtain⟨rfl,rfl⟩:=a4 h0;refine⟨[0,0,0,0],lo',f',⟨a1,a2,a3,a4⟩,fun m hm=>?_,?_⟩
  ·obtain⟨z,rfl⟩:=hm;refine⟨_,?_,z,rfl⟩;unfold Zby;simp only[ZbC,mo,eqlF h0,Bool.not_false,cond_true]
  ·unfold st at hr ⊢;unfold ZaQ;simp only[hr,mo,neqT h0,cond_true]
theorem line_c{N:Nat}(hN:300≤N):∃ x lo' f',Adv B lo f lo' f'∧(∀ m,RelP B lo f m→∃ m',Zbt N () (B.length,B) m=some (x,m')∧RelP B lo' f' m')∧∃ y,Zao N ((),2) () (st B lo f)=some (y,st B lo' f')∧y.2.2.1=x:=by
 by_cases h0:f=0
 ·subst h0;obtain⟨x,lo',f',⟨a1,a2,a3,a4⟩,hcase,hp,hr⟩:=b32_c (f:=0) hb hl hlo;rcases hcase with⟨rfl,hx,rfl,-⟩|⟨hf,rfl⟩
  ·rcases Pr.dk_k N (by omega) hx with⟨g1,s,g2,g3⟩|⟨g1,g2⟩
   ·rcases Dr.dkr N (by omega) hx with⟨-,s',k2,k3⟩|⟨k1,-⟩
    ·obtain rfl:=g3.uniq k3;refine⟨s,lo+32,0,⟨a1,a2,a3,a4⟩,fun m hm=>?_,Zdl s,?_,rfl⟩
     ·obtain⟨z,rfl⟩:=hm;obtain⟨z',e,-⟩:=hp z;refine⟨_,?_,z',rfl⟩;unfold Zbt;simp only[ZbC,mo,eql0,Bool.not_true,cond_false,e,neq0,g2]
     ·unfold st at hr ⊢;unfold Zao ZcS;simp only[hr,mo,neq0,cond_false,show icmp .eql 2 1=false from rfl,show icmp .eql 2 2=true from rfl,cond_true,k2]
    ·exact absurd g1 k1
   ·rcases Dr.dkr N (by omega) hx with⟨k1,-⟩|⟨-,k2⟩
    ·exact absurd k1 g1
    ·refine⟨[0,0,0,0],lo,3,⟨hlo,Nat.le_refl _,fun h=>(by cases h),fun h=>absurd rfl h⟩,fun m hm=>?_,Zar 2,?_,rfl⟩
     ·obtain⟨z,rfl⟩:=hm;obtain⟨z',e,-⟩:=hp z;refine⟨(true,(lo,B.length-lo,z),3),?_,z,rfl⟩;unfold Zbt;simp only[ZbC,mo,eql0,Bool.not_true,cond_false,e,neq0,g2,show icmp .neq 3 0=true from rfl,cond_true,fail0]
     ·unfold st at hr ⊢;unfold Zao ZcS;simp only[hr,mo,neq0,cond_false,show icmp .eql 2 1=false from rfl,show icmp .eql 2 2=true from rfl,k2,show icmp .neq 3 0=true from rfl,cond_true,back32 hb hl hlo a1]
  ·refine⟨[0,0,0,0],lo',f',⟨a1,a2,a3,a4⟩,fun m hm=>?_,Zar 2,?_,rfl⟩
   ·obtain⟨z,rfl⟩:=hm;obtain⟨z',e,-⟩:=hp z;refine⟨_,?_,z',rfl⟩;unfold Zbt;simp only[ZbC,mo,eql0,Bool.not_true,cond_false,e,neqT hf,cond_true]
   ·unfold st at hr ⊢;unfold Zao;simp only[hr,mo,neqT hf,cond_true]
 ·obtain⟨x,lo',f',⟨a1,a2,a3,a4⟩,hcase,hp,hr⟩:=b32_c (f:=f) hb hl hlo;obtain⟨rfl,rfl⟩:=a4 h0;refine⟨[0,0,0,0],lo',f',⟨a1,a2,a3,a4⟩,fun m hm=>?_,Zar 2,?_,rfl⟩
  ·obtain⟨z,rfl⟩:=hm;refine⟨_,?_,z,rfl⟩;unfold Zbt;simp only[ZbC,mo,eqlF h0,Bool.not_false,cond_true]
  ·unfold st at hr ⊢;unfold Zao;simp only[hr,mo,neqT h0,cond_true]
theorem free_c{N:Nat}:∃ lo' f',Adv B lo f lo' f'∧(∀ m,RelP B lo f m→∃ m',ZbH () (B.length,B) m=some ((),m')∧RelP B lo' f' m')∧∃ y,Zao N ((),3) () (st B lo f)=some (y,st B lo' f'):=by
 by_cases h0:f=0
 ·subst h0;obtain⟨x,lo',f',⟨a1,a2,a3,a4⟩,hcase,hp,hr⟩:=b32_c (f:=0) hb hl hlo;rcases hcase with⟨rfl,hx,rfl,-⟩|⟨hf,rfl⟩
  ·refine⟨lo,50,⟨hlo,Nat.le_refl _,fun h=>(by cases h),fun h=>absurd rfl h⟩,fun m hm=>?_,Zar 3,?_⟩
   ·obtain⟨z,rfl⟩:=hm;obtain⟨z',e,-⟩:=hp z;refine⟨(true,(lo,B.length-lo,z),50),?_,z,rfl⟩;unfold ZbH;simp only[ZbC,mo,eql0,Bool.not_true,cond_false,e,neq0,fail0]
   ·unfold st at hr ⊢;unfold Zao ZcS;simp only[hr,mo,neq0,cond_false,show icmp .eql 3 1=false from rfl,show icmp .eql 3 2=false from rfl,show icmp .neq 50 0=true from rfl,cond_true,back32 hb hl hlo a1]
  ·refine⟨lo',f',⟨a1,a2,a3,a4⟩,fun m hm=>?_,Zar 3,?_⟩
   ·obtain⟨z,rfl⟩:=hm;obtain⟨z',e,-⟩:=hp z;refine⟨_,?_,z',rfl⟩;unfold ZbH;simp only[ZbC,mo,eql0,Bool.not_true,cond_false,e,neqT hf,cond_true]
   ·unfold st at hr ⊢;unfold Zao;simp only[hr,mo,neqT hf,cond_true]
 ·obtain⟨x,lo',f',⟨a1,a2,a3,a4⟩,hcase,hp,hr⟩:=b32_c (f:=f) hb hl hlo;obtain⟨rfl,rfl⟩:=a4 h0;refine⟨lo',f',⟨a1,a2,a3,a4⟩,fun m hm=>?_,Zar 3,?_⟩
  ·obtain⟨z,rfl⟩:=hm;refine⟨_,?_,z,rfl⟩;unfold ZbH;simp only[ZbC,mo,eqlF h0,Bool.not_false,cond_true]
  ·unfold st at hr ⊢;unfold Zao;simp only[hr,mo,neqT h0,cond_true]
theorem point_c{N:Nat}(hN:300≤N):∃ x y c lo' f',Adv B lo f lo' f'∧(∀ m,RelP B lo f m→∃ m',Za8 N () (B.length,B) m=some (x,m')∧RelP B lo' f' m')∧Zao N ((),1) () (st B lo f)=some (y,st B lo' f')∧
  Zb9 N x () ()=some (c,())∧ZcQ N y=some c:=by
 have fm:∀ {v:P4} {c:LI},ZaV N v=some c→Zb9 N v () ()=some (c,()):=by
  intro v c h;rw[Dr.formEnc,h];rfl
 have fy:∀ {v':LI×LI} {c:LI},ZaA N v'=some c→ZcQ N (1,(v'.1,v'.2),[0,0,0,0],())=some c:=by
  intro v' c h;unfold ZcQ;simp only[show icmp .eql 1 1=true from rfl,cond_true];have h':ZaA N (v'.1,v'.2)=some c:=h;rw[h'];rfl
 obtain⟨cz,cz1,cz2⟩:=Ref.ZGP hN;have zx:=fm cz1;have zy:ZcQ N (Zar 1)=some cz:=fy (v':=(Ref.z10,Ref.z10)) cz2;by_cases h0:f=0
 ·subst h0;obtain⟨x,lo',f',⟨a1,a2,a3,a4⟩,hcase,hp,hr⟩:=b32_c (f:=0) hb hl hlo;rcases hcase with⟨rfl,hx,rfl,-⟩|⟨hf,rfl⟩
  ·rcases Ref.ZIj hN hx (z5,z5,z5,z5) with⟨v,v',c,g1,g2,g3,g4⟩|⟨e,g1,g2,g3⟩
   ·have f1:Zca N ((z5,z5,z5,z5),x) () ()=some ((v,0),()):=by rw[Dr.formDec,g1];rfl
    refine⟨v,Zh2 v',c,lo+32,0,⟨a1,a2,a3,a4⟩,fun m hm=>?_,?_,fm g3,fy g4⟩
    ·obtain⟨z,rfl⟩:=hm;obtain⟨z',e,-⟩:=hp z;refine⟨_,?_,z',rfl⟩;unfold Za8;simp only[ZbC,mo,eql0,Bool.not_true,cond_false,e,neq0,f1]
    ·unfold st at hr ⊢;unfold Zao ZcS;simp only[hr,mo,neq0,cond_false,show icmp .eql 1 1=true from rfl,cond_true,g2]
   ·have hne:e≠0:=by rcases g3 with rfl|rfl<;>decide
    have f1:Zca N ((z5,z5,z5,z5),x) () ()=some (((z5,z5,z5,z5),e),()):=by rw[Dr.formDec,g1];rfl
    refine⟨(z5,z5,z5,z5),Zar 1,cz,lo,e,⟨hlo,Nat.le_refl _,fun h=>absurd h hne,fun h=>absurd rfl h⟩,fun m hm=>?_,?_,zx,zy⟩
    ·obtain⟨z,rfl⟩:=hm;obtain⟨z',e',-⟩:=hp z;refine⟨(true,(lo,B.length-lo,z),e),?_,z,rfl⟩;unfold Za8;simp only[ZbC,mo,eql0,Bool.not_true,cond_false,e',neq0,f1,neqT hne,cond_true,fail0]
    ·unfold st at hr ⊢;unfold Zao ZcS;simp only[hr,mo,neq0,cond_false,show icmp .eql 1 1=true from rfl,cond_true,g2,neqT hne,back32 hb hl hlo a1]
  ·refine⟨(z5,z5,z5,z5),Zar 1,cz,lo',f',⟨a1,a2,a3,a4⟩,fun m hm=>?_,?_,zx,zy⟩
   ·obtain⟨z,rfl⟩:=hm;obtain⟨z',e,-⟩:=hp z;refine⟨_,?_,z',rfl⟩;unfold Za8;simp only[ZbC,mo,eql0,Bool.not_true,cond_false,e,neqT hf,cond_true]
   ·unfold st at hr ⊢;unfold Zao;simp only[hr,mo,neqT hf,cond_true]
 ·obtain⟨x,lo',f',⟨a1,a2,a3,a4⟩,hcase,hp,hr⟩:=b32_c (f:=f) hb hl hlo;obtain⟨rfl,rfl⟩:=a4 h0;refine⟨(z5,z5,z5,z5),Zar 1,cz,lo',f',⟨a1,a2,a3,a4⟩,fun m hm=>?_,?_,zx,zy⟩
  ·obtain⟨z,rfl⟩:=hm;refine⟨_,?_,z,rfl⟩;unfold Za8;simp only[ZbC,mo,eqlF h0,Bool.not_false,cond_true]
  ·unfold st at hr ⊢;unfold Zao;simp only[hr,mo,neqT h0,cond_true]
end
end Rd
namespace Rd
theorem okm{k m:Nat}(h:k≤10000000)(hm:m≤1000):decide (k*m≤140737488355328∧k≤9223372036854775807)=true:=by
 have:k*m≤10000000*1000:=Nat.mul_le_mul h hm;exact decide_eq_true (by omega)
theorem incI{i:Nat}(h:i<100000000):ibin .add .i64 (i:Int) 1=((i+1:Nat):Int):=add64 (b:=1) (by omega) (by omega)
theorem incU{i:Nat}(h:i<100000000):ibin .add .u64 (i:Int) 1=((i+1:Nat):Int):=by
 show IntKind.wrap .u64 ((i:Int)+1)=_;rw[wrapu (by omega) (by omega)];omega
theorem ltT{i n:Nat}(h:i<n):icmp .lss ((i:Nat):Int) ((n:Nat):Int)=true:=decide_eq_true (by omega)
theorem ltF{n:Nat}:icmp .lss ((n:Nat):Int) ((n:Nat):Int)=false:=decide_eq_false (by omega)
theorem ixT{i n:Nat}(h:i<n):decide ((0:Int)≤((i:Nat):Int)∧((i:Nat):Int)<((n:Nat):Int))=true:=decide_eq_true (by omega)
theorem neqS(x:Int):icmp .neq x x=false:=by simp[icmp]
theorem eqlS(x:Int):icmp .eql x x=true:=by simp[icmp]
theorem beqB(a:ByteArray):(a==a)=true:=by
 show (a.data==a.data)=true;exact beq_self_eq_true _
section
variable {B:LI} (hb:∀ x∈B,Byte x) (hl:B.length≤2000000) {N:Nat} (hN:300≤N)
include hb hl hN
theorem ZEF(w:Nat)(hw:w≤1048576):(k i:Nat)→i+k=w→(lo:Nat)→(f:Int)→lo≤B.length→(out:List (LI))→out.length=i→
  ∃ (xs:List (LI)) (j:Nat) (lo':Nat) (f':Int),lo'≤B.length∧(xs.length=j∧j≤w)∧
   (∀ g,k<g→∀ m,RelP B lo f m→∃ m',loopF (ZaY N) g (((),(),(),(w:Int),out,(i:Int)),((B.length,B),m,(i:Int),()))=some (.inl (((),xs),((B.length,B),m',(j:Int),())))∧RelP B lo' f' m')∧
   (∀ g,k<g→∀ (l:List (LI)) (q:MdS) (tm:Int),loopF (ZbN N) g (((),(),(),l,(w:Int),out,(i:Int),(i:Int)),((B.length,B),q,(st B lo f).1,(),(st B lo f).2,(),tm))=some (.inl (((),(),l,xs,(j:Int)),((B.length,B),q,(st B lo' f').1,(),(st B lo' f').2,(),tm))))
 |0,i,hi,lo,f,hlo,out,ho=>by
  obtain rfl:i=w:=by omega
  refine⟨out,i,lo,f,hlo,⟨ho,by omega⟩,fun g hg m hm=>?_,fun g hg l q tm=>?_⟩
  ·obtain⟨g,rfl⟩:∃ h,g=h+1:=⟨g-1,by omega⟩;refine⟨m,ZeH ?_ g,hm⟩;obtain⟨z,rfl⟩:=hm;unfold ZaY;simp only[ltF,cond_false]
  ·obtain⟨g,rfl⟩:∃ h,g=h+1:=⟨g-1,by omega⟩;refine ZeH ?_ g;obtain⟨q1,⟨q2,q3,q4⟩,q5⟩:=q;unfold ZbN st;simp only[ltF,cond_false]
 |k+1,i,hi,lo,f,hlo,out,ho=>by
  have hlt:i<w:=by omega
  by_cases h0:f=0
  ·subst h0;obtain⟨x,lo1,f1,⟨a1,a2,a3,a4⟩,hp,hr⟩:=ZGN hb hl hlo hN 3 (by decide) (f:=0);have hlen:(out++[x]).length=i+1:=by simp[ho]
   obtain⟨xs,j,lo',f',b1,b2,b3,b4⟩:=ZEF w hw k (i+1) (by omega) lo1 f1 a1 (out++[x]) hlen;refine⟨xs,j,lo',f',b1,b2,fun g hg m hm=>?_,fun g hg l q tm=>?_⟩
   ·obtain⟨g,rfl⟩:∃ h,g=h+1:=⟨g-1,by omega⟩;obtain⟨m1,c1,c2⟩:=hp m hm;obtain⟨m',c3,c4⟩:=b3 g (by omega) m1 c2;refine⟨m',(Zsv ?_ g).trans c3,c4⟩;obtain⟨z,rfl⟩:=hm;obtain⟨z1,rfl⟩:=c2;unfold ZaY ZgO;simp only[ltT hlt,cond_true,eql0,c1,mo,hlen,okm (k:=i+1) (m:=24) (by omega) (by decide),incU (i:=i) (by omega),incI (i:=i) (by omega)]
   ·obtain⟨g,rfl⟩:∃ h,g=h+1:=⟨g-1,by omega⟩;refine(Zsv ?_ g).trans (b4 g (by omega) l q tm);obtain⟨q1,⟨q2,q3,q4⟩,q5⟩:=q;unfold st at hr ⊢;unfold ZbN;simp only[ltT hlt,cond_true,eql0,hr,mo,hlen,okm (k:=i+1) (m:=24) (by omega) (by decide),incI (i:=i) (by omega)]
  ·refine⟨out,i,lo,f,hlo,⟨ho,by omega⟩,fun g hg m hm=>?_,fun g hg l q tm=>?_⟩
   ·obtain⟨g,rfl⟩:∃ h,g=h+1:=⟨g-1,by omega⟩;refine⟨m,ZeH ?_ g,hm⟩;obtain⟨z,rfl⟩:=hm;unfold ZaY;simp only[ltT hlt,cond_true,eqlF h0,cond_false]
   ·obtain⟨g,rfl⟩:∃ h,g=h+1:=⟨g-1,by omega⟩;refine ZeH ?_ g;obtain⟨q1,⟨q2,q3,q4⟩,q5⟩:=q;unfold ZbN st;simp only[ltT hlt,cond_true,eqlF h0,cond_false]
theorem ZEG(w:Nat)(hw:w≤1048576):(k i:Nat)→i+k=w→(lo:Nat)→(f:Int)→lo≤B.length→(out:List (LI))→out.length=i→
  ∃ (xs:List (LI)) (lo':Nat) (f':Int),lo'≤B.length∧xs.length≤w∧
   (∀ g,k<g→∀ m,RelP B lo f m→∃ m',loopF (Zaw N) g (((),(),(),(w:Int),out,(i:Int)),((B.length,B),m,()))=some (.inl (((),xs),((B.length,B),m',())))∧RelP B lo' f' m')∧
   (∀ g,k<g→∀ (l:List (LI)) (q:MdS),loopF (ZbO N) g (((),(),l,(w:Int),out,(i:Int)),((B.length,B),q,(st B lo f).1,(),(st B lo f).2,()))=some (.inl (((),l,xs),((B.length,B),q,(st B lo' f').1,(),(st B lo' f').2,()))))
 |0,i,hi,lo,f,hlo,out,ho=>by
  obtain rfl:i=w:=by omega
  refine⟨out,lo,f,hlo,by omega,fun g hg m hm=>?_,fun g hg l q=>?_⟩
  ·obtain⟨g,rfl⟩:∃ h,g=h+1:=⟨g-1,by omega⟩;refine⟨m,ZeH ?_ g,hm⟩;obtain⟨z,rfl⟩:=hm;unfold Zaw;simp only[ltF,cond_false]
  ·obtain⟨g,rfl⟩:∃ h,g=h+1:=⟨g-1,by omega⟩;refine ZeH ?_ g;obtain⟨q1,⟨q2,q3,q4⟩,q5⟩:=q;unfold ZbO st;simp only[ltF,cond_false]
 |k+1,i,hi,lo,f,hlo,out,ho=>by
  have hlt:i<w:=by omega
  by_cases h0:f=0
  ·subst h0;obtain⟨x,lo1,f1,⟨a1,a2,a3,a4⟩,hp,hr⟩:=ZGO hb hl hlo hN (f:=0);have hlen:(out++[x]).length=i+1:=by simp[ho]
   obtain⟨xs,lo',f',b1,b2,b3,b4⟩:=ZEG w hw k (i+1) (by omega) lo1 f1 a1 (out++[x]) hlen;refine⟨xs,lo',f',b1,b2,fun g hg m hm=>?_,fun g hg l q=>?_⟩
   ·obtain⟨g,rfl⟩:∃ h,g=h+1:=⟨g-1,by omega⟩;obtain⟨m1,c1,c2⟩:=hp m hm;obtain⟨m',c3,c4⟩:=b3 g (by omega) m1 c2;refine⟨m',(Zsv ?_ g).trans c3,c4⟩;obtain⟨z,rfl⟩:=hm;obtain⟨z1,rfl⟩:=c2;unfold Zaw ZgP;simp only[ltT hlt,cond_true,eql0,c1,mo,hlen,okm (k:=i+1) (m:=32) (by omega) (by decide),incU (i:=i) (by omega)]
   ·obtain⟨g,rfl⟩:∃ h,g=h+1:=⟨g-1,by omega⟩;refine(Zsv ?_ g).trans (b4 g (by omega) l q);obtain⟨q1,⟨q2,q3,q4⟩,q5⟩:=q;unfold st at hr ⊢;unfold ZbO;simp only[ltT hlt,cond_true,eql0,hr,mo,hlen,okm (k:=i+1) (m:=32) (by omega) (by decide),incI (i:=i) (by omega)]
  ·refine⟨out,lo,f,hlo,by omega,fun g hg m hm=>?_,fun g hg l q=>?_⟩
   ·obtain⟨g,rfl⟩:∃ h,g=h+1:=⟨g-1,by omega⟩;refine⟨m,ZeH ?_ g,hm⟩;obtain⟨z,rfl⟩:=hm;unfold Zaw;simp only[ltT hlt,cond_true,eqlF h0,cond_false]
   ·obtain⟨g,rfl⟩:∃ h,g=h+1:=⟨g-1,by omega⟩;refine ZeH ?_ g;obtain⟨q1,⟨q2,q3,q4⟩,q5⟩:=q;unfold ZbO st;simp only[ltT hlt,cond_true,eqlF h0,cond_false]
omit hb in
theorem ZDf{lo:Nat}(hlo:lo≤B.length){f:Int}(a:Int)(h0:f≠0)(hb:∀ x∈B,Byte x):ZaU N ((),a) () (st B lo f)=some (0,st B lo f):=by
 have h1:=Zyi (N:=N) hb hl hlo (f:=f) a h0;have h2:=Zyi (N:=N) hb hl hlo (f:=f) 1048576 h0;have e:ibin .add .i64 ((lo:Nat):Int) 0=((lo:Nat):Int):=add64 (b:=0) (by omega) (by omega);unfold ZaU;unfold st at h1 h2 ⊢;cases icmp .gtr a 1048576<;>simp only[cond_true,cond_false,h1,h2,mo,e]
def mst(a:Int):Int:=cond (decide (1048576<a)) 1048576 a
theorem Zt4{lo:Nat}{f:Int}(a:Int){n c:Int}{r:MdR}(h:Zau N ((),mst a) () (st B lo f)=some ((n,c),r)):ZaU N ((),a) () (st B lo f)=some (n,((r.1.1,(ibin .add .i64 r.1.2.1 c),r.1.2.2),(r.2.1,r.2.2))):=by
 unfold ZaU;unfold mst at h;unfold st at h ⊢;by_cases hc:1048576<a
 ·have c1:icmp .gtr a 1048576=true:=decide_eq_true hc;rw[decide_eq_true hc,cond_true] at h;simp only[c1,cond_true,h,mo]
 ·have c1:icmp .gtr a 1048576=false:=decide_eq_false hc;rw[decide_eq_false hc,cond_false] at h;simp only[c1,cond_false,h,mo]
theorem ZIY(a:Int)(h:0≤a):0≤mst a∧mst a≤1048576:=by
 unfold mst;by_cases hc:1048576<a
 ·rw[decide_eq_true hc];simp
 ·rw[decide_eq_false hc];simp only[cond_false];omega
theorem lb_list(hN2:1048580<N){lo:Nat}(hlo:lo≤B.length){f:Int}(a:Int)(ha':a≤9223372036854775807):
  ∃ (xs:List (LI)) (j:Nat) (lo1:Nat) (f1:Int) (n:Int) (lo':Nat) (f':Int),lo'≤B.length∧xs.length≤1048576∧
   (∀ m,RelP B lo f m→∃ m',Zb3 N ((),a,()) (B.length,B) (m,0)=some (if f'=0 then xs else [],(m',(j:Int),()))∧RelP B lo' f' m')∧
   ZaU N ((),a) () (st B lo f)=some (n,st B lo1 f1)∧
   (∀ (l:List (LI)) (q:MdS) (tm:Int),loopF (ZbN N) N (((),(),(),l,n,[],0,0),((B.length,B),q,(st B lo1 f1).1,(),(st B lo1 f1).2,(),tm))=some (.inl (((),(),l,xs,(j:Int)),((B.length,B),q,(st B lo' f').1,(),(st B lo' f').2,(),tm)))):=by
 obtain⟨g,hg⟩:∃ h,N=h+1:=⟨N-1,by omega⟩;have dead:∀ (M lo1:Nat) (f1:Int) (l:List (LI)) (q:MdS) (tm:Int),loopF (ZbN M) (g+1) (((),(),(),l,0,[],0,0),((B.length,B),q,(st B lo1 f1).1,(),(st B lo1 f1).2,(),tm))=some (.inl (((),(),l,[],0),((B.length,B),q,(st B lo1 f1).1,(),(st B lo1 f1).2,(),tm))):=by
  intro M lo1 f1 l q tm;refine ZeH ?_ g;obtain⟨q1,⟨q2,q3,q4⟩,q5⟩:=q;unfold ZbN st;simp only[show icmp .lss 0 0=false from rfl,cond_false]
 have pdead:∀ (M:Nat) (w:Nat) (z:Nat) (F:Int),F≠0→loopF (ZaY M) (g+1) (((),(),(),(w:Int),[],0),((B.length,B),(true,(lo,B.length-lo,z),F),0,()))=some (.inl (((),[]),((B.length,B),(true,(lo,B.length-lo,z),F),0,()))):=by
  intro M w z F hF;refine ZeH ?_ g;unfold ZaY;simp only[eqlF hF,cond_false];cases icmp .lss 0 (w:Int)<;>simp only[cond_true,cond_false]
 by_cases h0:f=0
 ·subst h0;have hc:=fun z=>ZBT B B.length lo (B.length-lo) z hb (by omega) (by omega)
  have e0:ibin .add .i64 ((lo:Nat):Int) 0=((lo:Nat):Int):=add64 (b:=0) (by omega) (by omega);by_cases hneg:a<0
  ·have cl:icmp .lss a 0=true:=decide_eq_true hneg;have hm0:mst a=a:=by unfold mst;rw[decide_eq_false (by omega)];rfl
   have hr:=Zt4 hb hl hN (lo:=lo) (f:=0) a (by rw[hm0];exact ZAb (N:=N) hb hl hlo a hneg);refine⟨[],0,lo,1,0,lo,1,hlo,by simp,fun m hm=>?_,?_,?_⟩
   ·obtain⟨z,rfl⟩:=hm;refine⟨(true,(lo,B.length-lo,z),1),?_,z,rfl⟩;unfold Zb3;simp only[ZbC,mo,eql0,Bool.not_true,cond_false,cl,cond_true,fail0]
    try rfl
   ·rw[hr];unfold st;simp only[e0]
   ·subst hg;exact dead _ lo 1
  ·have cl:icmp .lss a 0=false:=decide_eq_false hneg;obtain⟨q1,q2⟩:=ZIY hb hl hN a (by omega);have cw:=wrapu (a:=mst a) q1 (by omega);have hr:=ZDT (N:=N) hb hl hlo hN (mst a) q1 (by omega);rcases ZAa hb hl hlo with⟨s1,s2,s3,s4⟩|⟨s1,s2,s3⟩
   ·unfold outP at hc;simp only[s1,if_true] at hc;rcases hr with⟨-,g1,g2⟩|⟨-,g1,g2⟩|⟨g1,-⟩
    ·have hm:=Zt4 hb hl hN (lo:=lo) (f:=0) a g2;generalize (scan 10 0 0 (B.drop lo)).2.1=w at*
     generalize (scan 10 0 0 (B.drop lo)).2.2=c at*
     have cg:icmp .gtr (w:Int) (IntKind.wrap .u64 (cond (decide (1048576<a)) 1048576 a))=false:=by
      show icmp .gtr (w:Int) (IntKind.wrap .u64 (mst a))=false;rw[cw];exact decide_eq_false (by omega:¬ (w:Int)>mst a)
     have e2:=add64 (a:=lo) (b:=c) (by omega) (by omega);obtain⟨xs,j,lo',f',b1,b2,b3,b4⟩:=ZEF hb hl hN w (by omega) w 0 (by omega) (lo+c) 0 s4 [] rfl;refine⟨xs,j,lo+c,0,w,lo',f',b1,by omega,fun m hm=>?_,?_,fun l q tm=>?_⟩
     ·obtain⟨z,rfl⟩:=hm;obtain⟨m',c1,c2⟩:=b3 N (by omega) (true,(lo+c,B.length-(lo+c),lo),0) ⟨lo,rfl⟩;have c1':loopF (ZaY N) N (((),(),(),(w:Int),[],0),((B.length,B),(true,(lo+c,B.length-(lo+c),lo),0),0,()))=some (.inl (((),xs),_)):=c1;refine⟨m',?_,c2⟩;obtain⟨z',rfl⟩:=c2;unfold Zb3;simp only[ZbC,mo,eql0,Bool.not_true,cond_false,cl,hc,cond_true,cg,Nat.sub_sub,c1'];by_cases hf:f'=0
      ·simp only[hf,neq0,cond_false,if_true]
      ·simp only[neqT hf,cond_true,if_neg hf]
     ·rw[hm];unfold st;simp only[e2]
     ·exact b4 N (by omega) l q tm
    ·have hm:=Zt4 hb hl hN (lo:=lo) (f:=0) a g2;generalize (scan 10 0 0 (B.drop lo)).2.1=w at*
     generalize (scan 10 0 0 (B.drop lo)).2.2=c at*
     have cg:icmp .gtr (w:Int) (IntKind.wrap .u64 (cond (decide (1048576<a)) 1048576 a))=true:=by
      show icmp .gtr (w:Int) (IntKind.wrap .u64 (mst a))=true;rw[cw];exact decide_eq_true (by omega:(w:Int)>mst a)
     refine⟨[],0,lo,103,0,lo,103,hlo,by simp,fun m hm=>?_,?_,?_⟩
     ·obtain⟨z,rfl⟩:=hm;refine⟨(true,(lo,B.length-lo,z),103),?_,z,rfl⟩;have hp:=pdead N w z 103 (by decide);rw[← hg] at hp;unfold Zb3;simp only[ZbC,mo,eql0,Bool.not_true,cond_false,cl,hc,cond_true,cg,fail0,hp]
      try rfl
     ·rw[hm];unfold st;simp only[e0]
     ·subst hg;exact dead _ lo 103
    ·exact absurd s1 g1
   ·unfold outP at hc;simp only[if_neg s1] at hc;rcases hr with⟨g1,-,-⟩|⟨g1,-,-⟩|⟨-,g2⟩
    ·exact absurd g1 s1
    ·exact absurd g1 s1
    ·have hm:=Zt4 hb hl hN (lo:=lo) (f:=0) a g2;generalize (scan 10 0 0 (B.drop lo)).1=e at*
     refine⟨[],0,lo,e,0,lo,e,hlo,by simp,fun m hm=>?_,?_,?_⟩
     ·obtain⟨z,rfl⟩:=hm;refine⟨(true,(lo,B.length-lo,z),e),?_,z,rfl⟩;have hp:=pdead N 0 z e s1;rw[← hg] at hp;simp only[Int.natCast_zero] at hp;unfold Zb3;simp only[ZbC,mo,eql0,Bool.not_true,cond_false,cl,hc,eqlF s1,hp,neqT s1,cond_true,if_neg s1]
      try rfl
     ·rw[hm];unfold st;simp only[e0]
     ·subst hg;exact dead _ lo e
 ·have hm:=ZDf hl hN hlo (f:=f) a h0 hb;refine⟨[],0,lo,f,0,lo,f,hlo,by simp,fun m hm'=>?_,hm,?_⟩
  ·obtain⟨z,rfl⟩:=hm';refine⟨(true,(lo,B.length-lo,z),f),?_,z,rfl⟩;unfold Zb3;simp only[ZbC,mo,eqlF h0,Bool.not_false,cond_true,if_neg h0]
   try rfl
  ·subst hg;exact dead _ lo f
theorem ls_list(hN2:1048580<N){lo:Nat}(hlo:lo≤B.length){f:Int}(a:Int)(ha':a≤9223372036854775807):
  ∃ (xs:List (LI)) (lo1:Nat) (f1:Int) (n:Int) (lo':Nat) (f':Int),lo'≤B.length∧xs.length≤1048576∧
   (∀ m,RelP B lo f m→∃ m',ZaN N ((),a,()) (B.length,B) m=some (if f'=0 then xs else [],(m',()))∧RelP B lo' f' m')∧
   ZaU N ((),a) () (st B lo f)=some (n,st B lo1 f1)∧
   (∀ (l:List (LI)) (q:MdS),loopF (ZbO N) N (((),(),l,n,[],0),((B.length,B),q,(st B lo1 f1).1,(),(st B lo1 f1).2,()))=some (.inl (((),l,xs),((B.length,B),q,(st B lo' f').1,(),(st B lo' f').2,())))):=by
 obtain⟨g,hg⟩:∃ h,N=h+1:=⟨N-1,by omega⟩;have dead:∀ (M lo1:Nat) (f1:Int) (l:List (LI)) (q:MdS),loopF (ZbO M) (g+1) (((),(),l,0,[],0),((B.length,B),q,(st B lo1 f1).1,(),(st B lo1 f1).2,()))=some (.inl (((),l,[]),((B.length,B),q,(st B lo1 f1).1,(),(st B lo1 f1).2,()))):=by
  intro M lo1 f1 l q;refine ZeH ?_ g;obtain⟨q1,⟨q2,q3,q4⟩,q5⟩:=q;unfold ZbO st;simp only[show icmp .lss 0 0=false from rfl,cond_false]
 have pdead:∀ (M:Nat) (w:Nat) (z:Nat) (F:Int),F≠0→loopF (Zaw M) (g+1) (((),(),(),(w:Int),[],0),((B.length,B),(true,(lo,B.length-lo,z),F),()))=some (.inl (((),[]),((B.length,B),(true,(lo,B.length-lo,z),F),()))):=by
  intro M w z F hF;refine ZeH ?_ g;unfold Zaw;simp only[eqlF hF,cond_false];cases icmp .lss 0 (w:Int)<;>simp only[cond_true,cond_false]
 by_cases h0:f=0
 ·subst h0;have hc:=fun z=>ZBT B B.length lo (B.length-lo) z hb (by omega) (by omega)
  have e0:ibin .add .i64 ((lo:Nat):Int) 0=((lo:Nat):Int):=add64 (b:=0) (by omega) (by omega);by_cases hneg:a<0
  ·have cl:icmp .lss a 0=true:=decide_eq_true hneg;have hm0:mst a=a:=by unfold mst;rw[decide_eq_false (by omega)];rfl
   have hr:=Zt4 hb hl hN (lo:=lo) (f:=0) a (by rw[hm0];exact ZAb (N:=N) hb hl hlo a hneg);refine⟨[],lo,1,0,lo,1,hlo,by simp,fun m hm=>?_,?_,?_⟩
   ·obtain⟨z,rfl⟩:=hm;refine⟨(true,(lo,B.length-lo,z),1),?_,z,rfl⟩;unfold ZaN;simp only[ZbC,mo,eql0,Bool.not_true,cond_false,cl,cond_true,fail0]
    try rfl
   ·rw[hr];unfold st;simp only[e0]
   ·subst hg;exact dead _ lo 1
  ·have cl:icmp .lss a 0=false:=decide_eq_false hneg;obtain⟨q1,q2⟩:=ZIY hb hl hN a (by omega);have cw:=wrapu (a:=mst a) q1 (by omega);have hr:=ZDT (N:=N) hb hl hlo hN (mst a) q1 (by omega);rcases ZAa hb hl hlo with⟨s1,s2,s3,s4⟩|⟨s1,s2,s3⟩
   ·unfold outP at hc;simp only[s1,if_true] at hc;rcases hr with⟨-,g1,g2⟩|⟨-,g1,g2⟩|⟨g1,-⟩
    ·have hm:=Zt4 hb hl hN (lo:=lo) (f:=0) a g2;generalize (scan 10 0 0 (B.drop lo)).2.1=w at*
     generalize (scan 10 0 0 (B.drop lo)).2.2=c at*
     have cg:icmp .gtr (w:Int) (IntKind.wrap .u64 (cond (decide (1048576<a)) 1048576 a))=false:=by
      show icmp .gtr (w:Int) (IntKind.wrap .u64 (mst a))=false;rw[cw];exact decide_eq_false (by omega:¬ (w:Int)>mst a)
     have e2:=add64 (a:=lo) (b:=c) (by omega) (by omega);obtain⟨xs,lo',f',b1,b2,b3,b4⟩:=ZEG hb hl hN w (by omega) w 0 (by omega) (lo+c) 0 s4 [] rfl;refine⟨xs,lo+c,0,w,lo',f',b1,by omega,fun m hm=>?_,?_,fun l q=>?_⟩
     ·obtain⟨z,rfl⟩:=hm;obtain⟨m',c1,c2⟩:=b3 N (by omega) (true,(lo+c,B.length-(lo+c),lo),0) ⟨lo,rfl⟩;have c1':loopF (Zaw N) N (((),(),(),(w:Int),[],0),((B.length,B),(true,(lo+c,B.length-(lo+c),lo),0),()))=some (.inl (((),xs),_)):=c1;refine⟨m',?_,c2⟩;obtain⟨z',rfl⟩:=c2;unfold ZaN;simp only[ZbC,mo,eql0,Bool.not_true,cond_false,cl,hc,cond_true,cg,Nat.sub_sub,c1'];by_cases hf:f'=0
      ·simp only[hf,neq0,cond_false,if_true]
      ·simp only[neqT hf,cond_true,if_neg hf]
     ·rw[hm];unfold st;simp only[e2]
     ·exact b4 N (by omega) l q
    ·have hm:=Zt4 hb hl hN (lo:=lo) (f:=0) a g2;generalize (scan 10 0 0 (B.drop lo)).2.1=w at*
     generalize (scan 10 0 0 (B.drop lo)).2.2=c at*
     have cg:icmp .gtr (w:Int) (IntKind.wrap .u64 (cond (decide (1048576<a)) 1048576 a))=true:=by
      show icmp .gtr (w:Int) (IntKind.wrap .u64 (mst a))=true;rw[cw];exact decide_eq_true (by omega:(w:Int)>mst a)
     refine⟨[],lo,103,0,lo,103,hlo,by simp,fun m hm=>?_,?_,?_⟩
     ·obtain⟨z,rfl⟩:=hm;refine⟨(true,(lo,B.length-lo,z),103),?_,z,rfl⟩;have hp:=pdead N w z 103 (by decide);rw[← hg] at hp;unfold ZaN;simp only[ZbC,mo,eql0,Bool.not_true,cond_false,cl,hc,cond_true,cg,fail0,hp]
      try rfl
     ·rw[hm];unfold st;simp only[e0]
     ·subst hg;exact dead _ lo 103
    ·exact absurd s1 g1
   ·unfold outP at hc;simp only[if_neg s1] at hc;rcases hr with⟨g1,-,-⟩|⟨g1,-,-⟩|⟨-,g2⟩
    ·exact absurd g1 s1
    ·exact absurd g1 s1
    ·have hm:=Zt4 hb hl hN (lo:=lo) (f:=0) a g2;generalize (scan 10 0 0 (B.drop lo)).1=e at*
     refine⟨[],lo,e,0,lo,e,hlo,by simp,fun m hm=>?_,?_,?_⟩
     ·obtain⟨z,rfl⟩:=hm;refine⟨(true,(lo,B.length-lo,z),e),?_,z,rfl⟩;have hp:=pdead N 0 z e s1;rw[← hg] at hp;simp only[Int.natCast_zero] at hp;unfold ZaN;simp only[ZbC,mo,eql0,Bool.not_true,cond_false,cl,hc,eqlF s1,hp,neqT s1,cond_true,if_neg s1]
      try rfl
     ·rw[hm];unfold st;simp only[e0]
     ·subst hg;exact dead _ lo e
 ·have hm:=ZDf hl hN hlo (f:=f) a h0 hb;refine⟨[],lo,f,0,lo,f,hlo,by simp,fun m hm'=>?_,hm,?_⟩
  ·obtain⟨z,rfl⟩:=hm';refine⟨(true,(lo,B.length-lo,z),f),?_,z,rfl⟩;unfold ZaN;simp only[ZbC,mo,eqlF h0,Bool.not_false,cond_true,if_neg h0]
   try rfl
  ·subst hg;exact dead _ lo f
end
end Rd
namespace Rd
theorem eqlK{w k:Int}(h:w≠k):icmp .eql w k=false:=by simp[icmp,h]
theorem cmpB(N:Nat)(xs:List (LI))(hx:xs.length≤1048576)(b:Nat×LI)(m:MdS)(r:Nat×Int×Int)(R:Nat×LI):(k i:Nat)→i+k=xs.length→(g:Nat)→k<g→
  loopF (Zb5 N) g ((xs,xs,(i:Int)),(b,m,r,(),R,()))=some (.inl ((),(b,m,r,(),R)))
 |0,i,hi,g,hg=>by
  obtain⟨g,rfl⟩:∃ h,g=h+1:=⟨g-1,by omega⟩;obtain rfl:i=xs.length:=by omega
  refine ZeH ?_ g;unfold Zb5;simp only[ltF,cond_false]
 |k+1,i,hi,g,hg=>by
  obtain⟨g,rfl⟩:∃ h,g=h+1:=⟨g-1,by omega⟩;refine(Zsv ?_ g).trans (cmpB N xs hx b m r R k (i+1) (by omega) g (by omega));unfold Zb5 ZfF;simp only[ltT (show i<xs.length by omega),ixT (show i<xs.length by omega),cond_true,mo,beqB,Bool.not_true,cond_false,incI (i:=i) (by omega)]
theorem cmpS(N:Nat)(xs:List (LI))(hx:xs.length≤1048576)(b:Nat×LI)(m:MdS)(r:Nat×Int×Int)(R:Nat×LI):(k i:Nat)→i+k=xs.length→(g:Nat)→k<g→
  loopF (Zb6 N) g ((xs,xs,(i:Int)),(b,m,r,(),R,()))=some (.inl ((),(b,m,r,(),R)))
 |0,i,hi,g,hg=>by
  obtain⟨g,rfl⟩:∃ h,g=h+1:=⟨g-1,by omega⟩;obtain rfl:i=xs.length:=by omega
  refine ZeH ?_ g;unfold Zb6;simp only[ltF,cond_false]
 |k+1,i,hi,g,hg=>by
  obtain⟨g,rfl⟩:∃ h,g=h+1:=⟨g-1,by omega⟩;refine(Zsv ?_ g).trans (cmpS N xs hx b m r R k (i+1) (by omega) g (by omega));unfold Zb6;simp only[ltT (show i<xs.length by omega),ixT (show i<xs.length by omega),cond_true,decide_true,Bool.not_true,cond_false,incI (i:=i) (by omega)]
section
variable {B:LI} (hb:∀ x∈B,Byte x) (hl:B.length≤2000000) {N:Nat} (hN:1048580<N)
include hb hl hN
theorem rmany_c{lo:Nat}(hlo:lo≤B.length){f:Int}(w a e:Int)(ha':a≤9223372036854775807):∃ (lo':Nat) (f':Int),lo'≤B.length∧
  ∀ m,RelP B lo f m→∃ m',ZcK N ((),(),(w,a,e)) (B.length,B) (m,(st B lo f).1,(st B lo f).2)=some (true,(m',(st B lo' f').1,(st B lo' f').2))∧RelP B lo' f' m':=by
 rcases Decidable.em (w=12) with rfl|h12
 ·obtain⟨xs,j,lo1,f1,n,lo',f',b1,b2,hp,hm,hlp⟩:=lb_list hb hl (show 300≤N by omega) hN hlo (f:=f) a ha';refine⟨lo',f',b1,fun m hm'=>?_⟩;obtain⟨m',e1,r⟩:=hp m hm';refine⟨m',?_,r⟩;have hl':=hlp (if f'=0 then xs else []) m' (j:Int);obtain⟨z,rfl⟩:=hm';obtain⟨z',rfl⟩:=r;unfold st at hm hl' ⊢;unfold ZcK;simp only[show icmp .eql 12 12=true from rfl,cond_true,e1,mo,hm,hl'];by_cases hf:f'=0
  ·subst hf;have hz:=cmpB N xs b2 (B.length,B) (true,(lo',B.length-lo',z'),0) (B.length,((lo':Nat):Int),0) (B.length,B) xs.length 0 (by omega) N (by omega);have hz':loopF (Zb5 N) N ((xs,xs,0),_)=_:=hz;simp only[neq0,cond_false,if_true,neqS,hz']
  ·have hz:=cmpB N [] (by simp) (B.length,B) (true,(lo',B.length-lo',z'),f') (B.length,((lo':Nat):Int),f') (B.length,B) 0 0 (by simp) N (by omega);have hz':loopF (Zb5 N) N (([],[],0),_)=_:=hz;simp only[neqT hf,cond_true,if_neg hf,List.length_nil,Int.natCast_zero,neqS,cond_false,hz']
 rcases Decidable.em (w=13) with rfl|h13
 ·obtain⟨xs,lo1,f1,n,lo',f',b1,b2,hp,hm,hlp⟩:=ls_list hb hl (show 300≤N by omega) hN hlo (f:=f) a ha';refine⟨lo',f',b1,fun m hm'=>?_⟩;obtain⟨m',e1,r⟩:=hp m hm';refine⟨m',?_,r⟩;have hl':=hlp (if f'=0 then xs else []) m';obtain⟨z,rfl⟩:=hm';obtain⟨z',rfl⟩:=r;unfold st at hm hl' ⊢;unfold ZcK;simp only[show icmp .eql 13 12=false from rfl,show icmp .eql 13 13=true from rfl,cond_false,cond_true,e1,mo,hm,hl'];by_cases hf:f'=0
  ·subst hf;have hz:=cmpS N xs b2 (B.length,B) (true,(lo',B.length-lo',z'),0) (B.length,((lo':Nat):Int),0) (B.length,B) xs.length 0 (by omega) N (by omega);have hz':loopF (Zb6 N) N ((xs,xs,0),_)=_:=hz;simp only[neq0,cond_false,if_true,neqS,hz']
  ·have hz:=cmpS N [] (by simp) (B.length,B) (true,(lo',B.length-lo',z'),f') (B.length,((lo':Nat):Int),f') (B.length,B) 0 0 (by simp) N (by omega);have hz':loopF (Zb6 N) N (([],[],0),_)=_:=hz;simp only[neqT hf,cond_true,if_neg hf,List.length_nil,Int.natCast_zero,neqS,cond_false,hz']
 rcases Decidable.em (w=14) with rfl|h14
 ·by_cases h0:f=0
  ·subst h0;refine⟨lo,1,hlo,fun m hm=>?_⟩;obtain⟨z,rfl⟩:=hm;refine⟨(true,(lo,B.length-lo,z),1),?_,z,rfl⟩;have hL:Zcy ((),a,()) (B.length,B) (true,(lo,B.length-lo,z),0)=some ((),(true,(lo,B.length-lo,z),1)):=by
    unfold Zcy;simp only[ZbC,mo,eql0,Bool.not_true,cond_false,fail0];cases icmp .lss a 0<;>rfl
   have hE:Zbd () ((true,(lo,B.length-lo,z),1),(B.length,B)) ()=some (1,()):=rfl;unfold ZcK st;simp only[show icmp .eql 14 12=false from rfl,show icmp .eql 14 13=false from rfl,show icmp .eql 14 14=true from rfl,cond_false,cond_true,eql0,hL,mo,hE,eqlS]
  ·refine⟨lo,f,hlo,fun m hm=>?_⟩;obtain⟨z,rfl⟩:=hm;refine⟨(true,(lo,B.length-lo,z),f),?_,z,rfl⟩;have hL:Zcy ((),a,()) (B.length,B) (true,(lo,B.length-lo,z),f)=some ((),(true,(lo,B.length-lo,z),f)):=by
    unfold Zcy;simp only[ZbC,mo,eqlF h0,Bool.not_false,cond_true]
   have hE:Zbd () ((true,(lo,B.length-lo,z),f),(B.length,B)) ()=some (f,()):=rfl;unfold ZcK st;simp only[show icmp .eql 14 12=false from rfl,show icmp .eql 14 13=false from rfl,show icmp .eql 14 14=true from rfl,cond_false,cond_true,eqlF h0,hL,mo,hE,eqlS]
 ·refine⟨lo,f,hlo,fun m hm=>?_⟩;obtain⟨z,rfl⟩:=hm;refine⟨(true,(lo,B.length-lo,z),f),?_,z,rfl⟩;unfold ZcK st;simp only[eqlK h12,eqlK h13,eqlK h14,cond_false]
theorem rcall_c{lo:Nat}(hlo:lo≤B.length){f:Int}(w a e:Int)(ha':a≤9223372036854775807):∃ (lo':Nat) (f':Int),lo'≤B.length∧
  ∀ m,RelP B lo f m→∃ m',Zbm N ((),(),(w,a,e)) (B.length,B) (m,(st B lo f).1,(st B lo f).2)=some (true,(m',(st B lo' f').1,(st B lo' f').2))∧RelP B lo' f' m':=by
 have h3:300≤N:=by omega
 have t0:=fun(v k:Int) (h:v≠k)=>eqlK h
 rcases Decidable.em (w=1) with rfl|h1
 ·obtain⟨x,lo',f',hA,hp,hr⟩:=ZIi hb hl hlo (f:=f) h3 (IntKind.wrap .u64 a);refine⟨lo',f',hA.1,fun m hm=>?_⟩;obtain⟨m',e1,r⟩:=hp m hm;refine⟨m',?_,r⟩;obtain⟨z,rfl⟩:=hm;obtain⟨z',rfl⟩:=r;unfold st at hr ⊢;unfold Zbm;simp only[eqlS,cond_true,e1,mo,hr]
 rcases Decidable.em (w=2) with rfl|h2
 ·obtain⟨x,lo',f',hA,hp,hr⟩:=ZGN hb hl hlo (f:=f) h3 a ha';refine⟨lo',f',hA.1,fun m hm=>?_⟩;obtain⟨m',e1,r⟩:=hp m hm;refine⟨m',?_,r⟩;obtain⟨z,rfl⟩:=hm;obtain⟨z',rfl⟩:=r;unfold st at hr ⊢;unfold Zbm ZfF;simp only[eqlK h1,cond_false,eqlS,cond_true,e1,mo,hr,beqB]
 rcases Decidable.em (w=3) with rfl|h3'
 ·obtain⟨x,lo',f',hA,-,hp,hr⟩:=b32_c hb hl hlo (f:=f);refine⟨lo',f',hA.1,fun m hm=>?_⟩;obtain⟨z,rfl⟩:=hm;obtain⟨z',e1,-⟩:=hp z;refine⟨_,?_,z',rfl⟩;unfold st at hr ⊢;unfold Zbm;simp only[eqlK h1,eqlK h2,cond_false,eqlS,cond_true,e1,mo,hr,decide_true]
 rcases Decidable.em (w=4) with rfl|h4
 ·obtain⟨x,lo',f',hA,hp,hr⟩:=ZGO hb hl hlo (f:=f) h3;refine⟨lo',f',hA.1,fun m hm=>?_⟩;obtain⟨m',e1,r⟩:=hp m hm;refine⟨m',?_,r⟩;obtain⟨z,rfl⟩:=hm;obtain⟨z',rfl⟩:=r;unfold st at hr ⊢;unfold Zbm;simp only[eqlK h1,eqlK h2,eqlK h3',cond_false,eqlS,cond_true,e1,mo,hr,decide_true]
 rcases Decidable.em (w=5) with rfl|h5
 ·obtain⟨x,y,c,lo',f',hA,hp,hr,hc1,hc2⟩:=point_c hb hl hlo (f:=f) h3;refine⟨lo',f',hA.1,fun m hm=>?_⟩;obtain⟨m',e1,r⟩:=hp m hm;refine⟨m',?_,r⟩;obtain⟨z,rfl⟩:=hm;obtain⟨z',rfl⟩:=r;obtain⟨x1,x2,x3,x4⟩:=x;obtain⟨y1,⟨y2,y3⟩,y4,y5⟩:=y;unfold st at hr ⊢;unfold Zbm;simp only[eqlK h1,eqlK h2,eqlK h3',eqlK h4,cond_false,eqlS,cond_true,e1,mo,hr,hc1,hc2,decide_true]
 rcases Decidable.em (w=6) with rfl|h6
 ·obtain⟨x,lo',f',hA,hp,y,hr,hy⟩:=line_c hb hl hlo (f:=f) h3;refine⟨lo',f',hA.1,fun m hm=>?_⟩;obtain⟨m',e1,r⟩:=hp m hm;refine⟨m',?_,r⟩;obtain⟨z,rfl⟩:=hm;obtain⟨z',rfl⟩:=r;unfold st at hr ⊢;unfold Zbm;simp only[eqlK h1,eqlK h2,eqlK h3',eqlK h4,eqlK h5,cond_false,eqlS,cond_true,e1,mo,hr,hy,decide_true]
 rcases Decidable.em (w=7) with rfl|h7
 ·obtain⟨lo',f',hA,hp,y,hr⟩:=free_c hb hl hlo (f:=f) (N:=N);refine⟨lo',f',hA.1,fun m hm=>?_⟩;obtain⟨m',e1,r⟩:=hp m hm;refine⟨m',?_,r⟩;obtain⟨z,rfl⟩:=hm;obtain⟨z',rfl⟩:=r;unfold st at hr ⊢;unfold Zbm;simp only[eqlK h1,eqlK h2,eqlK h3',eqlK h4,eqlK h5,eqlK h6,cond_false,eqlS,cond_true,e1,mo,hr]
 rcases Decidable.em (w=8) with rfl|h8
 ·refine⟨lo,f,hlo,fun m hm=>⟨m,?_,hm⟩⟩;have e1:=ZIX hl hlo hm;have hr:=ZA7 hl hlo (f:=f);obtain⟨z,rfl⟩:=hm;unfold st at hr ⊢;unfold Zbm;simp only[eqlK h1,eqlK h2,eqlK h3',eqlK h4,eqlK h5,eqlK h6,eqlK h7,cond_false,eqlS,cond_true,e1,mo,hr]
 rcases Decidable.em (w=9) with rfl|h9
 ·refine⟨lo,f,hlo,fun m hm=>⟨m,?_,hm⟩⟩;have e1:=err_p hl hlo hm;obtain⟨z,rfl⟩:=hm;unfold st;unfold Zbm;simp only[eqlK h1,eqlK h2,eqlK h3',eqlK h4,eqlK h5,eqlK h6,eqlK h7,eqlK h8,cond_false,eqlS,cond_true,e1,mo]
 rcases Decidable.em (w=10) with rfl|h10
 ·obtain⟨hp,hr⟩:=end_c hl hlo (f:=f);refine⟨lo,endF B lo f,hlo,fun m hm=>?_⟩;obtain⟨m',e1,r⟩:=hp m hm;refine⟨m',?_,r⟩;obtain⟨z,rfl⟩:=hm;obtain⟨z',rfl⟩:=r;unfold st at hr ⊢;unfold Zbm;simp only[eqlK h1,eqlK h2,eqlK h3',eqlK h4,eqlK h5,eqlK h6,eqlK h7,eqlK h8,eqlK h9,cond_false,eqlS,cond_true,e1,mo,hr]
 rcases Decidable.em (w=11) with rfl|h11
 ·obtain⟨hp,hr⟩:=fail_c hl hlo (f:=f) e;refine⟨lo,(if f=0 then e else f),hlo,fun m hm=>?_⟩;obtain⟨m',e1,r⟩:=hp m hm;refine⟨m',?_,r⟩;have e2:=err_p hl hlo r;obtain⟨z,rfl⟩:=hm;obtain⟨z',rfl⟩:=r;unfold st at hr ⊢;unfold Zbm;simp only[eqlK h1,eqlK h2,eqlK h3',eqlK h4,eqlK h5,eqlK h6,eqlK h7,eqlK h8,eqlK h9,eqlK h10,cond_false,eqlS,cond_true,e1,mo,hr,e2]
 ·obtain⟨lo',f',b1,hp⟩:=rmany_c hb hl hN hlo (f:=f) w a e ha';refine⟨lo',f',b1,fun m hm=>?_⟩;obtain⟨m',e1,r⟩:=hp m hm;refine⟨m',?_,r⟩;obtain⟨z,rfl⟩:=hm;obtain⟨z',rfl⟩:=r;unfold st at e1 ⊢;unfold Zbm;simp only[eqlK h1,eqlK h2,eqlK h3',eqlK h4,eqlK h5,eqlK h6,eqlK h7,eqlK h8,eqlK h9,eqlK h10,eqlK h11,cond_false,e1,mo]
theorem ZEH(cs:List (Int×Int×Int))(hc:∀ c∈cs,c.2.1≤9223372036854775807)(hcl:cs.length≤2000000):(k i:Nat)→i+k=cs.length→(lo:Nat)→(f:Int)→lo≤B.length→(g:Nat)→k<g→(m:MdS)→RelP B lo f m→
  ∃ (lo':Nat) (f':Int) (m':MdS),lo'≤B.length∧RelP B lo' f' m'∧loopF (ZbJ N) g ((cs,(),(),(i:Int)),(m,(B.length,B),(st B lo f).1,(st B lo f).2))=some (.inl (((),()),(m',(B.length,B),(st B lo' f').1,(st B lo' f').2)))
 |0,i,hi,lo,f,hlo,g,hg,m,hm=>by
  obtain⟨g,rfl⟩:∃ h,g=h+1:=⟨g-1,by omega⟩;obtain rfl:i=cs.length:=by omega
  refine⟨lo,f,m,hlo,hm,ZeH ?_ g⟩;obtain⟨z,rfl⟩:=hm;unfold ZbJ st;simp only[ltF,cond_false]
 |k+1,i,hi,lo,f,hlo,g,hg,m,hm=>by
  obtain⟨g,rfl⟩:∃ h,g=h+1:=⟨g-1,by omega⟩;have hlt:i<cs.length:=by omega
  have hx:(List.getD cs i (0,0,0)).2.1≤9223372036854775807:=by
   rw[List.getD_eq_getElem?_getD,List.getElem?_eq_getElem hlt];exact hc _ (List.getElem_mem hlt)
  have hmm:=hm;obtain⟨lo1,f1,b1,hp⟩:=rcall_c hb hl hN hlo (f:=f) (List.getD cs i (0,0,0)).1 (List.getD cs i (0,0,0)).2.1 (List.getD cs i (0,0,0)).2.2 hx;obtain⟨m1,e1,r1⟩:=hp m hm;obtain⟨lo',f',m',b2,r2,e2⟩:=ZEH cs hc hcl k (i+1) (by omega) lo1 f1 b1 g (by omega) m1 r1;refine⟨lo',f',m',b2,r2,(Zsv ?_ g).trans e2⟩;have l1:=ZIX hl b1 r1;have l2:=ZA7 hl b1 (f:=f1);have l3:=err_p hl b1 r1;obtain⟨z,rfl⟩:=hm;obtain⟨z',rfl⟩:=r1;unfold st at e1 l2 ⊢;unfold ZbJ;simp only[ltT hlt,ixT hlt,cond_true,Int.toNat_natCast,e1,mo,Bool.not_true,cond_false,l1,l2,neqS,l3,incI (i:=i) (by omega)]
omit hb hl hN in
theorem ZGQ(xs:LI)(cs:List (Int×Int×Int))(n:Nat)(hn:n≤2000003)(m:MdS)(R:Nat×LI):(k i:Nat)→i+k=n→(row:LI)→(g:Nat)→k<g→
  loopF (ZbI N) g ((xs,cs,(),n,(),(i:Int)),((n,row),m,R))=some (.inl ((xs,cs,()),(m,R)))
 |0,i,hi,row,g,hg=>by
  obtain⟨g,rfl⟩:∃ h,g=h+1:=⟨g-1,by omega⟩;obtain rfl:i=n:=by omega
  refine ZeH ?_ g;unfold ZbI;simp only[ltF,cond_false]
 |k+1,i,hi,row,g,hg=>by
  obtain⟨g,rfl⟩:∃ h,g=h+1:=⟨g-1,by omega⟩;have hlt:i<n:=by omega
  refine(Zsv ?_ g).trans (ZGQ xs cs n hn m R k (i+1) (by omega) (row.set i 99) g (by omega));unfold ZbI;simp only[ltT hlt,ixT hlt,cond_true,Int.toNat_natCast,incI (i:=i) (by omega)]
omit hb hl in
theorem wireReads_law(hN':N=3000000)(a:LI)(cs:List (Int×Int×Int))(ha:∀ x∈a,0≤x∧x≤255)(hl:a.length≤2000000)(hc:∀ c∈cs,c.2.1≤9223372036854775807)(hcl:cs.length≤2000000):Zgz N (a,cs) () ()=some (true,()):=by
 have hx:(a++[201,202,203]).length=a.length+3:=by simp
 have x4:List.take a.length (List.drop 0 (a++[201,202,203]))=a:=by simp
 have v1:decide (a.length*1≤140737488355328∧a.length≤9223372036854775807)=true:=okm (k:=a.length) (m:=1) (by omega) (by decide);have v2:decide ((a.length+3)*1≤140737488355328∧a.length+3≤9223372036854775807)=true:=okm (k:=a.length+3) (m:=1) (by omega) (by decide);have v3:decide ((0:Int)≤((a.length:Nat):Int)∧((a.length:Nat):Int)≤((a.length+3:Nat):Int))=true:=decide_eq_true (by omega);have v6:decide ((0:Int)≤((a.length:Nat):Int)∧((a.length:Nat):Int)<((a.length+3:Nat):Int))=true:=decide_eq_true (by omega);have a1:ibin .add .i64 ((a.length:Nat):Int) 1=((a.length+1:Nat):Int):=incI (by omega);have a2:ibin .add .i64 ((a.length:Nat):Int) 2=((a.length+2:Nat):Int):=add64 (b:=2) (by omega) (by omega);have v9:decide ((0:Int)≤((a.length+1:Nat):Int)∧((a.length+1:Nat):Int)<((a.length+3:Nat):Int))=true:=decide_eq_true (by omega);have v12:decide ((0:Int)≤((a.length+2:Nat):Int)∧((a.length+2:Nat):Int)<((a.length+3:Nat):Int))=true:=decide_eq_true (by omega);have g0:List.getD (a++[201,202,203]) a.length 0=201:=by
  rw[List.getD_eq_getElem?_getD,List.getElem?_append_right (by omega)];simp
 have g1:List.getD (a++[201,202,203]) (a.length+1) 0=202:=by
  rw[List.getD_eq_getElem?_getD,List.getElem?_append_right (by omega)];simp
 have g2:List.getD (a++[201,202,203]) (a.length+2) 0=203:=by
  rw[List.getD_eq_getElem?_getD,List.getElem?_append_right (by omega)];simp
 have hcl0:Za7 ((a.length,a),())=some ((a.length,a),()):=by
  unfold Za7;simp only[Nat.zero_add,ok1 (k:=a.length) (by omega),cond_true,List.drop_zero];rw[List.take_of_length_le (Nat.le_refl _)]
 have hnr:ZgU (0,a.length,0) (a.length+3,a++[201,202,203]) ()=some ((),((true,(0,a.length,0),0),(a.length,a))):=by
  unfold ZgU;simp only[x4,hcl0,mo]
 have hnw:ZiC a () ()=some ((),((a.length,0,0),(a.length,a))):=by
  unfold ZiC;simp only[Nat.zero_add,v1,cond_true]
 have hf:=ZGQ (N:=N) a cs (a.length+3) (by omega) (true,(0,a.length,0),0) (a.length,a) (a.length+3) 0 (by omega) (a++[201,202,203]) N (by omega);have hf':loopF (ZbI N) N ((a,cs,(),a.length+3,(),0),_)=_:=hf;obtain⟨lo',f',m',b2,r2,e2⟩:=ZEH ha hl hN cs hc hcl cs.length 0 (by omega) 0 0 (by omega) N (by omega) (true,(0,a.length,0),0) ⟨0,by simp⟩;have e2':loopF (ZbJ N) N ((cs,(),(),0),((true,(0,a.length,0),0),(a.length,a),(a.length,0,0),(a.length,a)))=_:=e2;obtain⟨hp,hr⟩:=end_c hl b2 (f:=f');obtain⟨m'',e3,r3⟩:=hp m' r2;obtain⟨z,rfl⟩:=r2;unfold st at e2' hr;unfold Zgz;simp only[Nat.zero_add,hx,v1,v2,v3,cond_true,Int.toNat_natCast,hnr,mo,x4,beqB,v6,g0,eqlS,a1,a2,v9,v12,g1,g2,Bool.not_true,cond_false,hf',hnw,e2',e3,hr]
end
end Rd
end Go.Vx
