import Derived.Test.YtoionfdfofmplaaGreatDoorVyM34
import Derived.KernelRfl
set_option autoImplicit false
set_option linter.unusedVariables false
set_option linter.unusedSimpArgs false
set_option linter.unusedSectionVars false
namespace Go.Vx
open Go
namespace Pr
theorem ZGU{a b:Int}(a0:0≤a)(a1:a<18446744073709551616)(b0:0≤b)(b1:b<18446744073709551616):ibin .or .u64 a b=ibin .or .u64 b a:=by
 rw[u_or a0 a1 b0 b1,u_or b0 b1 a0 a1,Nat.or_comm]
theorem Ziv{x b:Int}(k:Nat)(hk:k≤56)(hx:0≤x∧x<2^k)(hb:0≤b∧b≤255):ibin .or .u64 x (ibin .shl .u64 (IntKind.wrap .u64 b) (k:Int))=x+b*2^k:=by
 have h2:(2:Int)^k≤72057594037927936:=by
  have h3:(2:Nat)^k≤2^56:=Nat.pow_le_pow_right (by decide) hk;have h4:((2^k:Nat):Int)≤((2^56:Nat):Int):=Int.ofNat_le.2 h3;rw[Int.natCast_pow] at h4;exact h4
 have hp:(0:Int)<2^k:=Int.pow_pos (by decide);have hw:IntKind.wrap .u64 b=b:=by
  have hm:∀ y:Int,IntKind.wrap .u64 y=y%18446744073709551616:=fun y=>by simp[IntKind.wrap,IntKind.signed,IntKind.bits]
  rw[hm];omega
 have hbp:0≤b*2^k∧b*2^k<18446744073709551616:=by
  have h1:b*2^k≤255*2^k:=Int.mul_le_mul_of_nonneg_right hb.2 (Int.le_of_lt hp);exact⟨Int.mul_nonneg hb.1 (Int.le_of_lt hp),by omega⟩
 rw[hw];have hs:ibin .shl .u64 b (k:Int)=b*2^k:=by
  have:ibin .shl .u64 b (k:Int)=(b*2^k)%18446744073709551616:=u_shl k (by omega);rw[this,Int.emod_eq_of_lt hbp.1 hbp.2]
 have hc:ibin .or .u64 x (ibin .shl .u64 b (k:Int))=ibin .or .u64 (ibin .shl .u64 b (k:Int)) x:=by
  rw[hs];exact ZGU hx.1 (by omega) hbp.1 hbp.2
 rw[hc,ZI0 k (by omega) ⟨hb.1,by omega⟩ hx (by omega),Int.emod_eq_of_lt hbp.1 hbp.2];omega
def w8(b0 b1 b2 b3 b4 b5 b6 b7:Int):Int:=
 ibin .or .u64 (ibin .or .u64 (ibin .or .u64 (ibin .or .u64 (ibin .or .u64 (ibin .or .u64 (ibin .or .u64 (ibin .or .u64 0 (ibin .shl .u64 (IntKind.wrap .u64 b0) 0)) (ibin .shl .u64 (IntKind.wrap .u64 b1) 8)) (ibin .shl .u64 (IntKind.wrap .u64 b2) 16)) (ibin .shl .u64 (IntKind.wrap .u64 b3) 24)) (ibin .shl .u64 (IntKind.wrap .u64 b4) 32)) (ibin .shl .u64 (IntKind.wrap .u64 b5) 40)) (ibin .shl .u64 (IntKind.wrap .u64 b6) 48)) (ibin .shl .u64 (IntKind.wrap .u64 b7) 56)
abbrev By(b:Int):Prop:=0≤b∧b≤255
theorem Zt7{b0 b1 b2 b3 b4 b5 b6 b7:Int}(h0:By b0)(h1:By b1)(h2:By b2)(h3:By b3)(h4:By b4)(h5:By b5)(h6:By b6)(h7:By b7):
  w8 b0 b1 b2 b3 b4 b5 b6 b7=b0+b1*256+b2*65536+b3*16777216+b4*4294967296+b5*1099511627776+b6*281474976710656+b7*72057594037927936:=by
 have e0:=Ziv (x:=0) 0 (by decide) (by decide) h0;have e1:=Ziv (x:=b0) 8 (by decide) (by rw[show (2:Int)^8=256 from by decide];omega) h1;have e2:=Ziv (x:=b0+b1*256) 16 (by decide) (by rw[show (2:Int)^16=65536 from by decide];omega) h2;have e3:=Ziv (x:=b0+b1*256+b2*65536) 24 (by decide) (by rw[show (2:Int)^24=16777216 from by decide];omega) h3;have e4:=Ziv (x:=b0+b1*256+b2*65536+b3*16777216) 32 (by decide) (by rw[show (2:Int)^32=4294967296 from by decide];omega) h4;have e5:=Ziv (x:=b0+b1*256+b2*65536+b3*16777216+b4*4294967296) 40 (by decide) (by rw[show (2:Int)^40=1099511627776 from by decide];omega) h5;have e6:=Ziv (x:=b0+b1*256+b2*65536+b3*16777216+b4*4294967296+b5*1099511627776) 48 (by decide) (by rw[show (2:Int)^48=281474976710656 from by decide];omega) h6;have e7:=Ziv (x:=b0+b1*256+b2*65536+b3*16777216+b4*4294967296+b5*1099511627776+b6*281474976710656) 56 (by decide) (by rw[show (2:Int)^56=72057594037927936 from by decide];omega) h7;rw[show (2:Int)^8=256 from by decide] at e1;rw[show (2:Int)^16=65536 from by decide] at e2;rw[show (2:Int)^24=16777216 from by decide] at e3;rw[show (2:Int)^32=4294967296 from by decide] at e4;rw[show (2:Int)^40=1099511627776 from by decide] at e5;rw[show (2:Int)^48=281474976710656 from by decide] at e6;rw[show (2:Int)^56=72057594037927936 from by decide] at e7;rw[show (2:Int)^0=1 from by decide,Int.zero_add,Int.mul_one] at e0;have e0':ibin .or .u64 0 (ibin .shl .u64 (IntKind.wrap .u64 b0) 0)=b0:=e0;have e1':ibin .or .u64 b0 (ibin .shl .u64 (IntKind.wrap .u64 b1) 8)=_:=e1;have e2':ibin .or .u64 (b0+b1*256) (ibin .shl .u64 (IntKind.wrap .u64 b2) 16)=_:=e2;have e3':ibin .or .u64 (b0+b1*256+b2*65536) (ibin .shl .u64 (IntKind.wrap .u64 b3) 24)=_:=e3;have e4':ibin .or .u64 (b0+b1*256+b2*65536+b3*16777216) (ibin .shl .u64 (IntKind.wrap .u64 b4) 32)=_:=e4;have e5':ibin .or .u64 (b0+b1*256+b2*65536+b3*16777216+b4*4294967296) (ibin .shl .u64 (IntKind.wrap .u64 b5) 40)=_:=e5;have e6':ibin .or .u64 (b0+b1*256+b2*65536+b3*16777216+b4*4294967296+b5*1099511627776) (ibin .shl .u64 (IntKind.wrap .u64 b6) 48)=_:=e6;have e7':ibin .or .u64 (b0+b1*256+b2*65536+b3*16777216+b4*4294967296+b5*1099511627776+b6*281474976710656) (ibin .shl .u64 (IntKind.wrap .u64 b7) 56)=_:=e7;unfold w8;rw[e0',e1',e2',e3',e4',e5',e6',e7']
theorem ZGV(N f:Nat)(a0 a1 a2 a3 a4 a5 a6 a7 a8 a9 a10 a11 a12 a13 a14 a15 a16 a17 a18 a19 a20 a21 a22 a23 a24 a25 a26 a27 a28 a29 a30 a31:Int):
  loopF (Zei N) (f+33) (((),(),[a0,a1,a2,a3,a4,a5,a6,a7,a8,a9,a10,a11,a12,a13,a14,a15,a16,a17,a18,a19,a20,a21,a22,a23,a24,a25,a26,a27,a28,a29,a30,a31],0),((),[0,0,0,0]))=
   some (.inl (((),()),((),[w8 a0 a1 a2 a3 a4 a5 a6 a7,w8 a8 a9 a10 a11 a12 a13 a14 a15,w8 a16 a17 a18 a19 a20 a21 a22 a23,w8 a24 a25 a26 a27 a28 a29 a30 a31]))):=by kernel_rfl
theorem list32{a:LI}(h:a.length=32):∃ a0 a1 a2 a3 a4 a5 a6 a7 a8 a9 a10 a11 a12 a13 a14 a15 a16 a17 a18 a19 a20 a21 a22 a23 a24 a25 a26 a27 a28 a29 a30 a31,a=[a0,a1,a2,a3,a4,a5,a6,a7,a8,a9,a10,a11,a12,a13,a14,a15,a16,a17,a18,a19,a20,a21,a22,a23,a24,a25,a26,a27,a28,a29,a30,a31]:=by
 match a,h with
 | [a0,a1,a2,a3,a4,a5,a6,a7,a8,a9,a10,a11,a12,a13,a14,a15,a16,a17,a18,a19,a20,a21,a22,a23,a24,a25,a26,a27,a28,a29,a30,a31],_=>exact⟨a0,a1,a2,a3,a4,a5,a6,a7,a8,a9,a10,a11,a12,a13,a14,a15,a16,a17,a18,a19,a20,a21,a22,a23,a24,a25,a26,a27,a28,a29,a30,a31,rfl⟩
theorem num8{b0 b1 b2 b3 b4 b5 b6 b7:Int}(h0:By b0)(h1:By b1)(h2:By b2)(h3:By b3)(h4:By b4)(h5:By b5)(h6:By b6)(h7:By b7)(r:LI):
  (numB (b0::b1::b2::b3::b4::b5::b6::b7::r):Int)=(b0+b1*256+b2*65536+b3*16777216+b4*4294967296+b5*1099511627776+b6*281474976710656+b7*72057594037927936)+18446744073709551616*(numB r:Int):=by
 have nat:∀ {b:Int},By b→∃ n:Nat,b=(n:Int):=fun {b} h=>⟨b.toNat,by have:=h.1;omega⟩
 obtain⟨n0,rfl⟩:=nat h0;obtain⟨n1,rfl⟩:=nat h1;obtain⟨n2,rfl⟩:=nat h2;obtain⟨n3,rfl⟩:=nat h3;obtain⟨n4,rfl⟩:=nat h4;obtain⟨n5,rfl⟩:=nat h5;obtain⟨n6,rfl⟩:=nat h6;obtain⟨n7,rfl⟩:=nat h7;simp only[numB,Int.toNat_natCast];generalize numB r=m;omega
theorem from_k(N:Nat)(hN:33≤N){a:LI}(ha:L32 a):∃ s,ZgF N a=some s∧U4 s∧v4 s=(numB a:Int):=by
 obtain⟨hl,hb⟩:=ha;obtain⟨a0,a1,a2,a3,a4,a5,a6,a7,a8,a9,a10,a11,a12,a13,a14,a15,a16,a17,a18,a19,a20,a21,a22,a23,a24,a25,a26,a27,a28,a29,a30,a31,rfl⟩:=list32 hl;simp only[List.forall_mem_cons] at hb;obtain⟨h0,h1,h2,h3,h4,h5,h6,h7,h8,h9,h10,h11,h12,h13,h14,h15,h16,h17,h18,h19,h20,h21,h22,h23,h24,h25,h26,h27,h28,h29,h30,h31,-⟩:=hb;obtain⟨f,rfl⟩:∃ f,N=f+33:=⟨N-33,by omega⟩;refine⟨[w8 a0 a1 a2 a3 a4 a5 a6 a7,w8 a8 a9 a10 a11 a12 a13 a14 a15,w8 a16 a17 a18 a19 a20 a21 a22 a23,w8 a24 a25 a26 a27 a28 a29 a30 a31],?_,⟨_,_,_,_,rfl,?_,?_,?_,?_⟩,?_⟩
 ·unfold ZgF;simp only[ZGV,mo]
 ·rw[Zt7 h0 h1 h2 h3 h4 h5 h6 h7];unfold U;omega
 ·rw[Zt7 h8 h9 h10 h11 h12 h13 h14 h15];unfold U;omega
 ·rw[Zt7 h16 h17 h18 h19 h20 h21 h22 h23];unfold U;omega
 ·rw[Zt7 h24 h25 h26 h27 h28 h29 h30 h31];unfold U;omega
 ·rw[v4_mk,Zt7 h0 h1 h2 h3 h4 h5 h6 h7,Zt7 h8 h9 h10 h11 h12 h13 h14 h15,Zt7 h16 h17 h18 h19 h20 h21 h22 h23,Zt7 h24 h25 h26 h27 h28 h29 h30 h31,num8 h0 h1 h2 h3 h4 h5 h6 h7,num8 h8 h9 h10 h11 h12 h13 h14 h15,num8 h16 h17 h18 h19 h20 h21 h22 h23,num8 h24 h25 h26 h27 h28 h29 h30 h31];rw[show ((numB []:Nat):Int)=0 from rfl];generalize a0+a1*256+a2*65536+a3*16777216+a4*4294967296+a5*1099511627776+a6*281474976710656+a7*72057594037927936=A;generalize a8+a9*256+a10*65536+a11*16777216+a12*4294967296+a13*1099511627776+a14*281474976710656+a15*72057594037927936=B;generalize a16+a17*256+a18*65536+a19*16777216+a20*4294967296+a21*1099511627776+a22*281474976710656+a23*72057594037927936=C;generalize a24+a25*256+a26*65536+a27*16777216+a28*4294967296+a29*1099511627776+a30*281474976710656+a31*72057594037927936=D;omega
theorem dk_k(N:Nat)(hN:33≤N){a:LI}(ha:L32 a):(numB a<ordl∧∃ s,Zgi N a=some (s,0)∧Lm s (numB a))∨(¬ numB a<ordl∧Zgi N a=some ([0,0,0,0],3)):=by
 obtain⟨s,h1,h2,h3⟩:=from_k N hN ha;obtain⟨r,h4,h5⟩:=sleast' h2;unfold Zgi;simp only[h1,h4,mo];have hsc:sc s=numB a%ordl:=by
  show (v4 s).toNat%ordl=_;rw[h3,Int.toNat_natCast]
 by_cases hlt:numB a<ordl
 ·have hL:Lm s (numB a):=⟨h2,h3,hlt⟩;have e:r=s:=by
   rw[hsc,Nat.mod_eq_of_lt hlt] at h5;exact h5.uniq hL
  refine .inl ⟨hlt,s,?_,hL⟩;simp[e]
 ·have e:r≠s:=by
   rintro rfl
   have:=h5.v;rw[h3] at this;have h6:=h5.lt;omega
  refine .inr ⟨hlt,?_⟩;simp[e]
end Pr
namespace Dr
open Pr
theorem wrap_by{b:Int}(hb:By b):IntKind.wrap .u64 b=b:=by
 have hm:∀ y:Int,IntKind.wrap .u64 y=y%18446744073709551616:=fun y=>by simp[IntKind.wrap,IntKind.signed,IntKind.bits]
 have h1:=hb.1;have h2:=hb.2;rw[hm];omega
theorem ZyM{w b:Int}(hw:0≤w∧w<72057594037927936)(hb:By b):ibin .or .u64 (ibin .shl .u64 w 8) (IntKind.wrap .u64 b)=w*256+b:=by
 have h1:=hb.1;have h2:=hb.2;rw[wrap_by hb];have e:=ZI0 (x:=w) (w:=b) 8 (by decide) ⟨hw.1,by omega⟩ (by rw[show (2:Int)^8=256 from by decide];omega) (by omega);rw[show (2:Int)^8=256 from by decide] at e;have e':ibin .or .u64 (ibin .shl .u64 w 8) b=w*256%18446744073709551616+b:=e;rw[e',Int.emod_eq_of_lt (by omega) (by omega)]
def r8(b0 b1 b2 b3 b4 b5 b6 b7:Int):Int:=
 ibin .or .u64 (ibin .shl .u64 (ibin .or .u64 (ibin .shl .u64 (ibin .or .u64 (ibin .shl .u64 (ibin .or .u64 (ibin .shl .u64 (ibin .or .u64 (ibin .shl .u64 (ibin .or .u64 (ibin .shl .u64 (ibin .or .u64 (ibin .shl .u64 (ibin .or .u64 (ibin .shl .u64 0 8) (IntKind.wrap .u64 b7)) 8) (IntKind.wrap .u64 b6)) 8) (IntKind.wrap .u64 b5)) 8) (IntKind.wrap .u64 b4)) 8) (IntKind.wrap .u64 b3)) 8) (IntKind.wrap .u64 b2)) 8) (IntKind.wrap .u64 b1)) 8) (IntKind.wrap .u64 b0)
theorem Zt8{b0 b1 b2 b3 b4 b5 b6 b7:Int}(h0:By b0)(h1:By b1)(h2:By b2)(h3:By b3)(h4:By b4)(h5:By b5)(h6:By b6)(h7:By b7):
  r8 b0 b1 b2 b3 b4 b5 b6 b7=b0+b1*256+b2*65536+b3*16777216+b4*4294967296+b5*1099511627776+b6*281474976710656+b7*72057594037927936:=by
 unfold r8;have a0:=h0.1;have c0:=h0.2;have a1:=h1.1;have c1:=h1.2;have a2:=h2.1;have c2:=h2.2;have a3:=h3.1;have c3:=h3.2;have a4:=h4.1;have c4:=h4.2;have a5:=h5.1;have c5:=h5.2;have a6:=h6.1;have c6:=h6.2;have a7:=h7.1;have c7:=h7.2;rw[ZyM (w:=0) (by decide) h7,ZyM (by omega) h6,ZyM (by omega) h5,ZyM (by omega) h4,ZyM (by omega) h3,ZyM (by omega) h2,ZyM (by omega) h1,ZyM (by omega) h0];omega
theorem ZIl(N f:Nat)(a0 a1 a2 a3 a4 a5 a6 a7 a8 a9 a10 a11 a12 a13 a14 a15 a16 a17 a18 a19 a20 a21 a22 a23 a24 a25 a26 a27 a28 a29 a30 a31:Int):
  loopF (Zfj N) (f+33) (((),(),(),31),([a0,a1,a2,a3,a4,a5,a6,a7,a8,a9,a10,a11,a12,a13,a14,a15,a16,a17,a18,a19,a20,a21,a22,a23,a24,a25,a26,a27,a28,a29,a30,a31],(),[0,0,0,0]))=
   some (.inl (((),()),((),[r8 a0 a1 a2 a3 a4 a5 a6 a7,r8 a8 a9 a10 a11 a12 a13 a14 a15,r8 a16 a17 a18 a19 a20 a21 a22 a23,r8 a24 a25 a26 a27 a28 a29 a30 a31]))):=by kernel_rfl
theorem lmb_k(N:Nat)(hN:33≤N){a:LI}(ha:L32 a):∃ s,Zh1 N a=some s∧U4 s∧v4 s=(numB a:Int):=by
 obtain⟨hl,hb⟩:=ha;obtain⟨a0,a1,a2,a3,a4,a5,a6,a7,a8,a9,a10,a11,a12,a13,a14,a15,a16,a17,a18,a19,a20,a21,a22,a23,a24,a25,a26,a27,a28,a29,a30,a31,rfl⟩:=list32 hl;simp only[List.forall_mem_cons] at hb;obtain⟨h0,h1,h2,h3,h4,h5,h6,h7,h8,h9,h10,h11,h12,h13,h14,h15,h16,h17,h18,h19,h20,h21,h22,h23,h24,h25,h26,h27,h28,h29,h30,h31,-⟩:=hb;obtain⟨f,rfl⟩:∃ f,N=f+33:=⟨N-33,by omega⟩;refine⟨[r8 a0 a1 a2 a3 a4 a5 a6 a7,r8 a8 a9 a10 a11 a12 a13 a14 a15,r8 a16 a17 a18 a19 a20 a21 a22 a23,r8 a24 a25 a26 a27 a28 a29 a30 a31],?_,⟨_,_,_,_,rfl,?_,?_,?_,?_⟩,?_⟩
 ·unfold Zh1;simp only[ZIl,mo]
 ·rw[Zt8 h0 h1 h2 h3 h4 h5 h6 h7];unfold U;omega
 ·rw[Zt8 h8 h9 h10 h11 h12 h13 h14 h15];unfold U;omega
 ·rw[Zt8 h16 h17 h18 h19 h20 h21 h22 h23];unfold U;omega
 ·rw[Zt8 h24 h25 h26 h27 h28 h29 h30 h31];unfold U;omega
 ·rw[v4_mk,Zt8 h0 h1 h2 h3 h4 h5 h6 h7,Zt8 h8 h9 h10 h11 h12 h13 h14 h15,Zt8 h16 h17 h18 h19 h20 h21 h22 h23,Zt8 h24 h25 h26 h27 h28 h29 h30 h31,num8 h0 h1 h2 h3 h4 h5 h6 h7,num8 h8 h9 h10 h11 h12 h13 h14 h15,num8 h16 h17 h18 h19 h20 h21 h22 h23,num8 h24 h25 h26 h27 h28 h29 h30 h31];rw[show ((numB []:Nat):Int)=0 from rfl];generalize a0+a1*256+a2*65536+a3*16777216+a4*4294967296+a5*1099511627776+a6*281474976710656+a7*72057594037927936=A;generalize a8+a9*256+a10*65536+a11*16777216+a12*4294967296+a13*1099511627776+a14*281474976710656+a15*72057594037927936=B;generalize a16+a17*256+a18*65536+a19*16777216+a20*4294967296+a21*1099511627776+a22*281474976710656+a23*72057594037927936=C;generalize a24+a25*256+a26*65536+a27*16777216+a28*4294967296+a29*1099511627776+a30*281474976710656+a31*72057594037927936=D;omega
theorem dkr(N:Nat)(hN:33≤N){a:LI}(ha:L32 a):(numB a<ordl∧∃ s,Zdk N a=some (s,0)∧Lm s (numB a))∨(¬ numB a<ordl∧Zdk N a=some ([0,0,0,0],3)):=by
 obtain⟨s,h1,h2,h3⟩:=lmb_k N hN ha;have hl:U4 ZhX:=⟨_,_,_,_,rfl,⟨by decide,by decide⟩,⟨by decide,by decide⟩,⟨by decide,by decide⟩,⟨by decide,by decide⟩⟩;have hlv:v4 ZhX=(ordl:Int):=by decide
 have hb:=ZIm h2 hl;rw[h3,hlv] at hb;unfold Zdk;simp only[h1,mo];by_cases hlt:numB a<ordl
 ·have e:ZcO s ZhX=true:=hb.2 (by omega);exact .inl ⟨hlt,s,by rw[e];rfl,h2,h3,hlt⟩
 ·have e:ZcO s ZhX=false:=by
   cases hq:ZcO s ZhX with
   |false=>rfl
   |true=>have:=hb.1 hq;omega
  exact .inr ⟨hlt,by rw[e];rfl⟩
end Dr
namespace Dr
open Pr
def ch(B:LI)(i:Nat):LI:=(B.drop (32*i)).take 32
abbrev RM:Type:=Bool×(Nat×Nat×Nat)×Int
abbrev RR:Type:=(Nat×Int×Int)×(Nat×LI)
def Sp(n i:Nat)(E:Nat→Int)(m:RM):Prop:=((∀ j,j<i→E j=0)∧∃ z,m=(true,(32*i,32*n-32*i,z),0))∨(∃ j,j<i∧(∀ k,k<j→E k=0)∧E j≠0∧∃ q,m=(true,q,E j))
def Sr(B:LI)(n i:Nat)(E:Nat→Int)(m:RR):Prop:=((∀ j,j<i→E j=0)∧m=((32*n,((32*i:Nat):Int),0),(32*n,B)))∨(∃ j,j<i∧(∀ k,k<j→E k=0)∧E j≠0∧∃ t:Int,m=((32*n,t,E j),(32*n,B)))
theorem Sp.good{n i:Nat}{E:Nat→Int}{z:Nat}(h:∀ j,j<i→E j=0)(he:E i=0):Sp n (i+1) E (true,(32*i+32,32*n-32*i-32,z),0):=
 .inl ⟨fun j hj=>by
  rcases Nat.lt_succ_iff_lt_or_eq.1 hj with h'|rfl
  ·exact h j h'
  ·exact he,z,by rw[show 32*(i+1)=32*i+32 by omega,show 32*n-(32*i+32)=32*n-32*i-32 by omega]⟩
section
variable {N:Nat} (hN:33≤N) {B:LI} {n i:Nat} (hb:∀ x∈B,0≤x∧x≤255) (hl:B.length=32*n) (hi:i<n) {E:Nat→Int} {m:RM} (h:Sp n i E m)
include hN hb hl hi h
end
theorem Sr.good{B:LI}{n i:Nat}{E:Nat→Int}(h:∀ j,j<i→E j=0)(he:E i=0):Sr B n (i+1) E ((32*n,((32*i:Nat):Int)+32,0),(32*n,B)):=
 .inl ⟨fun j hj=>by
  rcases Nat.lt_succ_iff_lt_or_eq.1 hj with h'|rfl
  ·exact h j h'
  ·exact he,by rw[show ((32*(i+1):Nat):Int)=((32*i:Nat):Int)+32 by omega]⟩
theorem i_add{a b:Int}(h0: -1000000000≤a)(h1:a≤1000000000)(h2: -1000000000≤b)(h3:b≤1000000000):ibin .add .i64 a b=a+b:=Ref.i_add (by omega) (by omega)
theorem i_sub{a b:Int}(h0: -1000000000≤a)(h1:a≤1000000000)(h2: -1000000000≤b)(h3:b≤1000000000):ibin .sub .i64 a b=a-b:=by
 have e1:=Ref.i_add (a:=a) (b:= -b) (by omega) (by omega);have e2:ibin .add .i64 a (-b)=IntKind.wrap .i64 (a+ -b):=rfl;have e3:ibin .sub .i64 a b=IntKind.wrap .i64 (a-b):=rfl;rw[e3,show a-b=a+ -b by omega,← e2,e1]
section
variable {N:Nat} (hN:33≤N) {B:LI} {n i:Nat} (hb:∀ x∈B,0≤x∧x≤255) (hl:B.length=32*n) (hi:i<n) (hn:n≤1000000) {E:Nat→Int} {m:RR} (h:Sr B n i E m)
include hN hb hl hi hn h
end
end Dr
end Go.Vx
