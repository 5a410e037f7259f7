import Derived.Test.YtoionfdfofmplaaGreatDoorVxH
import Derived.Great.BuildSlice
import Derived.Laws.OwnMore
import Derived.Laws.IdiomStrings
import Derived.Lib.SliceRun
import Derived.Lib.AppendZeros
set_option autoImplicit false
set_option linter.unusedVariables false
set_option linter.unusedSimpArgs false
namespace Go.Vx
open Go Go.RowKit
theorem ZCZ{c:Tc}{s:Nat}:(l:List c.T)→(∀ x∈l,(c.cs x).length=s)→(lo n:Nat)→∀ j x,(((l.drop lo).take n).flatMap c.cs)[j]? =some x→(l.flatMap c.cs)[lo*s+j]? =some x
 |l,hs,0,n,j,x,h=>by
  rw[Nat.zero_mul,Nat.zero_add];rw[List.drop_zero] at h;have e:l.flatMap c.cs=(l.take n).flatMap c.cs++(l.drop n).flatMap c.cs:=by rw[← List.flatMap_append,List.take_append_drop]
  have hj:j<((l.take n).flatMap c.cs).length:=(List.getElem?_eq_some_iff.1 h).1;rw[e,List.getElem?_append_left hj];exact h
 | [],hs,lo+1,n,j,x,h=>by simp at h
 |y::l,hs,lo+1,n,j,x,h=>by
  rw[List.drop_succ_cons] at h;have:=ZCZ l (fun z hz=>hs z (by simp[hz])) lo n j x h;rw[List.flatMap_cons,List.getElem?_append_right (by rw[hs y (by simp),Nat.succ_mul];omega),hs y (by simp)];rw[← this]
  congr 1
  rw[Nat.succ_mul];omega
section
variable {P:Program} {ρ:Rho}
def RowSh(P:Program)(te:TypeId):AV→Prop
 | .ints k _ _=>P.underlying te=some (.int k)∧P.cellsOf te=1
 | .agg l=>HasA P l te
 | .vec c _=>c.fit P te=true
 |_=>False
theorem ZjH{te:TypeId}{T:AV}(h:RowSh P te T)(ok:OK P ρ T):(cells P ρ T).length=rowN T*P.cellsOf te:=by
 cases T<;>simp only[RowSh] at h
 case ints k n l=>
  simp only[OK] at ok;rw[ZaZ,List.length_map,ok.1,h.2,Nat.mul_one];rfl
 case agg l=>
  simp only[OK] at ok;rw[Zcs,len_A P ρ l te h ok];rfl
 case vec c l=>
  simp only[OK] at ok;rw[ZcD,Zzj P h ok];rfl
theorem Zxf{te:TypeId}{T:AV}(h:RowSh P te T):∀ z∈cells P ρ T,z.oneCell'=true:=by
 intro z hz;cases T<;>simp only[RowSh] at h
 case ints k n l=>
  rw[ZaZ] at hz;obtain⟨q,-,rfl⟩:=List.mem_map.1 hz;rfl
 case agg l=>
  rw[Zcs] at hz;exact one_A P ρ l te h z hz
 case vec c l=>
  rw[ZcD] at hz;obtain⟨x,-,hx⟩:=List.mem_flatMap.1 hz;rw[← Zqw P ρ] at hx;exact Zt0 P ρ _ te (Tc.fit_has h x) z hx
end
section
variable {P:Program} {w0:Base} {ro:Nat} {ρ:Rho} {tm mem:List (Nat×AV)} {a:Act} {w:World} (S:Sim P w0 ro ρ tm mem a.tmps w)
 {gl:Nat→Option AV} (hgl:GL P ρ gl)
theorem ZEA{T U:AV}{lo n:Nat}{nm:Nm}(hN:HasN P nm T)(hr:nm.row=true)(ok:OK P ρ T)(h:cutT lo n T=some U)(hle:lo+n≤nm.cap):
  RowSh P nm.ty U∧OK P ρ U∧rowN U=n∧LiesAt (cells P ρ T) (lo*P.cellsOf nm.ty) (cells P ρ U)∧pl U=true:=by
 simp only[HasN,hr,if_true] at hN;cases T<;>simp only[cutT,oE] at h<;>try (cases h;done)
 case ints k n0 l=>
  subst h;simp only at hN;simp only[OK] at ok;obtain⟨rfl,h1,h2⟩:=hN;refine⟨⟨h1,h2⟩,?_,rfl,?_,rfl⟩
  ·simp only[OK];refine⟨by simp;omega,fun x hx=>ok.2 x (List.mem_of_mem_drop (List.mem_of_mem_take hx))⟩
  ·intro j x hx;rw[ZaZ] at hx ⊢;rw[h2,Nat.mul_one];simp only[List.getElem?_map] at hx ⊢;rw[List.getElem?_take] at hx;split at hx
   ·rw[List.getElem?_drop] at hx;exact hx
   ·simp at hx
 case vec c l=>
  subst h;simp only at hN;simp only[OK] at ok;obtain⟨h0,h1⟩:=hN;refine⟨h1,?_,by simp[rowN];omega,?_,rfl⟩
  ·simp only[OK];exact fun x hx=>ok x (List.mem_of_mem_drop (List.mem_of_mem_take hx))
  ·intro j x hx;rw[ZcD] at hx ⊢;exact ZCZ l (fun y hy=>ZvV P h1 (ok y hy)) lo n j x hx
theorem ZFr{c:Tc}{te:TypeId}{x:List c.T}(hf:c.fit P te=true)(hx:∀ y∈x,c.ok y):RowSh P te (flatT c x)∧OK P ρ (flatT c x)∧rowN (flatT c x)=x.length∧cells P ρ (flatT c x)=x.flatMap c.cs∧pl (flatT c x)=true:=by
 cases c with
 |int k=>
  obtain⟨h1,h2⟩:=Zmr (show fitInt P k te=true from hf);refine⟨⟨h1,h2⟩,?_,rfl,?_,rfl⟩
  ·simp only[flatT,OK];exact⟨trivial,fun y hy=>hx y hy⟩
  ·simp only[flatT];rw[ZaZ];clear h1 h2 hf
   induction x with
   |nil=>rfl
   |cons y x ih=>rw[List.map_cons,List.flatMap_cons,ih (fun z hz=>hx z (by simp[hz]))];rfl
 |_=>exact⟨hf,by simpa only[flatT,OK] using hx,rfl,ZcD P ρ _ _,rfl⟩
include S in
theorem Zye{get:Nat→Option AV}(hget:∀ b T,get b=some T→lk b mem=some T){v U:AV}{te:TypeId}(h:rowC get v=some (U,te))(ok:OK P ρ v):
  RowSh P te U∧OK P ρ U∧pl U=true∧((rowN U:Nat):Int)≤9223372036854775807∧
  ((∃ z,den P ρ v= .slice z 0 0∧rowN U=0∧cells P ρ U=[])∨∃ b o q,den P ρ v= .slice (some ⟨b,o,none⟩) (rowN U) q∧b<w.heap.size∧rowN U≤q∧(q:Int)≤9223372036854775807∧∀ j u,(cells P ρ U)[j]? =some u→w.cell? ⟨b,o+j,none⟩=some u):=by
 cases v<;>simp only[rowC] at h<;>try (cases h;done)
 case gs b n te'=>
  split at h
  ·rename_i T hT;obtain⟨c4,h⟩:=Zac h;simp only[oE,pE] at h;obtain⟨rfl,rfl⟩:=h;obtain⟨nm,hb,hN,okT,hs,hcell⟩:=S.cell b T (hget b T hT);simp only[OK] at ok;obtain⟨nm',hb',hr,ht',hn',hle,hnon,hmax⟩:=ok;rw[hb] at hb';obtain rfl:=oI hb';have hsh:RowSh P nm.ty T∧rowN T=nm.cap:=by
    simp only[HasN,hr,if_true] at hN;cases T<;>simp only at hN<;>first|exact⟨hN.2,hN.1⟩|exact hN.elim|(simp[pl] at c4;done)
   rw[ht'] at hsh;refine⟨hsh.1,okT,c4,by omega,?_⟩;cases hq:nm.non with
   |true=>
    left;refine⟨nm.K.na,by simp[den,hb,gsV,hq],by have:=hnon hq;omega,?_⟩;rcases hs with⟨z,-⟩|⟨-,z⟩
    ·rw[hq] at z;cases z
    ·exact z
   |false=>
    right;have hlt:nm.blk<w.heap.size:=by
     rcases hs with⟨-,z⟩|⟨z,-⟩
     ·exact z
     ·rw[hq] at z;cases z
    exact⟨nm.blk,nm.off,nm.tot,by simp[den,hb,gsV,hq,hn',hsh.2],hlt,by omega,hmax,hcell⟩
  ·simp at h
 case gp b lo n te' nn z=>
  split at h
  ·rename_i T hT;split at h
   ·rename_i U' hU;simp only[oE,pE] at h;obtain⟨rfl,rfl⟩:=h;obtain⟨nm,hb,hN,okT,hs,hcell⟩:=S.cell b T (hget b T hT);simp only[OK] at ok;obtain⟨nm',hb',-,hr,ht',hle,hct,hnon,hmax⟩:=ok;rw[hb] at hb';obtain rfl:=oI hb';obtain⟨k1,k2,k3,k4,k5⟩:=ZEA (ρ:=ρ) hN hr okT hU hle;rw[ht'] at k1 k4;refine⟨k1,k2,k5,by omega,?_⟩;cases hq:nm.non with
    |true=>
     left;refine⟨nm.K.na,by simp[den,hb,gpV,hq],by have:=hnon hq;omega,?_⟩;have hnil:cells P ρ T=[]:=by
      rcases hs with⟨z,-⟩|⟨-,z⟩
      ·rw[hq] at z;cases z
      ·exact z
     rw[hnil] at k4;cases hc:cells P ρ U' with
     |nil=>rfl
     |cons x r=>have:=k4 0 x (by rw[hc];rfl);simp at this
    |false=>
     right;have hbl:nm.blk<w.heap.size:=by
      rcases hs with⟨-,z⟩|⟨z,-⟩
      ·exact z
      ·rw[hq] at z;cases z
     by_cases hlt:nm.tot=lo
     ·have hn0:n=0:=by omega
      refine⟨nm.blk,nm.off+z*P.cellsOf te',nm.tot-lo,by simp[den,hb,gpV,hq,hlt,k3,ZbG],hbl,by omega,by omega,fun j u hu=>?_⟩;have hl:=ZjH (ρ:=ρ) k1 k2;rw[k3,hn0,Nat.zero_mul] at hl;rw[List.eq_nil_of_length_eq_zero hl] at hu;simp at hu
     ·refine⟨nm.blk,nm.off+lo*P.cellsOf te',nm.tot-lo,by simp[den,hb,gpV,hq,hlt,k3,ZbG],hbl,by omega,by omega,fun j u hu=>?_⟩;rw[Nat.add_assoc];exact hcell _ u (k4 j u hu)
   ·simp at h
  ·simp at h
 case sl b p off len cap te'=>
  split at h
  ·rename_i T hT;split at h
   ·rename_i k0 n0 l0 hT';obtain⟨hlen,h⟩:=Zac h;simp only[oE,pE] at h;obtain⟨rfl,rfl⟩:=h;simp only[OK] at ok;obtain⟨nm,of,n,hb,hbase,hcn,hlc,hmx⟩:=ok;obtain⟨k1,k2,k3,k4,k5,k6⟩:=Zxg S (hget b T hT) hb hbase hT';obtain⟨nm',hb',hN,okT,hs,hcell⟩:=S.cell b T (hget b T hT);rw[hb] at hb';obtain rfl:=oI hb';have hlen':0<len:=by simpa using hlen
    have hbl:nm.blk<w.heap.size:=by
     rcases hs with⟨-,z⟩|⟨-,z⟩
     ·exact z
     ·exfalso;have h0:0<(cells P ρ (.ints k0 n0 l0)).length:=by rw[ZaZ,List.length_map];omega
      have h1:=k6 0 _ (List.getElem?_eq_getElem h0);rw[z] at h1;simp at h1
    refine⟨⟨k4,k5⟩,?_,rfl,by simp only[rowN];omega,.inr ⟨nm.blk,nm.off+(of+off),cap,?_,hbl,hlc,hmx,fun j u hu=>?_⟩⟩
    ·simp only[OK];exact⟨by simp;omega,fun x hx=>k3 x (List.mem_of_mem_drop (List.mem_of_mem_take hx))⟩
    ·rw[Zqv hb hbase];simp[rowN,k5]
    ·rw[ZaZ] at hu;simp only[List.getElem?_map] at hu;rw[List.getElem?_take] at hu;split at hu
     ·rw[List.getElem?_drop] at hu;have h1:(cells P ρ (.ints k0 n0 l0))[off+j]? =some u:=by rw[ZaZ,List.getElem?_map];exact hu
      have h2:=hcell _ u (k6 (off+j) u h1);rw[show nm.off+(of+off)+j=nm.off+(of+(off+j)) by omega];exact h2
     ·simp at hu
   ·simp at h
  ·simp at h
 case dv b p tq d x=>
  cases d<;>simp only at h<;>try (cases h;done)
  case tc c=>
   simp only[oE,pE] at h;obtain⟨rfl,rfl⟩:=h;simp only[OK] at ok;obtain⟨nm,l,hb,hl,hf,⟨hadr,hlen,hmax,hrep⟩,-⟩:=ok;have hok:∀ y∈x,c.ok y:=by
    intro y hy;obtain⟨i,hi,rfl⟩:=List.getElem_of_mem hy;obtain⟨b',o',-,h2⟩:=hrep i _ (List.getElem?_eq_getElem hi);exact h2.1
   obtain⟨k1,k2,k3,k4,k5⟩:=ZFr (ρ:=ρ) (x:=x) hf hok;refine⟨k1,k2,k5,by rw[k3];omega,?_⟩;have hv:den P ρ (.dv b p tq (.tc c) x)= .slice l.1 x.length l.2:=by simp[den,hb,dvV,hl]
   rw[k3,k4];rcases hl1:l.1 with _|⟨ab,ao,asp⟩
   ·left;have h0:=hadr.1 hl1;have hx0:x=[]:=List.eq_nil_of_length_eq_zero (by omega);subst hx0;exact⟨none,by rw[hv,hl1,h0];rfl,rfl,rfl⟩
   ·rcases Nat.eq_zero_or_pos l.2 with hz0|hz0
    ·left;have hx0:x=[]:=List.eq_nil_of_length_eq_zero (by omega);subst hx0;exact⟨some ⟨ab,ao,asp⟩,by rw[hv,hl1,hz0];rfl,rfl,rfl⟩
    right;have hsp:=(hadr.2 _ hl1 hz0).1;simp only at hsp;subst hsp;refine⟨ab,ao,l.2,by rw[hv,hl1],Nat.lt_of_lt_of_le (hadr.2 _ hl1 hz0).2 (S.ex.fhs b nm hb),hlen,hmax,fun j u hu=>?_⟩;have key:∀ (x:List c.T) (o:Nat),(∀ i y,x[i]? =some y→DRep P nm.K (.tc c) ab (o+i*P.cellsOf tq) y)→∀ j u,(x.flatMap c.cs)[j]? =some u→nm.K.K ab (o+j)=some u:=by
     intro x
     induction x with
     |nil=>intro o _ j u h;simp at h
     |cons y x ih=>
      intro o h j u hj;have h0:=h 0 y rfl;have hly:(c.cs y).length=P.cellsOf tq:=ZvV P hf h0.1;rw[List.flatMap_cons] at hj;by_cases hjl:j<(c.cs y).length
      ·rw[List.getElem?_append_left hjl] at hj;have:=h0.2 j u hj
       rwa [Nat.zero_mul,Nat.add_zero] at this
      ·rw[List.getElem?_append_right (by omega)] at hj;have:=ih (o+P.cellsOf tq) (fun i z hz=>by
        have:=h (i+1) z (by simpa using hz)
        rwa [Nat.succ_mul,Nat.add_comm (i*_) _,← Nat.add_assoc] at this) _ u hj
       rw[← this]
       congr 1
       omega
    refine S.ex.froz b nm hb ab (ao+j) u (key x ao (fun i y hy=>?_) j u hu);obtain⟨b',o',h1,h2⟩:=hrep i y hy;rw[hl1] at h1;simp only[oE,Addr.mk.injEq,and_true] at h1;obtain⟨rfl,rfl⟩:=h1;exact h2
end
end Go.Vx
namespace Go.Vx
open Go Go.RowKit
section
variable {P:Program} {w0:Base} {ro:Nat} {ρ:Rho} {tm mem:List (Nat×AV)} {a:Act} {w:World} (S:Sim P w0 ro ρ tm mem a.tmps w)
 {gl:Nat→Option AV} (hgl:GL P ρ gl)
include S hgl
theorem ZzY{x:Option Operand}{d y:Nat}{α:Type}{k:Nat→Option α}{r:α}(h:bnd (evO gl tm) x d y none k=some r)(code:BoundsCode):
  ∃ i,k i=some r∧((x=none∧i=d)∨(∃ o,x=some o∧i≤y∧∀ w:World,(Instr.sliceBound (a.eval o) y code).run P w= .ok i w)):=by
 unfold bnd at h;cases x with
 |none=>exact⟨d,h,.inl ⟨rfl,rfl⟩⟩
 |some o=>
  simp only at h;split at h
  ·rename_i q i hi;replace h:=Zac h;obtain⟨hc,h⟩:=h;simp only[decide_eq_true_eq] at hc;obtain⟨h1,-⟩:=Zay S hgl hi;simp only[den] at h1;exact⟨i.toNat,h,.inr ⟨o,rfl,by omega,fun w=>by simp[Instr.sliceBound,h1,asIntOf,hc]⟩⟩
  ·simp at h
theorem Zqx{lo hi:Option Operand}{len cap:Nat}{α:Type}{k:Nat→Nat→Option α}{r:α}(isS:Bool)(hlc:len≤cap)
  (h:bnd (evO gl tm) hi len cap none (fun h=>bnd (evO gl tm) lo 0 h none fun l=>k h l)=some r):
  ∃ h l,k h l=some r∧l≤h∧h≤cap∧∀ w:World,(Instr.sliceBounds isS len cap (lo.map a.eval) (hi.map a.eval) none).run P w= .ok (l,h,cap) w:=by
 obtain⟨i,h1,h2⟩:=ZzY S hgl h (if isS then .sliceAcap else .sliceAlen);obtain⟨j,h3,h4⟩:=ZzY S hgl h1 .sliceB;refine⟨i,j,h3,?_,?_,fun w=>?_⟩
 ·rcases h4 with⟨-,rfl⟩|⟨o,-,hj,-⟩<;>omega
 ·rcases h2 with⟨-,rfl⟩|⟨o,-,hi,-⟩<;>omega
 ·unfold Instr.sliceBounds;rcases h2 with⟨rfl,rfl⟩|⟨o,rfl,-,ho⟩<;>rcases h4 with⟨rfl,rfl⟩|⟨o',rfl,-,ho'⟩<;>simp_all
variable {m:Nat} {o:Oper} {e:Eff} {next:Act→World→Prop} {Q:Exit→Act→World→Prop} (hn:∀ v ρ' w',After P ro ρ mem w m e v ρ' w'→next (a.put o.dst v) w')
include hn
theorem ZHV{t el:TypeId}{x:Operand}{lo hi:Option Operand}{b n:Nat}{p:List Nat}(ho:o.op= .slice t x lo hi none)(hx:evO gl tm x=some (.ptr b p t))(ht:P.underlying t=some (.array n el))
  (hz:0<P.cellsOf el) (hin:(n:Int)≤9223372036854775807)
  (h:bnd (evO gl tm) hi n n none (fun h=>bnd (evO gl tm) lo 0 h none fun l=>some (.val (.sl b p (bif Nat.beq n l then 0 else l) (h-l) (n-l) el)))=some e):o.wp P a w next Q:=by
 obtain⟨h1,h2⟩:=Zay S hgl hx;obtain⟨h,l,k1,k2,k3,k4⟩:=Zqx S hgl false (Nat.le_refl n) h;simp only[oE] at k1;simp only[OK] at h2;obtain⟨nm,of,hb,hp⟩:=h2;have hbase:=ZC0 hp ht;rw[Zhs hb hp] at h1;have hbq:Nat.beq n l=decide (n=l):=by
  cases hq:Nat.beq n l
  ·symm;simpa using Nat.ne_of_beq_eq_false hq
  ·symm;simpa using Zaj hq
 refine Zbf hn k1.symm ?_ ?_
 ·simp only[OK];refine⟨nm,of,n,hb,hbase,?_,by omega,by omega⟩;rw[hbq];by_cases hnl:n=l<;>simp[hnl]<;>omega
 ·rw[Zqv hb hbase];simp only[execOp,ho,h1,Instr.sliceAt,Sem.run_bind,run_underlying ht,Result.andThen_ok,Instr.sureAddr,Sem.run_pure,Option.map_none,k4,ZbF hz,hbq];by_cases hnl:n=l<;>simp[hnl,ZbG,Nat.add_assoc]
theorem ZHW{t el:TypeId}{x:Operand}{lo hi:Option Operand}{b off len cap:Nat}{p:List Nat}(ho:o.op= .slice t x lo hi none)(hx:evO gl tm x=some (.sl b p off len cap el))(ht:P.underlying t=some (.slice el))
  (hz:0<P.cellsOf el)
  (h:bnd (evO gl tm) hi len cap none (fun h=>bnd (evO gl tm) lo 0 h none fun l=>some (.val (.sl b p (bif Nat.beq cap l then off else off+l) (h-l) (cap-l) el)))=some e):o.wp P a w next Q:=by
 obtain⟨h1,h2⟩:=Zay S hgl hx;simp only[OK] at h2;obtain⟨nm,of,n,hb,hbase,hcn,hlc,hmx⟩:=h2;obtain⟨h,l,k1,k2,k3,k4⟩:=Zqx S hgl true hlc h;simp only[oE] at k1;rw[Zqv hb hbase] at h1;have hbq:Nat.beq cap l=decide (cap=l):=by
  cases hq:Nat.beq cap l
  ·symm;simpa using Nat.ne_of_beq_eq_false hq
  ·symm;simpa using Zaj hq
 refine Zbf hn k1.symm ?_ ?_
 ·simp only[OK];refine⟨nm,of,n,hb,hbase,?_,by omega,by omega⟩;rw[hbq];by_cases hnl:cap=l<;>simp[hnl]<;>omega
 ·rw[Zqv hb hbase];simp only[execOp,ho,h1,Instr.sliceAt,Instr.slice,Sem.run_bind,run_underlying ht,Result.andThen_ok,Sem.run_pure,Option.map_none,k4,ZbF hz,hbq];by_cases hnl:cap=l<;>simp[hnl,ZbG,Nat.add_assoc,Nat.add_mul]
theorem ZHX{t el:TypeId}{x:Operand}{lo hi:Option Operand}(ho:o.op= .slice t x lo hi none)(hx:evO gl tm x=some .nils)(ht:P.underlying t=some (.slice el))(hz:0<P.cellsOf el)
  (h:bnd (evO gl tm) hi 0 0 none (fun h=>bnd (evO gl tm) lo 0 h none fun _=>some (.val .nils))=some e):o.wp P a w next Q:=by
 obtain⟨h1,-⟩:=Zay S hgl hx;obtain⟨h,l,k1,k2,k3,k4⟩:=Zqx S hgl true (Nat.le_refl 0) h;simp only[oE] at k1;simp only[den] at h1;have e1:h=0:=by omega
 have e2:l=0:=by omega
 subst e1 e2;refine Zbf hn k1.symm (by simp[OK]) ?_;simp[execOp,ho,h1,Instr.sliceAt,Instr.slice,run_underlying ht,k4,ZbF hz,den]
theorem s_len{c:Call}{t:TypeId}{u:AV}{i:Int}(ho:o.op= .call c)(hcal:c.callee= .builtin .len)(hx:evL (evO gl tm) c.args.toList=some [u])(ht:c.argTypes.toList=[t])
  (hv:(∃ b p off n cap te el,u= .sl b p off n cap te∧i=n∧P.underlying t=some (.slice el))∨(∃ el,u= .nils∧i=0∧P.underlying t=some (.slice el))∨(∃ b n te el,u= .gs b n te∧i=n∧P.underlying t=some (.slice el))∨
   (∃ s,u= .str s∧i=(s.size:Int)∧P.underlying t=some .string)∨(∃ (n:Nat) (el:TypeId),i=n∧P.underlying t=some (.array n el)∧inR .i64 n=true)) (he:e= .val (.int .i64 i)):o.wp P a w next Q:=by
 obtain⟨h1,h2⟩:=ZeB S hgl hx;simp only[OKL,and_true] at h2;have hargs:c.args.map a.eval= #[den P ρ u]:=by
  rw[← Array.toArray_toList (xs:=c.args.map a.eval),Array.toList_map,h1];simp[denT]
 have hty:c.argTypes= #[t]:=by rw[← Array.toArray_toList (xs:=c.argTypes),ht]
 have main:(Builtin.len_ c.argTypes o.type (c.args.map a.eval)).run P w= .ok (.int .i64 i) w∧IntKind.i64.min≤i∧i≤IntKind.i64.max:=by
  rw[hargs,hty];have em:IntKind.i64.min= -9223372036854775808:=by decide
  have ex:IntKind.i64.max=9223372036854775807:=by decide
  rcases hv with⟨b,p,off,n,cap,te,el,rfl,rfl,hu⟩|⟨el,rfl,rfl,hu⟩|⟨b,n,te,el,rfl,rfl,hu⟩|⟨s,rfl,rfl,hu⟩|⟨n,el,rfl,hu,hr⟩
  ·simp only[OK] at h2;obtain⟨nm,of,k,hb,hbase,hcn,hlc,hmx⟩:=h2;refine⟨by simp[Builtin.len_,run_underlying hu,Zqv hb hbase,goInt],by omega,by omega⟩
  ·exact⟨by simp[Builtin.len_,run_underlying hu,den,goInt],by omega,by omega⟩
  ·simp only[OK] at h2;obtain⟨nm,hb,-,-,hn',hle,hnon,hmx⟩:=h2;refine⟨?_,by omega,by omega⟩;cases hq:nm.non with
   |true=>simp[Builtin.len_,run_underlying hu,den,hb,gsV,hq,goInt,hnon hq]
   |false=>simp[Builtin.len_,run_underlying hu,den,hb,gsV,hq,goInt]
  ·simp only[OK] at h2;exact⟨by simp[Builtin.len_,run_underlying hu,den,goInt],by omega,by omega⟩
  ·simp only[inR,decide_eq_true_eq] at hr;exact⟨by simp[Builtin.len_,run_underlying hu,goInt],hr⟩
 refine Zbf hn he (by simp only[OK];exact main.2) ?_;simp[execOp,ho,resolve,hcal,invoke,builtin,main.1,den]
omit S hgl hn in
theorem Zyf{v:AV}(h:pl v=true)(ok:OK P ρ v):cells P (fun _=>none) v=cells P ρ v∧OK P (fun _=>none) v:=by
 have k:=pl_ok P v h ok;exact⟨(ZbX P (Ext.empty ρ) v k).symm,k⟩
omit hgl hn in
theorem ZEB{get:Nat→Option AV}(hget:∀ b T,get b=some T→lk b mem=some T){v U:AV}{te:TypeId}(h:rowC get v=some (U,te))(ok:OK P ρ v):ArgAt P w (den P ρ v) (.tup [U,.clo te []])∧OK P (fun _=>none) (.tup [U,.clo te []]):=by
 obtain⟨k1,k2,k3,k4,k5⟩:=Zye S hget h ok;obtain⟨c1,c2⟩:=Zyf (ρ:=ρ) k3 k2;refine⟨?_,by simp only[OK,OKL];exact⟨c2,trivial,trivial⟩⟩;show SliceAt P w _ U te;have hN:∀ nm:Nm,nm.row=true→nm.ty=te→nm.cap=rowN U→HasN P nm U:=by
  intro nm h1 h2 h3;simp only[HasN,h1,if_true];cases U<;>simp only[RowSh] at k1<;>exact⟨by rw[h3];rfl,by rw[h2];exact k1⟩
 rcases k5 with⟨z,e1,e2,e3⟩|⟨b,o,q,e1,e5,e2,e3,e4⟩
 ·exact⟨⟨0,0,rowN U,te,true,rowN U,true,{nk with na:=z}⟩,by rw[e1,e2];rfl,rfl,rfl,rfl,Nat.le_refl _,fun _=>e2,k4,hN _ rfl rfl rfl,.inr ⟨rfl,by rw[c1,e3]⟩,fun j x hx=>by rw[c1,e3] at hx;simp at hx⟩
 ·exact⟨⟨b,o,rowN U,te,true,q,false,nk⟩,by rw[e1];rfl,rfl,rfl,rfl,e2,(fun h=>by cases h),e3,hN _ rfl rfl rfl,.inl ⟨rfl,e5⟩,fun j x hx=>e4 j x (by rw[← c1];exact hx)⟩
omit hgl hn in
theorem ZFs{get:Nat→Option AV}(hget:∀ b T,get b=some T→lk b mem=some T){v u:AV}(h:argC get v=some u)(ok:OK P ρ v):ArgAt P w (den P ρ v) u∧OK P (fun _=>none) u:=by
 have plain:∀ v:AV,pl v=true→OK P ρ v→den P ρ v=den P (fun _=>none) v∧OK P (fun _=>none) v:=by
  intro v hv ok;have k:=pl_ok P v hv ok;exact⟨(Zcm P (Ext.empty ρ) v k).1,k⟩
 cases v with
 |tup l=>simp[argC] at h
 |sl b p off len cap te=>
  simp only[argC] at h;split at h
  ·rename_i T hT;split at h
   ·rename_i k0 n0 l0 hT';obtain⟨hc,h⟩:=Zac h;simp only[oE] at h;subst h;simp only[bA] at hc;obtain⟨⟨⟨c1,c2⟩,c3⟩,c5⟩:=hc;have c4:pl (.ints k0 n0 l0)=true:=rfl;generalize hTT:AV.ints k0 n0 l0=T' at*
    have c3:Nat.beq (rowN T') len=true:=by rw[← hTT];exact c3
    have c1:=Zaj c1;have c2:=Zaj c2;have c3:=Zaj c3;subst c1;subst c2;subst c3;have hl:=hget b T hT;obtain⟨nm,hb,hN,okT,hs,hcell⟩:=S.cell b T hl;simp only[OK] at ok;obtain⟨nm',o,n,hb',hbase,hoff,-,hmax⟩:=ok;rw[hb] at hb';obtain rfl:=oI hb'
    
    have key:OK P ρ T'∧HasN P ⟨nm.blk,nm.off+o,rowN T',te,true,rowN T',false,nk⟩ T'∧LiesAt (cells P ρ T) o (cells P ρ T'):=by
     have inner:∀ u,pathN P nm p=some (o,u)→P.underlying u=some (.array n te)→OK P ρ T'∧HasN P ⟨nm.blk,nm.off+o,rowN T',te,true,rowN T',false,nk⟩ T'∧LiesAt (cells P ρ T) o (cells P ρ T'):=by
      intro u hp hu;obtain⟨x,as,bs,h1,h2,h3,h4,h5,-⟩:=Zxl P ρ nm p T hN okT o u hp;rw[hT'] at h1;obtain rfl:=oI h1;refine⟨h3,?_,?_⟩
      ·simp only[HasN,if_true];cases T'<;>simp only[pl,Bool.false_eq_true] at c4<;>simp only[Has] at h2
       case ints k m l=>
        obtain⟨e,g1,g2,g3,-⟩:=h2;rw[hu] at g1;simp only[oE,TypeDesc.array.injEq] at g1;obtain⟨-,rfl⟩:=g1;exact⟨rfl,g2,g3⟩
       case agg l=>
        rcases h2 with⟨fs,g1,-⟩|⟨m,e,g1,g2,g3,-⟩
        ·rw[hu] at g1;simp at g1
        ·rw[hu] at g1;simp only[oE,TypeDesc.array.injEq] at g1;obtain⟨-,rfl⟩:=g1;exact⟨rfl,g3⟩
       all_goals first
        |(obtain⟨g1,-⟩:=h2;rw[hu] at g1;simp at g1)
        |(obtain⟨⟨_,g1⟩,-⟩:=h2;rw[hu] at g1;simp at g1)
        |(obtain⟨⟨_,_,_,g1⟩,-⟩:=h2;rw[hu] at g1;simp at g1)
        |exact h2.elim
      ·rw[h4,← h5];exact LiesAt.append as _ bs
     unfold baseN at hbase;by_cases hr:nm.row=true
     ·rw[if_pos hr] at hbase;cases p with
      |nil=>
       simp only[oE,pE] at hbase;obtain⟨rfl,rfl,rfl⟩:=hbase;simp only[getP,oE] at hT';subst hT';refine⟨okT,?_,fun j x hx=>by rw[Nat.zero_add];exact hx⟩;simp only[HasN,hr,if_true] at hN ⊢;cases T<;>simp only[pl,Bool.false_eq_true] at c4<;>simp only at hN ⊢
       ·exact⟨rfl,hN.2⟩
       ·exact⟨rfl,hN.2⟩
       ·exact⟨rfl,hN.2⟩
      |cons i q=>
       simp only at hbase;split at hbase
       ·rename_i hi;split at hbase
        ·rename_i o1 u1 hq;split at hbase
         ·rename_i n1 e1 hu1;simp only[oE,pE] at hbase;obtain⟨rfl,rfl,rfl⟩:=hbase;exact inner u1 (by unfold pathN;rw[if_pos hr];simp[hi,hq]) hu1
         ·simp at hbase
        ·simp at hbase
       ·simp at hbase
     ·rw[if_neg hr] at hbase;split at hbase
      ·rename_i o1 u1 hq;split at hbase
       ·rename_i n1 e1 hu1;simp only[oE,pE] at hbase;obtain⟨rfl,rfl,rfl⟩:=hbase;exact inner u1 (by unfold pathN;rw[if_neg hr];exact hq) hu1
       ·simp at hbase
      ·simp at hbase
    obtain⟨k1,k2,k3⟩:=key;obtain⟨k4,k5⟩:=Zyf (ρ:=ρ) c4 k1;have hlen:0<(cells P ρ T').length:=by
     rw[← hTT] at k1 c5 ⊢;simp only[OK] at k1;rw[ZaZ,List.length_map,k1.1];simpa [rowN] using c5
    have hnn:nm.non=false∧nm.blk<w.heap.size:=by
     rcases hs with h1|⟨-,h1⟩
     ·exact h1
     ·exfalso;have:=k3 0 _ (List.getElem?_eq_getElem hlen);rw[h1] at this;simp at this
    refine⟨⟨⟨nm.blk,nm.off+o,rowN T',te,true,rowN T',false,nk⟩,?_,rfl,rfl,rfl,Nat.le_refl _,(fun h=>by cases h),hmax,k2,.inl ⟨rfl,hnn.2⟩,fun j x hx=>?_⟩,?_⟩
    ·rw[Zqv hb hbase];simp[gsV]
    ·rw[k4] at hx;have:=hcell (o+j) x (k3 j x hx)
     rwa [← Nat.add_assoc] at this
    ·simp only[OK,OKL];exact⟨k5,trivial,trivial⟩
   ·simp at h
  ·simp at h
 |gs b n te=>
  simp only[argC] at h;split at h
  ·rename_i T hT;obtain⟨c4,h⟩:=Zac h;simp only[oE] at h;subst h;have hl:=hget b T hT;obtain⟨nm,hb,hN,okT,hs,hcell⟩:=S.cell b T hl;simp only[OK] at ok;obtain⟨nm',hb',hr,ht',hn',hle,hnon,hmax⟩:=ok;rw[hb] at hb';obtain rfl:=oI hb';have hrow:nm.cap=rowN T:=by
    have hN':=hN;simp only[HasN,hr,if_true] at hN';cases T<;>simp only at hN'<;>first|exact hN'.1.symm|exact hN'.elim|(simp[pl] at c4;done)
   obtain⟨k4,k5⟩:=Zyf (ρ:=ρ) c4 okT;refine⟨⟨nm,?_,hr,ht',hrow,by omega,fun h=>by have:=hnon h;omega,hmax,hN,?_,fun j x hx=>?_⟩,?_⟩
   ·simp only[den,hb];rw[hn',hrow]
   ·rw[k4];exact hs
   ·rw[k4] at hx;exact hcell j x hx
   ·simp only[OK,OKL];exact⟨k5,trivial,trivial⟩
  ·simp at h
 |gp b lo n te nn z=>
  simp only[argC] at h;split at h
  ·rename_i r hr;obtain⟨U,te'⟩:=r;simp only[oE] at h;subst h;exact ZEB S hget hr ok
  ·simp at h
 |dv b p te d x=>
  simp only[argC] at h;split at h
  ·rename_i r hr;obtain⟨U,te'⟩:=r;simp only[oE] at h;subst h;exact ZEB S hget hr ok
  ·simp at h
 |_=>
  simp only[argC] at h;obtain⟨hc,h⟩:=Zac h;simp only[oE] at h;subst h;exact plain _ hc ok
omit hgl hn in
theorem ZzZ{get:Nat→Option AV}(hget:∀ b T,get b=some T→lk b mem=some T):{vs us:List AV}→argsC get vs=some us→OKL P ρ vs→ArgsAt P w (denT P ρ vs) us∧OKL P (fun _=>none) us
 | [],us,h,_=>by simp only[argsC,oE] at h;subst h;simp[denT,ArgsAt,OKL]
 |v::l,us,h,ok=>by
  simp only[argsC] at h;split at h
  ·rename_i u hu;split at h
   ·rename_i r hr;simp only[oE] at h;subst h;simp only[OKL] at ok;obtain⟨h1,h2⟩:=ZFs S hget hu ok.1;obtain⟨h3,h4⟩:=ZzZ hget hr ok.2;simp only[denT,ArgsAt,OKL];exact⟨⟨h1,h3⟩,h2,h4⟩
   ·simp at h
  ·simp at h
omit S hgl in
theorem ZBJ{v:AV}{a':Value}{w':World}(hk:retK v (fun e=>some e)=some e)(hr:ResAt P w w' a' v)(hb:Below w.heap.size w w'):next (a.put o.dst a') w':=by
 have row:∀ (T:AV) (te:TypeId) (b:Value) (g:Nat→AV),RowR P w w' b T te→e= .grow none T g→(∀ nm:Nm,b=gsV nm (rowN T)→nm.row=true→nm.ty=te→nm.cap=rowN T→rowN T≤nm.tot→(nm.non=true→rowN T=0)→(nm.tot:Int)≤9223372036854775807→
   OK P (upd ρ m nm) (g m)∧den P (upd ρ m nm) (g m)=a')→next (a.put o.dst a') w':=by
  intro T te b g hR he hg;obtain⟨nm,e0,w1,w2,w3,w4,w5,w6,hN,oT,hblk,hK,hlive⟩:=hR;obtain⟨k1,k2⟩:=hg nm e0 w1 w2 w3 w4 (fun h=>(w5 h).1) w6;obtain⟨c1,c2⟩:=Zcm P (Ext.empty ρ) T oT;have hc:=ZbX P (Ext.empty ρ) T oT;subst he;rw[← k2];exact hn _ _ _ (.grow none T g nm w' hN c2 k1 w1 hK (fun h=>by rw[hc];exact(w5 h).2) (fun h=>⟨(hlive h).1,fun j x hx=>(hlive h).2 j x (by rw[← hc];exact hx)⟩) (.inl hblk) ⟨hb.os,hb.tape,hb.output,hb.size⟩ (fun k hk _=>hb.block k hk) (fun b0 h=>by cases h))
 have gsOK:∀ (nm:Nm) (T:AV) (te:TypeId),nm.row=true→nm.ty=te→nm.cap=rowN T→rowN T≤nm.tot→(nm.non=true→rowN T=0)→(nm.tot:Int)≤9223372036854775807→OK P (upd ρ m nm) (.gs m (rowN T) te)∧den P (upd ρ m nm) (.gs m (rowN T) te)=gsV nm (rowN T):=by
  intro nm T te w1 w2 w3 w4 w5 w6;have self:upd ρ m nm m=some nm:=by simp[upd]
  refine⟨?_,by simp[den,self]⟩;simp only[OK];exact⟨nm,self,w1,w2,w3.symm,w4,w5,w6⟩
 unfold retK at hk;split at hk
 ·rename_i T te y;simp only[oE] at hk;obtain⟨b,e1,e2,e3⟩:=hr;refine row T te b _ e2 hk.symm fun nm e0 w1 w2 w3 w4 w5 w6=>?_
  obtain⟨g1,g2⟩:=gsOK nm T te w1 w2 w3 w4 w5 w6;obtain⟨d1,d2⟩:=Zcm P (Ext.empty (upd ρ m nm)) y e3;refine⟨?_,?_⟩
  ·simp only[OK,OKL];exact⟨by simpa only[OK] using g1,d2,trivial⟩
  ·rw[e1,e0,← g2,← d1];simp[den,denT]
 ·rename_i T te hno;simp only[oE] at hk;have hr:RowR P w w' a' T te:=by
   unfold ResAt at hr;split at hr
   ·rename_i heq;simp only[AV.tup.injEq,List.cons.injEq,and_true] at heq;exact(hno _ _ heq.1).elim
   ·rename_i heq;simp only[AV.tup.injEq,List.cons.injEq,AV.clo.injEq,and_true] at heq;obtain⟨rfl,rfl⟩:=heq;exact hr
   ·rename_i n2;exact(n2 _ _ rfl).elim
  refine row T te a' _ hr hk.symm fun nm e0 w1 w2 w3 w4 w5 w6=>?_
  obtain⟨g1,g2⟩:=gsOK nm T te w1 w2 w3 w4 w5 w6;exact⟨g1,by rw[g2,e0]⟩
 ·rename_i n1 n2;simp only[oE] at hk;have hr':a'=den P (fun _=>none) v∧OK P (fun _=>none) v:=by
   unfold ResAt at hr;split at hr
   ·exact(n1 _ _ _ rfl).elim
   ·exact(n2 _ _ rfl).elim
   ·exact hr
  obtain⟨hdv,hov⟩:=Zcm P (Ext.empty ρ) v hr'.2;rw[hr'.1,← hdv];subst hk;exact hn _ _ _ (.val v w' hov hb)
omit hn in
theorem s_call{Γ:FuncId→Option Ct}(hΓ:∀ g C,Γ g=some C→SoundAt P w0.g g C){get:Nat→Option AV}(hget:∀ b T,get b=some T→lk b mem=some T){c:Call}{fo:Operand}{g:FuncId}{vs us:List AV}{C:Ct}{v:AV}(ho:o.op= .call c)(hcal:c.callee= .value fo)(hf:evO gl tm fo=some (.clo g []))
  (hx:evL (evO gl tm) c.args.toList=some vs) (hC:Γ g=some C) (hus:argsC get vs=some us) (hr:(C us).run none some=some v) (hput:∀ a' w',ResAt P w w' a' v→Below w.heap.size w w'→next (a.put o.dst a') w'):o.wp P a w next Q:=by
 obtain⟨h1,-⟩:=Zay S hgl hf;simp only[den,denT] at h1;obtain⟨h2,h3⟩:=ZeB S hgl hx;obtain⟨hat,ok0⟩:=ZzZ S hget hus h3;have hmeets:=hΓ g C hC us v hr ok0 w S.below.below _ hat;have hargs:c.args.map a.eval=(denT P ρ vs).toArray:=by
  rw[← Array.toArray_toList (xs:=c.args.map a.eval),Array.toList_map,h2]
 rcases hmeets with⟨hcf,hcalls⟩|⟨a',hcf,hres⟩
 ·have hrun:(execOp a.eval o).run P w= .ok (.enter g (denT P ρ vs).toArray) w:=by
   simp[execOp,ho,resolve,hcal,h1,Deferred.ofValue,invoke,hargs,hcf]
  unfold Oper.wp;rw[hrun,Oper.upon_enter];refine hcalls.mono ?_
  rintro e' w' ⟨a',rfl,hres,hb⟩
  exact hput _ _ hres hb
 ·have hrun:(execOp a.eval o).run P w= .ok (.value a') w:=by
   simp[execOp,ho,resolve,hcal,h1,Deferred.ofValue,invoke,hargs,hcf]
  exact Zo7 hrun (hput _ _ hres (Below.refl _ _))
omit S hgl hn in
theorem ZDK{t el ty:TypeId}{B n m:Nat}{v yv:Value}{xs news:List Value}(hrt:rowTy P el=true)(hfit:fits P el (n+m)=true)(hu:P.underlying t=some (.slice el))
  (hown:w.ownsRow B el (P.cellsOf el) v n xs) (hB:B≤w.heap.size)
  (hy:(yv= .slice none 0 0∧m=0∧news=[])∨∃ ad c,yv= .slice (some ad) m c∧∀ j u,news[j]? =some u→w.cell? (ad.add j)=some u) (hl:news.length=m*P.cellsOf el) (h1:∀ u∈news,u.oneCell'=true):
  ∃ v' w',(Builtin.append_ #[t,t] ty #[v,yv]).run P w= .ok v' w'∧w'.ownsRow B el (P.cellsOf el) v' (n+m) (xs++news)∧w.grownBy w' v.ownBlock∧(v'.ownBlock=v.ownBlock∨v'.ownBlock=some w.heap.size):=by
 unfold rowTy at hrt;unfold fits at hfit;cases hi:P.info? el with
 |none=>rw[hi] at hrt;simp at hrt
 |some i=>
  rw[hi] at hrt hfit;simp only at hrt hfit;have hsz:P.cellsOf el=i.size:=by simp[Program.cellsOf,hi]
  cases hz:i.zero with
  |none=>rw[hz] at hrt;simp at hrt
  |some z=>
   rw[hz] at hrt;simp only[bA] at hrt;simp only[decide_eq_true_eq] at hfit;have hzs:=Zaj hrt.1;have hpos:0<i.size:=by simpa using hrt.2
   rw[hsz] at hown hl ⊢;rcases hy with⟨rfl,rfl,rfl⟩|⟨ad,c,rfl,hc⟩
   ·refine⟨v,w,run_append_owned_none w B t ty el i i.size hu hi v n xs hown,by simpa using hown,⟨rfl,rfl,rfl,Nat.le_refl _,fun _ _ _=>rfl⟩,.inl rfl⟩
   ·obtain⟨v',w',k1,k2,k3,-,k5⟩:=run_append_own_at w B t ty el i z i.size i.bytes hu hi hz rfl rfl hzs hpos v n xs hown ad m c news hl hc h1 (by simp only[maxLen];omega) hfit.1 hB;exact⟨v',w',k1,k2,k3,k5⟩
omit S hgl in
theorem Zzl{b:Option Nat}{V:AV}{el:TypeId}{v':Value}{w':World}{B:Nat}(hm:RowSh P el V)(oV:OK P ρ V)(hmax:((rowN V:Nat):Int)≤9223372036854775807)
  (hrun:(execOp a.eval o).run P w= .ok (.value v') w') (hown:w'.ownsRow B el (P.cellsOf el) v' (rowN V) (cells P ρ V)) (hg:∀ k,k<w.heap.size→(∀ b0 nm0,b=some b0→ρ b0=some nm0→nm0.non=false→k≠nm0.blk)→w'.heap[k]? =w.heap[k]?)
  (hw:w'.os=w.os∧w'.tape=w.tape∧w'.output=w.output∧w.heap.size≤w'.heap.size)
  (hblk:∀ g,v'.ownBlock=some g→w.heap.size≤g∨∃ b0 nm0 T0,b=some b0∧ρ b0=some nm0∧lk b0 mem=some T0∧ro≤b0∧nm0.non=false∧g=nm0.blk)
  (hb0:∀ b0,b=some b0→ro≤b0∧∃ T0,lk b0 mem=some T0∧isDc T0=false) (he:e= .grow b V fun c=>.gs c (rowN V) el):o.wp P a w next Q:=by
 subst he;have hasN:∀ nm:Nm,nm.row=true→nm.cap=rowN V→nm.ty=el→HasN P nm V:=by
  intro nm h1 h2 h3;simp only[HasN,h1,if_true];subst h3;cases V<;>simp only[RowSh] at hm ⊢ <;>exact⟨h2.symm,hm⟩
 have noI:(∀ s p,V≠ .itr s p)∧isDc V=false:=by
  refine⟨fun s p e=>?_,?_⟩
  ·rw[e] at hm;simp[RowSh] at hm
  ·cases V<;>first|rfl|(simp[RowSh] at hm;done)
 rcases hown.2 with⟨rfl,hn0⟩|⟨g,cap,cur,rfl,hbg,hgg,hnc,hcm,hcs,htake⟩
 ·
  have hnil:cells P ρ V=[]:=List.eq_nil_of_length_eq_zero (by rw[hown.1,hn0,Nat.zero_mul]);have self:upd ρ m ⟨w.heap.size,0,rowN V,el,true,rowN V,true,nk⟩ m=some ⟨w.heap.size,0,rowN V,el,true,rowN V,true,nk⟩:=by simp[upd]
  have hv:den P (upd ρ m ⟨w.heap.size,0,rowN V,el,true,rowN V,true,nk⟩) (.gs m (rowN V) el)= .slice none 0 0:=by simp[den,self,gsV]
  refine Zo7 hrun ?_;rw[← hv];refine hn _ _ _ (.grow b V _ ⟨w.heap.size,0,rowN V,el,true,rowN V,true,nk⟩ w' (hasN _ rfl rfl rfl) oV ?_ rfl ⟨rfl,noI⟩ (fun _=>hnil) (fun h=>by cases h) (.inl (Nat.le_refl _)) hw hg hb0);simp only[OK];exact⟨_,self,rfl,rfl,rfl,Nat.le_refl _,fun _=>hn0,hmax⟩
 ·have self:upd ρ m ⟨g,0,rowN V,el,true,cap,false,nk⟩ m=some ⟨g,0,rowN V,el,true,cap,false,nk⟩:=by simp[upd]
  have hv:den P (upd ρ m ⟨g,0,rowN V,el,true,cap,false,nk⟩) (.gs m (rowN V) el)= .slice (some ⟨g,0,none⟩) (rowN V) cap:=by simp[den,self,gsV]
  refine Zo7 hrun ?_;rw[← hv];refine hn _ _ _ (.grow b V _ ⟨g,0,rowN V,el,true,cap,false,nk⟩ w' (hasN _ rfl rfl rfl) oV ?_ rfl ⟨rfl,noI⟩ (fun h=>by cases h) (fun _=>⟨⟨rfl,hnc,hcm,cur,hgg,hcs⟩,fun j x hx=>?_⟩) (hblk g rfl) hw hg hb0)
  ·simp only[OK];exact⟨_,self,rfl,rfl,rfl,hnc,(fun h=>by cases h),by
    show ((cap:Nat):Int)≤9223372036854775807;simp only[maxLen] at hcm;omega⟩
  ·simp only[Nat.zero_add];rw[cell_of_row w' g j cur el (0,0) hgg];rw[← htake,List.getElem?_take] at hx;split at hx
   ·simpa using hx
   ·cases hx
omit S hgl hn in
theorem Zun{nm:Nm}{T:AV}(h:HasN P nm T)(hr:nm.row=true)(hv:(∀ n f,T≠ .rows n f)∧(∀ s p,T≠ .itr s p)∧isDc T=false):RowSh P nm.ty T∧rowN T=nm.cap:=by
 simp only[HasN,hr,if_true] at h;cases T<;>simp only at h
 case rows n f=>exact absurd rfl (hv.1 n f)
 case itr s p=>exact absurd rfl (hv.2.1 s p)
 case dc d x=>exact absurd hv.2.2 (by simp[isDc])
 all_goals exact⟨h.2,h.1⟩
omit S hgl hn in
theorem ZBG{nm:Nm}{T:AV}(hr:nm.row=true)(h:RowSh P nm.ty T)(hc:rowN T=nm.cap):HasN P nm T:=by
 simp only[HasN,hr,if_true];cases T<;>simp only[RowSh] at h<;>exact⟨hc,h⟩
omit S hgl hn in
theorem ZvY{c:Tc}:{es:List AV}→{u:List c.T}→c.getAll es=some u→es=u.map c.mk
 | [],u,h=>by simp only[Tc.getAll,oE] at h;subst h;rfl
 |v::l,u,h=>by
  simp only[Tc.getAll] at h;split at h
  ·rename_i x hx;split at h
   ·rename_i r hr;simp only[oE] at h;subst h;rw[List.map_cons,← Tc.get_mk hx,← ZvY hr]
   ·cases h
  ·cases h
omit S hgl hn in
theorem ZDL{c:Tc}:(u:List c.T)→OKL P ρ (u.map c.mk)→∀ x∈u,c.ok x
 | [],_,x,hx=>by simp at hx
 |y::u,h,x,hx=>by
  simp only[List.map_cons,OKL] at h;rcases List.mem_cons.1 hx with rfl|hx
  ·exact Tc.ok_mk.1 h.1
  ·exact ZDL u h.2 x hx
omit S hgl hn in
theorem ZBK{c:Tc}:(u:List c.T)→denC P ρ (u.map c.mk)=u.flatMap c.cs
 | []=>by simp[denC]
 |y::u=>by rw[List.map_cons,ZcE,Zqw,List.flatMap_cons,ZBK u]
omit S hgl hn in
theorem ZC1{te:TypeId}{T U V:AV}(h:catT T U=some V)(hT:RowSh P te T)(hU:RowSh P te U)(oT:OK P ρ T)(oU:OK P ρ U):
  RowSh P te V∧OK P ρ V∧rowN V=rowN T+rowN U∧cells P ρ V=cells P ρ T++cells P ρ U:=by
 cases T with
 |ints k n l=>
  cases U<;>simp only[catT] at h
  case ints k' m u=>
   obtain⟨hk,h'⟩:=Zac h;obtain rfl:=ZmU hk;obtain rfl:=oI h';simp only[OK] at oT oU;refine⟨hT,?_,rfl,by simp only[ZaZ,List.map_append]⟩;simp only[OK];refine⟨by rw[List.length_append,oT.1,oU.1],fun z hz=>?_⟩;rcases List.mem_append.1 hz with h|h
   ·exact oT.2 z h
   ·exact oU.2 z h
  all_goals cases h
 |vec c l=>
  simp only[OK] at oT;cases U<;>simp only[catT] at h
  case vec c' u=>
   split at h
   ·rename_i hs;have e:=Tc.same_eq c c' hs;subst e;obtain rfl:=oI h;simp only[OK] at oU;refine⟨hU,?_,?_,?_⟩
    ·simp only[OK];intro x hx;rcases List.mem_append.1 hx with h|h
     ·exact oT x h
     ·exact oU x h
    ·simp only[rowN,castRow,List.length_append]
    ·simp only[ZcD,castRow,List.flatMap_append]
   ·cases h
  case agg es=>
   split at h
   ·rename_i u hu;obtain rfl:=oI h;have e:=ZvY hu;subst e;simp only[OK] at oU;have ou:=ZDL u oU;refine⟨hT,?_,by simp[rowN],by simp only[ZcD,Zcs,List.flatMap_append,ZBK]⟩;simp only[OK];intro x hx;rcases List.mem_append.1 hx with h|h
    ·exact oT x h
    ·exact ou x h
   ·cases h
  all_goals cases h
 |_=>simp[catT] at h
omit S hgl hn in
theorem Zx7{te:TypeId}{c:Tc}(h:codeOf P te=some c):c.fit P te=true:=by
 unfold codeOf at h;split at h
 ·obtain⟨hf,h⟩:=Zac h;obtain rfl:=oI h;exact hf
 ·cases h
omit S hgl hn in
theorem Zz0{te:TypeId}{T U:AV}(h:emptyT P te U=some T)(hU:RowSh P te U):RowSh P te T∧OK P ρ T∧rowN T=0∧cells P ρ T=[]:=by
 cases U<;>simp only[emptyT] at h
 case ints k n l=>obtain rfl:=oI h;exact⟨hU,by simp[OK],rfl,by simp[ZaZ]⟩
 case vec c l=>obtain rfl:=oI h;exact⟨hU,by simp[OK],rfl,by simp[ZcD]⟩
 case agg l=>
  split at h
  ·rename_i c hc;obtain rfl:=oI h;unfold codeOf at hc;split at hc
   ·obtain⟨hf,hc⟩:=Zac hc;obtain rfl:=oI hc;exact⟨hf,by simp[OK],rfl,by simp[ZcD]⟩
   ·cases hc
  ·cases h
 all_goals cases h
omit S hgl hn in
theorem Zr4{te:TypeId}{T U V:AV}(h:catT T U=some V∨catT U T=some V∨emptyT P te T=some V):(∀ n f,T≠ .rows n f)∧(∀ s p,T≠ .itr s p)∧isDc T=false:=by
 refine⟨fun n f e=>?_,fun s p e=>?_,?_⟩
 case refine_3=>
  cases T with
  |dc d x=>
   rcases h with h|h|h
   ·simp[catT] at h
   ·cases U<;>simp[catT] at h
   ·simp[emptyT] at h
  |_=>rfl
 all_goals
  subst e;rcases h with h|h|h
  ·simp[catT] at h
  ·cases U<;>simp[catT] at h
  ·simp[emptyT] at h
theorem ZHZ{get:Nat→Option AV}(hget:∀ b T,get b=some T→lk b mem=some T){c:Call}{t el:TypeId}{x y:AV}(ho:o.op= .call c)(hcal:c.callee= .builtin .append)(hx:evL (evO gl tm) c.args.toList=some [x,y])(ht:c.argTypes.toList=[t,t])
  (hu:P.underlying t=some (.slice el)) (hk:appK P ro el x y get none some=some e):o.wp P a w next Q:=by
 obtain⟨h1,h2⟩:=ZeB S hgl hx;simp only[OKL,and_true] at h2;obtain⟨okx,oky⟩:=h2;have hargs:c.args.map a.eval= #[den P ρ x,den P ρ y]:=by
  rw[← Array.toArray_toList (xs:=c.args.map a.eval),Array.toList_map,h1];simp[denT]
 have hty:c.argTypes= #[t,t]:=by rw[← Array.toArray_toList (xs:=c.argTypes),ht]
 unfold appK at hk;split at hk
 ·rename_i b2 m2 te;replace hk:=Zac hk;obtain⟨hc,hk⟩:=hk;simp only[bA] at hc;obtain⟨hc1,hrt⟩:=hc;have hc1:=Zaj hc1;subst hc1;split at hk
  ·rename_i U hU;have hlU:=hget b2 U hU;obtain⟨nm2,hb2,hN2,okU,hs2,hcell2⟩:=S.cell b2 U hlU;simp only[OK] at oky;obtain⟨nm2',hb2',hr2,ht2,hn2,hle2,hnon2,hmax2⟩:=oky;rw[hb2] at hb2';obtain rfl:=oI hb2'
   
   have hyv:(den P ρ (.gs b2 m2 te)= .slice none 0 0∧nm2.cap=0∧cells P ρ U=[])∨∃ ad q,den P ρ (.gs b2 m2 te)= .slice (some ad) nm2.cap q∧∀ j u,(cells P ρ U)[j]? =some u→w.cell? (ad.add j)=some u:=by
    rcases hs2 with⟨z1,-⟩|⟨z1,z2⟩
    ·exact .inr ⟨⟨nm2.blk,nm2.off,none⟩,nm2.tot,by simp[den,hb2,gsV,z1,hn2],fun j u hu=>by rw[ZbG];exact hcell2 j u hu⟩
    ·have hc0:nm2.cap=0:=by have:=hnon2 z1;omega
     cases hna:nm2.K.na with
     |none=>exact .inl ⟨by simp[den,hb2,gsV,z1,hna],hc0,z2⟩
     |some ad=>exact .inr ⟨ad,0,by simp[den,hb2,gsV,z1,hna,hc0],fun j u hu=>by rw[z2] at hu;simp at hu⟩
   have fin:∀ (b:Option Nat) (T V:AV) (v:Value),RowSh P te T→OK P ρ T→catT T U=some V→fits P te (rowN V)=true→
     den P ρ x=v→w.ownsRow w0.g.heap.size te (P.cellsOf te) v (rowN T) (cells P ρ T)→
     (∀ g,v.ownBlock=some g→∃ b0 nm0 T0,b=some b0∧ρ b0=some nm0∧lk b0 mem=some T0∧ro≤b0∧nm0.non=false∧g=nm0.blk)→
     (∀ b0,b=some b0→ro≤b0∧∃ T0,lk b0 mem=some T0∧isDc T0=false)→e= .grow b V (fun c=>.gs c (rowN V) te)→o.wp P a w next Q:=by
    intro b T V v shT okT hcat hfit hxv hown hvb hb0 he;obtain⟨shU,hcU⟩:=Zun hN2 hr2 (Zr4 (P:=P) (te:=te) (.inr (.inl hcat)));rw[ht2] at shU;obtain⟨shV,okV,hrV,hcV⟩:=ZC1 hcat shT shU okT okU;have hlen:=ZjH shU okU;rw[hcU] at hlen hrV;obtain⟨v',w',r1,r2,r3,r4⟩:=ZDK (ty:=o.type) (m:=nm2.cap) (news:=cells P ρ U) hrt (by rw[← hrV];exact hfit) hu hown S.below.below.size hyv hlen (Zxf shU);refine Zzl hn (B:=w0.g.heap.size) shV okV ?_ ?_ (by rw[hcV,hrV];exact r2) ?_ ⟨r3.os,r3.tape,r3.output,r3.size⟩ ?_ hb0 he
    ·unfold fits at hfit;split at hfit
     ·simp only[decide_eq_true_eq] at hfit;omega
     ·cases hfit
    ·rw[hxv] at hargs;simp[execOp,ho,resolve,hcal,invoke,builtin,hargs,hty,r1]
    ·intro k0 hk0 hne;refine r3.block k0 hk0 fun hh=>?_
     obtain⟨b0,nm0,T0,e1,e2,e3,e4,e5,e6⟩:=hvb k0 hh.symm;exact hne b0 nm0 e1 e2 e5 e6
    ·intro g hgv;rcases r4 with h|h
     ·right;exact hvb g (by rw[← h];exact hgv)
     ·left;rw[h] at hgv;have:=oI hgv;omega
   split at hk
   ·
    split at hk
    ·rename_i T hem;split at hk
     ·rename_i V hcat;replace hk:=Zac hk;obtain⟨hfit,hk⟩:=hk;simp only[oE] at hk;obtain⟨shU,-⟩:=Zun hN2 hr2 (Zr4 (P:=P) (te:=te) (.inr (.inl hcat)));rw[ht2] at shU;obtain⟨shT,okT,hrT,hcT⟩:=Zz0 (ρ:=ρ) hem shU;exact fin none T V (.slice none 0 0) shT okT hcat hfit (by simp[den]) (by rw[hcT,hrT];exact World.ownsRow_nil w _ _ _) (fun g h=>by simp[Value.ownBlock] at h) (fun b0 h=>by cases h) hk.symm
     ·simp at hk
    ·simp at hk
   ·rename_i b1 n1 te1;replace hk:=Zac hk;obtain⟨hc,hk⟩:=hk;simp only[bA] at hc;have hc2:=Zaj hc.1;have hro:=Nat.le_of_ble_eq_true hc.2;split at hk
    ·rename_i T hT;split at hk
     ·rename_i V hcat;replace hk:=Zac hk;obtain⟨hfit,hk⟩:=hk;simp only[oE] at hk;have hlT:=hget b1 T hT;obtain⟨nm1,hb1,hN1,okT,hs1,hcell1⟩:=S.cell b1 T hlT;simp only[OK] at okx;obtain⟨nm1',hb1',hr1,ht1,hn1,hle1,hnon1,hmax1⟩:=okx;rw[hb1] at hb1';obtain rfl:=oI hb1';obtain⟨shT,hcT⟩:=Zun hN1 hr1 (Zr4 (P:=P) (te:=te) (.inl hcat));rw[ht1,hc2] at shT;have hlen:=ZjH shT okT;have hrows:=S.rows b1 T nm1 hlT hb1 hro hr1;have hown:w.ownsRow w0.g.heap.size te (P.cellsOf te) (gsV nm1 n1) (rowN T) (cells P ρ T):=by
       refine⟨hlen,?_⟩;cases hq:nm1.non with
       |true=>exact .inl ⟨by simp[gsV,hq,S.ex.nas b1 T nm1 hlT hb1 hro],by have:=hnon1 hq;omega⟩
       |false=>
        rcases hrows with h|h
        ·rw[hq] at h;cases h
        ·obtain⟨q1,q2,q3,cur,q4,q5⟩:=h;rw[ht1,hc2] at q4 q5;refine .inr ⟨nm1.blk,nm1.tot,cur,by simp[gsV,hq,q1,hn1,hcT],Base.own_ge ((S.own b1 T nm1 hlT hb1 hro).1 hq),q4,by rw[hcT];exact q2,q3,q5,?_⟩;refine List.ext_getElem? fun j=>?_
         rw[List.getElem?_take];by_cases hj:j<rowN T*P.cellsOf te
         ·rw[if_pos hj];have hj':j<(cells P ρ T).length:=by rw[hlen];exact hj
          have:=hcell1 j _ (List.getElem?_eq_getElem hj');rw[q1,Nat.zero_add,cell_of_row w nm1.blk j cur te (0,0) q4] at this;rw[List.getElem?_eq_getElem hj'];simpa using this
         ·rw[if_neg hj];rw[List.getElem?_eq_none (by rw[hlen];omega)]
      refine fin (some b1) T V (gsV nm1 n1) shT okT hcat hfit (by simp[den,hb1]) hown ?_ ?_ hk.symm
      ·intro g hg;refine⟨b1,nm1,T,rfl,hb1,hlT,hro,?_,?_⟩
       ·cases hq:nm1.non with
        |false=>rfl
        |true=>simp[gsV,hq,Value.ownBlock,S.ex.nas b1 T nm1 hlT hb1 hro] at hg
       ·cases hq:nm1.non with
        |true=>simp[gsV,hq,Value.ownBlock,S.ex.nas b1 T nm1 hlT hb1 hro] at hg
        |false=>simp[gsV,hq,Value.ownBlock] at hg;exact hg.symm
      ·intro b0 hb0;obtain rfl:=oI hb0;exact⟨hro,T,hlT,(Zr4 (P:=P) (te:=te) (.inl hcat)).2.2⟩
     ·simp at hk
    ·simp at hk
   ·simp at hk
  ·simp at hk
 ·simp at hk
omit hn in
theorem Zz1{k:IntKind}:{ps:List (Nat×Operand)}→{i:Nat}→{l:List Int}→dense (evO gl tm) k i ps=some l→
  (ps.map fun x=>(x.1,a.eval x.2))=((l.map (Value.int k)).zipIdx i).map (fun x=>(x.2,x.1))∧∀ z∈l,k.min≤z∧z≤k.max
 | [],i,l,h=>by simp only[dense,oE] at h;subst h;simp
 |x::r,i,l,h=>by
  rw[dense] at h;replace h:=Zac h;obtain⟨h1,h⟩:=h;have h1:=Zaj h1;split at h
  ·rename_i k' v hv;replace h:=Zac h;obtain⟨h2,h⟩:=h;have h2:=ZmU h2;subst h2;split at h
   ·rename_i l' hl';simp only[oE] at h;subst h;obtain⟨e1,e2⟩:=Zay S hgl hv;obtain⟨g1,g2⟩:=Zz1 hl';simp only[OK] at e2;refine⟨?_,fun z hz=>?_⟩
    ·simp only[List.map_cons,List.zipIdx_cons,g1,h1];simp[e1,den]
    ·rcases List.mem_cons.1 hz with rfl|hz
     ·exact e2
     ·exact g2 z hz
   ·simp at h
  ·simp at h
omit hn in
theorem ZyI{el:TypeId}:{ps:List (Nat×Operand)}→{i:Nat}→{l:List AV}→denseA P (evO gl tm) el i ps=some l→
  (ps.map fun x=>(x.1,a.eval x.2))=((l.map (den P ρ)).zipIdx i).map (fun x=>(x.2,x.1))∧HasA P l el∧OKL P ρ l
 | [],i,l,h=>by simp only[denseA,oE] at h;subst h;simp[HasA,OKL]
 |x::r,i,l,h=>by
  rw[denseA] at h;replace h:=Zac h;obtain⟨h1,h⟩:=h;have h1:=Zaj h1;split at h
  ·rename_i v hv;replace h:=Zac h;obtain⟨h2,h⟩:=h;split at h
   ·rename_i l' hl';simp only[oE] at h;subst h;obtain⟨e1,e2⟩:=Zay S hgl hv;obtain⟨g1,g2,g3⟩:=ZyI hl';refine⟨?_,?_,?_⟩
    ·simp only[List.map_cons,List.zipIdx_cons,g1,h1];simp[e1]
    ·simp only[HasA];exact⟨ZcF P v el h2,g2⟩
    ·simp only[OKL];exact⟨e2,g3⟩
   ·simp at h
  ·simp at h
omit S hgl hn in
theorem ZC2:(l:List AV)→(l.map (den P ρ)).flatMap (fun v=>v.cells.toList)=denC P ρ l
 | []=>by simp[denC]
 |v::l=>by simp only[List.map_cons,List.flatMap_cons,denC];rw[ZC2 l]
omit S hgl hn in
theorem ZDM{el:TypeId}{l:List AV}(h2:HasA P l el)(h3:OKL P ρ l):RowSh P el (rowLit P el l)∧OK P ρ (rowLit P el l)∧rowN (rowLit P el l)=l.length∧cells P ρ (rowLit P el l)=denC P ρ l:=by
 have base:RowSh P el (.agg l)∧OK P ρ (.agg l)∧rowN (.agg l)=l.length∧cells P ρ (.agg l)=denC P ρ l:=⟨h2,by simp only[OK];exact h3,rfl,Zcs P ρ l⟩;unfold rowLit;split
 ·rename_i c hc;split
  ·rename_i u hu;have e:=ZvY hu;subst e;exact⟨Zx7 hc,by simp only[OK];exact ZDL u h3,by simp[rowN],by rw[ZcD,ZBK]⟩
  ·exact base
 ·exact base
theorem ZBI{t el:TypeId}{n:Nat}{ps:Array (Nat×Operand)}{l:List AV}(ho:o.op= .buildSlice t n ps)(hu:P.underlying t=some (.slice el))(hl:denseA P (evO gl tm) el 0 ps.toList=some l)
  (hn0:l.length=n) (hpos:0<n) (hsm:n*P.cellsOf el≤16777216) (hsm2:n≤16777216) (hcp:0<P.cellsOf el) (hrt:rowTy P el=true) (he:e= .grow none (rowLit P el l) fun b=>.gs b n el):o.wp P a w next Q:=by
 obtain⟨h1,h2,h3⟩:=ZyI S hgl hl;obtain⟨v1,v2,v3,v4⟩:=ZDM (P:=P) (ρ:=ρ) h2 h3;unfold rowTy at hrt;cases hi:P.info? el with
 |none=>rw[hi] at hrt;simp at hrt
 |some i=>
  rw[hi] at hrt;simp only at hrt;have hsz:P.cellsOf el=i.size:=by simp[Program.cellsOf,hi]
  cases hz:i.zero with
  |none=>rw[hz] at hrt;simp at hrt
  |some z=>
   have hlen:∀ v∈l.map (den P ρ),v.cells.size=i.size:=by
    intro v hv;obtain⟨u,hu1,rfl⟩:=List.mem_map.1 hv;have hx:=ZcG P ρ u el (HasA.get h2 u hu1) (by
     have:∀ (l:List AV),OKL P ρ l→∀ u∈l,OK P ρ u:=by
      intro l
      induction l with
      |nil=>intro _ u hu;simp at hu
      |cons x l ih=>
       intro h u hu;simp only[OKL] at h;rcases List.mem_cons.1 hu with rfl|hu
       ·exact h.1
       ·exact ih h.2 u hu
     exact this l h3 u hu1)
    rw[← hsz,← hx];simp[cells]
   have hps0:0<i.size:=by omega
   have hfill:Instr.fill (fun j=>some (j*i.size,i.size)) ((Array.range (n*i.size)).map (z.cells[· %z.cells.size]!)) (ps.map fun(i,x)=>(i,a.eval x)).toList=some (denC P ρ l).toArray:=by
    have hps:(ps.map fun(i,x)=>(i,a.eval x)).toList=((l.map (den P ρ)).zipIdx 0).map (fun x=>(x.2,x.1)):=by
     rw[Array.toList_map];exact h1
    rw[hps,← ZC2 l];exact Great.fill_whole hps0 _ _ hlen (by simp[hn0])
   have hne:¬ n*i.size=0:=fun h=>by
    rcases Nat.mul_eq_zero.1 h with h|h<;>omega
   have hrun:=run_buildSlice w t el n (ps.map fun(i,x)=>(i,a.eval x)) _ i z hu hi hz (by rw[← hsz];omega) hne hfill;have hown:(w.alloc (.cells (denC P ρ l).toArray el)).ownsRow w0.g.heap.size el (P.cellsOf el) (.slice (some ⟨w.heap.size,0,none⟩) n n) (rowN (rowLit P el l)) (cells P ρ (rowLit P el l)):=by
    rw[v4,v3];have:=World.ownsRow_lit (size:=P.cellsOf el) (e:=el) w (denC P ρ l).toArray n S.below.below.size (by simp only[maxLen];omega) (by
     have:=len_A P ρ l el h2 h3;rw[hn0] at this;simpa using this)
    simpa [hn0] using this
   have hrun':(execOp a.eval o).run P w= .ok (.value (.slice (some ⟨w.heap.size,0,none⟩) n n)) (w.alloc (.cells (denC P ρ l).toArray el)):=by simp[execOp,ho,hrun]
   exact Zzl hn (b:=none) (V:=rowLit P el l) (el:=el) (B:=w0.g.heap.size) v1 v2 (by rw[v3];omega) hrun' hown (fun k0 hk0 _=>heap_alloc_old w _ hk0) ⟨rfl,rfl,rfl,by simp⟩
    (fun g hg=>by
     left;simp[Value.ownBlock] at hg;omega) (fun b0 h=>by cases h) (by rw[he,v3,hn0])
theorem ZCV{t el:TypeId}{n:Nat}{ps:Array (Nat×Operand)}{q:IntKind}{l:List Int}(ho:o.op= .buildSlice t n ps)(hu:P.underlying t=some (.slice el))(hq:intTy P el=some q)(hl:dense (evO gl tm) q 0 ps.toList=some l)
  (hn0:l.length=n) (hpos:0<n) (hsm:n≤16777216) (hrt:rowTy P el=true) (he:e= .grow none (.ints q n l) fun b=>.gs b n el):o.wp P a w next Q:=by
 obtain⟨h1,h2⟩:=Zz1 S hgl hl;unfold intTy at hq;split at hq
 ·rename_i k hk;obtain⟨hc,hq⟩:=Zac hq;have hc:=Zaj hc;obtain rfl:=oI hq;unfold rowTy at hrt;cases hi:P.info? el with
  |none=>rw[hi] at hrt;simp at hrt
  |some i=>
   rw[hi] at hrt;simp only at hrt;have hsz:P.cellsOf el=i.size:=by simp[Program.cellsOf,hi]
   cases hz:i.zero with
   |none=>rw[hz] at hrt;simp at hrt
   |some z=>
    have h1s:i.size=1:=by rw[← hsz];exact hc
    have hfill:Instr.fill (fun j=>some (j*i.size,i.size)) ((Array.range (n*i.size)).map (z.cells[· %z.cells.size]!)) (ps.map fun(i,x)=>(i,a.eval x)).toList=some (l.map (Value.int k)).toArray:=by
     have hps:(ps.map fun(i,x)=>(i,a.eval x)).toList=((l.map (Value.int k)).zipIdx 0).map (fun x=>(x.2,x.1)):=by
      rw[Array.toList_map];exact h1
     rw[hps,h1s];exact Great.fill_flat _ _ (fun v hv=>by obtain⟨m,_,rfl⟩:=List.mem_map.1 hv;rfl) (by simp[hn0])
    have hrun:=run_buildSlice w t el n (ps.map fun(i,x)=>(i,a.eval x)) _ i z hu hi hz (by rw[h1s];omega) (by rw[h1s];omega) hfill;have hcV:cells P ρ (.ints k n l)=l.map (Value.int k):=ZaZ P ρ k n l;have hown:(w.alloc (.cells (l.map (Value.int k)).toArray el)).ownsRow w0.g.heap.size el (P.cellsOf el) (.slice (some ⟨w.heap.size,0,none⟩) n n) (rowN (.ints k n l)) (cells P ρ (.ints k n l)):=by
     rw[hcV];have:=World.ownsRow_lit (size:=P.cellsOf el) (e:=el) w (l.map (Value.int k)).toArray n S.below.below.size (by simp only[maxLen];omega) (by simp[hn0,hc]);simpa [rowN] using this
    have hrun':(execOp a.eval o).run P w= .ok (.value (.slice (some ⟨w.heap.size,0,none⟩) n n)) (w.alloc (.cells (l.map (Value.int k)).toArray el)):=by simp[execOp,ho,hrun]
    have hN:RowSh P el (.ints k n l):=⟨hk,hc⟩;have hOK:OK P ρ (.ints k n l):=by
     simp only[OK];exact⟨hn0,h2⟩
    exact Zzl hn (b:=none) (V:=.ints k n l) (el:=el) (B:=w0.g.heap.size) hN hOK (by simp only[rowN];omega) hrun' hown (fun k0 hk0 _=>heap_alloc_old w _ hk0) ⟨rfl,rfl,rfl,by simp⟩
     (fun g hg=>by
      left;simp[Value.ownBlock] at hg;omega) (fun b0 h=>by cases h) he
 ·simp at hq
end
theorem ZyJ{P:Program}{e:TypeId}{k:IntKind}(hk:P.underlying e=some (.int k))(h1:P.cellsOf e=1)(d:Nat)(w:World)(l l':List Int):(is:List Nat)→(∀ i∈is,i<l.length∧i<l'.length)→
  (Op.eqItems (d+1) e 1 (l.map (Value.int k)).toArray (l'.map (Value.int k)).toArray is).run P w= .ok (is.all fun i=>l.getD i 0==l'.getD i 0) w
 | [],_=>by simp[Op.eqItems]
 |i::is,h=>by
  have hi:=h i (by simp);have ih:=ZyJ hk h1 d w l l' is (fun j hj=>h j (by simp[hj]));have hp:∀ (l:List Int),i<l.length→(part e (l.map (Value.int k)).toArray (i*1)).run P w= .ok (.int k (l.getD i 0)) w:=by
   intro l hl;unfold part;rw[Sem.run_bind,Zyg hk];simp[wideD,hl,List.getD_eq_getElem?_getD]
  simp only[Op.eqItems,Sem.run_bind,hp l hi.1,hp l' hi.2,Result.andThen_ok,run_equalIn_int w d e k k _ _ hk,List.all_cons];cases hq:(l.getD i 0==l'.getD i 0)
  ·simp
  ·simpa using ih
theorem all_eq(l l':List Int)(h:l.length=l'.length):((List.range l.length).all fun i=>l.getD i 0==l'.getD i 0)=decide (l=l'):=by
 rw[Bool.eq_iff_iff,List.all_eq_true,decide_eq_true_iff];constructor
 ·intro H;apply List.ext_getElem h;intro i h1 h2;have:=H i (by simpa using h1);simpa [List.getD_eq_getElem?_getD,h1,h2] using this
 ·rintro rfl i _
  simp
theorem ZvX{P:Program}{ρ:Rho}{x y:AV}{t:TypeId}{b:Bool}(h:eqAV x y=some b)(hx:Has P x t)(hy:Has P y t)(ox:OK P ρ x)(oy:OK P ρ y)(w:World)(d:Nat):
  (Op.equalIn (d+2) t (den P ρ x) (den P ρ y)).run P w= .ok b w:=by
 unfold eqAV at h;split at h
 ·rename_i k a k' c;replace h:=Zac h;obtain⟨hk,h⟩:=h;have hk:=ZmU hk;subst hk;simp only[oE] at h;subst h;simp only[Has] at hx;simp only[den];exact run_equalIn_int w (d+1) t k k a c hx.1
 ·rename_i a c;simp only[oE] at h;subst h;simp only[Has] at hx;simp only[den];exact run_equalIn_bool w (d+1) t a c hx.1
 ·rename_i a c;simp only[oE] at h;subst h;simp only[Has] at hx;simp only[den];rw[run_equalIn_string w (d+1) t a c hx.1,beq_toListBytes]
 ·rename_i k n l k' n' l';replace h:=Zac h;obtain⟨hk,h⟩:=h;simp only[bA] at hk;have hkk:=ZmU hk.1;have hnn:=Zaj hk.2;subst hkk hnn;simp only[oE] at h;subst h;simp only[Has] at hx;simp only[OK] at ox oy;obtain⟨e,hu,hke,h1,h2⟩:=hx;obtain⟨i,hi,hs⟩:=Zyh hke;simp only[den];rw[show d+2=(d+1)+1 from rfl,run_equalIn_array w (d+1) _ _ hu hi,h1,ZyJ hke h1 d w l l' (List.range n) (fun j hj=>by
   have:=List.mem_range.1 hj;omega),← ox.1,all_eq l l' (by omega)]
 all_goals (first|(simp at h;done)|(simp only[oE] at h;subst h))
 ·simp only[Has] at hx;obtain⟨⟨e,hu⟩,-⟩:=hx;rw[show d+2=(d+1)+1 from rfl,Op.equalIn,Sem.run_bind,run_underlying hu];rfl
 ·simp only[Has] at hx;obtain⟨⟨e,hu⟩,-⟩:=hx;simp only[OK] at oy;obtain⟨nm,o,hb,hp⟩:=oy;rw[Zhs hb hp];rw[show d+2=(d+1)+1 from rfl,Op.equalIn,Sem.run_bind,run_underlying hu];rfl
 ·simp only[Has] at hx;obtain⟨⟨e,hu⟩,-⟩:=hx;simp only[OK] at ox;obtain⟨nm,o,hb,hp⟩:=ox;rw[Zhs hb hp];rw[show d+2=(d+1)+1 from rfl,Op.equalIn,Sem.run_bind,run_underlying hu];rfl
 ·simp only[Has] at hx;obtain⟨⟨e,hu⟩,-⟩:=hx;rw[show d+2=(d+1)+1 from rfl,Op.equalIn,Sem.run_bind,run_underlying hu];rfl
 ·simp only[Has] at hx;obtain⟨⟨e,hu⟩,-⟩:=hx;rw[show d+2=(d+1)+1 from rfl,Op.equalIn,Sem.run_bind,run_underlying hu];rfl
 ·simp only[Has] at hx;obtain⟨⟨e,hu⟩,-⟩:=hx;rw[show d+2=(d+1)+1 from rfl,Op.equalIn,Sem.run_bind,run_underlying hu];rfl
 ·simp only[Has] at hx;obtain⟨⟨e,hu⟩,-⟩:=hx;rw[show d+2=(d+1)+1 from rfl,Op.equalIn,Sem.run_bind,run_underlying hu];rfl
 ·simp only[Has] at hx;obtain⟨⟨e,hu⟩,-⟩:=hx;simp only[OK] at ox;obtain⟨nm,of,n,hb,hbase,-⟩:=ox;rw[Zqv hb hbase];rw[show d+2=(d+1)+1 from rfl,Op.equalIn,Sem.run_bind,run_underlying hu];rfl
 ·simp only[Has] at hx;obtain⟨⟨e,hu⟩,-⟩:=hx;simp only[OK] at oy;obtain⟨nm,of,n,hb,hbase,-⟩:=oy;rw[Zqv hb hbase];rw[show d+2=(d+1)+1 from rfl,Op.equalIn,Sem.run_bind,run_underlying hu];rfl
 ·simp only[Has] at hx;obtain⟨⟨a,b,c,hu⟩,-⟩:=hx;rw[show d+2=(d+1)+1 from rfl,Op.equalIn,Sem.run_bind,run_underlying hu];rfl
 ·simp only[Has] at hx;obtain⟨⟨a,b,c,hu⟩,-⟩:=hx;rw[show d+2=(d+1)+1 from rfl,Op.equalIn,Sem.run_bind,run_underlying hu];rfl
theorem ZEx{P:Program}{n:Nat}{t:TypeId}{x y:AV}{b:Bool}(h:eqD P n t x y=some b)(hx:∀ l,x≠ .agg l):eqAV x y=some b:=by
 cases n with
 |zero=>simpa [eqD] using h
 |succ n=>
  cases x<;>first|exact absurd rfl (hx _)|(simpa [eqD] using h)
theorem Zvd{P:Program}{ρ:Rho}(n:Nat)(w:World)(d:Nat)
  (ih:∀ x y t b,eqD P n t x y=some b→Has P x t→Has P y t→OK P ρ x→OK P ρ y→(Op.equalIn (d+2+n) t (den P ρ x) (den P ρ y)).run P w= .ok b w):
  (fs:List Field)→(l r:List AV)→(as bs:List Value)→(o s:Nat)→as.length=o→bs.length=o→(b:Bool)→eqF (eqD P n) fs l r=some b→HasF P l fs o s→HasF P r fs o s→OKL P ρ l→OKL P ρ r→
  (Op.eqFields (d+2+n) (as++denC P ρ l).toArray (bs++denC P ρ r).toArray fs).run P w= .ok b w
 | [],l,r,as,bs,o,s,ha,hb,b,h,hl,hr,ol,or'=>by
  cases l with
  |cons x l=>simp[HasF] at hl
  |nil=>
   cases r with
   |cons y r=>simp[HasF] at hr
   |nil=>
    simp only[eqF,oE] at h;subst h;simp[Op.eqFields]
 |f::fs,l,r,as,bs,o,s,ha,hb,b,h,hl,hr,ol,or'=>by
  cases l with
  |nil=>simp[HasF] at hl
  |cons x l=>
   cases r with
   |nil=>simp[HasF] at hr
   |cons y r=>
    simp only[HasF] at hl hr;simp only[OKL] at ol or';simp only[eqF] at h;obtain⟨hnm,h⟩:=Zac h;split at h
    ·rename_i p hp;split at h
     ·rename_i q hq;simp only[oE] at h;subst h;have hlx:=ZcG P ρ x f.type hl.2.1 ol.1;have hly:=ZcG P ρ y f.type hr.2.1 or'.1;have k1:=Zt1 (P:=P) (ρ:=ρ) hl.2.1 ol.1 as (denC P ρ l) w;have k2:=Zt1 (P:=P) (ρ:=ρ) hr.2.1 or'.1 bs (denC P ρ r) w;rw[ha] at k1;rw[hb] at k2;have k3:=ih x y f.type p hp hl.2.1 hr.2.1 ol.1 or'.1;have k4:=Zvd n w d ih fs l r (as++cells P ρ x) (bs++cells P ρ y) _ s (by rw[List.length_append,hlx,ha]) (by rw[List.length_append,hly,hb]) q hq hl.2.2 hr.2.2 ol.2 or'.2;have hnm:f.name≠ "_" :=by simpa using hnm
      simp only[Op.eqFields,hnm,ne_eq,not_false_eq_true,if_true,Sem.run_bind,ZcE,hl.1,k1,k2,Result.andThen_ok,k3];simp only[List.append_assoc] at k4;cases p with
      |false=>simp
      |true=>simpa using k4
     ·simp at h
    ·simp at h
theorem ZyH{P:Program}{ρ:Rho}(w:World)(d:Nat):(n:Nat)→(x y:AV)→(t:TypeId)→(b:Bool)→eqD P n t x y=some b→Has P x t→Has P y t→OK P ρ x→OK P ρ y→
  (Op.equalIn (d+2+n) t (den P ρ x) (den P ρ y)).run P w= .ok b w
 |0,x,y,t,b,h,hx,hy,ox,oy=>ZvX (by simpa [eqD] using h) hx hy ox oy w d
 |n+1,x,y,t,b,h,hx,hy,ox,oy=>by
  have base:eqAV x y=some b→(Op.equalIn (d+2+(n+1)) t (den P ρ x) (den P ρ y)).run P w= .ok b w:=fun h=>by
   have:=ZvX h hx hy ox oy w (d+n+1)
   rwa [show d+n+1+2=d+2+(n+1) by omega] at this
  by_cases hagg:∃ l r,x= .agg l∧y= .agg r
  ·obtain⟨l,r,rfl,rfl⟩:=hagg;simp only[eqD] at h;split at h
   ·rename_i fs hu;cases hst:P.stoodInHeld t with
    |true=>rw[hst] at h;simp at h
    |false=>
     rw[hst] at h;simp only[cond_false] at h;simp only[Has,hu] at hx hy;rcases hx with⟨fs1,e1,hx⟩|⟨m,e,e1,-⟩
     ·rcases hy with⟨fs2,e2,hy⟩|⟨m,e,e2,-⟩
      ·simp only[oE,TypeDesc.struct.injEq] at e1 e2;subst e1;subst e2;simp only[OK] at ox oy;have hf:P.underlying t=some (.struct (P.fieldsOf t)):=by simp[Program.fieldsOf,hu]
       have hff:P.fieldsOf t=fs:=by simp[Program.fieldsOf,hu]
       have:=Zvd n w d (fun x y t b=>ZyH w d n x y t b) fs.toList l r [] [] 0 _ rfl rfl b h hx hy ox oy;simp only[den];rw[show d+2+(n+1)=(d+2+n)+1 by omega,run_equalIn_agg w (d+2+n) t _ _ hf hst,hff];simpa using this
      ·simp at e2
     ·simp at e1
   ·simp at h
  ·refine base ?_;cases x<;>cases y<;>first|(exact absurd ⟨_,_,rfl,rfl⟩ hagg)|(simpa [eqD] using h)
end Go.Vx
namespace Go.Vx
open Go Go.RowKit
theorem ZBL(K:Fz):(p q:List Ds)→(l:Option Addr×Nat)→dloc K l (p++q)=match dloc K l p with|some l'=>dloc K l' q|none=>none
 | [],q,l=>rfl
 | .sub lo s::p,q,l=>by simp only[List.cons_append,dloc];exact ZBL K p q _
 | .elem i s o::p,q,l=>by
  simp only[List.cons_append,dloc];split
  ·split
   ·exact ZBL K p q _
   ·rfl
  ·rfl
theorem Tc.fit_sz(P:Program):(c:Tc)→(∀ t,(c.fitB P).1 t=true→c.sz=P.cellsOf t)∧(∀ fs o s,(c.fitB P).2.1 fs o s=true→o+c.sz=s)∧(∀ n e,(c.fitB P).2.2 n e=true→c.sz=n*P.cellsOf e):=by
 have one:∀ {g:TypeId→Bool} {k:Nat},(∀ t,g t=true→k=P.cellsOf t)→(∀ fs o s,oneF P g fs o s=true→o+k=s)∧(∀ n e,oneN g n e=true→k=n*P.cellsOf e):=by
  intro g k hg;refine⟨fun fs o s h=>?_,fun n e h=>?_⟩
  ·unfold oneF at h;split at h
   ·cases h
   ·split at h
    ·simp only[bA] at h;rw[hg _ h.1.2];exact Zaj h.2
    ·cases h
  ·simp only[oneN,bA] at h;rw[Zaj h.1,hg e h.2,Nat.one_mul]
 intro c
 induction c with
 |int k=>
  have key:∀ t,fitInt P k t=true→1=P.cellsOf t:=fun t h=>(Zmr h).2.symm
  exact⟨key,one key⟩
 |bool=>
  have key:∀ t,fitBool P t=true→1=P.cellsOf t:=fun t h=>by
   simp only[fitBool,bA] at h;exact(Zaj h.2).symm
  exact⟨key,one key⟩
 |ints k n=>
  have key:∀ t,fitInts P k n t=true→n=P.cellsOf t:=by
   intro t h;unfold fitInts at h;split at h
   ·simp only[bA] at h;exact(Zaj h.2).symm
   ·cases h
  exact⟨key,one key⟩
 |nil=>
  refine⟨fun t h=>by simp[Tc.fitB] at h,fun fs o s h=>?_,fun n e h=>?_⟩
  ·cases fs with
   |nil=>exact Zaj h
   |cons=>simp[Tc.fitB] at h
  ·rw[show n=0 from Zaj h];simp[Tc.sz]
 |cons a b iha ihb=>
  refine⟨fun t h=>by simp[Tc.fitB] at h,fun fs o s h=>?_,fun n e h=>?_⟩
  ·cases fs with
   |nil=>simp[Tc.fitB] at h
   |cons f fs=>
    simp only[Tc.fitB,bA] at h;have h1:=iha.1 _ h.1.2;have h2:=ihb.2.1 _ _ _ h.2;simp only[Tc.sz];omega
  ·cases n with
   |zero=>simp[Tc.fitB] at h
   |succ n=>
    simp only[Tc.fitB,bA] at h;have h1:=iha.1 _ h.1;have h2:=ihb.2.2 _ _ h.2;simp only[Tc.sz,h1,h2];rw[Nat.succ_mul,Nat.add_comm]
 |agg l ih=>
  have key:∀ t,fitAgg P (l.fitB P).2.1 (l.fitB P).2.2 t=true→l.sz=P.cellsOf t:=by
   intro t h;unfold fitAgg at h;split at h
   ·have:=ih.2.1 _ _ _ h;omega
   ·simp only[bA] at h;rw[ih.2.2 _ _ h.1];exact(Zaj h.2).symm
   ·cases h
  exact⟨key,one key⟩
theorem Dc.fit_sz(P:Program):(d:Dc)→(∀ t,(d.fitB P).1 t=true→d.sz=P.cellsOf t)∧(∀ fs o s,(d.fitB P).2 fs o s=true→o+d.sz=s):=by
 have one:∀ {g:TypeId→Bool} {k:Nat},(∀ t,g t=true→k=P.cellsOf t)→(∀ fs o s,oneF P g fs o s=true→o+k=s):=by
  intro g k hg fs o s h;unfold oneF at h;split at h
  ·cases h
  ·split at h
   ·simp only[bA] at h;rw[hg _ h.1.2];exact Zaj h.2
   ·cases h
 intro d
 induction d with
 |tc c=>exact⟨(Tc.fit_sz P c).1,one (Tc.fit_sz P c).1⟩
 |row d te _=>
  have key:∀ t,((match P.underlying t with|some (.slice e)=>Nat.beq e te|_=>false)&&Nat.beq (P.cellsOf t) 1&&(d.fitB P).1 te)=true→1=P.cellsOf t:=fun t h=>by
   simp only[bA] at h;exact(Zaj h.1.2).symm
  exact⟨key,one key⟩
 |nil=>
  refine⟨fun t h=>by simp[Dc.fitB] at h,fun fs o s h=>?_⟩;cases fs with
  |nil=>exact Zaj h
  |cons=>simp[Dc.fitB] at h
 |cons a b iha ihb=>
  refine⟨fun t h=>by simp[Dc.fitB] at h,fun fs o s h=>?_⟩;cases fs with
  |nil=>simp[Dc.fitB] at h
  |cons f fs=>
   simp only[Dc.fitB,bA] at h;have h1:=iha.1 _ h.1.2;have h2:=ihb.2 _ _ _ h.2;simp only[Dc.sz];omega
 |agg l ih=>
  have key:∀ t,fitAgg P (l.fitB P).2 (fun _ _=>false) t=true→l.sz=P.cellsOf t:=by
   intro t h;unfold fitAgg at h;split at h
   ·have:=ih.2 _ _ _ h;omega
   ·simp at h
   ·cases h
  exact⟨key,one key⟩
theorem drep_mk(P:Program){ρ:Rho}{b:Nat}{p:List Ds}{nm:Nm}(hb:ρ b=some nm){b' o' q:Nat}(hl:dloc nm.K (nmL nm) p=some (some ⟨b',o',none⟩,q)):(d:Dc)→
  (∀ t,(d.fitB P).1 t=true→∀ (o:Nat) (x:d.T),DRep P nm.K d b' (o'+o) x→OK P ρ (d.mkB b p o x).1∧Has P (d.mkB b p o x).1 t∧∀ (j:Nat) (v:Value),(cells P ρ (d.mkB b p o x).1)[j]? =some v→nm.K.K b' (o'+o+j)=some v)∧
  (∀ fs g s,(d.fitB P).2 fs g s=true→∀ (o:Nat) (x:d.T),DRep P nm.K d b' (o'+o) x→OKL P ρ (d.mkB b p o x).2∧HasF P (d.mkB b p o x).2 fs g s∧∀ (j:Nat) (v:Value),(denC P ρ (d.mkB b p o x).2)[j]? =some v→nm.K.K b' (o'+o+j)=some v):=by
 have one:∀ (d:Dc) (g:TypeId→Bool) (m:Nat→d.T→AV),(∀ t,g t=true→∀ (o:Nat) (x:d.T),DRep P nm.K d b' (o'+o) x→OK P ρ (m o x)∧Has P (m o x) t∧∀ (j:Nat) (v:Value),(cells P ρ (m o x))[j]? =some v→nm.K.K b' (o'+o+j)=some v)→
   ∀ fs h s,oneF P g fs h s=true→∀ (o:Nat) (x:d.T),DRep P nm.K d b' (o'+o) x→OKL P ρ [m o x]∧HasF P [m o x] fs h s∧∀ (j:Nat) (v:Value),(denC P ρ [m o x])[j]? =some v→nm.K.K b' (o'+o+j)=some v:=by
  intro d g m hg fs h s hh o x hr;unfold oneF at hh;split at hh
  ·cases hh
  ·split at hh
   ·simp only[bA] at hh;obtain⟨k1,k2,k3⟩:=hg _ hh.1.2 o x hr;exact⟨⟨k1,trivial⟩,⟨Zaj hh.1.1,k2,Zaj hh.2⟩,fun j v hv=>k3 j v (by simpa [denC,cells] using hv)⟩
   ·cases hh
 intro d
 induction d with
 |tc c=>
  have key:∀ t,c.fit P t=true→∀ (o:Nat) (x:c.T),DRep P nm.K (.tc c) b' (o'+o) x→OK P ρ (c.mk x)∧Has P (c.mk x) t∧∀ (j:Nat) (v:Value),(cells P ρ (c.mk x))[j]? =some v→nm.K.K b' (o'+o+j)=some v:=
   fun t h o x hr=>⟨Tc.ok_mk.2 hr.1,Tc.fit_has h x,fun j v hv=>hr.2 j v (by rw[← Zqw P ρ];exact hv)⟩
  exact⟨key,one (.tc c) (c.fit P) (fun _ x=>c.mk x) key⟩
 |row d te ih=>
  have key:∀ t,((match P.underlying t with|some (.slice e)=>Nat.beq e te|_=>false)&&Nat.beq (P.cellsOf t) 1&&(d.fitB P).1 te)=true→∀ (o:Nat) (x:List d.T),DRep P nm.K (.row d te) b' (o'+o) x→
    OK P ρ (.dv b (p++[.elem 0 0 o]) te d x)∧Has P (.dv b (p++[.elem 0 0 o]) te d x) t∧∀ (j:Nat) (v:Value),(cells P ρ (.dv b (p++[.elem 0 0 o]) te d x))[j]? =some v→nm.K.K b' (o'+o+j)=some v:=by
   intro t h o x hr;simp only[bA] at h;obtain⟨a,c,h1,h2,h3,h4,h5⟩:=hr;have hd:dloc nm.K (nmL nm) (p++[.elem 0 0 o])=some (a,c):=by
    rw[ZBL,hl];simp only[dloc,Nat.zero_mul,Nat.zero_add,h1]
   refine⟨?_,?_,?_⟩
   ·simp only[OK];exact⟨nm,(a,c),hb,hd,h.2,⟨h2,h3,h4,h5⟩,fun e=>by simp at e⟩
   ·simp only[Has];refine⟨?_,Zaj h.1.2⟩;have:=h.1.1;split at this
    ·exact⟨_,by assumption⟩
    ·cases this
   ·intro j v hv;have:cells P ρ (.dv b (p++[.elem 0 0 o]) te d x)=[.slice a x.length c]:=by simp[cells,den,hb,dvV,hd,Value.cells]
    rw[this] at hv;cases j with
    |zero=>simp only[List.getElem?_cons_zero,oE] at hv;rw[← hv];exact h1
    |succ j=>simp at hv
  exact⟨key,one (.row d te) (fun t=>(match P.underlying t with|some (.slice e)=>Nat.beq e te|_=>false)&&Nat.beq (P.cellsOf t) 1&&(d.fitB P).1 te) (fun(o:Nat) (x:List d.T)=>AV.dv b (p++[Ds.elem 0 0 o]) te d x) key⟩
 |nil=>
  refine⟨fun t h=>by simp[Dc.fitB] at h,fun fs g s h o x _=>?_⟩;cases fs with
  |nil=>exact⟨trivial,Zaj h,fun j v hv=>by simp[Dc.mkB,denC] at hv⟩
  |cons=>simp[Dc.fitB] at h
 |cons a r iha ihr=>
  refine⟨fun t h=>by simp[Dc.fitB] at h,fun fs g s h o x hr=>?_⟩;cases fs with
  |nil=>simp[Dc.fitB] at h
  |cons f fs=>
   simp only[Dc.fitB,bA] at h;obtain⟨r1,r2⟩:=hr;obtain⟨k1,k2,k3⟩:=iha.1 _ h.1.2 o x.1 r1;obtain⟨l1,l2,l3⟩:=ihr.2 _ _ _ h.2 (o+a.sz) x.2 (by rw[← Nat.add_assoc];exact r2);have hsz:=(Dc.fit_sz P a).1 _ h.1.2;have hlen:=ZcG P ρ _ _ k2 k1;refine⟨⟨k1,l1⟩,⟨Zaj h.1.1,k2,l2⟩,fun j v hv=>?_⟩;simp only[Dc.mkB,ZcE] at hv;by_cases hj:j<(cells P ρ (a.mkB b p o x.1).1).length
   ·rw[List.getElem?_append_left hj] at hv;exact k3 j v hv
   ·rw[List.getElem?_append_right (by omega)] at hv;have:=l3 _ v hv;rw[show o'+(o+a.sz)+(j-(cells P ρ (a.mkB b p o x.1).1).length)=o'+o+j by omega] at this;exact this
 |agg l ih=>
  have key:∀ t,fitAgg P (l.fitB P).2 (fun _ _=>false) t=true→∀ (o:Nat) (x:l.T),DRep P nm.K (.agg l) b' (o'+o) x→OK P ρ (.agg (l.mkB b p o x).2)∧Has P (.agg (l.mkB b p o x).2) t∧∀ (j:Nat) (v:Value),(cells P ρ (.agg (l.mkB b p o x).2))[j]? =some v→nm.K.K b' (o'+o+j)=some v:=by
   intro t h o x hr;unfold fitAgg at h;split at h
   ·rename_i fs hu;obtain⟨k1,k2,k3⟩:=ih.2 _ _ _ h o x hr;exact⟨k1,.inl ⟨fs,hu,k2⟩,fun j v hv=>k3 j v (by rw[Zcs] at hv;exact hv)⟩
   ·simp at h
   ·cases h
  exact⟨key,one (.agg l) (fitAgg P (l.fitB P).2 (fun _ _=>false)) (fun(o:Nat) (x:l.T)=>AV.agg (l.mkB b p o x).2) key⟩
theorem ZH5(P:Program)(K:Fz){b:Nat}:(l:Dc)→(i:Nat)→(x:l.T)→(q:(e:Dc)×e.T)→l.nth i x=some q→∀ (fs:List Field) (g s o:Nat),(l.fitB P).2 fs g s=true→DRep P K l b o x→∃ f,fs[i]? =some f∧g≤f.offset∧(q.1.fitB P).1 f.type=true∧DRep P K q.1 b (o+(f.offset-g)) q.2:=by
 have one:∀ {d:Dc} {x:d.T} {o:Nat} {fs:List Field} {g s:Nat},oneF P (d.fitB P).1 fs g s=true→DRep P K d b o x→∃ f,fs[0]? =some f∧g≤f.offset∧(d.fitB P).1 f.type=true∧DRep P K d b (o+(f.offset-g)) x:=by
  intro d x o fs g s h hr;unfold oneF at h;split at h
  ·cases h
  ·split at h
   ·rename_i f _;simp only[bA] at h;have:=Zaj h.1.1;exact⟨f,rfl,by omega,h.1.2,by rw[this];simpa using hr⟩
   ·cases h
 intro l
 induction l with
 |tc c=>
  intro i x q h fs g s o hf hr;cases i with
  |zero=>simp only[Dc.nth,oE] at h;subst h;exact one (d:=.tc c) hf hr
  |succ i=>simp[Dc.nth] at h
 |row d te _=>
  intro i x q h fs g s o hf hr;cases i with
  |zero=>simp only[Dc.nth,oE] at h;subst h;exact one (d:=.row d te) hf hr
  |succ i=>simp[Dc.nth] at h
 |nil=>intro i x q h;simp[Dc.nth] at h
 |agg l _=>
  intro i x q h fs g s o hf hr;cases i with
  |zero=>simp only[Dc.nth,oE] at h;subst h;exact one (d:=.agg l) hf hr
  |succ i=>simp[Dc.nth] at h
 |cons a r _ ihr=>
  intro i x q h fs g s o hf hr;cases fs with
  |nil=>simp[Dc.fitB] at hf
  |cons f fs=>
   simp only[Dc.fitB,bA] at hf;have e:=Zaj hf.1.1;have hsz:=(Dc.fit_sz P a).1 _ hf.1.2;cases i with
   |zero=>
    simp only[Dc.nth,oE] at h;subst h;exact⟨f,rfl,by omega,hf.1.2,by rw[e];simpa using hr.1⟩
   |succ i=>
    simp only[Dc.nth] at h;obtain⟨f',k1,k2,k3,k4⟩:=ihr i x.2 q h fs _ s (o+a.sz) hf.2 hr.2;refine⟨f',by simpa using k1,by omega,k3,?_⟩;rw[show o+(f'.offset-g)=o+a.sz+(f'.offset-(g+P.cellsOf f.type)) by omega];exact k4
section
variable {P:Program} {w0:Base} {ro:Nat} {ρ:Rho} {tm mem:List (Nat×AV)} {a:Act} {w:World} (S:Sim P w0 ro ρ tm mem a.tmps w)
 {gl:Nat→Option AV} (hgl:GL P ρ gl)
include S hgl
theorem ZFt{x:Option Operand}{d y Y:Nat}(hy:y≤Y){α:Type}{k:Nat→Option α}{r:α}(h:bnd (evO gl tm) x d y none k=some r)(code:BoundsCode):
  ∃ i,k i=some r∧((x=none∧i=d)∨(∃ o,x=some o∧i≤y∧∀ w:World,(Instr.sliceBound (a.eval o) Y code).run P w= .ok i w)):=by
 unfold bnd at h;cases x with
 |none=>exact⟨d,h,.inl ⟨rfl,rfl⟩⟩
 |some o=>
  simp only at h;split at h
  ·rename_i q i hi;replace h:=Zac h;obtain⟨hc,h⟩:=h;simp only[decide_eq_true_eq] at hc;obtain⟨h1,-⟩:=Zay S hgl hi;simp only[den] at h1;exact⟨i.toNat,h,.inr ⟨o,rfl,by omega,fun w=>by simp[Instr.sliceBound,h1,asIntOf,show 0≤i∧i≤(Y:Int) by omega]⟩⟩
  ·simp at h
theorem Zlr{lo hi:Option Operand}{len cap Cap:Nat}{α:Type}{k:Nat→Nat→Option α}{r:α}(isS:Bool)(hlc:len≤cap)(hcc:cap≤Cap)
  (h:bnd (evO gl tm) hi len cap none (fun h=>bnd (evO gl tm) lo 0 h none fun l=>k h l)=some r):
  ∃ h l,k h l=some r∧l≤h∧h≤cap∧(∀ w:World,(Instr.sliceBounds isS len Cap (lo.map a.eval) (hi.map a.eval) none).run P w= .ok (l,h,Cap) w)∧(lo=none→l=0):=by
 obtain⟨i,h1,h2⟩:=ZFt S hgl hcc h (if isS then .sliceAcap else .sliceAlen);obtain⟨j,h3,h4⟩:=ZzY S hgl h1 .sliceB;refine⟨i,j,h3,?_,?_,fun w=>?_,fun hn=>?_⟩
 ·rcases h4 with⟨-,rfl⟩|⟨o,-,hj,-⟩<;>omega
 ·rcases h2 with⟨-,rfl⟩|⟨o,-,hi,-⟩<;>omega
 rotate_left
 ·rcases h4 with⟨-,rfl⟩|⟨o,h5,-⟩
  ·rfl
  ·rw[hn] at h5;cases h5
 ·unfold Instr.sliceBounds;rcases h2 with⟨rfl,rfl⟩|⟨o,rfl,-,ho⟩<;>rcases h4 with⟨rfl,rfl⟩|⟨o',rfl,-,ho'⟩<;>simp_all
variable {m:Nat} {o:Oper} {e:Eff} {next:Act→World→Prop} {Q:Exit→Act→World→Prop} (hn:∀ v ρ' w',After P ro ρ mem w m e v ρ' w'→next (a.put o.dst v) w')
include hn
theorem ZH0{t el:TypeId}{x:Operand}{lo hi:Option Operand}{b n:Nat}(ho:o.op= .slice t x lo hi none)(hx:evO gl tm x=some (.gs b n el))(ht:P.underlying t=some (.slice el))(hz:0<P.cellsOf el)
  (h:bnd (evO gl tm) hi n n none (fun h=>bnd (evO gl tm) lo 0 h none fun l=>some (.val (.gp b l (h-l) el false 0)))=some e):o.wp P a w next Q:=by
 obtain⟨h1,h2⟩:=Zay S hgl hx;simp only[OK] at h2;obtain⟨nm,hb,hr,ht',hn',hle,hnon,hmx⟩:=h2;cases hq:nm.non with
 |true=>
  have hn0:=hnon hq;subst hn0;obtain⟨h,l,k1,k2,k3,k4,k5⟩:=Zlr S hgl (Cap:=0) true (Nat.le_refl _) (Nat.le_refl _) h;simp only[oE] at k1;have h0:h=0:=by omega
  have l0:l=0:=by omega
  subst h0;subst l0;have hv:den P ρ (.gs b 0 el)= .slice nm.K.na 0 0:=by simp[den,hb,gsV,hq]
  refine Zbf hn k1.symm ?_ ?_
  ·simp only[OK];exact⟨nm,hb,(fun h=>by cases h),hr,ht',by omega,by omega,fun _=>by omega,hmx⟩
  ·rw[hv] at h1;simp only[execOp,ho,h1,Instr.sliceAt,Instr.slice,Sem.run_bind,run_underlying ht,Result.andThen_ok,Sem.run_pure,Option.map_none,k4,ZbF hz];simp[den,hb,gpV,hq]
 |false=>
  obtain⟨h,l,k1,k2,k3,k4,k5⟩:=Zlr S hgl true (Nat.le_refl _) hle h;simp only[oE] at k1;have hv:den P ρ (.gs b n el)= .slice (some ⟨nm.blk,nm.off,none⟩) n nm.tot:=by simp[den,hb,gsV,hq]
  refine Zbf hn k1.symm ?_ ?_
  ·simp only[OK];exact⟨nm,hb,(fun h=>by cases h),hr,ht',by omega,by omega,(fun z=>by rw[hq] at z;cases z),hmx⟩
  ·rw[hv] at h1;simp only[execOp,ho,h1,Instr.sliceAt,Instr.slice,Sem.run_bind,run_underlying ht,Result.andThen_ok,Sem.run_pure,Option.map_none,k4,ZbF hz];by_cases hl:nm.tot=l<;>simp[den,hb,gpV,hq,hl,Addr.add]
theorem ZEz{t el:TypeId}{x:Operand}{lo hi:Option Operand}{b lo0 n z:Nat}{nn:Bool}(ho:o.op= .slice t x lo hi none)(hx:evO gl tm x=some (.gp b lo0 n el nn z))(ht:P.underlying t=some (.slice el))(hz:0<P.cellsOf el)
  (h:bnd (evO gl tm) hi n n none (fun h=>bnd (evO gl tm) lo 0 h none fun l=>some (.val (.gp b (lo0+l) (h-l) el nn (cond (Nat.beq l 0) z lo0))))=some e):o.wp P a w next Q:=by
 obtain⟨h1,h2⟩:=Zay S hgl hx;simp only[OK] at h2;obtain⟨nm,hb,hnn,hr,ht',hle,hct,hnon,hmx⟩:=h2;cases hq:nm.non with
 |true=>
  have hn0:=hnon hq;have e1:n=0:=by omega
  have e2:lo0=0:=by omega
  subst e1;subst e2;obtain⟨h,l,k1,k2,k3,k4,k5⟩:=Zlr S hgl (Cap:=0) true (by omega) (by omega) h;simp only[oE] at k1;have h0:h=0:=by omega
  have l0:l=0:=by omega
  subst h0;subst l0;have hv:den P ρ (.gp b 0 0 el nn z)= .slice nm.K.na 0 0:=by simp[den,hb,gpV,hq]
  refine Zbf hn k1.symm ?_ ?_
  ·simp only[OK];exact⟨nm,hb,hnn,hr,ht',by omega,hct,hnon,hmx⟩
  ·rw[hv] at h1;simp only[execOp,ho,h1,Instr.sliceAt,Instr.slice,Sem.run_bind,run_underlying ht,Result.andThen_ok,Sem.run_pure,Option.map_none,k4,ZbF hz];simp[den,hb,gpV,hq]
 |false=>
  obtain⟨h,l,k1,k2,k3,k4,k5⟩:=Zlr S hgl (Cap:=nm.tot-lo0) true (by omega) (by omega) h;simp only[oE] at k1;have hv:den P ρ (.gp b lo0 n el nn z)= .slice (some (if nm.tot=lo0 then (⟨nm.blk,nm.off,none⟩:Addr).add (z*P.cellsOf el) else (⟨nm.blk,nm.off,none⟩:Addr).add (lo0*P.cellsOf el))) n (nm.tot-lo0):=by simp[den,hb,gpV,hq]
  refine Zbf hn k1.symm ?_ ?_
  ·simp only[OK];exact⟨nm,hb,hnn,hr,ht',by omega,hct,hnon,hmx⟩
  ·rw[hv] at h1;simp only[execOp,ho,h1,Instr.sliceAt,Instr.slice,Sem.run_bind,run_underlying ht,Result.andThen_ok,Sem.run_pure,Option.map_none,k4,ZbF hz];have hv':den P ρ (.gp b (lo0+l) (h-l) el nn (cond (Nat.beq l 0) z lo0))= .slice (some (if nm.tot=lo0+l then (⟨nm.blk,nm.off,none⟩:Addr).add ((cond (Nat.beq l 0) z lo0)*P.cellsOf el) else (⟨nm.blk,nm.off,none⟩:Addr).add ((lo0+l)*P.cellsOf el))) (h-l) (nm.tot-(lo0+l)):=by simp[den,hb,gpV,hq]
   rw[hv',show nm.tot-(lo0+l)=nm.tot-lo0-l by omega];by_cases h6:nm.tot-lo0=l
   ·have h7:nm.tot=lo0+l:=by omega
    rw[if_pos h6,if_pos h7];cases l with
    |zero=>
     rw[if_pos (by omega:nm.tot=lo0)];rfl
    |succ l=>
     rw[if_neg (by omega:¬ nm.tot=lo0)];rfl
   ·have h7:¬ nm.tot=lo0+l:=by omega
    have h8:¬ nm.tot=lo0:=by omega
    rw[if_neg h6,if_neg h7,if_neg h8];simp only[Option.map_some,ZbG,Nat.add_mul,Nat.add_assoc]
theorem ZH1{t el:TypeId}{x:Operand}{lo hi:Option Operand}{b:Nat}{p:List Ds}{d:Dc}{l0:List d.T}(ho:o.op= .slice t x lo hi none)(hx:evO gl tm x=some (.dv b p el d l0))(ht:P.underlying t=some (.slice el))(hz:0<P.cellsOf el)
  (h:bnd (evO gl tm) hi l0.length l0.length none (fun h=>bnd (evO gl tm) lo 0 h none fun l=>some (.val (.dv b (p++[.sub l (P.cellsOf el)]) el d ((l0.drop l).take (h-l)))))=some e):o.wp P a w next Q:=by
 obtain⟨h1,h2⟩:=Zay S hgl hx;simp only[OK] at h2;obtain⟨nm,L,hb,hl,hf,⟨hadr,hlen,hmx,hrep⟩,-⟩:=h2;obtain⟨h,l,k1,k2,k3,k4,k5⟩:=Zlr S hgl (Cap:=L.2) true (Nat.le_refl _) hlen h;simp only[oE] at k1;have happ:dloc nm.K (nmL nm) (p++[.sub l (P.cellsOf el)])=some (if L.2=l then L.1 else L.1.map (·.add (l*P.cellsOf el)),L.2-l):=by
  have key:∀ (p:List Ds) (q:Option Addr×Nat),dloc nm.K q p=some L→dloc nm.K q (p++[.sub l (P.cellsOf el)])=some (if L.2=l then L.1 else L.1.map (·.add (l*P.cellsOf el)),L.2-l):=by
   intro p
   induction p with
   |nil=>intro q h;simp only[dloc,oE] at h;subst h;rfl
   |cons s p ih=>
    intro q h;cases s with
    |sub lo s=>simp only[dloc,List.cons_append] at h ⊢;exact ih _ h
    |elem i s o=>
     simp only[dloc,List.cons_append] at h ⊢;split at h
     ·split at h
      ·exact ih _ h
      ·cases h
     ·cases h
  exact key p _ hl
 have hv:den P ρ (.dv b p el d l0)= .slice L.1 l0.length L.2:=by simp[den,hb,dvV,hl]
 have htl:((l0.drop l).take (h-l)).length=h-l:=by simp;omega
 refine Zbf hn k1.symm ?_ ?_
 ·simp only[OK];refine⟨nm,_,hb,happ,hf,⟨⟨?_,?_⟩,by simp only;omega,by simp only;omega,?_⟩,fun e=>by simp at e⟩
  ·intro hn0;simp only at hn0 ⊢;have:L.1=none:=by
    split at hn0
    ·exact hn0
    ·simpa using hn0
   have:=hadr.1 this;omega
  ·intro ad had hc0;simp only at had;split at had
   ·exact hadr.2 ad had (by simp only at hc0;omega)
   ·obtain⟨a0,ha0,rfl⟩:=Option.map_eq_some_iff.1 had;obtain⟨g1,g2⟩:=hadr.2 a0 ha0 (by simp only at hc0;omega);unfold Addr.add;split
    ·exact⟨g1,g2⟩
    ·exact⟨rfl,g2⟩
  ·intro i y hy;rw[List.getElem?_take] at hy;split at hy
   ·rename_i hi';rw[List.getElem?_drop] at hy;obtain⟨b',o',g1,g2⟩:=hrep (l+i) y hy;have hne:¬ L.2=l:=by
     have:=(List.getElem?_eq_some_iff.1 hy).1;omega
    refine⟨b',o'+l*P.cellsOf el,?_,?_⟩
    ·simp only[hne,if_false,g1,Option.map_some,ZbG]
    ·rw[Nat.add_mul] at g2;rw[Nat.add_assoc];exact g2
   ·cases hy
 ·rw[hv] at h1;simp only[execOp,ho,h1,Instr.sliceAt,Instr.slice,Sem.run_bind,run_underlying ht,Result.andThen_ok,Sem.run_pure,Option.map_none,k4,ZbF hz];simp only[den,hb,dvV,happ,htl]
theorem ZH2{t:TypeId}{x:Operand}{lo hi:Option Operand}{s:ByteArray}(ho:o.op= .slice t x lo hi none)(hx:evO gl tm x=some (.str s))(ht:P.underlying t=some .string)
  (h:bnd (evO gl tm) hi s.size s.size none (fun h=>bnd (evO gl tm) lo 0 h none fun l=>some (.val (.str (s.extract l h))))=some e):o.wp P a w next Q:=by
 obtain⟨h1,h2⟩:=Zay S hgl hx;obtain⟨h,l,k1,k2,k3,k4⟩:=Zqx S hgl false (Nat.le_refl _) h;simp only[oE] at k1;simp only[den] at h1;simp only[OK] at h2;refine Zbf hn k1.symm ?_ ?_
 ·simp only[OK];have:(s.extract l h).size≤s.size:=by simp[ByteArray.size_extract];omega
  omega
 ·simp[execOp,ho,h1,Instr.sliceAt,Instr.slice,run_underlying ht,den];rw[k4 w];rfl
theorem ZCW{t el:TypeId}{x y:Operand}{b lo n z:Nat}{nn:Bool}{q:IntKind}{i:Int}(ho:o.op= .indexAddr t x y)(hx:evO gl tm x=some (.gp b lo n el nn z))(hy:evO gl tm y=some (.int q i))(ht:P.underlying t=some (.slice el))
  (hz:0<P.cellsOf el) (hi:0≤i∧i<(n:Int)) (he:e= .val (.ptr b [lo+i.toNat] el)):o.wp P a w next Q:=by
 obtain⟨h1,h2⟩:=Zay S hgl hx;obtain⟨h3,-⟩:=Zay S hgl hy;simp only[den] at h3;simp only[OK] at h2;obtain⟨nm,hb,-,hr,ht',hle,hct,hnon,-⟩:=h2;have hnn:nm.non=false:=by
  cases hq:nm.non with
  |false=>rfl
  |true=>have:=hnon hq;omega
 have hp':pathN P nm [lo+i.toNat]=some ((lo+i.toNat)*P.cellsOf el,el):=by
  unfold pathN;rw[if_pos hr];simp only[pathT,ht',show lo+i.toNat<nm.cap by omega,if_true,Nat.add_zero]
 have hne:¬ nm.tot=lo:=by omega
 have hv:den P ρ (.gp b lo n el nn z)= .slice (some ⟨nm.blk,nm.off+lo*P.cellsOf el,none⟩) n (nm.tot-lo):=by simp[den,hb,gpV,hnn,hne,ZbG]
 rw[hv] at h1;refine Zbf hn he (by simp only[OK];exact⟨nm,_,hb,hp'⟩) ?_;rw[Zhs hb hp'];simp[execOp,ho,h1,h3,Instr.indexAt,asIntOf,run_underlying ht,hi,ZbF hz,ZbG,Nat.add_assoc,Nat.add_mul]
theorem ZCX{t el:TypeId}{x y:Operand}{b:Nat}{p:List Ds}{d:Dc}{l0:List d.T}{q:IntKind}{i:Int}(ho:o.op= .indexAddr t x y)(hx:evO gl tm x=some (.dv b p el d l0))(hy:evO gl tm y=some (.int q i))(ht:P.underlying t=some (.slice el))
  (hz:0<P.cellsOf el) (hi:0≤i∧i<(l0.length:Int)) (he:e= .val (.dq b p (i.toNat*P.cellsOf el) el d (l0.getD i.toNat d.dft))):o.wp P a w next Q:=by
 obtain⟨h1,h2⟩:=Zay S hgl hx;obtain⟨h3,-⟩:=Zay S hgl hy;simp only[den] at h3;simp only[OK] at h2;obtain⟨nm,L,hb,hl,hf,⟨hadr,hlen,hmx,hrep⟩,-⟩:=h2;have hlt:i.toNat<l0.length:=by omega
 have hget:l0[i.toNat]? =some (l0.getD i.toNat d.dft):=by rw[List.getD_eq_getElem?_getD,List.getElem?_eq_getElem hlt];rfl
 obtain⟨b',o',g1,g2⟩:=hrep _ _ hget;have hv:den P ρ (.dv b p el d l0)= .slice (some ⟨b',o',none⟩) l0.length L.2:=by simp[den,hb,dvV,hl,g1]
 rw[hv] at h1;refine Zbf hn he ?_ ?_
 ·simp only[OK];exact⟨nm,b',o',L.2,hb,by rw[hl,← g1],hf,g2⟩
 ·have hp:den P ρ (.dq b p (i.toNat*P.cellsOf el) el d (l0.getD i.toNat d.dft))= .pointer (some ⟨b',o'+i.toNat*P.cellsOf el,none⟩):=by simp[den,hb,dqV,hl,g1,ZbG]
  rw[hp];simp[execOp,ho,h1,h3,Instr.indexAt,asIntOf,run_underlying ht,hi,ZbF hz,ZbG]
theorem s_loadD{t:TypeId}{x:Operand}{b at0:Nat}{p:List Ds}{d:Dc}{v:d.T}(ho:o.op= .load t x)(hx:evO gl tm x=some (.dq b p at0 t d v))(hc:d.fit P t=true)(he:e= .val (d.mkB b p at0 v).1):o.wp P a w next Q:=by
 obtain⟨h1,h2⟩:=Zay S hgl hx;simp only[OK] at h2;obtain⟨nm,b',o',q,hb,hl,-,hrep⟩:=h2;have hp:den P ρ (.dq b p at0 t d v)= .pointer (some ⟨b',o'+at0,none⟩):=by simp[den,hb,dqV,hl,ZbG]
 rw[hp] at h1;obtain⟨k1,k2,k3⟩:=(drep_mk P hb hl d).1 t hc at0 v hrep;refine Zbf hn he k1 ?_;have hrun:=Zqt (P:=P) (ρ:=ρ) (w:=w) k2 k1 b' (o'+at0) (fun j y hy=>S.ex.froz b nm hb b' (o'+at0+j) y (k3 j y hy));simp[execOp,ho,Instr.loadAt,h1,Instr.sureAddr,hrun]
theorem ZH3{s:TypeId}{x:Operand}{i b at0:Nat}{p:List Ds}{l:Dc}{v:l.T}{fs:Array Field}{f:Field}{q:(e:Dc)×e.T}(ho:o.op= .fieldAddr s x i)(hx:evO gl tm x=some (.dq b p at0 s (.agg l) v))(hc:Dc.fit P (.agg l) s=true)(hs:P.underlying s=some (.struct fs))(hf:fs[i]? =some f)
  (hq:l.nth i v=some q) (hz:0<P.cellsOf f.type) (he:e= .val (.dq b p (at0+f.offset) f.type q.1 q.2)):o.wp P a w next Q:=by
 obtain⟨h1,h2⟩:=Zay S hgl hx;simp only[OK] at h2;obtain⟨nm,b',o',c,hb,hl,-,hrep⟩:=h2;have hp:den P ρ (.dq b p at0 s (.agg l) v)= .pointer (some ⟨b',o'+at0,none⟩):=by simp[den,hb,dqV,hl,ZbG]
 rw[hp] at h1;have hfit:(l.fitB P).2 fs.toList 0 (P.cellsOf s)=true:=by
  have:fitAgg P (l.fitB P).2 (fun _ _=>false) s=true:=hc;unfold fitAgg at this;rw[hs] at this;exact this
 obtain⟨f',k1,k2,k3,k4⟩:=ZH5 P nm.K l i v q hq fs.toList 0 _ (o'+at0) hfit hrep;have:f'=f:=by
  rw[Array.getElem?_toList] at k1;rw[hf] at k1;exact(oI k1).symm
 subst this;rw[Nat.sub_zero] at k4;refine Zbf hn he ?_ ?_
 ·simp only[OK];exact⟨nm,b',o',c,hb,hl,k3,by rw[← Nat.add_assoc];exact k4⟩
 ·have hp':den P ρ (.dq b p (at0+f'.offset) f'.type q.1 q.2)= .pointer (some ⟨b',o'+(at0+f'.offset),none⟩):=by simp[den,hb,dqV,hl,ZbG]
  rw[hp'];have hz':¬ P.cellsOf f'.type=0:=by omega
  simp[execOp,ho,h1,Instr.fieldAt,run_underlying hs,hf,Instr.sureAddr,fieldPlace,ZbF hz,hz',ZbG,Nat.add_assoc]
omit S hgl hn in
theorem ZC3:(l:List Int)→(r:ByteArray)→l.foldl (fun r n=>r.push (UInt8.ofNat n.toNat)) r=⟨r.data++(bStr l).data⟩
 | [],r=>by simp[bStr]
 |n::l,r=>by
  rw[List.foldl_cons,ZC3 l];simp[bStr,ByteArray.push]
omit S hgl hn in
theorem ZC4(l:List Int):(bStr l).size=l.length:=by simp[bStr,ByteArray.size]
theorem s_bstr{s d el:TypeId}{x:Operand}{v:AV}{k:Nat}{l:List Int}{get:Nat→Option AV}(hget:∀ b T,get b=some T→lk b mem=some T)(ho:o.op= .convert s d x)(hx:evO gl tm x=some v)(hs:P.underlying s=some (.slice el))(hd:P.underlying d=some .string)
  (hr:rowC get v=some (.ints .u8 k l,el)) (he:e= .val (.str (bStr l))):o.wp P a w next Q:=by
 obtain⟨h1,h2⟩:=Zay S hgl hx;obtain⟨⟨k1,-⟩,k2,-,k4,k5⟩:=Zye S hget hr h2;simp only[OK] at k2;simp only[rowN] at k4 k5;refine Zbf hn he (by simp only[OK];rw[ZC4,k2.1];exact k4) ?_;rcases k5 with⟨z,e1,e2,-⟩|⟨b,of,q,e1,-,-,-,e4⟩
 ·have:l=[]:=List.eq_nil_of_length_eq_zero (by rw[k2.1,e2]);subst this;rw[e1] at h1;have hr:=run_convert_bytes_string (P:=P) w s d el z 0 0 hs k1 hd;have hb:(Conv.bytesToString (.slice z 0 0)).run P w= .ok (.string ByteArray.empty) w:=by cases z<;>rfl
  have h9:(execOp a.eval o).run P w=((convert s d (.slice z 0 0)).run P w).andThen fun v w=>.ok (.value v) w:=by
   unfold execOp;rw[ho];simp only[h1,Sem.run_bind,Sem.run_pure]
  rw[h9,hr,hb];rfl
 ·rw[e1] at h1;have hl:=run_loadCells_list (P:=P) (w:=w) ⟨b,of,none⟩ (l.map (Value.int .u8)) (fun j v hj=>by rw[ZbG];exact e4 j v (by rw[ZaZ];exact hj));rw[List.length_map,k2.1] at hl;have hr:=run_convert_bytes_string (P:=P) w s d el (some ⟨b,of,none⟩) k q hs k1 hd;rw[run_bytesToString w _ k q l hl,ZC3] at hr;have h9:(execOp a.eval o).run P w=((convert s d (.slice (some ⟨b,of,none⟩) k q)).run P w).andThen fun v w=>.ok (.value v) w:=by
   unfold execOp;rw[ho];simp only[h1,Sem.run_bind,Sem.run_pure]
  rw[h9,hr];simp only[Result.andThen_ok,den];have h8:(ByteArray.mk (ByteArray.empty.data++(bStr l).data))=bStr l:=by
   show ByteArray.mk (#[]++(bStr l).data)=bStr l;rw[Array.empty_append]
  rw[h8]
theorem s_bstr0{s d el:TypeId}{x:Operand}(ho:o.op= .convert s d x)(hx:evO gl tm x=some .nils)(hs:P.underlying s=some (.slice el))(hd:P.underlying d=some .string)(hk:P.underlying el=some (.int .u8))
  (he:e= .val (.str (bStr []))):o.wp P a w next Q:=by
 obtain⟨h1,-⟩:=Zay S hgl hx;simp only[den] at h1;refine Zbf hn he (by simp only[OK];rw[ZC4];decide) ?_;have hr:=run_convert_bytes_string (P:=P) w s d el none 0 0 hs hk hd;have hb:(Conv.bytesToString (.slice none 0 0)).run P w= .ok (.string ByteArray.empty) w:=rfl;have h9:(execOp a.eval o).run P w=((convert s d (.slice none 0 0)).run P w).andThen fun v w=>.ok (.value v) w:=by
  unfold execOp;rw[ho];simp only[h1,Sem.run_bind,Sem.run_pure]
 rw[h9,hr,hb];rfl
theorem ZH4{t ty:TypeId}{x y:Operand}{s u:ByteArray}(ho:o.op= .binOp .add t x y ty)(hx:evO gl tm x=some (.str s))(hy:evO gl tm y=some (.str u))(hi:inR .i64 ((s.size+u.size:Nat):Int)=true)
  (he:e= .val (.str (s++u))):o.wp P a w next Q:=by
 obtain⟨h1,-⟩:=Zay S hgl hx;obtain⟨h2,-⟩:=Zay S hgl hy;simp only[den] at h1 h2;simp only[inR,decide_eq_true_eq] at hi;refine Zbf hn he ?_ ?_
 ·simp only[OK];have hmax:IntKind.i64.max=9223372036854775807:=by decide
  rw[hmax] at hi;rw[ByteArray.size_append];exact hi.2
 ·have hlt:¬ (((s.size+u.size:Nat):Int)>IntKind.i64.max):=by have:=hi.2;omega
  have h9:((s.size:Int)+(u.size:Int))≤IntKind.i64.max:=by have:=hi.2;omega
  have hmax:IntKind.i64.max=9223372036854775807:=by decide
  rw[hmax] at h9;simp[execOp,ho,h1,h2,den,eqGuard,binOp,Op.stringOp];omega
theorem s_eqNil{t ty el:TypeId}{x y:Operand}{b lo n z:Nat}{te:TypeId}(ho:o.op= .binOp .eql t x y ty)(hx:evO gl tm x=some (.gp b lo n te true z))(hy:evO gl tm y=some .nils)(ht:P.underlying t=some (.slice el))
  (he:e= .val (.bool false)):o.wp P a w next Q:=by
 obtain⟨h1,h2⟩:=Zay S hgl hx;obtain⟨h3,-⟩:=Zay S hgl hy;simp only[OK] at h2;obtain⟨nm,hb,hnn,-⟩:=h2;have hq:=hnn trivial;simp only[den] at h3;obtain⟨ad,len,cap,hv⟩:∃ ad len cap,den P ρ (.gp b lo n te true z)= .slice (some ad) len cap:=by
  rcases hq with hq|hq
  ·exact⟨(if nm.tot=lo then (⟨nm.blk,nm.off,none⟩:Addr).add (z*P.cellsOf te) else (⟨nm.blk,nm.off,none⟩:Addr).add (lo*P.cellsOf te)),n,nm.tot-lo,by simp[den,hb,gpV,hq]⟩
  ·cases hna:nm.K.na with
   |none=>exact absurd hna hq
   |some ad=>
    cases h1:nm.non with
    |true=>exact⟨ad,0,0,by simp[den,hb,gpV,h1,hna]⟩
    |false=>exact⟨(if nm.tot=lo then (⟨nm.blk,nm.off,none⟩:Addr).add (z*P.cellsOf te) else (⟨nm.blk,nm.off,none⟩:Addr).add (lo*P.cellsOf te)),n,nm.tot-lo,by simp[den,hb,gpV,h1]⟩
 rw[hv] at h1;refine Zbf hn he (by simp[OK]) ?_;have hr:=Lib.run_eql_slice_nil (P:=P) w t el (some ad) len cap 0 0 ht;simp[execOp,ho,h1,h3,eqGuard,den,hr]
omit S hgl hn in
theorem ZBM(z:Array Value)(n j:Nat)(hj:j<n):(madeCells z n).toList[j]? =some (z[j%z.size]!):=by
 have:j<(madeCells z n).size:=by rw[size_madeCells];exact hj
 simp[madeCells,hj]
omit S hgl hn in
theorem Zt2{el:TypeId}{n:Nat}{T:AV}(h:zeroRow P el n=some T):RowSh P el T∧OK P ρ T∧rowN T=n∧(∀ s p,T≠ .itr s p)∧
  ∃ i v,P.info? el=some i∧i.zero=some v∧∀ j x,(cells P ρ T)[j]? =some x→j<n*P.cellsOf el∧(v.cells.size=P.cellsOf el→x=v.cells[j%v.cells.size]!):=by
 unfold zeroRow at h;split at h
 ·rename_i k hz;obtain⟨i,v,hi,hv,-,hc,hH,-⟩:=Zup hz ρ;split at h
  ·rename_i k' hk';obtain⟨hkk,h⟩:=Zac h;obtain rfl:=oI h;obtain rfl:=ZmU hkk;unfold intTy at hk';split at hk'
   ·rename_i k2 hk2;obtain⟨hc1,hk'⟩:=Zac hk';obtain rfl:=oI hk';have hc1:=Zaj hc1;have hcc:v.cells= #[.int k2 0]:=by
     have h0:cells P ρ (.int k2 0)=[.int k2 0]:=by simp[cells,den,Value.cells]
     rw[h0] at hc;rw[← Array.toArray_toList (xs:=v.cells),hc]
    refine⟨⟨hk2,hc1⟩,?_,rfl,(fun s p e=>by cases e),i,v,hi,hv,fun j x hx=>?_⟩
    ·simp only[OK];refine⟨by simp,fun x hx=>?_⟩;have:=List.eq_of_mem_replicate hx;subst this;cases k2<;>decide
    ·rw[ZaZ] at hx;simp only[List.map_replicate,List.getElem?_replicate] at hx;split at hx
     ·rename_i hj;refine⟨by rw[hc1];omega,fun _=>?_⟩;rw[hcc,← oI hx];simp[Nat.mod_one]
     ·cases hx
   ·cases hk'
  ·cases h
 ·rename_i z hno hz;split at h
  ·rename_i c hcd;split at h
   ·rename_i x0 hx0;obtain rfl:=oI h;obtain⟨i,v,hi,hv,-,hc,hH,hO⟩:=Zup hz ρ;obtain rfl:=Tc.get_mk hx0;have hf:=Zx7 (P:=P) hcd;have hok:=Tc.ok_mk.1 hO;rw[Zqw] at hc;have hlen:=ZvV P hf hok;refine⟨hf,?_,by simp[rowN],(fun s p e=>by cases e),i,v,hi,hv,fun j x hx=>?_⟩
    ·simp only[OK];intro y hy;rw[List.eq_of_mem_replicate hy];exact hok
    ·rw[ZcD] at hx;have key:∀ (n:Nat) (j:Nat) (x:Value),((List.replicate n x0).flatMap c.cs)[j]? =some x→j<n*P.cellsOf el∧(c.cs x0)[j%P.cellsOf el]? =some x:=by
      intro n
      induction n with
      |zero=>intro j x h;simp at h
      |succ n ih=>
       intro j x h;rw[List.replicate_succ,List.flatMap_cons] at h;by_cases hj:j<(c.cs x0).length
       ·rw[List.getElem?_append_left hj] at h;refine⟨by rw[Nat.succ_mul];omega,?_⟩;rw[Nat.mod_eq_of_lt (by omega)];exact h
       ·rw[List.getElem?_append_right (by omega)] at h;obtain⟨h1,h2⟩:=ih _ x h;refine⟨by rw[Nat.succ_mul];omega,?_⟩;rw[← h2]
        congr 1
        rw[hlen] at hj ⊢
        conv=>lhs;rw[show j=(j-P.cellsOf el)+P.cellsOf el by omega]
        rw[Nat.add_mod_right]
     obtain⟨h1,h2⟩:=key n j x hx;refine⟨h1,fun hsz=>?_⟩;rw[← hc] at h2;rw[hsz];rw[Array.getElem?_toList] at h2;rw[getElem!_def,h2]
   ·cases h
  ·cases h
 ·cases h
theorem s_make{t el:TypeId}{T:AV}{q q':IntKind}{i j:Int}{x y:Operand}(ho:o.op= .makeSlice t x y)(hx:evO gl tm x=some (.int q i))(hy:evO gl tm y=some (.int q' j))(ht:P.underlying t=some (.slice el))
  (hz:zeroRow P el i.toNat=some T) (hij:0≤i∧i≤j) (hf:fits P el j.toNat=true) (hrt:rowTy P el=true) (he:e= .grow none T fun c=>.gs c i.toNat el):o.wp P a w next Q:=by
 obtain⟨h1,-⟩:=Zay S hgl hx;obtain⟨h2,-⟩:=Zay S hgl hy;simp only[den] at h1 h2;obtain⟨k1,k2,k3,k4,inf,v,k5,k6,k7⟩:=Zt2 (ρ:=ρ) hz;unfold fits at hf;rw[k5] at hf;simp only[decide_eq_true_eq] at hf;unfold rowTy at hrt;rw[k5] at hrt;simp only[k6,bA] at hrt;have hsz:P.cellsOf el=inf.size:=by simp[Program.cellsOf,k5]
 have hvs:v.cells.size=inf.size:=Zaj hrt.1;have hj0:((j.toNat:Nat):Int)=j:=by omega
 have hby:(inf.bytes:Int)*j≤281474976710656:=by
  have h1:=hf.1;have h3:((j.toNat*inf.bytes:Nat):Int)≤140737488355328:=by omega
  rw[Int.natCast_mul,hj0,Int.mul_comm] at h3;omega
 have hrun:=run_make (P:=P) w t el inf v ht k5 k6 q q' i j hij.1 hij.2 hby (by omega);subst he
 let nm:Nm:=⟨w.heap.size,0,i.toNat,el,true,j.toNat,false,nk⟩
 have self:upd ρ m nm m=some nm:=by simp[upd]
 refine Zo7 (v:=den P (upd ρ m nm) (.gs m i.toNat el)) (w':=w.alloc (.cells (madeCells v.cells (j.toNat*inf.size)) el)) ?_ ?_
 ·simp[execOp,ho,h1,h2,hrun,den,self,gsV,nm]
 ·have hblk:(w.alloc (.cells (madeCells v.cells (j.toNat*inf.size)) el)).heap[w.heap.size]? =some (.cells (madeCells v.cells (j.toNat*inf.size)) el (0,0)):=by
   show (w.heap.push _)[w.heap.size]? =_;simp
  have hb:=(Below.refl w.heap.size w).alloc (Nat.le_refl _) (.cells (madeCells v.cells (j.toNat*inf.size)) el);refine hn _ _ _ (.grow none T _ nm _ (ZBG rfl k1 k3) k2 ?_ rfl ⟨rfl,k4,by cases T<;>first|rfl|simp[RowSh] at k1⟩ (fun h=>by cases h) (fun _=>⟨⟨rfl,?_,?_,_,hblk,?_⟩,fun jj x hx=>?_⟩) (.inl (Nat.le_refl _)) ⟨hb.os,hb.tape,hb.output,hb.size⟩ (fun k hk _=>hb.block k hk) (fun b0 h=>by cases h))
  ·simp only[OK];exact⟨nm,self,rfl,rfl,rfl,by show i.toNat≤j.toNat;omega,(fun h=>by cases h),by show ((j.toNat:Nat):Int)≤_;omega⟩
  ·show i.toNat≤j.toNat;omega
  ·show j.toNat≤maxLen;unfold maxLen;omega
  ·rw[size_madeCells];show _=j.toNat*P.cellsOf el;rw[hsz]
  ·obtain⟨g1,g2⟩:=k7 jj x hx;rw[hsz] at g1;have g2:=g2 (by rw[hvs,hsz]);simp only[nm,Nat.zero_add];have hlt:jj<j.toNat*inf.size:=Nat.lt_of_lt_of_le g1 (Nat.mul_le_mul_right _ (by omega));rw[cell_of_row _ w.heap.size jj _ el (0,0) hblk];have:=ZBM v.cells (j.toNat*inf.size) jj hlt;rw[Array.getElem?_toList] at this;rw[this,g2]
omit S hgl hn in
theorem ZBN(z:Array Value)(n j:Nat)(hj:j<n*z.size):(Builtin.zeroCells z n)[j]? =some (z[j%z.size]!):=by
 simp[Builtin.zeroCells,hj]
theorem s_appZ{c:Call}{t t' el:TypeId}{kn:IntKind}{x y:AV}(ho:o.op= .call c)(hcal:c.callee= .builtin .append)(hx:evL (evO gl tm) c.args.toList=some [x,y])(ht:c.argTypes.toList=[t,t'])
  (hu:P.underlying t=some (.slice el)) (hu':P.underlying t'=some (.int kn)) (hk:appZ P el x y none some=some e):o.wp P a w next Q:=by
 obtain⟨h1,-⟩:=ZeB S hgl hx;have hargs:c.args.map a.eval= #[den P ρ x,den P ρ y]:=by
  rw[← Array.toArray_toList (xs:=c.args.map a.eval),Array.toList_map,h1];simp[denT]
 have hty:c.argTypes= #[t,t']:=by rw[← Array.toArray_toList (xs:=c.argTypes),ht]
 unfold appZ at hk;split at hk
 ·split at hk
  ·rename_i q i;split at hk
   ·rename_i T hz;replace hk:=Zac hk;obtain⟨hc,he⟩:=hk;simp only[bA,decide_eq_true_eq] at hc;obtain⟨⟨h0,hf⟩,hrt⟩:=hc;simp only[oE] at he;obtain⟨k1,k2,k3,k4,inf,v,k5,k6,k7⟩:=Zt2 (ρ:=ρ) hz;unfold fits at hf;rw[k5] at hf;simp only[decide_eq_true_eq] at hf;unfold rowTy at hrt;rw[k5] at hrt;simp only[k6,bA] at hrt;have hsz:P.cellsOf el=inf.size:=by simp[Program.cellsOf,k5]
    have hvs:v.cells.size=inf.size:=Zaj hrt.1;have hpos:0<inf.size:=by simpa using hrt.2
    have hi0:((i.toNat:Nat):Int)=i:=by omega
    have hrun:=Lib.run_append_nil_zeros (P:=P) w t t' o.type el inf v q kn hu hu' k5 k6 i.toNat (by omega) hpos (by omega) (by omega);rw[hi0] at hrun;have hge:=grownCap_ge w i.toNat 0 el;have hcm:grownCap w i.toNat 0 el≤maxLen:=grownCap_le_maxLen w i.toNat 0 el (by simp only[maxLen];omega);have hmn:(grownCap w i.toNat 0 el:Int)≤9223372036854775807:=by simp only[maxLen] at hcm;omega
    subst he
    let nm:Nm:=⟨w.heap.size,0,i.toNat,el,true,grownCap w i.toNat 0 el,false,nk⟩
    have self:upd ρ m nm m=some nm:=by simp[upd]
    simp only[den] at hargs;refine Zo7 (v:=den P (upd ρ m nm) (.gs m i.toNat el)) (w':=w.drew.alloc (.cells (Builtin.zeroCells v.cells i.toNat++Builtin.zeroCells v.cells (grownCap w i.toNat 0 el-i.toNat)) el)) ?_ ?_
    ·simp[execOp,ho,resolve,hcal,invoke,builtin,hargs,hty,hrun,den,self,gsV,nm]
    ·have hblk:(w.drew.alloc (.cells (Builtin.zeroCells v.cells i.toNat++Builtin.zeroCells v.cells (grownCap w i.toNat 0 el-i.toNat)) el)).heap[w.heap.size]? =some (.cells (Builtin.zeroCells v.cells i.toNat++Builtin.zeroCells v.cells (grownCap w i.toNat 0 el-i.toNat)) el (0,0)):=heap_alloc_new w.drew _;refine hn _ _ _ (.grow none T _ nm _ (ZBG rfl k1 k3) k2 ?_ rfl ⟨rfl,k4,by cases T<;>first|rfl|simp[RowSh] at k1⟩ (fun h=>by cases h) (fun _=>⟨⟨rfl,?_,?_,_,hblk,?_⟩,fun jj x hx=>?_⟩) (.inl (Nat.le_refl _)) ⟨rfl,rfl,rfl,by simp⟩ (fun k hk _=>heap_alloc_old w.drew _ hk) (fun b0 h=>by cases h))
     ·simp only[OK];exact⟨nm,self,rfl,rfl,rfl,hge,(fun h=>by cases h),hmn⟩
     ·exact hge
     ·exact hcm
     ·rw[Array.size_append,size_zeroCells,size_zeroCells,← Nat.add_mul,hsz,hvs];show _=grownCap w i.toNat 0 el*inf.size
      congr 1
      omega
     ·obtain⟨g1,g2⟩:=k7 jj x hx;have g2:=g2 (by rw[hvs,hsz]);simp only[nm,Nat.zero_add];rw[cell_of_row _ w.heap.size jj _ el (0,0) hblk];have hlt:jj<i.toNat*v.cells.size:=by rw[hvs,← hsz];exact g1
      rw[Array.getElem?_append_left (by rw[size_zeroCells];exact hlt),ZBN _ _ _ hlt,g2]
   ·cases hk
  ·cases hk
 ·cases hk
theorem s_capN{c:Call}{t el:TypeId}(ho:o.op= .call c)(hcal:c.callee= .builtin .cap)(hx:evL (evO gl tm) c.args.toList=some [.nils])(ht:c.argTypes.toList=[t])(hu:P.underlying t=some (.slice el))
  (he:e= .val (.int .i64 0)):o.wp P a w next Q:=by
 obtain⟨h1,-⟩:=ZeB S hgl hx;have hargs:c.args.map a.eval= #[.slice none 0 0]:=by
  rw[← Array.toArray_toList (xs:=c.args.map a.eval),Array.toList_map,h1];simp[denT,den]
 have hty:c.argTypes= #[t]:=by rw[← Array.toArray_toList (xs:=c.argTypes),ht]
 refine Zbf hn he (by simp only[OK];decide) ?_;simp[execOp,ho,resolve,hcal,invoke,builtin,hargs,hty,Builtin.cap_,run_underlying hu,den,goInt]
theorem s_min{c:Call}{q q':IntKind}{i j:Int}(ho:o.op= .call c)(hcal:c.callee= .builtin .min)(hx:evL (evO gl tm) c.args.toList=some [.int q i,.int q' j])(hq:kEq q q'=true)
  (he:e= .val (.int q (cond (decide (j<i)) j i))):o.wp P a w next Q:=by
 obtain⟨h1,h2⟩:=ZeB S hgl hx;have hargs:c.args.map a.eval= #[.int q i,.int q' j]:=by
  rw[← Array.toArray_toList (xs:=c.args.map a.eval),Array.toList_map,h1];simp[denT,den]
 have ok:OK P ρ (.int q i)∧OK P ρ (.int q' j):=by
  simp only[OKL,and_true] at h2;exact h2
 have hqe:q=q':=by cases q<;>cases q'<;>first|rfl|cases hq
 subst hqe;simp only[OK] at ok;refine Zbf hn he ?_ ?_
 ·simp only[OK];cases decide (j<i)<;>first|exact ok.1|exact ok.2
 ·by_cases hji:j<i<;>simp[execOp,ho,resolve,hcal,invoke,builtin,hargs,Builtin.min_,Builtin.min2,den,hji]
omit S hgl in
theorem s_empty{t el:TypeId}{T:AV}{ps:Array (Nat×Operand)}(ho:o.op= .buildSlice t 0 ps)(hps:ps.toList=[])(ht:P.underlying t=some (.slice el))
  (hz:zeroRow P el 0=some T) (hrt:rowTy P el=true) (he:e= .grow none T fun c=>.gs c 0 el):o.wp P a w next Q:=by
 obtain⟨k1,k2,k3,k4,inf,v,k5,k6,k7⟩:=Zt2 (ρ:=ρ) hz;have hsz:P.cellsOf el=inf.size:=by simp[Program.cellsOf,k5]
 have hp:ps= #[]:=by rw[← Array.toArray_toList (xs:=ps),hps]
 have hrun:(Instr.buildSlice t 0 #[]).run P w= .ok (.slice (some ⟨w.heap.size,0,none⟩) 0 0) (w.alloc (.cells #[] el)):=by
  simp[Instr.buildSlice,run_underlying ht,sizeOf,typeInfo,k5,Instr.fill,newRow,Array.range_zero']
 subst he
 let nm:Nm:=⟨w.heap.size,0,0,el,true,0,false,nk⟩
 have self:upd ρ m nm m=some nm:=by simp[upd]
 refine Zo7 (v:=den P (upd ρ m nm) (.gs m 0 el)) (w':=w.alloc (.cells #[] el)) ?_ ?_
 ·simp[execOp,ho,hp,hrun,den,self,gsV,nm]
 ·have hblk:(w.alloc (.cells #[] el)).heap[w.heap.size]? =some (.cells #[] el (0,0)):=by
   show (w.heap.push _)[w.heap.size]? =_;simp
  have hb:=(Below.refl w.heap.size w).alloc (Nat.le_refl _) (.cells #[] el);refine hn _ _ _ (.grow none T _ nm _ (ZBG rfl k1 k3) k2 ?_ rfl ⟨rfl,k4,by cases T<;>first|rfl|simp[RowSh] at k1⟩ (fun h=>by cases h) (fun _=>⟨⟨rfl,Nat.le_refl _,Nat.zero_le _,_,hblk,?_⟩,fun jj x hx=>?_⟩) (.inl (Nat.le_refl _)) ⟨hb.os,hb.tape,hb.output,hb.size⟩ (fun k hk _=>hb.block k hk) (fun b0 h=>by cases h))
  ·simp only[OK];exact⟨nm,self,rfl,rfl,rfl,Nat.le_refl _,(fun h=>by cases h),by show ((0:Nat):Int)≤9223372036854775807;decide⟩
  ·show _=0*_;simp
  ·have:=(k7 jj x hx).1;omega
theorem s_appX{get:Nat→Option AV}(hget:∀ b T,get b=some T→lk b mem=some T){c:Call}{t el:TypeId}{x y:AV}(ho:o.op= .call c)(hcal:c.callee= .builtin .append)(hx:evL (evO gl tm) c.args.toList=some [x,y])(ht:c.argTypes.toList=[t,t])
  (hu:P.underlying t=some (.slice el)) (hk:appX P ro el x y get none some=some e):o.wp P a w next Q:=by
 obtain⟨h1,h2⟩:=ZeB S hgl hx;simp only[OKL,and_true] at h2;obtain⟨okx,oky⟩:=h2;have hargs:c.args.map a.eval= #[den P ρ x,den P ρ y]:=by
  rw[← Array.toArray_toList (xs:=c.args.map a.eval),Array.toList_map,h1];simp[denT]
 have hty:c.argTypes= #[t,t]:=by rw[← Array.toArray_toList (xs:=c.argTypes),ht]
 
 have ownR:∀ (b1:Nat) (nm1:Nm) (T0 T:AV) (n1:Nat) (te:TypeId),lk b1 mem=some T0→ρ b1=some nm1→nm1.row=true→nm1.ty=te→ro≤b1→RowSh P te T→OK P ρ T→rowN T=n1→n1≤nm1.cap→LiesAt (cells P ρ T0) 0 (cells P ρ T)→
   nm1.cap≤nm1.tot→(nm1.non=true→nm1.cap=0)→w.ownsRow w0.g.heap.size te (P.cellsOf te) (gsV nm1 n1) (rowN T) (cells P ρ T):=by
  intro b1 nm1 T0 T n1 te hlT hb1 hr1 ht1 hro shT okT hrn hle1 hlie hct hnon1;have hlen:=ZjH shT okT;obtain⟨nm1',hb1',hN1,okT0,hs1,hcell1⟩:=S.cell b1 T0 hlT;rw[hb1] at hb1';obtain rfl:=oI hb1';refine⟨hlen,?_⟩;cases hq:nm1.non with
  |true=>exact .inl ⟨by simp[gsV,hq,S.ex.nas b1 T0 nm1 hlT hb1 hro],by have:=hnon1 hq;omega⟩
  |false=>
   rcases S.rows b1 T0 nm1 hlT hb1 hro hr1 with h|h
   ·rw[hq] at h;cases h
   ·obtain⟨q1,q2,q3,cur,q4,q5⟩:=h;rw[ht1] at q4 q5;refine .inr ⟨nm1.blk,nm1.tot,cur,by simp[gsV,hq,q1,hrn],Base.own_ge ((S.own b1 T0 nm1 hlT hb1 hro).1 hq),q4,by rw[hrn];omega,q3,q5,?_⟩;refine List.ext_getElem? fun j=>?_
    rw[List.getElem?_take];by_cases hj:j<rowN T*P.cellsOf te
    ·rw[if_pos hj];have hj':j<(cells P ρ T).length:=by rw[hlen];exact hj
     have h0:=hlie j _ (List.getElem?_eq_getElem hj');rw[Nat.zero_add] at h0;have:=hcell1 j _ h0;rw[q1,Nat.zero_add,cell_of_row w nm1.blk j cur te (0,0) q4] at this;rw[List.getElem?_eq_getElem hj'];simpa using this
    ·rw[if_neg hj];rw[List.getElem?_eq_none (by rw[hlen];omega)]
 have vb:∀ (b1:Nat) (nm1:Nm) (T0:AV) (n1 g:Nat),lk b1 mem=some T0→ρ b1=some nm1→ro≤b1→(gsV nm1 n1).ownBlock=some g→∃ b0 nm0 T0,some b1=some b0∧ρ b0=some nm0∧lk b0 mem=some T0∧ro≤b0∧nm0.non=false∧g=nm0.blk:=by
  intro b1 nm1 T0 n1 g hlT hb1 hro hg;cases hq:nm1.non with
  |true=>simp[gsV,hq,Value.ownBlock,S.ex.nas b1 T0 nm1 hlT hb1 hro] at hg
  |false=>
   refine⟨b1,nm1,T0,rfl,hb1,hlT,hro,hq,?_⟩;simp[gsV,hq,Value.ownBlock] at hg;exact hg.symm
 have rowT:∀ {el:TypeId},rowTy P el=true→∃ i,P.info? el=some i:=by
  intro el h;unfold rowTy at h;split at h
  ·rename_i i hi;exact⟨i,hi⟩
  ·cases h
 have shOf:∀ {T:AV} {nm:Nm},HasN P nm T→nm.row=true→pl T=true→RowSh P nm.ty T∧rowN T=nm.cap:=by
  intro T nm hN hr hp;simp only[HasN,hr,if_true] at hN;cases T<;>simp only at hN<;>first|exact⟨hN.2,hN.1⟩|exact hN.elim|(simp[pl] at hp;done)
 unfold appX at hk;split at hk
 ·
  split at hk
  ·replace hk:=Zac hk;obtain⟨hrt,hk⟩:=hk;simp only[oE] at hk;refine Zbf hn hk.symm (by simp[OK]) ?_;simp only[den] at hargs ⊢;obtain⟨i,hi⟩:=rowT hrt;have hr:=run_append_owned_none (P:=P) w 0 t o.type el i i.size hu hi (.slice none 0 0) 0 [] (World.ownsRow_nil w _ _ _);simp[execOp,ho,resolve,hcal,invoke,builtin,hargs,hty,hr]
  ·rename_i b1 n1 te1;replace hk:=Zac hk;obtain⟨hc,hk⟩:=hk;simp only[bA] at hc;have hc2:=Zaj hc.1.1;subst hc2;have hro:=Nat.le_of_ble_eq_true hc.2;split at hk
   ·rename_i T hT;replace hk:=Zac hk;obtain⟨hp,hk⟩:=hk;simp only[oE] at hk;have hlT:=hget b1 T hT;obtain⟨nm1,hb1,hN1,okT,-⟩:=S.cell b1 T hlT;have okx0:=okx;simp only[OK] at okx;obtain⟨nm1',hb1',hr1,ht1,hn1,hle1,hnon1,hmax1⟩:=okx;rw[hb1] at hb1';obtain rfl:=oI hb1';obtain⟨shT,hcT⟩:=shOf hN1 hr1 hp;rw[ht1] at shT;have hown:=ownR b1 nm1 T T n1 te1 hlT hb1 hr1 ht1 hro shT okT (by omega) (by omega) (fun j x hx=>by rw[Nat.zero_add];exact hx) (by omega) (fun h=>by have:=hnon1 h;omega);obtain⟨i,hi⟩:=rowT hc.1.2;have hv:den P ρ (.gs b1 n1 te1)=gsV nm1 n1:=by simp[den,hb1]
    refine Zbf hn hk.symm okx0 ?_;have hr:=run_append_owned_none (P:=P) w _ t o.type te1 i _ hu hi _ _ _ hown;have hnl:den P ρ .nils= .slice none 0 0:=by simp[den]
    rw[hv,hnl] at hargs;rw[hv];simp[execOp,ho,resolve,hcal,invoke,builtin,hargs,hty,hr]
   ·cases hk
  ·cases hk
 ·split at hk
  ·rename_i r hr;obtain⟨U,te2⟩:=r;replace hk:=Zac hk;obtain⟨hc,hk⟩:=hk;simp only[bA] at hc;obtain⟨hc1,hrt⟩:=hc;have hc1:=Zaj hc1;simp only at hc1 hk;subst hc1;obtain⟨shU,okU,plU,hmaxU,hyv⟩:=Zye S hget hr oky;have hlenU:=ZjH shU okU;have hyv':(den P ρ y= .slice none 0 0∧rowN U=0∧cells P ρ U=[])∨∃ ad q,den P ρ y= .slice (some ad) (rowN U) q∧∀ j u,(cells P ρ U)[j]? =some u→w.cell? (ad.add j)=some u:=by
    rcases hyv with⟨z,e1,e2,e3⟩|⟨b,of,q,e1,-,-,-,e4⟩
    ·cases z with
     |none=>exact .inl ⟨e1,e2,e3⟩
     |some ad=>exact .inr ⟨ad,0,by rw[e1,e2],fun j u hj=>by rw[e3] at hj;simp at hj⟩
    ·exact .inr ⟨⟨b,of,none⟩,q,e1,fun j u hj=>by rw[ZbG];exact e4 j u hj⟩
   have fin:∀ (b:Option Nat) (T V:AV) (v:Value),RowSh P te2 T→OK P ρ T→catT T U=some V→fits P te2 (rowN V)=true→
     den P ρ x=v→w.ownsRow w0.g.heap.size te2 (P.cellsOf te2) v (rowN T) (cells P ρ T)→
     (∀ g,v.ownBlock=some g→∃ b0 nm0 T0,b=some b0∧ρ b0=some nm0∧lk b0 mem=some T0∧ro≤b0∧nm0.non=false∧g=nm0.blk)→
     (∀ b0,b=some b0→ro≤b0∧∃ T0,lk b0 mem=some T0∧isDc T0=false)→e= .grow b V (fun c=>.gs c (rowN V) te2)→o.wp P a w next Q:=by
    intro b T V v shT okT hcat hfit hxv hown hvb hb0 he;obtain⟨shV,okV,hrV,hcV⟩:=ZC1 hcat shT shU okT okU;obtain⟨v',w',r1,r2,r3,r4⟩:=ZDK (ty:=o.type) (m:=rowN U) (news:=cells P ρ U) hrt (by rw[← hrV];exact hfit) hu hown S.below.below.size hyv' hlenU (Zxf shU);refine Zzl hn (B:=w0.g.heap.size) shV okV ?_ ?_ (by rw[hcV,hrV];exact r2) ?_ ⟨r3.os,r3.tape,r3.output,r3.size⟩ ?_ hb0 he
    ·unfold fits at hfit;split at hfit
     ·simp only[decide_eq_true_eq] at hfit;omega
     ·cases hfit
    ·rw[hxv] at hargs;simp[execOp,ho,resolve,hcal,invoke,builtin,hargs,hty,r1]
    ·intro k0 hk0 hne;refine r3.block k0 hk0 fun hh=>?_
     obtain⟨b0,nm0,T0,e1,e2,e3,e4,e5,e6⟩:=hvb k0 hh.symm;exact hne b0 nm0 e1 e2 e5 e6
    ·intro g hgv;rcases r4 with h|h
     ·right;exact hvb g (by rw[← h];exact hgv)
     ·left;rw[h] at hgv;have:=oI hgv;omega
   split at hk
   ·
    split at hk
    ·rename_i T hem;split at hk
     ·rename_i V hcat;replace hk:=Zac hk;obtain⟨hfit,hk⟩:=hk;simp only[oE] at hk;obtain⟨shT,okT,hrT,hcT⟩:=Zz0 (ρ:=ρ) hem shU;exact fin none T V (.slice none 0 0) shT okT hcat hfit (by simp[den]) (by rw[hcT,hrT];exact World.ownsRow_nil w _ _ _) (fun g h=>by simp[Value.ownBlock] at h) (fun b0 h=>by cases h) hk.symm
     ·simp at hk
    ·simp at hk
   ·rename_i b1 n1 te1;replace hk:=Zac hk;obtain⟨hc,hk⟩:=hk;simp only[bA] at hc;have hc2:=Zaj hc.1;subst hc2;have hro:=Nat.le_of_ble_eq_true hc.2;split at hk
    ·rename_i T hT;split at hk
     ·rename_i V hcat;replace hk:=Zac hk;obtain⟨hfit,hk⟩:=hk;simp only[oE] at hk;have hlT:=hget b1 T hT;obtain⟨nm1,hb1,hN1,okT,-⟩:=S.cell b1 T hlT;simp only[OK] at okx;obtain⟨nm1',hb1',hr1,ht1,hn1,hle1,hnon1,hmax1⟩:=okx;rw[hb1] at hb1';obtain rfl:=oI hb1';obtain⟨shT,hcT⟩:=Zun hN1 hr1 (Zr4 (P:=P) (te:=te1) (.inl hcat));rw[ht1] at shT;have hown:=ownR b1 nm1 T T n1 te1 hlT hb1 hr1 ht1 hro shT okT (by omega) (by omega) (fun j x hx=>by rw[Nat.zero_add];exact hx) (by omega) (fun h=>by have:=hnon1 h;omega);refine fin (some b1) T V (gsV nm1 n1) shT okT hcat hfit (by simp[den,hb1]) hown (fun g hg=>vb b1 nm1 T n1 g hlT hb1 hro hg) ?_ hk.symm;intro b0 hb0;obtain rfl:=oI hb0;exact⟨hro,T,hlT,(Zr4 (P:=P) (te:=te1) (.inl hcat)).2.2⟩
     ·simp at hk
    ·simp at hk
   ·rename_i b1 lo1 n1 te1 nn1 z1;replace hk:=Zac hk;obtain⟨hc,hk⟩:=hk;simp only[bA] at hc;have hc2:=Zaj hc.1.1;have hc3:=Zaj hc.2.1;have hc4:=Zaj hc.2.2;subst hc2;subst hc3;subst hc4;have hro:=Nat.le_of_ble_eq_true hc.1.2;split at hk
    ·rename_i T0 hT0;split at hk
     ·rename_i T hcut;split at hk
      ·rename_i V hcat;replace hk:=Zac hk;obtain⟨hfit,hk⟩:=hk;simp only[oE] at hk;have hlT:=hget b1 T0 hT0;obtain⟨nm1,hb1,hN1,okT0,-⟩:=S.cell b1 T0 hlT;simp only[OK] at okx;obtain⟨nm1',hb1',-,hr1,ht1,hle1,hct1,hnon1,hmax1⟩:=okx;rw[hb1] at hb1';obtain rfl:=oI hb1';obtain⟨shT,okT,hrT,hlie,-⟩:=ZEA (ρ:=ρ) hN1 hr1 okT0 hcut hle1;rw[ht1] at shT;rw[Nat.zero_mul] at hlie;have hown:=ownR b1 nm1 T0 T n1 te1 hlT hb1 hr1 ht1 hro shT okT hrT (by omega) hlie hct1 hnon1;have hv:den P ρ (.gp b1 0 n1 te1 nn1 0)=gsV nm1 n1:=by
        cases hq:nm1.non with
        |true=>simp[den,hb1,gpV,gsV,hq]
        |false=>simp[den,hb1,gpV,gsV,hq,Addr.add]
       refine fin (some b1) T V (gsV nm1 n1) shT okT hcat hfit hv hown (fun g hg=>vb b1 nm1 T0 n1 g hlT hb1 hro hg) ?_ hk.symm;intro b0 hb0;obtain rfl:=oI hb0;exact⟨hro,T0,hlT,by cases T0<;>first|rfl|simp[cutT] at hcut⟩
      ·simp at hk
     ·simp at hk
    ·simp at hk
   ·simp at hk
  ·simp at hk
theorem ZIW{c:Call}{t el:TypeId}{u:AV}{n:Nat}(ho:o.op= .call c)(hcal:c.callee= .builtin .len)(hx:evL (evO gl tm) c.args.toList=some [u])(ht:c.argTypes.toList=[t])(hu:P.underlying t=some (.slice el))
  (hv:(∃ b lo te nn z,u= .gp b lo n te nn z)∨∃ b p te d l,u= .dv b p te d l∧n=l.length) (he:e= .val (.int .i64 n)):o.wp P a w next Q:=by
 obtain⟨h1,h2⟩:=ZeB S hgl hx;simp only[OKL,and_true] at h2;have hargs:c.args.map a.eval= #[den P ρ u]:=by
  rw[← Array.toArray_toList (xs:=c.args.map a.eval),Array.toList_map,h1];simp[denT]
 have hty:c.argTypes= #[t]:=by rw[← Array.toArray_toList (xs:=c.argTypes),ht]
 have hmin:IntKind.i64.min= -9223372036854775808:=by decide
 have hmax:IntKind.i64.max=9223372036854775807:=by decide
 have main:(∃ ad q,den P ρ u= .slice ad n q)∧((n:Nat):Int)≤9223372036854775807:=by
  rcases hv with⟨b,lo,te,nn,z,rfl⟩|⟨b,p,te,d,l,rfl,rfl⟩
  ·simp only[OK] at h2;obtain⟨nm,hb,-,hr,ht',hle,hct,hnon,hmx⟩:=h2;refine⟨?_,by omega⟩;cases hq:nm.non with
   |true=>
    have:=hnon hq;have hn0:n=0:=by omega
    subst hn0;exact⟨nm.K.na,0,by simp[den,hb,gpV,hq]⟩
   |false=>exact⟨some (if nm.tot=lo then (⟨nm.blk,nm.off,none⟩:Addr).add (z*P.cellsOf te) else (⟨nm.blk,nm.off,none⟩:Addr).add (lo*P.cellsOf te)),nm.tot-lo,by simp only[den,hb,gpV,hq,cond_false]⟩
  ·simp only[OK] at h2;obtain⟨nm,L,hb,hl,-,⟨-,hlen,hmx,-⟩,-⟩:=h2;exact⟨⟨L.1,L.2,by simp[den,hb,dvV,hl]⟩,by omega⟩
 obtain⟨⟨ad,q,hden⟩,hbd⟩:=main;refine Zbf hn he (by simp only[OK];rw[hmin,hmax];omega) ?_;rw[hden] at hargs;simp[execOp,ho,resolve,hcal,invoke,builtin,hargs,hty,Builtin.len_,run_underlying hu,den,goInt]
end
end Go.Vx
namespace Go.Vx
open Go Go.RowKit
theorem ZDN{P:Program}{ρ:Rho}{te:TypeId}{T:AV}{d:(c:Tc)×List c.T}(h:flatOf T=some d)(sh:RowSh P te T)(ok:OK P ρ T):
  d.1.fit P te=true∧(∀ x∈d.2,d.1.ok x)∧cells P ρ T=d.2.flatMap d.1.cs∧rowN T=d.2.length:=by
 cases T<;>simp only[flatOf,oE] at h<;>try (cases h;done)
 case ints k n l=>
  subst h;simp only[RowSh] at sh;simp only[OK] at ok;refine⟨?_,fun x hx=>ok.2 x hx,?_,?_⟩
  ·simp[Tc.fit,Tc.fitB,fitInt,sh.1,sh.2]
  ·rw[ZaZ];clear ok
   induction l with
   |nil=>rfl
   |cons y l ih=>rw[List.map_cons,List.flatMap_cons,ih];rfl
  ·exact ok.1.symm
 case vec c l=>
  subst h;simp only[RowSh] at sh;simp only[OK] at ok;exact⟨sh,ok,ZcD P ρ c l,rfl⟩
theorem ZDO(P:Program){c:Tc}{te:TypeId}(hf:c.fit P te=true):∀ (l:List c.T),(∀ x∈l,c.ok x)→∀ (i:Nat) (y:c.T),l[i]? =some y→∀ (j:Nat) (v:Value),(c.cs y)[j]? =some v→(l.flatMap c.cs)[i*P.cellsOf te+j]? =some v
 | [],_,i,y,h,_,_,_=>by simp at h
 |x::l,ok,0,y,h,j,v,hv=>by
  simp only[List.getElem?_cons_zero,oE] at h;subst h;rw[List.flatMap_cons,Nat.zero_mul,Nat.zero_add,List.getElem?_append_left (List.getElem?_eq_some_iff.1 hv).1];exact hv
 |x::l,ok,i+1,y,h,j,v,hv=>by
  have hl:=ZvV P hf (ok x (by simp));have:=ZDO P hf l (fun z hz=>ok z (by simp[hz])) i y (by simpa using h) j v hv;rw[List.flatMap_cons,List.getElem?_append_right (by rw[hl,Nat.succ_mul];omega),hl,show (i+1)*P.cellsOf te+j-P.cellsOf te=i*P.cellsOf te+j by rw[Nat.succ_mul];omega];exact this
theorem repR_of{P:Program}{K:Fz}{c:Tc}{te:TypeId}{l:List c.T}{blk off tot:Nat}(hf:c.fit P te=true)(hok:∀ x∈l,c.ok x)(hcell:∀ j v,(l.flatMap c.cs)[j]? =some v→K.K blk (off+j)=some v)(hlen:l.length≤tot)(hmax:(tot:Int)≤9223372036854775807)(hs:blk<K.hs):
  RepR P K (.tc c) te (some ⟨blk,off,none⟩,tot) l:=by
 refine⟨⟨fun h=>absurd h (by simp),fun ad h _=>?_⟩,hlen,hmax,fun i y hy=>⟨blk,off,rfl,hok y (List.mem_of_getElem? hy),fun j v hv=>?_⟩⟩
 ·obtain rfl:=oI h;exact⟨rfl,hs⟩
 ·have:=hcell _ v (ZDO P hf l hok i y hy j v hv);rw[← Nat.add_assoc] at this;exact this
theorem ZH6{P:Program}{w:World}{t el ty:TypeId}{B n m:Nat}{v yv:Value}{xs news:List Value}(hrt:rowTy P el=true)(hfit:fits P el (n+m)=true)(hu:P.underlying t=some (.slice el))
  (hown:w.ownsRow B el (P.cellsOf el) v n xs) (hB:B≤w.heap.size)
  (hy:(yv= .slice none 0 0∧m=0∧news=[])∨∃ ad c,yv= .slice (some ad) m c∧∀ j u,news[j]? =some u→w.cell? (ad.add j)=some u) (hl:news.length=m*P.cellsOf el) (h1:∀ u∈news,u.oneCell'=true):
  ∃ v' w',(Builtin.append_ #[t,t] ty #[v,yv]).run P w= .ok v' w'∧w'.ownsRow B el (P.cellsOf el) v' (n+m) (xs++news)∧w.grownBy w' v.ownBlock∧(v'.ownBlock=v.ownBlock∨v'.ownBlock=some w.heap.size)∧
   ∀ g,v.ownBlock=some g→∀ j u,xs[j]? =some u→w'.cell? ⟨g,j,none⟩=some u:=by
 obtain⟨v',w',k1,k2,k3,k4⟩:=ZDK (ty:=ty) hrt hfit hu hown hB hy hl h1;refine⟨v',w',k1,k2,k3,k4,fun g hg j u hj=>?_⟩;have old:v'.ownBlock=some g→w'.cell? ⟨g,j,none⟩=some u:=by
  intro h;have:=k2.cells h j u (by rw[List.getElem?_append_left (List.getElem?_eq_some_iff.1 hj).1];exact hj);rw[ZbG,Nat.zero_add] at this;exact this
 have was:w.cell? ⟨g,j,none⟩=some u:=by
  have:=hown.cells hg j u hj;rw[ZbG,Nat.zero_add] at this;exact this
 rcases k4 with h|h
 ·exact old (h.trans hg)
 ·
  rcases hown.2 with⟨rfl,-⟩|⟨g',cap,cur,rfl,hbg,hgg,hnc,hcm,hcs,htake⟩
  ·simp[Value.ownBlock] at hg
  ·have hg':g'=g:=by simpa [Value.ownBlock] using hg
   subst hg';have hlt:g'<w.heap.size:=(Array.getElem?_eq_some_iff.1 hgg).1;unfold rowTy at hrt;unfold fits at hfit;cases hi:P.info? el with
   |none=>rw[hi] at hrt;simp at hrt
   |some i=>
    rw[hi] at hrt hfit;simp only at hrt hfit;have hsz:P.cellsOf el=i.size:=by simp[Program.cellsOf,hi]
    cases hz:i.zero with
    |none=>rw[hz] at hrt;simp at hrt
    |some z=>
     simp only[decide_eq_true_eq] at hfit;rw[hsz] at hown hl hcs htake;rcases hy with⟨rfl,rfl,rfl⟩|⟨ad,c,rfl,hc⟩
     ·have:=run_append_owned_none (P:=P) w B t ty el i i.size hu hi _ n xs hown;rw[this] at k1;simp only[Result.ok.injEq] at k1;rw[← k1.2];exact was
     ·by_cases hroom:n+m≤cap
      ·have hfit':n*i.size+news.length≤cur.size:=by rw[hl,hcs,← Nat.add_mul];exact Nat.mul_le_mul_right _ hroom
       have:=run_append_room (P:=P) w t ty el i hu hi g' n cap cur hgg ad m c news hl hc h1 hroom hfit';rw[this] at k1;simp only[Result.ok.injEq] at k1;exact old (by rw[← k1.1];rfl)
      ·have holds:∀ j u,xs[j]? =some u→w.cell? ((⟨g',0,none⟩:Addr).add j)=some u:=hown.cells (g:=g') rfl;have:=run_append_grow (P:=P) w t ty el i z hu hi hz ⟨g',0,none⟩ n cap xs hown.1 holds ad m c news hl hc (by omega) (by omega) (growslice_fits (by omega) hfit.1);rw[this] at k1;simp only[Result.ok.injEq] at k1;rw[← k1.2,World.cell?_of_block (w:=w) (heap_alloc_old w.drew _ hlt)];exact was
theorem Tc.cs_len:(c:Tc)→(x:c.T)→c.ok x→(c.cs x).length=c.sz
 | .int _,_,_=>rfl
 | .bool,_,_=>rfl
 | .ints _ n,x,h=>by simp only[Tc.cs,List.length_map];exact h.1
 | .nil,_,_=>rfl
 | .cons a b,x,h=>by simp only[Tc.cs,List.length_append,Tc.sz,Tc.cs_len a x.1 h.1,Tc.cs_len b x.2 h.2]
 | .agg l,x,h=>Tc.cs_len l x h
theorem Tc.cs_one:(c:Tc)→(x:c.T)→∀ v∈c.cs x,v.oneCell'=true
 | .int _,_,v,h=>by simp only[Tc.cs,List.mem_singleton] at h;subst h;rfl
 | .bool,_,v,h=>by simp only[Tc.cs,List.mem_singleton] at h;subst h;rfl
 | .ints _ n,x,v,h=>by simp only[Tc.cs,List.mem_map] at h;obtain⟨y,-,rfl⟩:=h;rfl
 | .nil,_,v,h=>by simp[Tc.cs] at h
 | .cons a b,x,v,h=>by
  simp only[Tc.cs,List.mem_append] at h;rcases h with h|h
  ·exact Tc.cs_one a x.1 v h
  ·exact Tc.cs_one b x.2 v h
 | .agg l,x,v,h=>Tc.cs_one l x v h
def Fz.le(K K':Fz):Prop:=(∀ k o v,K.K k o=some v→K'.K k o=some v)∧K.hs≤K'.hs
theorem Adr.le{K K':Fz}(h:K.le K'){a:Option Addr}{c:Nat}(ha:Adr K a c):Adr K' a c:=⟨ha.1,fun ad h1 h2=>⟨(ha.2 ad h1 h2).1,Nat.lt_of_lt_of_le (ha.2 ad h1 h2).2 h.2⟩⟩
theorem DRep.move{P:Program}{K K':Fz}(hK:K.le K'):(d:Dc)→(b o b' o':Nat)→(x:d.T)→DRep P K d b o x→(∀ j v,j<d.sz→K.K b (o+j)=some v→K'.K b' (o'+j)=some v)→DRep P K' d b' o' x
 | .tc c,b,o,b',o',x,h,hm=>by
  simp only[DRep] at h ⊢;exact⟨h.1,fun j v hv=>hm j v (by
   show j<c.sz;rw[← Tc.cs_len c x h.1];exact(List.getElem?_eq_some_iff.1 hv).1) (h.2 j v hv)⟩
 | .row d te,b,o,b',o',x,h,hm=>by
  simp only[DRep] at h ⊢;obtain⟨a,c,h1,h2,h3,h4,h5⟩:=h;refine⟨a,c,?_,h2.le hK,h3,h4,fun i y hy=>?_⟩
  ·have:=hm 0 _ (by simp[Dc.sz]) (by rw[Nat.add_zero];exact h1);rw[Nat.add_zero] at this;exact this
  ·obtain⟨b1,o1,k1,k2⟩:=h5 i y hy;exact⟨b1,o1,k1,DRep.move hK d b1 _ b1 _ y k2 fun j v _ hv=>hK.1 _ _ _ hv⟩
 | .nil,_,_,_,_,_,_,_=>trivial
 | .cons a r,b,o,b',o',x,h,hm=>by
  simp only[DRep] at h ⊢;refine⟨DRep.move hK a b o b' o' x.1 h.1 fun j v hj hv=>hm j v (by simp only[Dc.sz];omega) hv,DRep.move hK r b _ b' _ x.2 h.2 fun j v hj hv=>?_⟩;have:=hm (a.sz+j) v (by simp only[Dc.sz];omega) (by rw[← Nat.add_assoc];exact hv);rw[← Nat.add_assoc] at this;exact this
 | .agg l,b,o,b',o',x,h,hm=>by
  simp only[DRep] at h ⊢;exact DRep.move hK l b o b' o' x h hm
theorem DRep.cell{P:Program}{K:Fz}:(d:Dc)→(b o:Nat)→(x:d.T)→DRep P K d b o x→∀ j,j<d.sz→∃ v,K.K b (o+j)=some v∧v.oneCell'=true
 | .tc c,b,o,x,h,j,hj=>by
  simp only[DRep] at h;have hj:j<(c.cs x).length:=by rw[Tc.cs_len c x h.1];exact hj
  exact⟨_,h.2 j _ (List.getElem?_eq_getElem hj),Tc.cs_one c x _ (List.getElem_mem hj)⟩
 | .row d te,b,o,x,h,j,hj=>by
  simp only[DRep] at h;obtain⟨a,c,h1,-⟩:=h;simp only[Dc.sz] at hj;obtain rfl:j=0:=by omega
  exact⟨_,h1,rfl⟩
 | .nil,_,_,_,_,j,hj=>by simp[Dc.sz] at hj
 | .cons a r,b,o,x,h,j,hj=>by
  simp only[DRep] at h;simp only[Dc.sz] at hj;by_cases h1:j<a.sz
  ·exact DRep.cell a b o x.1 h.1 j h1
  ·obtain⟨v,k1,k2⟩:=DRep.cell r b (o+a.sz) x.2 h.2 (j-a.sz) (by omega);exact⟨v,by rw[show o+j=o+a.sz+(j-a.sz) by omega];exact k1,k2⟩
 | .agg l,b,o,x,h,j,hj=>by
  simp only[DRep] at h;exact DRep.cell l b o x h j hj
def AllK(ρ:Rho)(K:Fz):Prop:=∀ b nm,ρ b=some nm→nm.K.le K
theorem ZFu{P:Program}{ρ:Rho}{K:Fz}(hK:AllK ρ K){d:Dc}{te:TypeId}{v:AV}{x:List d.T}(h:getRow d te v=some x)(ok:OK P ρ v){b o:Nat}(hc:∀ j u,(cells P ρ v)[j]? =some u→K.K b (o+j)=some u):
  DRep P K (.row d te) b o x∧(cells P ρ v).length=1:=by
 unfold getRow at h;split at h
 ·rename_i b0 p te' d' x';split at h
  ·rename_i hs;have e:=Dc.same_eq d' d hs;subst e;obtain⟨ht,h7⟩:=Zac h;have e7:=Zaj ht;subst e7;have e8:=oI h7;clear h h7;have e9:castD (Dc.same_eq d' d' hs) x'=x':=rfl;rw[e9] at e8;subst e8;simp only[OK] at ok;obtain⟨nm,l,hb,hl,hf,⟨h1,h2,h3,h4⟩,-⟩:=ok;have hd:den P ρ (.dv b0 p te d' x')= .slice l.1 x'.length l.2:=by simp[den,hb,dvV,hl]
   have hcs:cells P ρ (.dv b0 p te d' x')=[.slice l.1 x'.length l.2]:=by unfold cells;rw[hd];rfl
   refine⟨⟨l.1,l.2,?_,h1.le (hK b0 nm hb),h2,h3,fun i y hy=>?_⟩,by rw[hcs];rfl⟩
   ·have:=hc 0 _ (by rw[hcs];rfl);rw[Nat.add_zero] at this;exact this
   ·obtain⟨b',o',k1,k2⟩:=h4 i y hy;exact⟨b',o',k1,DRep.move (hK b0 nm hb) d' b' _ b' _ y k2 fun j v _ hv=>(hK b0 nm hb).1 _ _ _ hv⟩
  ·cases h
 ·obtain rfl:=oI h;have hcs:cells P ρ .nils=[.slice none 0 0]:=by unfold cells;simp[den,Value.cells]
  refine⟨⟨none,0,?_,⟨fun _=>rfl,fun ad h=>by cases h⟩,Nat.le_refl _,by decide,fun i y hy=>by simp at hy⟩,by rw[hcs];rfl⟩;have:=hc 0 _ (by rw[hcs];rfl);rw[Nat.add_zero] at this;exact this
 ·cases h
theorem Dc.getB_rep{P:Program}{ρ:Rho}{K:Fz}(hK:AllK ρ K):(d:Dc)→
  (∀ v x,d.getB.1 v=some x→OK P ρ v→∀ b o,(∀ j u,(cells P ρ v)[j]? =some u→K.K b (o+j)=some u)→DRep P K d b o x∧(cells P ρ v).length=d.sz)∧
  (∀ l x,d.getB.2 l=some x→OKL P ρ l→∀ b o,(∀ j u,(denC P ρ l)[j]? =some u→K.K b (o+j)=some u)→DRep P K d b o x∧(denC P ρ l).length=d.sz):=by
 have oneB:∀ {d:Dc} {g:AV→Option d.T},(∀ v x,g v=some x→OK P ρ v→∀ b o,(∀ j u,(cells P ρ v)[j]? =some u→K.K b (o+j)=some u)→DRep P K d b o x∧(cells P ρ v).length=d.sz)→
   ∀ l x,oneL g l=some x→OKL P ρ l→∀ b o,(∀ j u,(denC P ρ l)[j]? =some u→K.K b (o+j)=some u)→DRep P K d b o x∧(denC P ρ l).length=d.sz:=by
  intro d g hg l x h ok b o hc;obtain⟨v,rfl,h⟩:=Zt3 h;have e:denC P ρ [v]=cells P ρ v:=by simp[denC,cells]
  rw[e] at hc ⊢;exact hg v x h ok.1 b o hc
 intro d
 induction d with
 |tc c=>
  have key:∀ v (x:c.T),c.get v=some x→OK P ρ v→∀ b o,(∀ j u,(cells P ρ v)[j]? =some u→K.K b (o+j)=some u)→DRep P K (.tc c) b o x∧(cells P ρ v).length=Dc.sz (.tc c):=by
   intro v x h ok b o hc;obtain rfl:=Tc.get_mk h;have ok':=Tc.ok_mk.1 ok;rw[Zqw] at hc ⊢;exact⟨⟨ok',hc⟩,Tc.cs_len c x ok'⟩
  exact⟨key,oneB (d:=.tc c) key⟩
 |row d te ih=>
  have key:∀ v (x:List d.T),getRow d te v=some x→OK P ρ v→∀ b o,(∀ j u,(cells P ρ v)[j]? =some u→K.K b (o+j)=some u)→DRep P K (.row d te) b o x∧(cells P ρ v).length=Dc.sz (.row d te):=
   fun v x h ok b o hc=>ZFu hK h ok hc
  exact⟨key,oneB (d:=.row d te) key⟩
 |nil=>
  refine⟨fun v x h=>by simp[Dc.getB] at h,fun l x h ok b o hc=>?_⟩;cases l with
  |nil=>exact⟨trivial,rfl⟩
  |cons=>simp[Dc.getB] at h
 |cons a r iha ihr=>
  refine⟨fun v x h=>by simp[Dc.getB] at h,fun l x h ok b o hc=>?_⟩;cases l with
  |nil=>simp[Dc.getB] at h
  |cons v l=>
   simp only[Dc.getB] at h;split at h
   ·rename_i y hy;split at h
    ·rename_i z hz;obtain rfl:=oI h;simp only[OKL] at ok;rw[ZcE] at hc ⊢;obtain⟨h1,h2⟩:=iha.1 v y hy ok.1 b o fun j u hu=>hc j u (by rw[List.getElem?_append_left (List.getElem?_eq_some_iff.1 hu).1];exact hu)
     obtain⟨h3,h4⟩:=ihr.2 l z hz ok.2 b (o+a.sz) fun j u hu=>by
      have:=hc (a.sz+j) u (by rw[List.getElem?_append_right (by omega),h2,Nat.add_sub_cancel_left];exact hu);rw[← Nat.add_assoc] at this;exact this
     exact⟨⟨h1,h3⟩,by simp only[List.length_append,h2,h4,Dc.sz]⟩
    ·cases h
   ·cases h
 |agg c ih=>
  have key:∀ v (x:c.T),getAgg c.getB.2 v=some x→OK P ρ v→∀ b o,(∀ j u,(cells P ρ v)[j]? =some u→K.K b (o+j)=some u)→DRep P K (.agg c) b o x∧(cells P ρ v).length=Dc.sz (.agg c):=by
   intro v x h ok b o hc;obtain⟨l,rfl,h⟩:=Zz2 h;simp only[OK] at ok;rw[Zcs] at hc ⊢;exact ih.2 l x h ok b o hc
  exact⟨key,oneB (d:=.agg c) key⟩
theorem Dc.getAll_len(d:Dc):(l:List AV)→(xs:List d.T)→d.getAll l=some xs→xs.length=l.length∧True
 | [],xs,h=>by simp only[Dc.getAll,oE] at h;subst h;exact⟨rfl,trivial⟩
 |v::l,xs,h=>by
  simp only[Dc.getAll] at h;split at h
  ·split at h
   ·rename_i ys hys;obtain rfl:=oI h;simp[(Dc.getAll_len d l ys hys).1]
   ·cases h
  ·cases h
theorem Dc.getAll_rep{P:Program}{ρ:Rho}{K:Fz}(hK:AllK ρ K)(d:Dc):(l:List AV)→(xs:List d.T)→d.getAll l=some xs→OKL P ρ l→∀ b o,(∀ j u,(denC P ρ l)[j]? =some u→K.K b (o+j)=some u)→
  xs.length=l.length∧(denC P ρ l).length=l.length*d.sz∧∀ i x,xs[i]? =some x→DRep P K d b (o+i*d.sz) x
 | [],xs,h,ok,b,o,hc=>by
  simp only[Dc.getAll,oE] at h;subst h;exact⟨rfl,by simp[denC],fun i x hx=>by simp at hx⟩
 |v::l,xs,h,ok,b,o,hc=>by
  simp only[Dc.getAll] at h;split at h
  ·rename_i y hy;split at h
   ·rename_i ys hys;obtain rfl:=oI h;simp only[OKL] at ok;rw[ZcE] at hc ⊢;obtain⟨h1,h2⟩:=(Dc.getB_rep hK d).1 v y hy ok.1 b o fun j u hu=>hc j u (by rw[List.getElem?_append_left (List.getElem?_eq_some_iff.1 hu).1];exact hu)
    obtain⟨k1,k2,k3⟩:=Dc.getAll_rep hK d l ys hys ok.2 b (o+d.sz) fun j u hu=>by
     have:=hc (d.sz+j) u (by rw[List.getElem?_append_right (by omega),h2,Nat.add_sub_cancel_left];exact hu);rw[← Nat.add_assoc] at this;exact this
    refine⟨by simp[k1],by simp only[List.length_append,List.length_cons,h2,k2,Nat.succ_mul];omega,fun i x hx=>?_⟩;cases i with
    |zero=>simp only[List.getElem?_cons_zero,oE] at hx;subst hx;simpa using h1
    |succ i=>
     have:=k3 i x (by simpa using hx);rw[show o+(i+1)*d.sz=o+d.sz+i*d.sz by rw[Nat.succ_mul];omega];exact this
   ·cases h
  ·cases h
section
variable {P:Program} {w0:Base} {ro:Nat} {ρ:Rho} {tm mem:List (Nat×AV)} {a:Act} {w:World} (S:Sim P w0 ro ρ tm mem a.tmps w)
 {gl:Nat→Option AV} (hgl:GL P ρ gl)
variable {m:Nat} {e:Eff} {o:Oper} {next:Act→World→Prop} {Q:Exit→Act→World→Prop}
 (hn:∀ v ρ' w',After P ro ρ mem w m e v ρ' w'→next (a.put o.dst v) w')
include hn
theorem ZHY{fz:Bool}{v:AV}{a':Value}{w':World}(hk:retX P fz v (fun e=>some e)=some e)(hr:ResAt P w w' a' v)(hb:Below w.heap.size w w'):next (a.put o.dst a') w':=by
 unfold retX at hk;cases fz with
 |false=>exact ZBJ hn hk hr hb
 |true=>
  rw[cond_true] at hk;have row:∀ (T:AV) (te:TypeId) (b:Value) (d:(c:Tc)×List c.T) (g:Nat→AV),RowR P w w' b T te→flatOf T=some d→e= .grow none (.dc (.tc d.1) []) g→
    (∀ nm:Nm,OK P (upd ρ m nm) (.dv m [] te (.tc d.1) d.2)→den P (upd ρ m nm) (.dv m [] te (.tc d.1) d.2)=b→OK P (upd ρ m nm) (g m)∧den P (upd ρ m nm) (g m)=a')→next (a.put o.dst a') w':=by
   intro T te b d g hR hd he hg;obtain⟨nm,e0,w1,w2,w3,w4,w5,w6,hN,oT,hblk,hK,hlive⟩:=hR;subst he;obtain⟨c1,c2⟩:=Zcm P (Ext.empty ρ) T oT;have hc:=ZbX P (Ext.empty ρ) T oT;have shT:RowSh P te T∧rowN T=nm.cap:=by
    rw[← w2];refine Zun hN w1 ⟨fun n f q=>?_,hK.2.1,hK.2.2⟩;subst q;simp[flatOf] at hd
   obtain⟨f1,f2,f3,f4⟩:=ZDN hd shT.1 oT
   let n:=d.2.length
   let K2:Fz:=⟨fun k o=>bif !nm.non&&decide (k=nm.blk∧o<n*P.cellsOf te) then w'.cell? ⟨k,o,none⟩ else none,w'.heap.size,n,n*P.cellsOf te,none⟩
   let nm2:Nm:=⟨nm.blk,0,0,te,true,nm.tot,nm.non,K2⟩
   have self:upd ρ m nm2 m=some nm2:=by simp[upd]
   have hlenT:=ZjH shT.1 oT;have hov:OK P (upd ρ m nm2) (.dv m [] te (.tc d.1) d.2):=by
    simp only[OK];refine⟨nm2,nmL nm2,self,rfl,f1,?_,fun _=>⟨rfl,rfl⟩⟩;cases hq:nm.non with
    |true=>
     have hn0:d.2=[]:=List.eq_nil_of_length_eq_zero (by rw[← f4];exact(w5 hq).1);simp only[nmL,nm2,hq,cond_true];exact⟨⟨fun _=>rfl,fun ad h=>by cases h⟩,by rw[hn0];exact Nat.le_refl _,by simp,fun i y hy=>by rw[hn0] at hy;simp at hy⟩
    |false=>
     simp only[nmL,nm2,hq,cond_false];refine repR_of f1 f2 (fun j v hv=>?_) (by rw[← f4];exact w4) w6 (hlive hq).1.lt;rw[← f3] at hv;have hj:=(List.getElem?_eq_some_iff.1 hv).1;rw[hlenT,f4] at hj;have:=(hlive hq).2 j v hv;rw[(hlive hq).1.1] at this;simp only[K2,hq,Nat.zero_add,Bool.not_false,Bool.true_and];rw[Nat.zero_add] at this;rw[this];simp only[true_and,n,hj,decide_true,cond_true]
   have hdv:den P (upd ρ m nm2) (.dv m [] te (.tc d.1) d.2)=b:=by
    rw[e0,f4];simp only[den,self,dvV,dloc,nmL,nm2,gsV];cases hq:nm.non with
    |true=>
     have hn0:d.2.length=0:=by rw[← f4];exact(w5 hq).1
     simp[hn0,K2,hK.1]
    |false=>simp[(hlive hq).1.1]
   obtain⟨g1,g2⟩:=hg nm2 hov hdv;rw[← g2];refine hn _ _ _ (.growF none _ g nm2 w' g1 rfl rfl rfl rfl (fun hq=>?_) (.inr (.inl hblk)) ⟨hb.os,hb.tape,hb.output,hb.size⟩ (fun k hk _=>hb.block k hk) (fun b0 h=>by cases h) (fun b0 _ h=>by cases h) (Nat.le_refl _) (fun k o v hv=>?_))
   ·obtain⟨q1,q2,q3,cur,q4,q5⟩:=(hlive hq).1;exact⟨rfl,Nat.zero_le _,q3,cur,by rw[w2] at q4;exact q4,by rw[w2] at q5;exact q5⟩
   ·simp only[nm2,K2] at hv;cases hq:(!nm.non&&decide (k=nm.blk∧o<n*P.cellsOf te)) with
    |false=>rw[hq] at hv;cases hv
    |true=>
     rw[hq,cond_true] at hv;simp only[bA,Bool.not_eq_true',decide_eq_true_eq] at hq;exact⟨hv,.inr ⟨hq.1,hq.2.1,hq.2.2⟩⟩
  unfold retF at hk;split at hk
  ·rename_i T te y;split at hk
   ·rename_i d hd;simp only[oE] at hk;obtain⟨b,e1,e2,e3⟩:=hr;refine row T te b d _ e2 hd hk.symm fun nm h1 h2=>?_
    obtain⟨d1,d2⟩:=Zcm P (Ext.empty (upd ρ m nm)) y e3;refine⟨?_,?_⟩
    ·simp only[OK,OKL];exact⟨by simpa only[OK] using h1,d2,trivial⟩
    ·rw[e1,← h2,← d1];simp[den,denT]
   ·exact ZBJ hn hk hr hb
  ·rename_i T te hno;split at hk
   ·rename_i d hd;simp only[oE] at hk;have hr:RowR P w w' a' T te:=by
     unfold ResAt at hr;split at hr
     ·rename_i heq;simp only[AV.tup.injEq,List.cons.injEq,and_true] at heq;exact(hno _ _ heq.1).elim
     ·rename_i heq;simp only[AV.tup.injEq,List.cons.injEq,AV.clo.injEq,and_true] at heq;obtain⟨rfl,rfl⟩:=heq;exact hr
     ·rename_i n2;exact(n2 _ _ rfl).elim
    exact row T te a' d _ hr hd hk.symm fun nm h1 h2=>⟨h1,h2⟩
   ·exact ZBJ hn hk hr hb
  ·rename_i n1 n2;refine ZBJ hn ?_ hr hb;rw[← hk];unfold retK;split
   ·exact(n1 _ _ _ rfl).elim
   ·exact(n2 _ _ rfl).elim
   ·rfl
omit hn in
include S in
theorem frzY_at{get:Nat→Option AV}(hget:∀ b T,get b=some T→lk b mem=some T){el:TypeId}{d:Dc}(hfd:d.fit P el=true){y:AV}{ys:List d.T}(h:frzY get el d y=some ys)(ok:OK P ρ y):
  ∃ news:List Value,news.length=ys.length*P.cellsOf el∧(∀ u∈news,u.oneCell'=true)∧
   ((den P ρ y= .slice none 0 0∧ys.length=0∧news=[])∨∃ ad q,den P ρ y= .slice (some ad) ys.length q∧∀ j u,news[j]? =some u→w.cell? (ad.add j)=some u)∧
   ∀ K:Fz,AllK ρ K→∀ b o,(∀ j u,news[j]? =some u→K.K b (o+j)=some u)→∀ i z,ys[i]? =some z→DRep P K d b (o+i*P.cellsOf el) z:=by
 have hsz:d.sz=P.cellsOf el:=(Dc.fit_sz P d).1 el hfd;unfold frzY at h;split at h
 ·rename_i c n te;split at h
  ·rename_i T hT;replace h:=Zac h;obtain⟨ht,h⟩:=h;have e1:=Zaj ht;subst e1;obtain⟨nm,hb,hN,okT,hs,hcell⟩:=S.cell c T (hget c T hT);simp only[OK] at ok;obtain⟨nm',hb',hr,hty,hn1,hle,hnon,hmx⟩:=ok;rw[hb] at hb';obtain rfl:=oI hb';simp only[HasN,hr,if_true,hty] at hN
   
   have main:ys.length=nm.cap∧(cells P ρ T).length=ys.length*P.cellsOf te∧(∀ u∈cells P ρ T,u.oneCell'=true)∧
     ∀ K:Fz,AllK ρ K→∀ b o,(∀ j u,(cells P ρ T)[j]? =some u→K.K b (o+j)=some u)→∀ i z,ys[i]? =some z→DRep P K d b (o+i*P.cellsOf te) z:=by
    cases T<;>simp only[Dc.ofRow] at h<;>try (cases h;done)
    case ints k0 n0 l=>
     split at h
     ·rename_i hq;have e:=Dc.same_eq _ _ hq;subst e;obtain rfl:=oI h;simp only at hN;simp only[OK] at okT;have hl:castD (Dc.same_eq (.tc (.int k0)) (.tc (.int k0)) hq) l=l:=rfl;rw[hl];rw[ZaZ];refine⟨by rw[okT.1];exact hN.1,by rw[List.length_map,hN.2.2,Nat.mul_one],fun u hu=>by obtain⟨x,-,rfl⟩:=List.mem_map.1 hu;rfl,fun K hK b o hc i z hz=>?_⟩;refine⟨okT.2 z (List.mem_of_getElem? hz),fun j v hv=>?_⟩;simp only[Tc.cs] at hv;obtain⟨rfl,rfl⟩:j=0∧v= .int k0 z:=by
       cases j with
       |zero=>simpa using hv.symm
       |succ j=>simp at hv
      rw[hN.2.2,Nat.mul_one,Nat.add_zero];refine hc i _ ?_;rw[List.getElem?_map];have hz':l[i]? =some z:=hz;rw[hz'];rfl
     ·cases h
    case agg l=>
     simp only at hN;simp only[OK] at okT;rw[Zcs];have hlen:=len_A P ρ l te hN.2 okT;refine⟨?_,?_,fun u hu=>one_A P ρ l te hN.2 u hu,fun K hK b o hc i z hz=>?_⟩
     ·obtain⟨k1,-⟩:=Dc.getAll_len d l ys h;rw[k1];exact hN.1
     ·obtain⟨k1,-⟩:=Dc.getAll_len d l ys h;rw[hlen,k1]
     ·obtain⟨-,-,k3⟩:=Dc.getAll_rep hK d l ys h okT b o hc;rw[← hsz];exact k3 i z hz
    case vec c0 l=>
     split at h
     ·rename_i hq;have e:=Dc.same_eq _ _ hq;subst e;obtain rfl:=oI h;simp only at hN;simp only[OK] at okT;have hl:castD (Dc.same_eq (.tc c0) (.tc c0) hq) l=l:=rfl;rw[hl];rw[ZcD];refine⟨hN.1,Zzj P hN.2 okT,fun u hu=>?_,fun K hK b o hc i z hz=>?_⟩
      ·obtain⟨x,hx,hu⟩:=List.mem_flatMap.1 hu;exact Tc.cs_one c0 x u hu
      ·refine⟨okT z (List.mem_of_getElem? hz),fun j v hv=>?_⟩;have:=hc _ v (ZDO P hN.2 l okT i z hz j v hv);rw[← Nat.add_assoc] at this;exact this
     ·cases h
   obtain⟨g1,g2,g3,g4⟩:=main;refine⟨cells P ρ T,g2,g3,?_,g4⟩;cases hq:nm.non with
   |true=>
    have h0:=hnon hq;have hcz:cells P ρ T=[]:=by
     rcases hs with⟨z,-⟩|⟨-,z⟩
     ·rw[hq] at z;cases z
     ·exact z
    cases hna:nm.K.na with
    |none=>exact .inl ⟨by simp[den,hb,gsV,hq,hna],by omega,hcz⟩
    |some ad=>exact .inr ⟨ad,0,by simp[den,hb,gsV,hq,hna];omega,fun j u hu=>by rw[hcz] at hu;simp at hu⟩
   |false=>exact .inr ⟨⟨nm.blk,nm.off,none⟩,nm.tot,by simp[den,hb,gsV,hq,hn1,g1],fun j u hu=>by rw[ZbG];exact hcell j u hu⟩
  ·cases h
 ·rename_i b2 p te d' ys';split at h
  ·rename_i hq;have e:=Dc.same_eq _ _ hq;subst e;replace h:=Zac h;obtain⟨ht,h⟩:=h;have e1:=Zaj ht;subst e1;have hl:castD (Dc.same_eq d' d' hq) ys'=ys':=rfl;rw[hl] at h;obtain rfl:=oI h;simp only[OK] at ok;obtain⟨nm,l,hb,hl1,hf,⟨hadr,hlen,hmx,hrep⟩,-⟩:=ok;have hdv:den P ρ (.dv b2 p te d' ys')= .slice l.1 ys'.length l.2:=by simp[den,hb,dvV,hl1]
   cases hys:ys' with
   |nil=>
    refine⟨[],by simp,fun u hu=>by simp at hu,?_,fun K hK b o hc i z hz=>by simp at hz⟩;rw[← hys,hdv,hys];rcases hl2:l.1 with _|ad
    ·have:=hadr.1 hl2;exact .inl ⟨by rw[this];rfl,rfl,rfl⟩
    ·exact .inr ⟨ad,l.2,rfl,fun j u hu=>by simp at hu⟩
   |cons y0 yr=>
    rw[← hys];have hne:0<ys'.length:=by rw[hys];simp
    obtain⟨b',o',e1,-⟩:=hrep 0 _ (List.getElem?_eq_getElem hne);have hrep':∀ i z,ys'[i]? =some z→DRep P nm.K d' b' (o'+i*P.cellsOf te) z:=by
     intro i z hz;obtain⟨b1,o1,k1,k2⟩:=hrep i z hz;rw[e1] at k1;simp only[oE,Addr.mk.injEq,and_true] at k1;rw[← k1.1,← k1.2] at k2;exact k2
    
    have cell:∀ j,j<ys'.length*P.cellsOf te→∃ v,nm.K.K b' (o'+j)=some v∧v.oneCell'=true:=by
     intro j hj;have hp:0<P.cellsOf te:=by
      rcases Nat.eq_zero_or_pos (P.cellsOf te) with h|h
      ·rw[h] at hj;omega
      ·exact h
     have hi:j/P.cellsOf te<ys'.length:=(Nat.div_lt_iff_lt_mul hp).2 hj;obtain⟨v,k1,k2⟩:=DRep.cell d' b' _ _ (hrep' _ _ (List.getElem?_eq_getElem hi)) (j%P.cellsOf te) (by rw[hsz];exact Nat.mod_lt _ hp);refine⟨v,?_,k2⟩;rw[Nat.add_assoc,Nat.div_add_mod' j (P.cellsOf te)] at k1;exact k1
    have at':∀ j u,((List.range (ys'.length*P.cellsOf te)).map fun j=>(nm.K.K b' (o'+j)).getD undef)[j]? =some u→j<ys'.length*P.cellsOf te∧nm.K.K b' (o'+j)=some u:=by
     intro j u hu;rw[List.getElem?_map] at hu;have hj:j<ys'.length*P.cellsOf te:=by
      rcases Nat.lt_or_ge j (ys'.length*P.cellsOf te) with h|h
      ·exact h
      ·rw[List.getElem?_eq_none (by simpa using h)] at hu;simp at hu
     rw[List.getElem?_range hj] at hu;obtain⟨v,k1,-⟩:=cell j hj;rw[Option.map_some,k1] at hu;exact⟨hj,k1.trans hu⟩
    refine⟨(List.range (ys'.length*P.cellsOf te)).map fun j=>(nm.K.K b' (o'+j)).getD undef,by simp,fun u hu=>?_,.inr ⟨⟨b',o',none⟩,l.2,by rw[hdv,e1],fun j u hu=>?_⟩,fun K hK b o hc i z hz=>?_⟩
    ·obtain⟨j,hj⟩:=List.mem_iff_getElem?.1 hu;obtain⟨h1,h2⟩:=at' j u hj;obtain⟨v,k1,k2⟩:=cell j h1;rw[h2] at k1;rw[oI k1];exact k2
    ·rw[ZbG];exact S.ex.froz b2 nm hb _ _ _ (at' j u hu).2
    ·refine DRep.move (hK b2 nm hb) d' b' _ b _ z (hrep' i z hz) fun j v hj hv=>?_
     rw[Nat.add_assoc] at hv ⊢;refine hc _ v ?_;have hi:i<ys'.length:=(List.getElem?_eq_some_iff.1 hz).1;have hj2:i*P.cellsOf te+j<ys'.length*P.cellsOf te:=by
      rw[hsz] at hj
      calc i*P.cellsOf te+j<i*P.cellsOf te+P.cellsOf te:=by omega
       _=(i+1)*P.cellsOf te:=by rw[Nat.succ_mul]
       _≤_:=Nat.mul_le_mul_right _ hi
     rw[List.getElem?_map,List.getElem?_range hj2,Option.map_some,hv];rfl
  ·cases h
 ·obtain rfl:=oI h;exact⟨[],by simp,fun u hu=>by simp at hu,.inl ⟨by simp[den],rfl,rfl⟩,fun K hK b o hc i z hz=>by simp at hz⟩
 ·rename_i b2 lo n te nn zz;split at h
  ·rename_i q m l te' hr;split at h
   ·rename_i hq;have e:=Dc.same_eq _ _ hq;subst e;replace h:=Zac h;obtain⟨ht,h⟩:=h;have e1:=Zaj ht;subst e1;have hl:castD (Dc.same_eq (.tc (.int q)) (.tc (.int q)) hq) l=l:=rfl;rw[hl] at h;obtain rfl:=oI h;obtain⟨⟨-,k1⟩,k2,-,k4,k5⟩:=Zye S hget hr ok;simp only[OK] at k2;have hcl:(cells P ρ (.ints q m l)).length=l.length:=by rw[ZaZ,List.length_map]
    refine⟨l.map (Value.int q),by rw[List.length_map,k1,Nat.mul_one],fun u hu=>by obtain⟨x,-,rfl⟩:=List.mem_map.1 hu;rfl,?_,fun K hK b o' hc i z hz=>?_⟩
    ·rcases k5 with⟨z,e1,e2,e3⟩|⟨b3,o3,q3,e1,-,-,-,e3⟩
     ·have e2':m=0:=e2;have hl0:l=[]:=List.eq_nil_of_length_eq_zero (by rw[k2.1];exact e2');subst hl0;cases z with
      |none=>exact .inl ⟨e1,rfl,rfl⟩
      |some ad=>exact .inr ⟨ad,0,e1,fun j u hu=>by simp at hu⟩
     ·refine .inr ⟨⟨b3,o3,none⟩,q3,by rw[e1];show Value.slice _ m q3=_;rw[k2.1],fun j u hu=>?_⟩;rw[ZbG];exact e3 j u (by rw[ZaZ];exact hu)
    ·refine⟨k2.2 z (List.mem_of_getElem? hz),fun j v hv=>?_⟩;simp only[Tc.cs] at hv;obtain⟨rfl,rfl⟩:j=0∧v= .int q z:=by
      cases j with
      |zero=>simpa using hv.symm
      |succ j=>simp at hv
     rw[k1,Nat.mul_one,Nat.add_zero];refine hc i _ ?_;rw[List.getElem?_map];have hz':l[i]? =some z:=hz;rw[hz'];rfl
   ·cases h
  ·cases h
 ·rename_i b2 p off len cap te;split at h
  ·rename_i T hT;split at h
   ·rename_i q m l hg;split at h
    ·rename_i hq;have e:=Dc.same_eq _ _ hq;subst e;replace h:=Zac h;obtain⟨ht,h⟩:=h;have e1:=Zaj ht;subst e1;have hl:castD (Dc.same_eq (.tc (.int q)) (.tc (.int q)) hq) ((l.drop off).take len)=(l.drop off).take len:=rfl;rw[hl] at h;obtain rfl:=oI h;simp only[OK] at ok;obtain⟨nm,o,n,hb,hbase,hoff,hlc,hmx⟩:=ok;obtain⟨k1,k2,k3,k4,k5,k6⟩:=Zxg S (hget b2 T hT) hb hbase hg;obtain⟨nm',hb',-,-,-,hcell⟩:=S.cell b2 T (hget b2 T hT);rw[hb] at hb';obtain rfl:=oI hb';have hlen:((l.drop off).take len).length=len:=by rw[List.length_take,List.length_drop];omega
     refine⟨((l.drop off).take len).map (Value.int q),by rw[List.length_map,k5,Nat.mul_one],fun u hu=>by obtain⟨x,-,rfl⟩:=List.mem_map.1 hu;rfl,.inr ⟨⟨nm.blk,nm.off+(o+off*P.cellsOf te),none⟩,cap,by rw[Zqv hb hbase,hlen],fun j u hu=>?_⟩,fun K hK b o' hc i z hz=>?_⟩
     ·rw[List.getElem?_map] at hu;have hj:j<len:=by
       refine Nat.lt_of_not_le fun h=>?_
       rw[List.getElem?_eq_none (by rw[hlen];exact h)] at hu;simp at hu
      rw[List.getElem?_take_of_lt hj,List.getElem?_drop] at hu;have hy:(cells P ρ (.ints q m l))[off+j]? =some u:=by rw[ZaZ,List.getElem?_map];exact hu
      have:=hcell _ _ (k6 _ _ hy);rw[ZbG,k5,Nat.mul_one]
      rwa [show nm.off+(o+off)+j=nm.off+(o+(off+j)) by omega]
     ·have hmem:z∈l:=List.mem_of_mem_drop (List.mem_of_mem_take (List.mem_of_getElem? hz));refine⟨k3 z hmem,fun j v hv=>?_⟩;simp only[Tc.cs] at hv;obtain⟨rfl,rfl⟩:j=0∧v= .int q z:=by
       cases j with
       |zero=>simpa using hv.symm
       |succ j=>simp at hv
      rw[k5,Nat.mul_one,Nat.add_zero];refine hc i _ ?_;rw[List.getElem?_map];have hz':((l.drop off).take len)[i]? =some z:=hz;rw[hz'];rfl
    ·cases h
   ·cases h
  ·cases h
 ·cases h
omit hn in
include S in
theorem frzX_at{get:Nat→Option AV}(hget:∀ b T,get b=some T→lk b mem=some T){el:TypeId}{d:Dc}(hfd:d.fit P el=true){x:AV}{r:Option Nat×List d.T}(h:frzX ro get el d x=some r)(ok:OK P ρ x):
  ∃ xs:List Value,w.ownsRow w0.g.heap.size el (P.cellsOf el) (den P ρ x) r.2.length xs∧
   (∀ g,(den P ρ x).ownBlock=some g→∃ b0 nm0 T0,r.1=some b0∧ρ b0=some nm0∧lk b0 mem=some T0∧isDc T0=true∧ro≤b0∧nm0.non=false∧g=nm0.blk∧nm0.K.fc=r.2.length*P.cellsOf el∧∀ o v,o<nm0.K.fc→w.cell? ⟨g,o,none⟩=some v→xs[o]? =some v)∧
   (∀ b0,r.1=some b0→ro≤b0∧(∃ T0,lk b0 mem=some T0∧isDc T0=true)∧∀ nm0,ρ b0=some nm0→nm0.non=false→(den P ρ x).ownBlock=some nm0.blk)∧
   ∀ K:Fz,AllK ρ K→∀ b o,(∀ j u,xs[j]? =some u→K.K b (o+j)=some u)→∀ i z,r.2[i]? =some z→DRep P K d b (o+i*P.cellsOf el) z:=by
 have hsz:d.sz=P.cellsOf el:=(Dc.fit_sz P d).1 el hfd;unfold frzX at h;split at h
 ·obtain rfl:=oI h;have hv:den P ρ .nils= .slice none 0 0:=by simp[den]
  rw[hv];exact⟨[],⟨by simp,.inl ⟨rfl,rfl⟩⟩,fun g hg=>by simp[Value.ownBlock] at hg,fun b0 h=>by simp at h,fun K _ b o _ i z hz=>by simp at hz⟩
 ·rename_i b p te d' xs';split at h
  case h_2=>cases h
  split at h
  case h_2=>cases h
  rename_i hq;have e:=Dc.same_eq _ _ hq;subst e;split at h
  case h_2=>cases h
  rename_i dd xx hg;replace h:=Zac h;obtain⟨hc,h⟩:=h;simp only[bA] at hc;have e1:=Zaj hc.1;subst e1;have hro:=Nat.le_of_ble_eq_true hc.2;have hl:castD (Dc.same_eq d' d' hq) xs'=xs':=rfl;rw[hl] at h;obtain rfl:=oI h;have hT:=hget b _ hg;obtain⟨nm,hb,hN,-,hs,-⟩:=S.cell b _ hT;simp only[OK] at ok;obtain⟨nm',l,hb',hl1,hf,⟨hadr,hlen,hmx,hrep⟩,hw⟩:=ok;rw[hb] at hb';obtain rfl:=oI hb';obtain⟨hw1,hw2⟩:=hw trivial;simp only[dloc,oE] at hl1;subst hl1;have hrow:nm.row=true:=by
   cases hr:nm.row with
   |true=>rfl
   |false=>simp[HasN,hr,Has] at hN
  simp only[HasN,hrow,if_true,hw2] at hN;have hdv:den P ρ (.dv b [] te d' xs')= .slice (nmL nm).1 xs'.length (nmL nm).2:=by simp[den,hb,dvV,dloc]
  simp only;rw[hdv];cases hq2:nm.non with
  |true=>
   have hna:=S.ex.nas b _ nm hT hb hro;simp only[nmL,hq2,cond_true,hna] at hlen hadr ⊢;have hx0:xs'=[]:=List.eq_nil_of_length_eq_zero (by omega);subst hx0;exact⟨[],⟨by simp,.inl ⟨rfl,rfl⟩⟩,fun g hg=>by simp[Value.ownBlock] at hg,fun b0 h=>by
    obtain rfl:=oI h;exact⟨hro,⟨_,hT,rfl⟩,fun nm0 h1 h2=>by rw[hb] at h1;rw[← oI h1,hq2] at h2;cases h2⟩,fun K _ b o _ i z hz=>by simp at hz⟩
  |false=>
   simp only[nmL,hq2,cond_false] at hlen hadr hrep hmx ⊢;rcases S.rows b _ nm hT hb hro hrow with h|⟨q1,q2,q3,cur,q4,q5⟩
   ·rw[hq2] at h;cases h
   rw[hw2] at q4 q5;have hcur:cur.toList.length=nm.tot*P.cellsOf te:=by simpa using q5
   have hle2:xs'.length*P.cellsOf te≤nm.tot*P.cellsOf te:=Nat.mul_le_mul_right _ hlen;have hxl:(cur.toList.take (xs'.length*P.cellsOf te)).length=xs'.length*P.cellsOf te:=by rw[List.length_take,hcur];exact Nat.min_eq_left hle2
   have hat:∀ o v,o<xs'.length*P.cellsOf te→w.cell? ⟨nm.blk,o,none⟩=some v→(cur.toList.take (xs'.length*P.cellsOf te))[o]? =some v:=by
    intro o v ho hv;rw[cell_of_row w nm.blk o cur te (0,0) q4] at hv;rw[List.getElem?_take,if_pos ho];simpa using hv
   refine⟨cur.toList.take (xs'.length*P.cellsOf te),⟨hxl,.inr ⟨nm.blk,nm.tot,cur,by rw[q1],Base.own_ge ((S.own b _ nm hT hb hro).1 hq2),q4,hlen,q3,q5,rfl⟩⟩,fun g hg=>?_,fun b0 h=>?_,fun K hK b' o hc i z hz=>?_⟩
   ·simp only[Value.ownBlock,oE] at hg;subst hg;have hfc:nm.K.fc=xs'.length*P.cellsOf te:=by rw[hN.2,← hw1]
    exact⟨b,nm,_,rfl,hb,hT,rfl,hro,hq2,rfl,hfc,fun o v ho hv=>hat o v (by rw[← hfc];exact ho) hv⟩
   ·obtain rfl:=oI h;refine⟨hro,⟨_,hT,rfl⟩,fun nm0 h1 _=>?_⟩;rw[hb] at h1;rw[← oI h1];rfl
   ·obtain⟨b1,o1,k1,k2⟩:=hrep i z hz;simp only[oE,Addr.mk.injEq,and_true] at k1;rw[← k1.1,← k1.2,q1] at k2;refine DRep.move (hK b nm hb) d' nm.blk _ b' _ z k2 fun j v hj hv=>?_
    rw[Nat.zero_add] at hv;rw[Nat.add_assoc];refine hc _ v (hat _ v ?_ (S.ex.froz b nm hb _ _ _ hv));have hi:i<xs'.length:=(List.getElem?_eq_some_iff.1 hz).1;rw[hsz] at hj
    calc i*P.cellsOf te+j<i*P.cellsOf te+P.cellsOf te:=by omega
     _=(i+1)*P.cellsOf te:=by rw[Nat.succ_mul]
     _≤_:=Nat.mul_le_mul_right _ hi
 ·cases h
include S hgl in
open Classical in
theorem s_appF{get:Nat→Option AV}(hget:∀ b T,get b=some T→lk b mem=some T){c:Call}{t el:TypeId}{x y:AV}{d:Dc}(ho:o.op= .call c)(hcal:c.callee= .builtin .append)(hx:evL (evO gl tm) c.args.toList=some [x,y])(ht:c.argTypes.toList=[t,t])
  (hu:P.underlying t=some (.slice el)) (hk:appF P ro el d x y get none some=some e):o.wp P a w next Q:=by
 obtain⟨h1,h2⟩:=ZeB S hgl hx;simp only[OKL,and_true] at h2;obtain⟨okx,oky⟩:=h2;have hargs:c.args.map a.eval= #[den P ρ x,den P ρ y]:=by
  rw[← Array.toArray_toList (xs:=c.args.map a.eval),Array.toList_map,h1];simp[denT]
 have hty:c.argTypes= #[t,t]:=by rw[← Array.toArray_toList (xs:=c.argTypes),ht]
 unfold appF at hk;split at hk
 case h_2=>cases hk
 rename_i r hr;split at hk
 case h_2=>cases hk
 rename_i ys hys;replace hk:=Zac hk;obtain⟨hc,hk⟩:=hk;simp only[bA,oE] at hc hk;obtain⟨⟨hrt,hfd⟩,hfit⟩:=hc;obtain⟨xs,hown,hxb,hxb0,hxK⟩:=frzX_at S hget hfd hr okx;obtain⟨news,hnl,hn1,hyv,hyK⟩:=frzY_at S hget hfd hys oky;rw[List.length_append] at hfit;obtain⟨v',w',r1,r2,r3,r4,r5⟩:=ZH6 (ty:=o.type) hrt hfit hu hown S.below.below.size hyv hnl hn1;have hrun:(execOp a.eval o).run P w= .ok (.value v') w':=by
  simp[execOp,ho,resolve,hcal,invoke,builtin,hargs,hty,r1]
 let n:=r.2.length+ys.length
 let cs:=P.cellsOf el
 
 have frz0:∀ k o v,Frz w0 ρ k o→w.cell? ⟨k,o,none⟩=some v→w'.cell? ⟨k,o,none⟩=some v:=by
  intro k o v hf hv;by_cases hg:(den P ρ x).ownBlock=some k
  ·obtain⟨b0,nm0,T0,q1,q2,q3,q4,q5,q6,q7,q8,q9⟩:=hxb k hg;have:=(S.ex.away b0 T0 nm0 q3 q2 q5 q6 k o hf q7).2;exact r5 k hg o v (q9 o v this hv)
  ·rw[World.cell?_of_block (r3.block k (ZqV hv) (fun h=>hg h.symm))];exact hv
 let FR:Nat→Nat→Prop:=fun k o=>∃ b1 nm1 v1,ρ b1=some nm1∧nm1.K.K k o=some v1
 let K':Fz:=⟨fun k o=>if FR k o∨(v'.ownBlock=some k∧o<n*cs) then w'.cell? ⟨k,o,none⟩ else none,w'.heap.size,n,n*cs,none⟩
 have hAll:AllK ρ K':=by
  intro b nm hb;refine⟨fun k o v hk=>?_,Nat.le_trans (S.ex.fhs b nm hb) r3.size⟩;have h1:FR k o:=⟨b,nm,v,hb,hk⟩;show (if FR k o∨_ then w'.cell? ⟨k,o,none⟩ else none)=some v;rw[if_pos (.inl h1)];exact frz0 k o v (.inr h1) (S.ex.froz b nm hb k o v hk)
 have hcur:∀ g,v'.ownBlock=some g→∀ j u,(xs++news)[j]? =some u→K'.K g (0+j)=some u:=by
  intro g hg j u hj;have h1:=r2.cells hg j u hj;rw[ZbG,Nat.zero_add] at h1;have hj':j<n*cs:=by
   have:=(List.getElem?_eq_some_iff.1 hj).1;rw[r2.1] at this;exact this
  show (if FR g (0+j)∨(v'.ownBlock=some g∧0+j<n*cs) then w'.cell? ⟨g,0+j,none⟩ else none)=some u;rw[Nat.zero_add,if_pos (.inr ⟨hg,hj'⟩)];exact h1
 have hxl:xs.length=r.2.length*cs:=hown.1;have hrep:∀ g,v'.ownBlock=some g→∀ i z,(r.2++ys)[i]? =some z→DRep P K' d g (0+i*cs) z:=by
  intro g hg i z hz;rcases Nat.lt_or_ge i r.2.length with hi|hi
  ·rw[List.getElem?_append_left hi] at hz;exact hxK K' hAll g 0 (fun j u hj=>hcur g hg j u (by rw[List.getElem?_append_left (List.getElem?_eq_some_iff.1 hj).1];exact hj)) i z hz
  ·rw[List.getElem?_append_right hi] at hz;have:=hyK K' hAll g (0+xs.length) (fun j u hj=>by
    rw[Nat.zero_add];have:=hcur g hg (xs.length+j) u (by rw[List.getElem?_append_right (by omega),Nat.add_sub_cancel_left];exact hj);rw[Nat.zero_add] at this;exact this) (i-r.2.length) z hz
   rw[hxl] at this;rw[show 0+i*cs=0+r.2.length*cs+(i-r.2.length)*cs by rw[Nat.add_assoc,← Nat.add_mul];congr 2;omega];exact this
 have hlenz:(r.2++ys).length=n:=by simp[n]
 have fin:∀ nm:Nm,nm.row=true→nm.cap=0→nm.ty=el→nm.K=K'→nm.off=0→
   ((nm.non=true∧v'= .slice none 0 0∧n=0)∨(nm.non=false∧v'= .slice (some ⟨nm.blk,0,none⟩) n nm.tot∧RowB P nm w'∧n≤nm.tot∧(nm.tot:Int)≤9223372036854775807))→o.wp P a w next Q:=by
  intro nm w1 w2 w3 w4 w5 hcase;have self:upd ρ m nm m=some nm:=by simp[upd]
  have w6:nm.K.na=none:=by rw[w4]
  have hdv:den P (upd ρ m nm) (.dv m [] el d (r.2++ys))=v':=by
   simp only[den,self,dvV,dloc,nmL,hlenz,w6];rcases hcase with⟨z1,z2,z3⟩|⟨z1,z2,-⟩
   ·simp[z1,z2,z3]
   ·simp[z1,z2,w5]
  have hov:OK P (upd ρ m nm) (.dv m [] el d (r.2++ys)):=by
   simp only[OK];refine⟨nm,nmL nm,self,rfl,hfd,?_,fun _=>⟨by rw[w4];exact hlenz,w3⟩⟩;rcases hcase with⟨z1,z2,z3⟩|⟨z1,z2,z3,z4,z5⟩
   ·simp only[nmL,z1,cond_true,w6];exact⟨⟨fun _=>rfl,fun ad h=>by cases h⟩,by rw[hlenz,z3];exact Nat.le_refl _,by decide,fun i z hz=>by
     have:i<n:=by rw[← hlenz];exact(List.getElem?_eq_some_iff.1 hz).1
     omega⟩
   ·simp only[nmL,z1,cond_false];refine⟨⟨fun h=>(by cases h),fun ad h _=>?_⟩,by rw[hlenz];exact z4,z5,fun i z hz=>⟨nm.blk,nm.off,rfl,?_⟩⟩
    ·obtain rfl:=oI h;exact⟨rfl,by rw[w4];exact z3.lt⟩
    ·rw[w4,w5];exact hrep nm.blk (by rw[z2];rfl) i z hz
  subst hk;refine Zo7 hrun ?_;rw[← hdv];have ownb:∀ k,v'.ownBlock=some k→nm.non=false∧k=nm.blk:=by
   intro k h;rcases hcase with⟨-,z2,-⟩|⟨z1,z2,-⟩
   ·rw[z2] at h;simp[Value.ownBlock] at h
   ·rw[z2] at h;simp only[Value.ownBlock,oE] at h;exact⟨z1,h.symm⟩
  refine hn _ _ _ (.growF r.1 _ _ nm w' hov w1 w2 (by rw[w4,w3]) (by rw[w4]) (fun z=>?_) ?_ ⟨r3.os,r3.tape,r3.output,r3.size⟩ (fun k hk hne=>?_) (fun b0 hb0=>?_) (fun b0 nm0 hb0 hnm0 hnon=>⟨fun z e=>?_,fun o v ho hv=>?_⟩) (by rw[w4];exact Nat.le_refl _) (fun k o v hv=>?_))
  ·rcases hcase with⟨z1,-⟩|⟨-,-,z3,-⟩
   ·rw[z] at z1;cases z1
   ·exact z3
  ·rcases hcase with⟨z1,-⟩|⟨z1,z2,-⟩
   ·exact .inl z1
   ·rcases r4 with h|h
    ·obtain⟨b0,nm0,T0,q1,q2,q3,-,q5,q6,q7,-⟩:=hxb nm.blk (by rw[← h,z2];rfl);exact .inr (.inr ⟨b0,nm0,T0,q1,q2,q3,q5,q6,q7⟩)
    ·rw[z2] at h;simp only[Value.ownBlock,oE] at h;exact .inr (.inl (by omega))
  ·refine r3.block k hk fun h=>?_
   obtain⟨b0,nm0,T0,q1,q2,q3,-,q5,q6,q7,-⟩:=hxb k h.symm;exact hne b0 nm0 q1 q2 q6 q7
  ·obtain⟨k1,k2,-⟩:=hxb0 b0 hb0;exact⟨k1,k2⟩
  ·obtain⟨-,-,k3⟩:=hxb0 b0 hb0;obtain⟨b1,nm1,T1,q1,q2,-,-,-,-,-,q8,-⟩:=hxb nm0.blk (k3 nm0 hnm0 hnon);rw[hb0] at q1;obtain rfl:=oI q1;rw[hnm0] at q2;obtain rfl:=oI q2;rw[q8,w4];exact Nat.mul_le_mul_right _ (Nat.le_add_right _ _)
  ·obtain⟨-,-,k3⟩:=hxb0 b0 hb0;obtain⟨b1,nm1,T1,q1,q2,-,-,-,-,-,-,q9⟩:=hxb nm0.blk (k3 nm0 hnm0 hnon);rw[hb0] at q1;obtain rfl:=oI q1;rw[hnm0] at q2;obtain rfl:=oI q2;exact r5 nm0.blk (k3 nm0 hnm0 hnon) o v (q9 o v ho hv)
  ·rw[w4] at hv ⊢;have hv:(if FR k o∨(v'.ownBlock=some k∧o<n*cs) then w'.cell? ⟨k,o,none⟩ else none)=some v:=hv;split at hv
   ·rename_i hc;refine⟨hv,?_⟩;rcases hc with h|⟨h,h'⟩
    ·exact .inl h
    ·exact .inr ⟨(ownb k h).1,(ownb k h).2,h'⟩
   ·cases hv
 rcases r2.2 with⟨hv0,hn0⟩|⟨g,cap,cur,hv0,hbg,hgg,hnc,hcm,hcs,htake⟩
 ·exact fin ⟨w.heap.size,0,0,el,true,0,true,K'⟩ rfl rfl rfl rfl rfl (.inl ⟨rfl,hv0,hn0⟩)
 ·exact fin ⟨g,0,0,el,true,cap,false,K'⟩ rfl rfl rfl rfl rfl (.inr ⟨rfl,hv0,⟨rfl,Nat.zero_le _,hcm,cur,hgg,hcs⟩,hnc,by show ((cap:Nat):Int)≤9223372036854775807;simp only[maxLen] at hcm;omega⟩)
end
end Go.Vx
