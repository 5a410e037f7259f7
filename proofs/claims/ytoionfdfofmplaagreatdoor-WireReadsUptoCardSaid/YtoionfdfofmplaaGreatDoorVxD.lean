import Derived.Test.YtoionfdfofmplaaGreatDoorVxA
set_option autoImplicit false
set_option linter.unusedVariables false
set_option linter.unusedSimpArgs false
namespace Go.Vx
open Go
theorem ZaZ(P:Program)(ρ:Rho)(k:IntKind)(n:Nat)(l:List Int):cells P ρ (.ints k n l)=l.map (Value.int k):=by
 simp[cells,den,Value.cells]
theorem Zcs(P:Program)(ρ:Rho)(l:List AV):cells P ρ (.agg l)=denC P ρ l:=by simp[cells,den,Value.cells]
theorem ZnY(P:Program)(ρ:Rho)(n:Nat)(f:Nat→AV):cells P ρ (.rows n f)=(List.range n).flatMap fun i=>cells P ρ (f i):=by
 simp[cells,den,Value.cells]
theorem ZcD(P:Program)(ρ:Rho)(c:Tc)(l:List c.T):cells P ρ (.vec c l)=l.flatMap c.cs:=by simp[cells,den,Value.cells]
theorem Zqw(P:Program)(ρ:Rho)(c:Tc)(x:c.T):cells P ρ (c.mk x)=c.cs x:=(Tc.cs_mkB P ρ c x).1
theorem ZcE(P:Program)(ρ:Rho)(v:AV)(l:List AV):denC P ρ (v::l)=cells P ρ v++denC P ρ l:=by simp[denC,cells]
mutual
theorem ZcG(P:Program)(ρ:Rho):(v:AV)→(t:TypeId)→Has P v t→OK P ρ v→(cells P ρ v).length=P.cellsOf t
 | .int _ _,t,h,_=>by simp only[Has] at h;simp[cells,den,Value.cells,h.2]
 | .bool _,t,h,_=>by simp only[Has] at h;simp[cells,den,Value.cells,h.2]
 | .str _,t,h,_=>by simp only[Has] at h;simp[cells,den,Value.cells,h.2]
 | .ptr b _ _,t,h,_=>by simp only[Has] at h;cases hb:ρ b<;>simp[cells,den,Value.cells,h.2,hb]
 | .nilp,t,h,_=>by simp only[Has] at h;simp[cells,den,Value.cells,h.2]
 | .sl b _ _ _ _ _,t,h,_=>by simp only[Has] at h;cases hb:ρ b<;>simp[cells,den,Value.cells,h.2,hb]
 | .pa b _ _ _ _,t,h,_=>by simp only[Has] at h;cases hb:ρ b<;>simp[cells,den,Value.cells,h.2,hb]
 | .nils,t,h,_=>by simp only[Has] at h;simp[cells,den,Value.cells,h.2]
 | .gs b _ _,t,h,_=>by
  simp only[Has] at h;cases hb:ρ b with
  |none=>simp[cells,den,Value.cells,h.2,hb]
  |some nm=>cases hn:nm.non<;>simp[cells,den,gsV,Value.cells,h.2,hb,hn]
 | .clo _ _,t,h,_=>by simp only[Has] at h;simp[cells,den,Value.cells,h.2]
 | .nilfn,t,h,_=>by simp only[Has] at h;simp[cells,den,Value.cells,h.2]
 | .nilif,t,h,_=>by simp only[Has] at h;simp[cells,den,Value.cells,h.2]
 | .ifc _ _,t,h,_=>by simp only[Has] at h;simp[cells,den,Value.cells,h.2]
 | .ints k n l,t,h,ok=>by
  simp only[Has] at h;obtain⟨e,-,-,-,h4⟩:=h;simp only[OK] at ok;simp[ZaZ,ok.1,h4]
 | .agg l,t,h,ok=>by
  simp only[Has] at h;simp only[OK] at ok;rw[Zcs];rcases h with⟨fs,-,hf⟩|⟨n,e,-,hl,ha,hs⟩
  ·have:=len_F P ρ l fs.toList 0 _ hf ok;omega
  ·rw[len_A P ρ l e ha ok,hl,hs]
 | .rows n f,t,h,ok=>by
  simp only[Has] at h;simp only[OK] at ok;obtain⟨e,-,h2,h3⟩:=h;rw[ZnY,h3];have key:∀ i,(cells P ρ (f i)).length=P.cellsOf e:=fun i=>ZcG P ρ (f i) e (h2 i) (ok i)
  clear h3
  induction n with
  |zero=>simp
  |succ n ih=>rw[List.range_succ,List.flatMap_append,List.length_append,ih];simp[key,Nat.succ_mul]
 | .tup _,_,h,_=>by simp[Has] at h
 | .vec _ _,_,h,_=>by simp[Has] at h
 | .gp b _ _ _ _ _,t,h,_=>by
  simp only[Has] at h;cases hb:ρ b with
  |none=>simp[cells,den,Value.cells,h.2,hb]
  |some nm=>cases hn:nm.non<;>simp[cells,den,gpV,Value.cells,h.2,hb,hn]
 | .dv b p _ _ _,t,h,_=>by
  simp only[Has] at h;cases hb:ρ b with
  |none=>simp[cells,den,Value.cells,h.2,hb]
  |some nm=>cases hn:dloc nm.K (nmL nm) p<;>simp[cells,den,dvV,Value.cells,h.2,hb,hn]
 | .dq b p _ _ _ _,t,h,_=>by
  simp only[Has] at h;cases hb:ρ b with
  |none=>simp[cells,den,Value.cells,h.2,hb]
  |some nm=>cases hn:dloc nm.K (nmL nm) p<;>simp[cells,den,dqV,Value.cells,h.2,hb,hn]
 | .dc _ _,_,h,_=>by simp[Has] at h
 | .itr _ _,_,h,_=>by simp[Has] at h
 | .itp _,_,h,_=>by simp[Has] at h
theorem len_F(P:Program)(ρ:Rho):(l:List AV)→(fs:List Field)→(o s:Nat)→HasF P l fs o s→OKL P ρ l→o+(denC P ρ l).length=s
 | [],[],o,s,h,_=>by simp only[HasF] at h;simp[denC,h]
 |v::l,f::fs,o,s,h,ok=>by
  simp only[HasF] at h;simp only[OKL] at ok;have:=len_F P ρ l fs _ s h.2.2 ok.2;rw[ZcE,List.length_append,ZcG P ρ v _ h.2.1 ok.1];omega
 | [],_::_,_,_,h,_=>by simp[HasF] at h
 |_::_,[],_,_,h,_=>by simp[HasF] at h
theorem len_A(P:Program)(ρ:Rho):(l:List AV)→(e:TypeId)→HasA P l e→OKL P ρ l→(denC P ρ l).length=l.length*P.cellsOf e
 | [],_,_,_=>by simp[denC]
 |v::l,e,h,ok=>by
  simp only[HasA] at h;simp only[OKL] at ok;rw[ZcE,List.length_append,ZcG P ρ v e h.1 ok.1,len_A P ρ l e h.2 ok.2];simp[Nat.succ_mul,Nat.add_comm]
end
def LiesAt{α:Type}(ys:List α)(o:Nat)(xs:List α):Prop:=∀ j x,xs[j]? =some x→ys[o+j]? =some x
theorem LiesAt.trans{α:Type}{zs ys xs:List α}{o o':Nat}(h:LiesAt zs o ys)(h':LiesAt ys o' xs):LiesAt zs (o+o') xs:=by
 intro j x hx;rw[Nat.add_assoc];exact h _ _ (h' _ _ hx)
theorem LiesAt.append{α:Type}(as xs bs:List α):LiesAt (as++(xs++bs)) as.length xs:=by
 intro j x hx;have hj:j<xs.length:=by
  rcases Nat.lt_or_ge j xs.length with h|h
  ·exact h
  ·simp[List.getElem?_eq_none h] at hx
 rw[List.getElem?_append_right (by omega),Nat.add_sub_cancel_left,List.getElem?_append_left hj,hx]
def Laid{α:Type}(ys:List α)(o:Nat)(xs zs:List α):Prop:=
 zs.length=ys.length∧∀ j,zs[j]? =if o≤j∧j<o+xs.length then xs[j-o]? else ys[j]?
theorem Laid.append{α:Type}(as old bs xs:List α)(h:xs.length=old.length):Laid (as++(old++bs)) as.length xs (as++(xs++bs)):=by
 refine⟨by simp[h],fun j=>?_⟩;by_cases h1:j<as.length
 ·rw[if_neg (by omega),List.getElem?_append_left h1,List.getElem?_append_left h1]
 ·by_cases h2:j<as.length+xs.length
  ·rw[if_pos (by omega),List.getElem?_append_right (by omega),List.getElem?_append_left (by omega)]
  ·rw[if_neg (by omega),List.getElem?_append_right (by omega),List.getElem?_append_right (by omega),List.getElem?_append_right (by omega),
    List.getElem?_append_right (by omega),h]
theorem Laid.inner{α:Type}(ys old zs xs old':List α)(o o':Nat)(h:LiesAt ys o old)(hl:Laid old o' xs old')(ho:o'+xs.length≤old.length)
  (hz:Laid ys o old' zs):Laid ys (o+o') xs zs:=by
 refine⟨hz.1,fun j=>?_⟩;rw[hz.2 j];by_cases h1:o≤j∧j<o+old'.length
 ·rw[if_pos h1,hl.2 (j-o)];have hl1:=hl.1;by_cases h2:o'≤j-o∧j-o<o'+xs.length
  ·rw[if_pos h2,if_pos (by omega),show j-o-o'=j-(o+o') by omega]
  ·rw[if_neg h2,if_neg (by omega)];have hj:j-o<old.length:=by omega
   have e:=h (j-o) old[j-o] (List.getElem?_eq_getElem hj);rw[List.getElem?_eq_getElem hj,← e]
   congr 1
   omega
 ·have hl1:=hl.1;rw[if_neg h1,if_neg (by omega)]
theorem ZBQ(P:Program)(ρ:Rho):(l:List AV)→(fs:List Field)→(o s:Nat)→HasF P l fs o s→OKL P ρ l→(i:Nat)→(f:Field)→fs[i]? =some f→
  ∃ v as bs,l[i]? =some v∧Has P v f.type∧OK P ρ v∧denC P ρ l=as++(cells P ρ v++bs)∧o+as.length=f.offset∧
   ∀ u,Has P u f.type→OK P ρ u→HasF P (l.set i u) fs o s∧OKL P ρ (l.set i u)∧denC P ρ (l.set i u)=as++(cells P ρ u++bs)
 | [],[],_,_,_,_,i,f,hf=>by simp at hf
 |v::l,g::fs,o,s,h,ok,0,f,hf=>by
  simp only[HasF] at h;simp only[OKL] at ok;simp only[List.getElem?_cons_zero,oE] at hf;subst hf;refine⟨v,[],denC P ρ l,by simp,h.2.1,ok.1,by rw[ZcE];simp,by simp[h.1],fun u hu ou=>?_⟩;simp only[List.set_cons_zero,HasF,OKL,ZcE,List.nil_append,and_true];exact⟨⟨h.1,hu,h.2.2⟩,ou,ok.2⟩
 |v::l,g::fs,o,s,h,ok,i+1,f,hf=>by
  simp only[HasF] at h;simp only[OKL] at ok;simp only[List.getElem?_cons_succ] at hf;obtain⟨x,as,bs,h1,h2,h3,h4,h5,h6⟩:=ZBQ P ρ l fs _ s h.2.2 ok.2 i f hf;refine⟨x,cells P ρ v++as,bs,by simpa using h1,h2,h3,by rw[ZcE,h4];simp,?_,fun u hu ou=>?_⟩
  ·rw[List.length_append,ZcG P ρ v _ h.2.1 ok.1];omega
  ·obtain⟨a,b,c⟩:=h6 u hu ou;simp only[List.set_cons_succ,HasF,OKL,ZcE,c,List.append_assoc,and_true];exact⟨⟨h.1,h.2.1,a⟩,ok.1,b⟩
 | [],_::_,_,_,h,_,_,_,_=>by simp[HasF] at h
 |_::_,[],_,_,h,_,_,_,_=>by simp[HasF] at h
theorem ZDR(P:Program)(ρ:Rho):(l:List AV)→(e:TypeId)→HasA P l e→OKL P ρ l→(i:Nat)→i<l.length→
  ∃ v as bs,l[i]? =some v∧Has P v e∧OK P ρ v∧denC P ρ l=as++(cells P ρ v++bs)∧as.length=i*P.cellsOf e∧
   ∀ u,Has P u e→OK P ρ u→HasA P (l.set i u) e∧OKL P ρ (l.set i u)∧denC P ρ (l.set i u)=as++(cells P ρ u++bs)
 | [],_,_,_,i,hi=>by simp at hi
 |v::l,e,h,ok,0,_=>by
  simp only[HasA] at h;simp only[OKL] at ok;refine⟨v,[],denC P ρ l,by simp,h.1,ok.1,by rw[ZcE];simp,by simp,fun u hu ou=>?_⟩;simp only[List.set_cons_zero,HasA,OKL,ZcE,List.nil_append,and_true];exact⟨⟨hu,h.2⟩,ou,ok.2⟩
 |v::l,e,h,ok,i+1,hi=>by
  simp only[HasA] at h;simp only[OKL] at ok;obtain⟨x,as,bs,h1,h2,h3,h4,h5,h6⟩:=ZDR P ρ l e h.2 ok.2 i (by simpa using hi);refine⟨x,cells P ρ v++as,bs,by simpa using h1,h2,h3,by rw[ZcE,h4];simp,?_,fun u hu ou=>?_⟩
  ·rw[List.length_append,ZcG P ρ v _ h.1 ok.1,h5,Nat.succ_mul];omega
  ·obtain⟨a,b,c⟩:=h6 u hu ou;simp only[List.set_cons_succ,HasA,OKL,ZcE,c,List.append_assoc,and_true];exact⟨⟨h.1,a⟩,ok.1,b⟩
theorem ZjI{α β:Type}{l:List α}{f g:α→List β}(h:∀ x∈l,f x=g x):l.flatMap f=l.flatMap g:=by
 induction l with
 |nil=>rfl
 |cons a l ih=>rw[List.flatMap_cons,List.flatMap_cons,h a (by simp),ih fun x hx=>h x (by simp[hx])]
theorem ZGG{α:Type}(c:Nat→List α)(s:Nat)(hc:∀ i,(c i).length=s)(n i:Nat)(hi:i<n):
  ∃ as bs,(List.range n).flatMap c=as++(c i++bs)∧as.length=i*s∧∀ x,(List.range n).flatMap (fun j=>if j=i then x else c j)=as++(x++bs):=by
 refine⟨(List.range i).flatMap c,(List.range (n-i-1)).flatMap (fun j=>c (i+1+j)),?_,?_,fun x=>?_⟩
 ·have e:List.range n=List.range i++(i::(List.range (n-i-1)).map (fun j=>i+1+j)):=by
   have h1:n=i+(1+(n-i-1)):=by omega
   conv=>lhs;rw[h1,List.range_add,List.range_add]
   simp[Function.comp_def,Nat.add_assoc]
  rw[e,List.flatMap_append,List.flatMap_cons,List.flatMap_map]
 ·clear hi
  induction i with
  |zero=>simp
  |succ i ih=>rw[List.range_succ,List.flatMap_append,List.length_append,ih];simp[hc,Nat.succ_mul]
 ·have e:List.range n=List.range i++(i::(List.range (n-i-1)).map (fun j=>i+1+j)):=by
   have h1:n=i+(1+(n-i-1)):=by omega
   conv=>lhs;rw[h1,List.range_add,List.range_add]
   simp[Function.comp_def,Nat.add_assoc]
  rw[e,List.flatMap_append,List.flatMap_cons,List.flatMap_map];simp only[if_true]
  congr 1
  ·refine ZjI fun j hj=>?_
   have:=List.mem_range.1 hj;rw[if_neg (by omega)]
  ·congr 1
   refine ZjI fun j hj=>?_
   rw[if_neg (by omega)]
theorem ZEC{l:List Int}{i:Nat}(h:i<l.length):l.getD i 0∈l:=by
 rw[List.getD_eq_getElem?_getD,List.getElem?_eq_getElem h];simp
theorem ZC8{l:List Int}{i:Nat}(h:i<l.length):l=l.take i++(l.getD i 0::l.drop (i+1))∧∀ m,l.set i m=l.take i++(m::l.drop (i+1)):=by
 refine⟨?_,fun m=>?_⟩
 ·rw[List.getD_eq_getElem?_getD,List.getElem?_eq_getElem h];simp
 ·rw[List.set_eq_take_append_cons_drop,if_pos h]
theorem Zxn(P:Program)(ρ:Rho)(v:AV)(t:TypeId)(h:Has P v t)(ok:OK P ρ v)(i o:Nat)(e:TypeId)(hs:stepT P t i=some (o,e)):
  ∃ u as bs,sub1 v i=some u∧Has P u e∧OK P ρ u∧cells P ρ v=as++(cells P ρ u++bs)∧as.length=o∧
   ∀ x v',Has P x e→OK P ρ x→put1 v i x=some v'→Has P v' t∧OK P ρ v'∧cells P ρ v'=as++(cells P ρ x++bs):=by
 unfold stepT at hs;cases v with
 |ints k n l=>
  simp only[Has] at h;obtain⟨e',hu,hk,h1,h2⟩:=h;simp only[OK] at ok;rw[hu] at hs;simp only at hs;split at hs
  ·rename_i hi;simp only[oE,pE] at hs;obtain⟨rfl,rfl⟩:=hs;have hi':i<l.length:=by omega
   obtain⟨s1,s2⟩:=ZC8 hi';refine⟨.int k (l.getD i 0),(l.take i).map (Value.int k),(l.drop (i+1)).map (Value.int k),rfl,?_,?_,?_,?_,?_⟩
   ·exact⟨hk,h1⟩
   ·exact ok.2 _ (ZEC hi')
   ·rw[ZaZ]
    conv=>lhs;rw[s1]
    simp[cells,den,Value.cells]
   ·simp[h1];omega
   ·intro x v' hx ox hp;cases x<;>simp only[put1] at hp
    case int k' m=>
     split at hp
     ·rename_i hkk;subst hkk;simp only[oE] at hp;subst hp;refine⟨⟨e',hu,hk,h1,h2⟩,⟨by simp[ok.1],fun y hy=>?_⟩,?_⟩
      ·rcases List.mem_or_eq_of_mem_set hy with h|h
       ·exact ok.2 _ h
       ·subst h;exact ox
      ·rw[ZaZ,s2];simp[cells,den,Value.cells]
     ·simp at hp
    all_goals simp at hp
  ·simp at hs
 |agg l=>
  simp only[Has] at h;simp only[OK] at ok;rcases h with⟨fs,hu,hf⟩|⟨n,e',hu,hl,ha,hc⟩
  ·rw[hu] at hs;simp only at hs;split at hs
   ·rename_i f hfi;simp only[oE,pE] at hs;obtain⟨rfl,rfl⟩:=hs;obtain⟨u,as,bs,h1,h2,h3,h4,h5,h6⟩:=ZBQ P ρ l fs.toList 0 _ hf ok i f (by simpa using hfi);refine⟨u,as,bs,(Zz5 (List.getElem?_eq_some_iff.1 h1).1).trans h1,h2,h3,by rw[Zcs,h4],by omega,fun x v' hx ox hp=>?_⟩;simp only[put1,oE] at hp;subst hp;obtain⟨a,b,c⟩:=h6 x hx ox;exact⟨.inl ⟨fs,hu,a⟩,b,by rw[Zcs,c]⟩
   ·simp at hs
  ·rw[hu] at hs;simp only at hs;split at hs
   ·rename_i hi;simp only[oE,pE] at hs;obtain⟨rfl,rfl⟩:=hs;obtain⟨u,as,bs,h1,h2,h3,h4,h5,h6⟩:=ZDR P ρ l e' ha ok i (by omega);refine⟨u,as,bs,(Zz5 (List.getElem?_eq_some_iff.1 h1).1).trans h1,h2,h3,by rw[Zcs,h4],h5,fun x v' hx ox hp=>?_⟩;simp only[put1,oE] at hp;subst hp;obtain⟨a,b,c⟩:=h6 x hx ox;exact⟨.inr ⟨n,e',hu,by simp[hl],a,hc⟩,b,by rw[Zcs,c]⟩
   ·simp at hs
 |rows n f=>
  simp only[Has] at h;simp only[OK] at ok;obtain⟨e',hu,ha,hc⟩:=h;rw[hu] at hs;simp only at hs;split at hs
  ·rename_i hi;simp only[oE,pE] at hs;obtain⟨rfl,rfl⟩:=hs;obtain⟨as,bs,h1,h2,h3⟩:=ZGG (fun j=>cells P ρ (f j)) (P.cellsOf e') (fun j=>ZcG P ρ (f j) e' (ha j) (ok j)) n i hi;refine⟨f i,as,bs,rfl,ha i,ok i,by rw[ZnY,h1],h2,fun x v' hx ox hp=>?_⟩;simp only[put1,oE] at hp;subst hp;refine⟨⟨e',hu,fun j=>?_,hc⟩,fun j=>?_,?_⟩
   ·dsimp only;split<;>simp_all
   ·dsimp only;split<;>simp_all
   ·rw[ZnY,← h3];refine ZjI fun j _=>?_
    split<;>rfl
  ·simp at hs
 |tup l=>simp[Has] at h
 |vec c l=>simp[Has] at h
 |dc _ _=>simp[Has] at h
 |itr _ _=>simp[Has] at h
 |itp _=>simp[Has] at h
 |_=>
  simp only[Has] at h
  first
   |(obtain⟨⟨e',h⟩,-⟩:=h;rw[h] at hs;simp at hs)
   |(obtain⟨⟨a,b,c,h⟩,-⟩:=h;rw[h] at hs;simp at hs)
   |(obtain⟨h,-⟩:=h;rw[h] at hs;simp at hs)
theorem Zz6(P:Program)(ρ:Rho):(p:List Nat)→(v:AV)→(t:TypeId)→Has P v t→OK P ρ v→(o:Nat)→(e:TypeId)→pathT P t p=some (o,e)→
  ∃ u as bs,getP v p=some u∧Has P u e∧OK P ρ u∧cells P ρ v=as++(cells P ρ u++bs)∧as.length=o∧
   ∀ x v',Has P x e→OK P ρ x→setP v p x=some v'→Has P v' t∧OK P ρ v'∧cells P ρ v'=as++(cells P ρ x++bs)
 | [],v,t,h,ok,o,e,hp=>by
  simp only[pathT,oE,pE] at hp;obtain⟨rfl,rfl⟩:=hp;refine⟨v,[],[],rfl,h,ok,by simp,rfl,fun x v' hx ox hs=>?_⟩;simp only[setP,oE] at hs;subst hs;exact⟨hx,ox,by simp⟩
 |i::p,v,t,h,ok,o,e,hp=>by
  simp only[pathT] at hp;split at hp
  ·rename_i o1 e1 hst;split at hp
   ·rename_i o2 e2 hpt;simp only[oE,pE] at hp;obtain⟨rfl,rfl⟩:=hp;obtain⟨u,as,bs,h1,h2,h3,h4,h5,h6⟩:=Zxn P ρ v t h ok i o1 e1 hst;obtain⟨w,cs,ds,k1,k2,k3,k4,k5,k6⟩:=Zz6 P ρ p u e1 h2 h3 o2 e2 hpt;refine⟨w,as++cs,ds++bs,by simp[getP,h1,k1],k2,k3,by rw[h4,k4];simp,by simp[h5,k5],fun x v' hx ox hs=>?_⟩;simp only[setP,h1] at hs;split at hs
    ·rename_i u' hu';obtain⟨a,b,c⟩:=k6 x u' hx ox hu';obtain⟨a',b',c'⟩:=h6 u' v' a b hs;exact⟨a',b',by rw[c',c];simp⟩
    ·simp at hs
   ·simp at hp
  ·simp at hp
theorem HasA.get{P:Program}:{l:List AV}→{e:TypeId}→HasA P l e→∀ v∈l,Has P v e
 | [],_,_,_,h=>by simp at h
 |u::l,e,h,v,hv=>by
  simp only[HasA] at h;rcases List.mem_cons.1 hv with rfl|hv
  ·exact h.1
  ·exact HasA.get h.2 v hv
theorem vec_at{c:Tc}{l:List c.T}{s:Nat}(hs:∀ x∈l,(c.cs x).length=s){i:Nat}(hi:i<l.length):∃ as bs,l.flatMap c.cs=as++(c.cs (l.getD i c.dft)++bs)∧as.length=i*s∧∀ x,(l.set i x).flatMap c.cs=as++(c.cs x++bs):=by
 refine⟨(l.take i).flatMap c.cs,(l.drop (i+1)).flatMap c.cs,?_,?_,fun x=>?_⟩
 ·have e:l=l.take i++(l.getD i c.dft::l.drop (i+1)):=by
   rw[List.getD_eq_getElem?_getD,List.getElem?_eq_getElem hi];simp
  conv=>lhs;rw[e]
  rw[List.flatMap_append,List.flatMap_cons]
 ·have key:∀ m:List c.T,(∀ x∈m,(c.cs x).length=s)→(m.flatMap c.cs).length=m.length*s:=by
   intro m
   induction m with
   |nil=>simp
   |cons x m ih=>intro h;rw[List.flatMap_cons,List.length_append,h x (by simp),ih fun y hy=>h y (by simp[hy]),List.length_cons,Nat.succ_mul,Nat.add_comm]
  rw[key _ fun x hx=>hs x (List.mem_of_mem_take hx),List.length_take,Nat.min_eq_left (Nat.le_of_lt hi)]
 ·rw[List.set_eq_take_append_cons_drop,if_pos hi,List.flatMap_append,List.flatMap_cons]
theorem ZvV(P:Program){c:Tc}{t:TypeId}(h:c.fit P t=true){x:c.T}(ok:c.ok x):(c.cs x).length=P.cellsOf t:=by
 have:=ZcG P (fun _=>none) (c.mk x) t (Tc.fit_has h x) (Tc.ok_mk.2 ok)
 rwa [Zqw] at this
theorem Zzj(P:Program){c:Tc}{t:TypeId}(h:c.fit P t=true){l:List c.T}(ok:∀ x∈l,c.ok x):(l.flatMap c.cs).length=l.length*P.cellsOf t:=by
 induction l with
 |nil=>simp
 |cons x l ih=>rw[List.flatMap_cons,List.length_append,ZvV P h (ok x (by simp)),ih fun y hy=>ok y (by simp[hy]),List.length_cons,Nat.succ_mul,Nat.add_comm]
theorem ZGH{α:Type}{l:List α}{d:α}{i:Nat}(h:i<l.length):l.getD i d∈l:=by
 rw[List.getD_eq_getElem?_getD,List.getElem?_eq_getElem h];simp
theorem Zxl(P:Program)(ρ:Rho)(nm:Nm)(p:List Nat)(v:AV)(h:HasN P nm v)(ok:OK P ρ v)(o:Nat)(e:TypeId)(hp:pathN P nm p=some (o,e)):
  ∃ u as bs,getP v p=some u∧Has P u e∧OK P ρ u∧cells P ρ v=as++(cells P ρ u++bs)∧as.length=o∧
   ∀ x v',Has P x e→OK P ρ x→setP v p x=some v'→HasN P nm v'∧OK P ρ v'∧cells P ρ v'=as++(cells P ρ x++bs):=by
 unfold pathN at hp;by_cases hr:nm.row=true
 ·rw[if_pos hr] at hp;cases p with
  |nil=>simp at hp
  |cons i q=>
   simp only at hp;split at hp
   ·rename_i hi;split at hp
    ·rename_i o1 u1 hq;simp only[oE,pE] at hp;obtain⟨rfl,rfl⟩:=hp;simp only[HasN,hr,if_true] at h
     
     have one:∃ u as bs,sub1 v i=some u∧Has P u nm.ty∧OK P ρ u∧cells P ρ v=as++(cells P ρ u++bs)∧as.length=i*P.cellsOf nm.ty∧
       ∀ x v',Has P x nm.ty→OK P ρ x→put1 v i x=some v'→HasN P nm v'∧OK P ρ v'∧cells P ρ v'=as++(cells P ρ x++bs):=by
      cases v with
      |ints k n l=>
       simp only at h;obtain⟨rfl,hu,h1⟩:=h;simp only[OK] at ok;have hi':i<l.length:=by omega
       obtain⟨s1,s2⟩:=ZC8 hi';refine⟨.int k (l.getD i 0),(l.take i).map (Value.int k),(l.drop (i+1)).map (Value.int k),rfl,⟨hu,h1⟩,ok.2 _ (ZEC hi'),?_,?_,?_⟩
       ·rw[ZaZ]
        conv=>lhs;rw[s1]
        simp[cells,den,Value.cells]
       ·simp[h1];omega
       ·intro x v' hx ox hp;cases x<;>simp only[put1] at hp
        case int k' m=>
         split at hp
         ·rename_i hkk;subst hkk;simp only[oE] at hp;subst hp;refine⟨?_,⟨by simp[ok.1],fun y hy=>?_⟩,?_⟩
          ·simp only[HasN,hr,if_true];exact⟨trivial,hu,h1⟩
          ·rcases List.mem_or_eq_of_mem_set hy with h|h
           ·exact ok.2 _ h
           ·subst h;exact ox
          ·rw[ZaZ,s2];simp[cells,den,Value.cells]
         ·simp at hp
        all_goals simp at hp
      |agg l=>
       simp only at h;simp only[OK] at ok;obtain⟨u,as,bs,h1,h2,h3,h4,h5,h6⟩:=ZDR P ρ l nm.ty h.2 ok i (by omega);refine⟨u,as,bs,(Zz5 (List.getElem?_eq_some_iff.1 h1).1).trans h1,h2,h3,by rw[Zcs,h4],h5,fun x v' hx ox hp=>?_⟩;simp only[put1,oE] at hp;subst hp;obtain⟨a,b,c⟩:=h6 x hx ox;refine⟨?_,b,by rw[Zcs,c]⟩;simp only[HasN,hr,if_true];exact⟨by simp[h.1],a⟩
      |rows n f=>
       simp only at h;simp only[OK] at ok;obtain⟨rfl,ha⟩:=h;obtain⟨as,bs,h1,h2,h3⟩:=ZGG (fun j=>cells P ρ (f j)) (P.cellsOf nm.ty) (fun j=>ZcG P ρ (f j) _ (ha j) (ok j)) nm.cap i hi;refine⟨f i,as,bs,rfl,ha i,ok i,by rw[ZnY,h1],h2,fun x v' hx ox hp=>?_⟩;simp only[put1,oE] at hp;subst hp;refine⟨?_,fun j=>?_,?_⟩
       ·simp only[HasN,hr,if_true];refine⟨trivial,fun j=>?_⟩;split<;>simp_all
       ·dsimp only;split<;>simp_all
       ·rw[ZnY,← h3];refine ZjI fun j _=>?_
        split<;>rfl
      |vec c l=>
       simp only at h;simp only[OK] at ok;obtain⟨hl,hf⟩:=h;have hi':i<l.length:=by omega
       obtain⟨as,bs,h1,h2,h3⟩:=vec_at (s:=P.cellsOf nm.ty) (fun x hx=>ZvV P hf (ok x hx)) hi';refine⟨c.mk (l.getD i c.dft),as,bs,rfl,Tc.fit_has hf _,Tc.ok_mk.2 (ok _ (ZGH hi')),by rw[ZcD,Zqw,h1],h2,fun x v' hx ox hp=>?_⟩;simp only[put1] at hp;split at hp
       ·rename_i y hy;simp only[oE] at hp;subst hp;obtain rfl:=Tc.get_mk hy;refine⟨?_,fun z hz=>?_,by rw[ZcD,Zqw,h3]⟩
        ·simp only[HasN,hr,if_true];exact⟨by simp[hl],hf⟩
        ·rcases List.mem_or_eq_of_mem_set hz with h|h
         ·exact ok _ h
         ·subst h;exact Tc.ok_mk.1 ox
       ·cases hp
      |itr _ _=>exact absurd h.1 (by omega)
      |dc _ _=>exact absurd h.1 (by omega)
      |_=>simp at h
     obtain⟨u,as,bs,h1,h2,h3,h4,h5,h6⟩:=one;obtain⟨w,cs,ds,k1,k2,k3,k4,k5,k6⟩:=Zz6 P ρ q u nm.ty h2 h3 o1 u1 hq;refine⟨w,as++cs,ds++bs,by simp[getP,h1,k1],k2,k3,by rw[h4,k4];simp,by simp[h5,k5],fun x v' hx ox hs=>?_⟩;simp only[setP,h1] at hs;split at hs
     ·rename_i u' hu';obtain⟨a,b,c⟩:=k6 x u' hx ox hu';obtain⟨a',b',c'⟩:=h6 u' v' a b hs;exact⟨a',b',by rw[c',c];simp⟩
     ·simp at hs
    ·simp at hp
   ·simp at hp
 ·rw[if_neg hr] at hp;simp only[HasN,hr] at h;obtain⟨u,as,bs,h1,h2,h3,h4,h5,h6⟩:=Zz6 P ρ p v nm.ty (by simpa using h) ok o e hp;refine⟨u,as,bs,h1,h2,h3,h4,h5,fun x v' hx ox hs=>?_⟩;obtain⟨a,b,c⟩:=h6 x v' hx ox hs;exact⟨by simp only[HasN,hr];simpa using a,b,c⟩
def one(x:Value):Prop:=x.oneCell'=true
mutual
theorem Zt0(P:Program)(ρ:Rho):(v:AV)→(t:TypeId)→Has P v t→∀ x∈cells P ρ v,x.oneCell'=true
 | .int _ _,t,_,x,hx=>by simp[cells,den,Value.cells] at hx;subst hx;rfl
 | .bool _,t,_,x,hx=>by simp[cells,den,Value.cells] at hx;subst hx;rfl
 | .str _,t,_,x,hx=>by simp[cells,den,Value.cells] at hx;subst hx;rfl
 | .ptr b _ _,t,_,x,hx=>by cases hb:ρ b<;>simp[cells,den,Value.cells,hb] at hx<;>subst hx<;>rfl
 | .nilp,t,_,x,hx=>by simp[cells,den,Value.cells] at hx;subst hx;rfl
 | .sl b _ _ _ _ _,t,_,x,hx=>by cases hb:ρ b<;>simp[cells,den,Value.cells,hb] at hx<;>subst hx<;>rfl
 | .pa b _ _ _ _,t,_,x,hx=>by cases hb:ρ b<;>simp[cells,den,Value.cells,hb] at hx<;>subst hx<;>rfl
 | .nils,t,_,x,hx=>by simp[cells,den,Value.cells] at hx;subst hx;rfl
 | .gs b _ _,t,_,x,hx=>by
  cases hb:ρ b with
  |none=>simp[cells,den,Value.cells,hb] at hx;subst hx;rfl
  |some nm=>cases hn:nm.non<;>simp[cells,den,gsV,Value.cells,hb,hn] at hx<;>subst hx<;>rfl
 | .clo _ _,t,_,x,hx=>by simp[cells,den,Value.cells] at hx;subst hx;rfl
 | .nilfn,t,_,x,hx=>by simp[cells,den,Value.cells] at hx;subst hx;rfl
 | .nilif,t,_,x,hx=>by simp[cells,den,Value.cells] at hx;subst hx;rfl
 | .ifc _ _,t,_,x,hx=>by simp[cells,den,Value.cells] at hx;subst hx;rfl
 | .ints k n l,t,_,x,hx=>by rw[ZaZ] at hx;obtain⟨y,-,rfl⟩:=List.mem_map.1 hx;rfl
 | .agg l,t,h,x,hx=>by
  rw[Zcs] at hx;simp only[Has] at h;rcases h with⟨fs,-,hf⟩|⟨n,e,-,-,ha,-⟩
  ·exact one_F P ρ l fs.toList 0 _ hf x hx
  ·exact one_A P ρ l e ha x hx
 | .rows n f,t,h,x,hx=>by
  rw[ZnY] at hx;simp only[Has] at h;obtain⟨e,-,h2,-⟩:=h;obtain⟨i,-,hi⟩:=List.mem_flatMap.1 hx;exact Zt0 P ρ (f i) e (h2 i) x hi
 | .tup _,_,h,_,_=>by simp[Has] at h
 | .vec _ _,_,h,_,_=>by simp[Has] at h
 | .gp b _ _ _ _ _,t,_,x,hx=>by
  cases hb:ρ b with
  |none=>simp[cells,den,Value.cells,hb] at hx;subst hx;rfl
  |some nm=>cases hn:nm.non<;>simp[cells,den,gpV,Value.cells,hb,hn] at hx<;>subst hx<;>rfl
 | .dv b p _ _ _,t,_,x,hx=>by
  cases hb:ρ b with
  |none=>simp[cells,den,Value.cells,hb] at hx;subst hx;rfl
  |some nm=>cases hn:dloc nm.K (nmL nm) p<;>simp[cells,den,dvV,Value.cells,hb,hn] at hx<;>subst hx<;>rfl
 | .dq b p _ _ _ _,t,_,x,hx=>by
  cases hb:ρ b with
  |none=>simp[cells,den,Value.cells,hb] at hx;subst hx;rfl
  |some nm=>cases hn:dloc nm.K (nmL nm) p<;>simp[cells,den,dqV,Value.cells,hb,hn] at hx<;>subst hx<;>rfl
 | .dc _ _,_,h,_,_=>by simp[Has] at h
 | .itr _ _,_,h,_,_=>by simp[Has] at h
 | .itp _,_,h,_,_=>by simp[Has] at h
theorem one_F(P:Program)(ρ:Rho):(l:List AV)→(fs:List Field)→(o s:Nat)→HasF P l fs o s→∀ x∈denC P ρ l,x.oneCell'=true
 | [],[],_,_,_,x,hx=>by simp[denC] at hx
 |v::l,f::fs,o,s,h,x,hx=>by
  simp only[HasF] at h;rw[ZcE] at hx;rcases List.mem_append.1 hx with hx|hx
  ·exact Zt0 P ρ v _ h.2.1 x hx
  ·exact one_F P ρ l fs _ s h.2.2 x hx
 | [],_::_,_,_,h,_,_=>by simp[HasF] at h
 |_::_,[],_,_,h,_,_=>by simp[HasF] at h
theorem one_A(P:Program)(ρ:Rho):(l:List AV)→(e:TypeId)→HasA P l e→∀ x∈denC P ρ l,x.oneCell'=true
 | [],_,_,x,hx=>by simp[denC] at hx
 |v::l,e,h,x,hx=>by
  simp only[HasA] at h;rw[ZcE] at hx;rcases List.mem_append.1 hx with hx|hx
  ·exact Zt0 P ρ v _ h.1 x hx
  ·exact one_A P ρ l e h.2 x hx
end
def Ext(ρ ρ':Rho):Prop:=∀ b nm,ρ b=some nm→ρ' b=some nm
theorem Ext.refl(ρ:Rho):Ext ρ ρ:=fun _ _ h=>h
theorem Ext.trans{a b c:Rho}(h:Ext a b)(h':Ext b c):Ext a c:=fun _ _ k=>h' _ _ (h _ _ k)
theorem Ext.empty(ρ:Rho):Ext (fun _=>none) ρ:=fun _ _ h=>by simp at h
mutual
theorem Zcm(P:Program){ρ ρ':Rho}(h:Ext ρ ρ'):(v:AV)→OK P ρ v→den P ρ' v=den P ρ v∧OK P ρ' v
 | .int _ _,ok=>⟨by simp[den],by simpa [OK] using ok⟩
 | .bool _,_=>⟨by simp[den],by simp[OK]⟩
 | .str _,ok=>⟨by simp[den],by simpa [OK] using ok⟩
 | .ptr b p t,ok=>by
  simp only[OK] at ok ⊢;obtain⟨nm,o,hb,hp⟩:=ok;have hb':=h b nm hb;exact⟨by simp[den,hb,hb'],nm,o,hb',hp⟩
 | .nilp,_=>⟨by simp[den],by simp[OK]⟩
 | .sl b p off len cap t,ok=>by
  simp only[OK] at ok ⊢;obtain⟨nm,o,n,hb,hp⟩:=ok;have hb':=h b nm hb;exact⟨by simp[den,hb,hb'],nm,o,n,hb',hp⟩
 | .pa b p off n t,ok=>by
  simp only[OK] at ok ⊢;obtain⟨nm,o,m,hb,hp⟩:=ok;have hb':=h b nm hb;exact⟨by simp[den,hb,hb'],nm,o,m,hb',hp⟩
 | .nils,_=>⟨by simp[den],by simp[OK]⟩
 | .gs b n t,ok=>by
  simp only[OK] at ok ⊢;obtain⟨nm,hb,hp⟩:=ok;have hb':=h b nm hb;exact⟨by simp[den,hb,hb'],nm,hb',hp⟩
 | .clo f l,ok=>by
  simp only[OK] at ok ⊢;obtain⟨-,b,c⟩:=Zqs P h l ok;exact⟨by simp[den,b],c⟩
 | .nilfn,_=>⟨by simp[den],by simp[OK]⟩
 | .nilif,_=>⟨by simp[den],by simp[OK]⟩
 | .ifc t v,ok=>by
  simp only[OK] at ok ⊢;obtain⟨a,b⟩:=Zcm P h v ok;exact⟨by simp[den,a],b⟩
 | .ints k n l,ok=>⟨by simp[den],by simpa [OK] using ok⟩
 | .agg l,ok=>by
  simp only[OK] at ok ⊢;obtain⟨a,-,c⟩:=Zqs P h l ok;exact⟨by simp[den,a],c⟩
 | .rows n f,ok=>by
  simp only[OK] at ok ⊢;have key:=fun i=>Zcm P h (f i) (ok i)
  refine⟨?_,fun i=>(key i).2⟩;simp only[den]
  congr 2
  exact ZjI fun i _=>by rw[(key i).1]
 | .tup l,ok=>by
  simp only[OK] at ok ⊢;obtain⟨-,b,c⟩:=Zqs P h l ok;exact⟨by simp[den,b],c⟩
 | .vec c l,ok=>⟨by simp[den],by simpa [OK] using ok⟩
 | .gp b _ _ _ _ _,ok=>by
  simp only[OK] at ok ⊢;obtain⟨nm,hb,hp⟩:=ok;have hb':=h b nm hb;exact⟨by simp[den,hb,hb'],nm,hb',hp⟩
 | .dv b _ _ _ _,ok=>by
  simp only[OK] at ok ⊢;obtain⟨nm,l,hb,hp⟩:=ok;have hb':=h b nm hb;exact⟨by simp[den,hb,hb'],nm,l,hb',hp⟩
 | .dq b _ _ _ _ _,ok=>by
  simp only[OK] at ok ⊢;obtain⟨nm,b',o',c,hb,hp⟩:=ok;have hb':=h b nm hb;exact⟨by simp[den,hb,hb'],nm,b',o',c,hb',hp⟩
 | .dc _ _,_=>⟨by simp[den],by simp[OK]⟩
 | .itr _ _,ok=>⟨by simp[den],by simpa [OK] using ok⟩
 | .itp b,ok=>by
  simp only[OK] at ok ⊢;obtain⟨nm,hb⟩:=ok;have hb':=h b nm hb;exact⟨by simp[den,hb,hb'],nm,hb'⟩
theorem Zqs(P:Program){ρ ρ':Rho}(h:Ext ρ ρ'):(l:List AV)→OKL P ρ l→denC P ρ' l=denC P ρ l∧denT P ρ' l=denT P ρ l∧OKL P ρ' l
 | [],_=>by simp[denC,denT,OKL]
 |v::l,ok=>by
  simp only[OKL] at ok ⊢;obtain⟨a,b⟩:=Zcm P h v ok.1;obtain⟨c,d,e⟩:=Zqs P h l ok.2;exact⟨by simp[denC,a,c],by simp[denT,a,d],b,e⟩
end
theorem ZbX(P:Program){ρ ρ':Rho}(h:Ext ρ ρ')(v:AV)(ok:OK P ρ v):cells P ρ' v=cells P ρ v:=by
 unfold cells;rw[(Zcm P h v ok).1]
mutual
def pl:AV→Bool
 | .ptr _ _ _=>false
 | .sl _ _ _ _ _ _=>false
 | .pa _ _ _ _ _=>false
 | .gs _ _ _=>false
 | .gp _ _ _ _ _ _=>false
 | .dv _ _ _ _ _=>false
 | .dq _ _ _ _ _ _=>false
 | .itp _=>false
 | .itr _ _=>false
 | .dc _ _=>false
 | .clo _ l=>plL l
 | .ifc _ v=>pl v
 | .agg l=>plL l
 | .rows _ _=>false
 | .tup l=>plL l
 |_=>true
def plL:List AV→Bool
 | []=>true
 |v::l=>pl v&&plL l
end
mutual
theorem pl_ok(P:Program){ρ:Rho}:(v:AV)→pl v=true→OK P ρ v→OK P (fun _=>none) v
 | .int _ _,_,ok=>by simpa [OK] using ok
 | .bool _,_,_=>by simp[OK]
 | .str _,_,ok=>by simpa [OK] using ok
 | .ptr _ _ _,h,_=>by simp[pl] at h
 | .nilp,_,_=>by simp[OK]
 | .sl _ _ _ _ _ _,h,_=>by simp[pl] at h
 | .pa _ _ _ _ _,h,_=>by simp[pl] at h
 | .nils,_,_=>by simp[OK]
 | .gs _ _ _,h,_=>by simp[pl] at h
 | .clo _ l,h,ok=>by simp only[pl] at h;simp only[OK] at ok ⊢;exact ZCC P l h ok
 | .nilfn,_,_=>by simp[OK]
 | .nilif,_,_=>by simp[OK]
 | .ifc _ v,h,ok=>by simp only[pl] at h;simp only[OK] at ok ⊢;exact pl_ok P v h ok
 | .ints _ _ _,_,ok=>by simpa [OK] using ok
 | .agg l,h,ok=>by simp only[pl] at h;simp only[OK] at ok ⊢;exact ZCC P l h ok
 | .rows _ _,h,_=>by simp[pl] at h
 | .tup l,h,ok=>by simp only[pl] at h;simp only[OK] at ok ⊢;exact ZCC P l h ok
 | .vec _ _,_,ok=>by simpa [OK] using ok
 | .gp _ _ _ _ _ _,h,_=>by simp[pl] at h
 | .dv _ _ _ _ _,h,_=>by simp[pl] at h
 | .dq _ _ _ _ _ _,h,_=>by simp[pl] at h
 | .dc _ _,h,_=>by simp[pl] at h
 | .itr _ _,h,_=>by simp[pl] at h
 | .itp _,h,_=>by simp[pl] at h
theorem ZCC(P:Program){ρ:Rho}:(l:List AV)→plL l=true→OKL P ρ l→OKL P (fun _=>none) l
 | [],_,_=>by simp[OKL]
 |v::l,h,ok=>by
  simp only[plL,bA] at h;simp only[OKL] at ok ⊢;exact⟨pl_ok P v h.1 ok.1,ZCC P l h.2 ok.2⟩
end
def mo{α R:Type}(x:Option α)(f:R)(k:α→R):R:=match x with|some a=>k a|none=>f
inductive Res (A:Type):Type 1 where
 |fail
 |ok (a:A)
 |opt {α:Type} (x:Option α) (k:α→Res A)
 |ite (b:Bool) (t e:Res A)
 |sum {α β:Type} (x:α ⊕ β) (l:α→Res A) (r:β→Res A)
def Res.run{A R:Type}:Res A→R→(A→R)→R
 | .fail,f,_=>f
 | .ok a,_,k=>k a
 | .opt x g,f,k=>mo x f fun a=>(g a).run f k
 | .ite b t e,f,k=>cond b (t.run f k) (e.run f k)
 | .sum x l r,f,k=>match x with
  | .inl a=>(l a).run f k
  | .inr b=>(r b).run f k
def kix:IntKind→Nat
 | .i8=>0| .i16=>1| .i32=>2| .i64=>3| .u8=>4| .u16=>5| .u32=>6| .u64=>7
def kEq(a b:IntKind):Bool:=Nat.beq (kix a) (kix b)
def bcl:BinOp→Nat
 | .add| .sub| .mul=>0
 | .quo| .rem=>1
 | .and| .or| .xor| .andNot=>2
 | .shl| .shr=>3
 | .eql| .neq| .lss| .leq| .gtr| .geq=>4
def ibin(op:BinOp)(k:IntKind)(a b:Int):Int:=
 match op with
 | .add=>k.wrap (a+b)
 | .sub=>k.wrap (a-b)
 | .mul=>k.wrap (a*b)
 | .quo=>k.wrap (a.tdiv b)
 | .rem=>a.tmod b
 | .and=>k.wrap ((BitVec.ofInt k.bits a &&& BitVec.ofInt k.bits b).toNat:Int)
 | .or=>k.wrap ((BitVec.ofInt k.bits a ||| BitVec.ofInt k.bits b).toNat:Int)
 | .xor=>k.wrap ((BitVec.ofInt k.bits a^^^BitVec.ofInt k.bits b).toNat:Int)
 | .andNot=>k.wrap ((BitVec.ofInt k.bits a &&& ~~~(BitVec.ofInt k.bits b)).toNat:Int)
 | .shl=>k.wrap (a*2^(min b.toNat k.bits))
 | .shr=>a.fdiv (2^(min b.toNat k.bits))
 |_=>0
def icmp(op:BinOp)(a b:Int):Bool:=
 match op with
 | .eql=>a==b
 | .neq=>a != b
 | .lss=>decide (a<b)
 | .leq=>decide (a≤b)
 | .gtr=>decide (a>b)
 | .geq=>decide (a≥b)
 |_=>false
def ineg(k:IntKind)(a:Int):Int:=k.wrap (0-a)
def inot(k:IntKind)(a:Int):Int:=k.wrap ((BitVec.ofInt k.bits (if k.signed then -1 else k.max)^^^BitVec.ofInt k.bits a).toNat:Int)
def eqAV:AV→AV→Option Bool
 | .int k a,.int k' b=>bif kEq k k' then some (a==b) else none
 | .bool a,.bool b=>some (a==b)
 | .str a,.str b=>some (a==b)
 | .ints k n l,.ints k' n' l'=>bif kEq k k'&&Nat.beq n n' then some (decide (l=l')) else none
 | .nilp,.nilp=>some true
 | .nilp,.ptr _ _ _=>some false
 | .ptr _ _ _,.nilp=>some false
 | .nilif,.nilif=>some true
 | .nilif,.ifc _ _=>some false
 | .ifc _ _,.nilif=>some false
 | .nils,.nils=>some true
 | .sl _ _ _ _ _ _,.nils=>some false
 | .nils,.sl _ _ _ _ _ _=>some false
 | .nilfn,.nilfn=>some true
 | .clo _ _,.nilfn=>some false
 |_,_=>none
def eqF(e:TypeId→AV→AV→Option Bool):List Field→List AV→List AV→Option Bool
 | [],[],[]=>some true
 |f::fs,x::l,y::r=>cond (f.name != "_") (match e f.type x y with
  |some p=>match eqF e fs l r with
   |some q=>some (p&&q)
   |none=>none
  |none=>none) none
 |_,_,_=>none
def eqD(P:Program):Nat→TypeId→AV→AV→Option Bool
 |n+1,t,.agg l,.agg r=>match P.underlying t with
  |some (.struct fs)=>cond (P.stoodInHeld t) none (eqF (eqD P n) fs.toList l r)
  |_=>none
 |_,_,x,y=>eqAV x y
def inR(k:IntKind)(n:Int):Bool:=decide (k.min≤n∧n≤k.max)
def ofV:Value→Option AV
 | .int k n=>bif inR k n then some (.int k n) else none
 | .bool b=>some (.bool b)
 | .string s=>bif inR .i64 s.size then some (.str s) else none
 | .pointer none=>some .nilp
 | .slice none 0 0=>some .nils
 | .nilFunc=>some .nilfn
 | .nilIface=>some .nilif
 |_=>none
def lk(d:Nat):List (Nat×AV)→Option AV
 | []=>none
 |x::l=>cond (Nat.beq x.1 d) (some x.2) (lk d l)
def evO(gl:Nat→Option AV)(tm:List (Nat×AV)):Operand→Option AV
 | .tmp t=>lk t tm
 | .const v=>ofV v
 | .global g=>gl g
 | .func f=>some (.clo f [])
def takeI(k:IntKind):Nat→List Value→Option (List Int×List Value)
 |0,cs=>some ([],cs)
 |n+1,.int k' x::cs=>bif kEq k k'&&inR k x then (match takeI k n cs with|some r=>some (x::r.1,r.2)|none=>none) else none
 |_+1,_=>none
def goN(p:List Value→Option (AV×List Value)):Nat→List Value→Option (List AV×List Value)
 |0,cs=>some ([],cs)
 |m+1,cs=>match p cs with
  |some r=>match goN p m r.2 with
   |some q=>some (r.1::q.1,q.2)
   |none=>none
  |none=>none
def goF(p:TypeId→List Value→Option (AV×List Value)):List Field→List Value→Option (List AV×List Value)
 | [],cs=>some ([],cs)
 |f::fs,cs=>match p f.type cs with
  |some r=>match goF p fs r.2 with
   |some q=>some (r.1::q.1,q.2)
   |none=>none
  |none=>none
def parse(P:Program):Nat→TypeId→List Value→Option (AV×List Value)
 |0,_,_=>none
 |d+1,t,cs=>
  match P.underlying t with
  |some (.array n e)=>
   match P.underlying e with
   |some (.int k)=>match takeI k n cs with|some r=>some (.ints k n r.1,r.2)|none=>none
   |_=>match goN (parse P d e) n cs with|some q=>some (.agg q.1,q.2)|none=>none
  |some (.struct fs)=>match goF (parse P d) fs.toList cs with|some q=>some (.agg q.1,q.2)|none=>none
  |_=>match cs with
   |v::cs=>match ofV v with|some a=>some (a,cs)|none=>none
   | []=>none
def zeroAV(P:Program)(t:TypeId):Option AV:=
 match P.info? t with
 |some i=>match i.zero with
  |some v=>match parse P 50 t v.cells.toList with
   |some r=>match r.2 with
    | []=>bif chk P r.1 t then some r.1 else none
    |_::_=>none
   |none=>none
  |none=>none
 |none=>none
def wide:AV→Bool
 | .ints _ _ _=>true
 | .agg _=>true
 | .rows _ _=>true
 |_=>false
inductive Eff where
 |val (v:AV)
 |new (ty:TypeId) (row:Bool) (cap:Nat) (T:AV) (mk:Nat→AV)
 |upd (b:Nat) (T:AV)
 |grow (b:Option Nat) (T:AV) (mk:Nat→AV)
def del(b:Option Nat)(mem:List (Nat×AV)):List (Nat×AV):=
 match b with
 |none=>mem
 |some b=>mem.filter fun x=> !Nat.beq x.1 b
def fillAV(P:Program)(t:TypeId):AV→List (Nat×AV)→Option AV
 |z,[]=>some z
 |z,(i,v)::ps=>match stepT P t i with
  |some (_,e)=>bif chk P v e then (match put1 z i v with|some z'=>fillAV P t z' ps|none=>none) else none
  |none=>none
def evL(ev:Operand→Option AV):List Operand→Option (List AV)
 | []=>some []
 |o::l=>match ev o with
  |some v=>match evL ev l with|some r=>some (v::r)|none=>none
  |none=>none
def evP(ev:Operand→Option AV):List (Nat×Operand)→Option (List (Nat×AV))
 | []=>some []
 |(i,o)::l=>match ev o with
  |some v=>match evP ev l with|some r=>some ((i,v)::r)|none=>none
  |none=>none
abbrev Ct:=List AV→Res AV
def rowN:AV→Nat
 | .ints _ n _=>n
 | .agg l=>l.length
 | .rows n _=>n
 | .vec _ l=>l.length
 |_=>0
def cutT(lo n:Nat):AV→Option AV
 | .ints k _ l=>some (.ints k n ((l.drop lo).take n))
 | .vec c l=>some (.vec c ((l.drop lo).take n))
 |_=>none
def flatT(c:Tc)(x:List c.T):AV:=
 match c,x with
 | .int k,x=>.ints k x.length x
 |c,x=>.vec c x
def rowC(get:Nat→Option AV)(v:AV):Option (AV×TypeId):=
 match v with
 | .gs b _ te=>match get b with
  |some T=>cond (pl T) (some (T,te)) none
  |none=>none
 | .gp b lo n te _ _=>match get b with
  |some T=>match cutT lo n T with
   |some U=>some (U,te)
   |none=>none
  |none=>none
 | .sl b p off len _ te=>match get b with
  |some T=>match getP T p with
   |some (.ints k _ l)=>cond (Nat.blt 0 len) (some (.ints k len ((l.drop off).take len),te)) none
   |_=>none
  |none=>none
 | .dv _ _ te (.tc c) x=>some (flatT c x,te)
 |_=>none
def argC(get:Nat→Option AV)(v:AV):Option AV:=
 match v with
 | .sl b p off len cap te=>match get b with
  |some T=>match getP T p with
   |some (.ints k n l)=>cond (Nat.beq len cap&&Nat.beq off 0&&Nat.beq n len&&Nat.blt 0 len) (some (.tup [.ints k n l,.clo te []])) none
   |_=>none
  |none=>none
 | .gs b _ te=>match get b with
  |some T=>cond (pl T) (some (.tup [T,.clo te []])) none
  |none=>none
 | .gp b lo n te nn z=>match rowC get (.gp b lo n te nn z) with
  |some r=>some (.tup [r.1,.clo r.2 []])
  |none=>none
 | .dv b p te d x=>match rowC get (.dv b p te d x) with
  |some r=>some (.tup [r.1,.clo r.2 []])
  |none=>none
 | .tup _=>none
 |v=>cond (pl v) (some v) none
def argsC(get:Nat→Option AV):List AV→Option (List AV)
 | []=>some []
 |v::l=>match argC get v with
  |some u=>match argsC get l with
   |some r=>some (u::r)
   |none=>none
  |none=>none
def bnd{R:Type}(ev:Operand→Option AV)(x:Option Operand)(dflt y:Nat)(f:R)(k:Nat→R):R:=
 match x with
 |none=>k dflt
 |some o=>match ev o with
  |some (.int _ i)=>cond (decide (0≤i∧i≤(y:Int))) (k i.toNat) f
  |_=>f
def codeFs(g:TypeId→Option Tc):List Field→Option Tc
 | []=>some .nil
 |f::fs=>match fs with
  | []=>g f.type
  |_::_=>match g f.type with
   |some a=>match codeFs g fs with
    |some b=>some (.cons a b)
    |none=>none
   |none=>none
def repC(c:Tc):Nat→Tc
 |0=>.nil
 |n+1=>match n with
  |0=>c
  |n+1=>.cons c (repC c (n+1))
def codeD(P:Program):Nat→TypeId→Option Tc
 |0,_=>none
 |d+1,t=>match P.underlying t with
  |some (.int k)=>some (.int k)
  |some .bool=>some .bool
  |some (.array n e)=>match P.underlying e with
   |some (.int k)=>some (.ints k n)
   |_=>match codeD P d e with
    |some c=>some (.agg (repC c n))
    |none=>none
  |some (.struct fs)=>match codeFs (codeD P d) fs.toList with
   |some l=>some (.agg l)
   |none=>none
  |_=>none
def codeOf(P:Program)(t:TypeId):Option Tc:=
 match codeD P 8 t with
 |some c=>cond (c.fit P t) (some c) none
 |none=>none
def Tc.getAll(c:Tc):List AV→Option (List c.T)
 | []=>some []
 |v::l=>match c.get v with
  |some x=>match c.getAll l with
   |some r=>some (x::r)
   |none=>none
  |none=>none
def castRow{c c':Tc}(h:c=c')(l:List c.T):List c'.T:=h▸l
def catT:AV→AV→Option AV
 | .ints k n l,.ints k' m u=>cond (kEq k k') (some (.ints k (n+m) (l++u))) none
 | .vec c l,.vec c' u=>match h:c.same c' with
  |true=>some (.vec c' (castRow (Tc.same_eq c c' h) l++u))
  |false=>none
 | .vec c l,.agg es=>match c.getAll es with
  |some u=>some (.vec c (l++u))
  |none=>none
 |_,_=>none
def emptyT(P:Program)(e:TypeId):AV→Option AV
 | .ints k _ _=>some (.ints k 0 [])
 | .vec c _=>some (.vec c [])
 | .agg _=>match codeOf P e with
  |some c=>some (.vec c [])
  |none=>none
 |_=>none
def rowTy(P:Program)(e:TypeId):Bool:=
 match P.info? e with
 |some i=>match i.zero with
  |some z=>Nat.beq z.cells.size i.size&&Nat.blt 0 i.size
  |none=>false
 |none=>false
def fits(P:Program)(e:TypeId)(q:Nat):Bool:=
 match P.info? e with
 |some i=>decide (q*i.bytes≤140737488355328∧q≤9223372036854775807)
 |none=>false
def appK{R:Type}(P:Program)(ro:Nat)(e:TypeId)(x y:AV)(get:Nat→Option AV)(f:R)(k:Eff→R):R:=
 match y with
 | .gs b2 _ te=>cond (Nat.beq te e&&rowTy P e) (match get b2 with
  |some U=>match x with
   | .nils=>match emptyT P e U with
    |some T=>match catT T U with
     |some V=>cond (fits P e (rowN V)) (k (.grow none V fun c=>.gs c (rowN V) e)) f
     |none=>f
    |none=>f
   | .gs b _ te'=>cond (Nat.beq te' e&&Nat.ble ro b) (match get b with
    |some T=>match catT T U with
     |some V=>cond (fits P e (rowN V)) (k (.grow (some b) V fun c=>.gs c (rowN V) e)) f
     |none=>f
    |none=>f) f
   |_=>f
  |none=>f) f
 |_=>f
def intTy(P:Program)(e:TypeId):Option IntKind:=
 match P.underlying e with
 |some (.int k)=>cond (Nat.beq (P.cellsOf e) 1) (some k) none
 |_=>none
def dense(ev:Operand→Option AV)(k:IntKind):Nat→List (Nat×Operand)→Option (List Int)
 |_,[]=>some []
 |i,x::r=>cond (Nat.beq x.1 i) (match ev x.2 with
  |some (.int k' v)=>cond (kEq k k') (match dense ev k (i+1) r with
   |some l=>some (v::l)
   |none=>none) none
  |_=>none) none
def denseA(P:Program)(ev:Operand→Option AV)(e:TypeId):Nat→List (Nat×Operand)→Option (List AV)
 |_,[]=>some []
 |i,x::r=>cond (Nat.beq x.1 i) (match ev x.2 with
  |some v=>cond (chk P v e) (match denseA P ev e (i+1) r with
   |some l=>some (v::l)
   |none=>none) none
  |none=>none) none
def rowLit(P:Program)(e:TypeId)(l:List AV):AV:=
 match codeOf P e with
 |some c=>match c.getAll l with
  |some u=>.vec c u
  |none=>.agg l
 |none=>.agg l
def retK{R:Type}(v:AV)(k:Eff→R):R:=
 match v with
 | .tup [.tup [T,.clo te []],y]=>k (.grow none T fun c=>.tup [.gs c (rowN T) te,y])
 | .tup [T,.clo te []]=>k (.grow none T fun c=>.gs c (rowN T) te)
 |v=>k (.val v)
def flatOf:AV→Option ((c:Tc)×List c.T)
 | .ints k _ l=>some ⟨.int k,l⟩
 | .vec c l=>some ⟨c,l⟩
 |_=>none
def getRow(d:Dc)(te:TypeId)(v:AV):Option (List d.T):=match v with
 | .dv _ _ te' d' x=>(match h:d'.same d with
  |true=>cond (Nat.beq te te') (some (castD (Dc.same_eq d' d h) x)) none
  |false=>none)
 | .nils=>some []
 |_=>none
def Dc.getB:(d:Dc)→(AV→Option d.T)×(List AV→Option d.T)
 | .tc c=>(c.get,oneL c.get)
 | .row d te=>(getRow d te,oneL (getRow d te))
 | .nil=>(fun _=>none,fun l=>match l with| []=>some ()|_::_=>none)
 | .cons a b=>(fun _=>none,fun l=>match l with
  | []=>none
  |v::r=>match a.getB.1 v with
   |some x=>match b.getB.2 r with
    |some y=>some (x,y)
    |none=>none
   |none=>none)
 | .agg c=>(getAgg c.getB.2,oneL (getAgg c.getB.2))
def Dc.getAll(d:Dc):List AV→Option (List d.T)
 | []=>some []
 |v::l=>match d.getB.1 v with
  |some x=>match d.getAll l with
   |some r=>some (x::r)
   |none=>none
  |none=>none
def dcodeFs(g:TypeId→Option Dc):List Field→Option Dc
 | []=>some .nil
 |f::fs=>match fs with
  | []=>g f.type
  |_::_=>match g f.type with
   |some a=>match dcodeFs g fs with
    |some b=>some (.cons a b)
    |none=>none
   |none=>none
def dcodeD(P:Program):Nat→TypeId→Option Dc
 |0,_=>none
 |k+1,t=>match codeOf P t with
  |some c=>some (.tc c)
  |none=>match P.underlying t with
   |some (.slice e)=>match dcodeD P k e with
    |some d=>some (.row d e)
    |none=>none
   |some (.struct fs)=>match dcodeFs (dcodeD P k) fs.toList with
    |some l=>some (.agg l)
    |none=>none
   |_=>none
def dcodeOf(P:Program)(t:TypeId):Option Dc:=
 match dcodeD P 6 t with
 |some d=>cond (d.fit P t) (some d) none
 |none=>none
def Dc.ofRow(d:Dc)(T:AV):Option (List d.T):=match T with
 | .agg l=>d.getAll l
 | .vec c l=>match h:Dc.same (.tc c) d with
  |true=>some (castD (Dc.same_eq (.tc c) d h) l)
  |false=>none
 | .ints k _ l=>match h:Dc.same (.tc (.int k)) d with
  |true=>some (castD (Dc.same_eq (.tc (.int k)) d h) l)
  |false=>none
 |_=>none
def fzm(Γ:FuncId→Option Ct):Bool:=match Γ 4294967295 with
 |some _=>true
 |none=>false
def isTc:Dc→Bool
 | .tc _=>true
 |_=>false
def frzX(ro:Nat)(get:Nat→Option AV)(e:TypeId)(d:Dc)(x:AV):Option (Option Nat×List d.T):=match x with
 | .nils=>some (none,[])
 | .dv b p te d' xs=>match p with
  | []=>match h:d'.same d with
   |true=>match get b with
    |some (.dc _ _)=>cond (Nat.beq te e&&Nat.ble ro b) (some (some b,castD (Dc.same_eq d' d h) xs)) none
    |_=>none
   |false=>none
  |_::_=>none
 |_=>none
def frzY(get:Nat→Option AV)(e:TypeId)(d:Dc)(y:AV):Option (List d.T):=match y with
 | .gs c _ te=>match get c with
  |some T=>cond (Nat.beq te e) (d.ofRow T) none
  |none=>none
 | .dv _ _ te d' ys=>match h:d'.same d with
  |true=>cond (Nat.beq te e) (some (castD (Dc.same_eq d' d h) ys)) none
  |false=>none
 | .nils=>some []
 | .gp b lo n te nn z=>match rowC get (.gp b lo n te nn z) with
  |some (.ints q _ l,te')=>match h:Dc.same (.tc (.int q)) d with
   |true=>cond (Nat.beq te' e) (some (castD (Dc.same_eq (.tc (.int q)) d h) l)) none
   |false=>none
  |_=>none
 | .sl b p off len _ te=>match get b with
  |some T=>match getP T p with
   |some (.ints q _ l)=>match h:Dc.same (.tc (.int q)) d with
    |true=>cond (Nat.beq te e) (some (castD (Dc.same_eq (.tc (.int q)) d h) ((l.drop off).take len))) none
    |false=>none
   |_=>none
  |none=>none
 |_=>none
def frzD(P:Program)(fz:Bool)(e:TypeId)(x y:AV):Option Dc:=match x with
 | .dv _ _ _ d _=>some d
 | .nils=>match y with
  | .nils=>none
  |_=>match dcodeOf P e with
   |some d=>cond (fz|| !(isTc d)) (some d) none
   |none=>none
 |_=>none
def appF{R:Type}(P:Program)(ro:Nat)(e:TypeId)(d:Dc)(x y:AV)(get:Nat→Option AV)(f:R)(k:Eff→R):R:=
 match frzX ro get e d x with
 |some r=>match frzY get e d y with
  |some ys=>cond (rowTy P e&&d.fit P e&&fits P e ((r.2++ys).length)) (k (.grow r.1 (.dc d []) fun c=>.dv c [] e d (r.2++ys))) f
  |none=>f
 |none=>f
def retF{R:Type}(P:Program)(v:AV)(k:Eff→R):R:=
 match v with
 | .tup [.tup [T,.clo te []],y]=>match flatOf T with
  |some d=>k (.grow none (.dc (.tc d.1) []) fun c=>.tup [.dv c [] te (.tc d.1) d.2,y])
  |none=>retK v k
 | .tup [T,.clo te []]=>match flatOf T with
  |some d=>k (.grow none (.dc (.tc d.1) []) fun c=>.dv c [] te (.tc d.1) d.2)
  |none=>retK v k
 |v=>k (.val v)
def retX{R:Type}(P:Program)(fz:Bool)(v:AV)(k:Eff→R):R:=cond fz (retF P v k) (retK v k)
def isClo:AV→Bool
 | .clo _ _=>true
 | .tup _=>true
 |_=>false
def resC1(P:Program)(ro:Nat)(mem:Nat→Option AV)(t:TypeId)(v:AV):Option AV:=
 match v with
 | .gs b _ te=>cond (Nat.ble ro b) (match mem b with
  |some T=>cond (pl T) (some (.tup [T,.clo te []])) none
  |none=>none) none
 | .nils=>match P.underlying t with
  |some (.slice e)=>match intTy P e with
   |some k=>some (.tup [.ints k 0 [],.clo e []])
   |none=>match codeOf P e with
    |some c=>some (.tup [.vec c [],.clo e []])
    |none=>none
  |_=>none
 |v=>cond (pl v&& !(isClo v)) (some v) none
def resC(P:Program)(ro:Nat)(mem:Nat→Option AV)(ts:List TypeId)(v:AV):Option AV:=
 match v with
 | .tup [x,y]=>match ts with
  | [t,_]=>cond (pl y&& !(isClo y)) (match resC1 P ro mem t x with
   |some u=>some (.tup [u,y])
   |none=>none) none
  |_=>none
 | .tup l=>cond (plL l) (some (.tup l)) none
 |v=>match ts with
  | [t]=>resC1 P ro mem t v
  |_=>none
def opK{R:Type}(P:Program)(Γ:FuncId→Option Ct)(ro:Nat)(o:Op)(ev:Operand→Option AV)(get:Nat→Option AV)(f:R)(k:Eff→R):R:=
 match o with
 | .move x=>match ev x with|some v=>k (.val v)|none=>f
 | .assign x=>match ev x with|some v=>k (.val v)|none=>f
 | .pick c a b=>match ev c,ev a,ev b with
  |some (.bool c),some a,some b=>cond c (k (.val a)) (k (.val b))
  |_,_,_=>f
 | .alloc t=>match zeroAV P t with|some z=>k (.new t false 1 z fun b=>.ptr b [] t)|none=>f
 | .box t x=>match ev x with
  |some v=>cond (chk P v t) (k (.new t false 1 v fun b=>.ptr b [] t)) f
  |none=>f
 | .build t ps=>match zeroAV P t,evP ev ps.toList with
  |some z,some vs=>cond (wide z&&Nat.blt 0 (P.cellsOf t)) (match fillAV P t z vs with|some v=>k (.val v)|none=>f) f
  |_,_=>f
 | .load t a=>match ev a with
  |some (.ptr b p t')=>cond (Nat.beq t t') (match get b with
   |some T=>match getP T p with|some v=>k (.val v)|none=>f
   |none=>f) f
  |some (.pa b p off n te)=>match P.underlying t with
   |some (.array n' e)=>cond (Nat.beq n' n&&Nat.beq e te&&Nat.beq (P.cellsOf t) n) (match get b with
    |some T=>match getP T p with
     |some (.ints q _ l)=>k (.val (.ints q n ((l.drop off).take n)))
     |_=>f
    |none=>f) f
   |_=>f
  |_=>f
 | .sliceToArrayPointer t x=>match ev x with
  |some (.sl b p off len _ te)=>match P.underlying t with
   |some (.array n e)=>cond (Nat.beq e te&&Nat.ble n len) (k (.val (.pa b p off n te))) f
   |_=>f
  |some (.gp b lo len te _ _)=>match P.underlying t with
   |some (.array n e)=>cond (Nat.beq e te&&(Nat.ble n len&&Nat.blt 0 n)) (k (.val (.pa b [] lo n te))) f
   |_=>f
  |_=>f
 | .store t a x=>match ev a,ev x with
  |some (.ptr b p t'),some v=>cond (Nat.beq t t'&&Nat.ble ro b&&chk P v t) (match get b with
   |some T=>match setP T p v with|some T'=>k (.upd b T')|none=>f
   |none=>f) f
  |_,_=>f
 | .nilCheck x=>match ev x with
  |some (.ptr b p t)=>k (.val (.ptr b p t))
  |_=>f
 | .binOp op _ x y _=>match ev x,ev y with
  |some (.int q a),some (.int q' b)=>
   match bcl op with
   |3=>cond (decide (0≤b)) (k (.val (.int q (ibin op q a b)))) f
   |1=>cond (kEq q q') (cond (b==0) f (k (.val (.int q (ibin op q a b))))) f
   |4=>cond (kEq q q') (k (.val (.bool (icmp op a b)))) f
   |_=>cond (kEq q q') (k (.val (.int q (ibin op q a b)))) f
  |_,_=>f
 | .unOp op _ x=>match op,ev x with
  | .neg,some (.int q a)=>k (.val (.int q (ineg q a)))
  | .xor,some (.int q a)=>k (.val (.int q (inot q a)))
  | .not,some (.bool b)=>k (.val (.bool (!b)))
  |_,_=>f
 | .convert src dst x=>match ev x with
  |some (.int _ a)=>match P.underlying src,P.underlying dst with
   |some _,some (.int q)=>k (.val (.int q (q.wrap a)))
   |_,_=>f
  |_=>f
 | .fieldAddr s x i=>match ev x with
  |some (.ptr b p t)=>cond (Nat.beq s t) (match P.underlying s with
   |some (.struct fs)=>match fs[i]? with
    |some fd=>cond (Nat.blt 0 (P.cellsOf fd.type)) (k (.val (.ptr b (p++[i]) fd.type))) f
    |none=>f
   |_=>f) f
  |_=>f
 | .field s x i=>match ev x with
  |some (.agg l)=>match P.underlying s with
   |some (.struct _)=>cond (chk P (.agg l) s) (match l[i]? with|some v=>k (.val v)|none=>f) f
   |_=>f
  |_=>f
 | .indexAddr t x ix=>match ev x,ev ix with
  |some (.ptr b p t'),some (.int _ i)=>cond (Nat.beq t t') (match P.underlying t with
   |some (.array n e)=>cond (Nat.blt 0 (P.cellsOf e)) (cond (decide (0≤i∧i<(n:Int))) (k (.val (.ptr b (p++[i.toNat]) e))) f) f
   |_=>f) f
  |some (.sl b p off len _ te),some (.int _ i)=>match P.underlying t with
   |some (.slice e)=>cond (Nat.beq e te&&Nat.blt 0 (P.cellsOf e)) (cond (decide (0≤i∧i<(len:Int))) (k (.val (.ptr b (p++[off+i.toNat]) e))) f) f
   |_=>f
  |some (.gs b n te),some (.int _ i)=>match P.underlying t with
   |some (.slice e)=>cond (Nat.beq e te&&Nat.blt 0 (P.cellsOf e)) (cond (decide (0≤i∧i<(n:Int))) (k (.val (.ptr b [i.toNat] e))) f) f
   |_=>f
  |_,_=>f
 | .index t x ix=>match ev x,ev ix with
  |some (.ints q n l),some (.int _ i)=>match P.underlying t with
   |some (.array m _)=>cond (Nat.beq m n&&chk P (.ints q n l) t) (cond (decide (0≤i∧i<(n:Int))) (k (.val (.int q (l.getD i.toNat 0)))) f) f
   |_=>f
  |some (.agg l),some (.int _ i)=>match P.underlying t with
   |some (.array _ _)=>cond (chk P (.agg l) t) (cond (decide (0≤i∧i<(l.length:Int))) (match subL l i.toNat with|some v=>k (.val v)|none=>f) f) f
   |_=>f
  |some (.str s),some (.int _ i)=>match P.underlying t with
   |some .string=>cond (decide (0≤i∧i<(s.size:Int))) (k (.val (.int .u8 (s.data.toList.getD i.toNat 0).toNat))) f
   |_=>f
  |_,_=>f
 | .slice t x lo hi Option.none=>match ev x with
  |some (.ptr b p t')=>cond (Nat.beq t t') (match P.underlying t with
   |some (.array n e)=>cond (Nat.blt 0 (P.cellsOf e)&&inR .i64 n) (bnd ev hi n n f fun h=>bnd ev lo 0 h f fun l=>k (.val (.sl b p (bif Nat.beq n l then 0 else l) (h-l) (n-l) e))) f
   |_=>f) f
  |some (.sl b p off len cap te)=>match P.underlying t with
   |some (.slice e)=>cond (Nat.beq e te&&Nat.blt 0 (P.cellsOf e)) (bnd ev hi len cap f fun h=>bnd ev lo 0 h f fun l=>k (.val (.sl b p (bif Nat.beq cap l then off else off+l) (h-l) (cap-l) e))) f
   |_=>f
  |some .nils=>match P.underlying t with
   |some (.slice e)=>cond (Nat.blt 0 (P.cellsOf e)) (bnd ev hi 0 0 f fun h=>bnd ev lo 0 h f fun _=>k (.val .nils)) f
   |_=>f
  |_=>f
 | .buildSlice t n ps=>match P.underlying t with
  |some (.slice e)=>match intTy P e with
   |some q=>match dense ev q 0 ps.toList with
    |some l=>cond (Nat.beq l.length n&&Nat.blt 0 n&&Nat.ble n 16777216&&rowTy P e) (k (.grow none (.ints q n l) fun b=>.gs b n e)) f
    |none=>f
   |none=>match denseA P ev e 0 ps.toList with
    |some l=>cond (Nat.beq l.length n&&Nat.blt 0 n&&Nat.ble (n*P.cellsOf e) 16777216&&Nat.ble n 16777216&&Nat.blt 0 (P.cellsOf e)&&rowTy P e) (k (.grow none (rowLit P e l) fun b=>.gs b n e)) f
    |none=>f
  |_=>f
 | .extract x i=>match ev x with
  |some (.tup l)=>match l[i]? with|some v=>k (.val v)|none=>f
  |_=>f
 | .makeFunc (.func g) first caps=>match first.toList with
  | []=>match evL ev caps.toList with|some l=>k (.val (.clo g l))|none=>f
  |_::_=>f
 | .makeInterface t x=>match ev x with
  |some v=>match P.underlying t with
   |some (.interface _)=>f
   |some _=>k (.val (.ifc t v))
   |none=>f
  |none=>f
 | .call c=>match c.callee with
  | .value fo=>match ev fo,evL ev c.args.toList with
   |some (.clo g []),some vs=>match Γ g with
    |some C=>match argsC get vs with
     |some us=>(C us).run f fun v=>retX P (fzm Γ) v k
     |none=>f
    |none=>f
   |_,_=>f
  | .builtin .append=>match evL ev c.args.toList,c.argTypes.toList with
   |some [x,y],[t,t']=>cond (Nat.beq t t') (match P.underlying t with
    |some (.slice e)=>appK P ro e x y get f k
    |_=>f) f
   |_,_=>f
  | .builtin .len=>match evL ev c.args.toList,c.argTypes.toList with
   |some [.sl _ _ _ n _ _],[t]=>match P.underlying t with
    |some (.slice _)=>k (.val (.int .i64 n))
    |_=>f
   |some [.gs _ n _],[t]=>match P.underlying t with
    |some (.slice _)=>k (.val (.int .i64 n))
    |_=>f
   |some [.nils],[t]=>match P.underlying t with
    |some (.slice _)=>k (.val (.int .i64 0))
    |_=>f
   |some [.str s],[t]=>match P.underlying t with
    |some .string=>k (.val (.int .i64 s.size))
    |_=>f
   |some [_],[t]=>match P.underlying t with
    |some (.array n _)=>cond (inR .i64 n) (k (.val (.int .i64 n))) f
    |_=>f
   |_,_=>f
  |_=>f
 |_=>f
def eqG(P:Program)(t:TypeId):AV→Bool
 | .ints _ _ _=> !P.eqGuardType P.depth t
 | .agg _=> !P.eqGuardType P.depth t
 | .nilif=>false
 | .vec _ _=>false
 | .dc _ _=>false
 | .itr _ _=>false
 |_=>true
def eqK{R:Type}(P:Program)(t:TypeId)(neg:Bool)(x y:AV)(f:R)(k:Eff→R):R:=
 match eqD P 4 t x y with
 |some b=>cond (chk P x t&&chk P y t&&eqG P t x) (k (.val (.bool (cond neg (!b) b)))) f
 |none=>f
def opE{R:Type}(P:Program)(Γ:FuncId→Option Ct)(ro:Nat)(o:Op)(ev:Operand→Option AV)(get:Nat→Option AV)(f:R)(k:Eff→R):R:=
 match o with
 | .binOp .eql t x y _=>match ev x,ev y with
  |some (.int q a),some (.int q' b)=>cond (kEq q q') (k (.val (.bool (icmp .eql a b)))) f
  |some a,some b=>eqK P t false a b f k
  |_,_=>f
 | .binOp .neq t x y _=>match ev x,ev y with
  |some (.int q a),some (.int q' b)=>cond (kEq q q') (k (.val (.bool (icmp .neq a b)))) f
  |some a,some b=>eqK P t true a b f k
  |_,_=>f
 |o=>opK P Γ ro o ev get f k
def bStr(l:List Int):ByteArray:=⟨(l.map fun n=>UInt8.ofNat n.toNat).toArray⟩
def appX{R:Type}(P:Program)(ro:Nat)(e:TypeId)(x y:AV)(get:Nat→Option AV)(f:R)(k:Eff→R):R:=
 match y with
 | .nils=>match x with
  | .nils=>cond (rowTy P e) (k (.val .nils)) f
  | .gs b n te=>cond (Nat.beq te e&&rowTy P e&&Nat.ble ro b) (match get b with
   |some T=>cond (pl T) (k (.val (.gs b n te))) f
   |none=>f) f
  |_=>f
 |y=>match rowC get y with
  |some r=>cond (Nat.beq r.2 e&&rowTy P e) (match x with
   | .nils=>match emptyT P e r.1 with
    |some T=>match catT T r.1 with
     |some V=>cond (fits P e (rowN V)) (k (.grow none V fun c=>.gs c (rowN V) e)) f
     |none=>f
    |none=>f
   | .gs b _ te'=>cond (Nat.beq te' e&&Nat.ble ro b) (match get b with
    |some T=>match catT T r.1 with
     |some V=>cond (fits P e (rowN V)) (k (.grow (some b) V fun c=>.gs c (rowN V) e)) f
     |none=>f
    |none=>f) f
   | .gp b lo n te' _ z=>cond (Nat.beq te' e&&Nat.ble ro b&&(Nat.beq lo 0&&Nat.beq z 0)) (match get b with
    |some T0=>match cutT 0 n T0 with
     |some T=>match catT T r.1 with
      |some V=>cond (fits P e (rowN V)) (k (.grow (some b) V fun c=>.gs c (rowN V) e)) f
      |none=>f
     |none=>f
    |none=>f) f
   |_=>f) f
  |none=>f
def copyT(T U:AV):Option AV:=
 match T,U with
 | .ints q n l,.ints q' m u=>cond (kEq q q') (some (.ints q n (u.take n++l.drop m))) none
 | .vec c l,.vec c' u=>match h:c'.same c with
  |true=>some (.vec c ((castRow (Tc.same_eq c' c h) u).take l.length++l.drop u.length))
  |false=>none
 |_,_=>none
def zeroRow(P:Program)(e:TypeId)(n:Nat):Option AV:=
 match zeroAV P e with
 |some (.int k 0)=>match intTy P e with
  |some k'=>cond (kEq k k') (some (.ints k n (List.replicate n 0))) none
  |none=>none
 |some z=>match codeOf P e with
  |some c=>match c.get z with
   |some x=>some (.vec c (List.replicate n x))
   |none=>none
  |none=>none
 |none=>none
def appZ{R:Type}(P:Program)(e:TypeId)(x y:AV)(f:R)(k:Eff→R):R:=
 match x with
 | .nils=>match y with
  | .int _ i=>match zeroRow P e i.toNat with
   |some T=>cond (decide (0<i)&&fits P e i.toNat&&rowTy P e) (k (.grow none T fun c=>.gs c i.toNat e)) f
   |none=>f
  |_=>f
 |_=>f
def opK'{R:Type}(P:Program)(Γ:FuncId→Option Ct)(ro:Nat)(o:Op)(ev:Operand→Option AV)(get:Nat→Option AV)(f:R)(k:Eff→R):R:=
 match o with
 | .slice t x lo hi Option.none=>match ev x with
  |some (.gs b n te)=>match P.underlying t with
   |some (.slice e)=>cond (Nat.beq e te&&Nat.blt 0 (P.cellsOf e)) (bnd ev hi n n f fun h=>bnd ev lo 0 h f fun l=>k (.val (.gp b l (h-l) te false 0))) f
   |_=>f
  |some (.gp b lo0 n te nn z)=>match P.underlying t with
   |some (.slice e)=>cond (Nat.beq e te&&Nat.blt 0 (P.cellsOf e)) (match lo with
    |none=>bnd ev hi n n f fun h=>k (.val (.gp b lo0 h te nn z))
    |some lo=>bnd ev hi n n f fun h=>bnd ev (some lo) 0 h f fun l=>k (.val (.gp b (lo0+l) (h-l) te nn (cond (Nat.beq l 0) z lo0)))) f
   |_=>f
  |some (.dv b p te d x)=>match P.underlying t with
   |some (.slice e)=>cond (Nat.beq e te&&Nat.blt 0 (P.cellsOf e)) (bnd ev hi x.length x.length f fun h=>bnd ev lo 0 h f fun l=>k (.val (.dv b (p++[.sub l (P.cellsOf e)]) te d ((x.drop l).take (h-l))))) f
   |_=>f
  |some (.str s)=>match P.underlying t with
   |some .string=>bnd ev hi s.size s.size f fun h=>bnd ev lo 0 h f fun l=>k (.val (.str (s.extract l h)))
   |_=>f
  |_=>opE P Γ ro (.slice t x lo hi Option.none) ev get f k
 | .indexAddr t x ix=>match ev x,ev ix with
  |some (.gp b lo n te _ _),some (.int _ i)=>match P.underlying t with
   |some (.slice e)=>cond (Nat.beq e te&&Nat.blt 0 (P.cellsOf e)) (cond (decide (0≤i∧i<(n:Int))) (k (.val (.ptr b [lo+i.toNat] e))) f) f
   |_=>f
  |some (.dv b p te d x),some (.int _ i)=>match P.underlying t with
   |some (.slice e)=>cond (Nat.beq e te&&Nat.blt 0 (P.cellsOf e)) (cond (decide (0≤i∧i<(x.length:Int))) (k (.val (.dq b p (i.toNat*P.cellsOf e) te d (x.getD i.toNat d.dft)))) f) f
   |_=>f
  |_,_=>opE P Γ ro (.indexAddr t x ix) ev get f k
 | .fieldAddr st x i=>match ev x with
  |some (.dq b p o te (.agg l) xv)=>cond (Nat.beq st te&&Dc.fit P (.agg l) st) (match P.underlying st with
   |some (.struct fs)=>match fs[i]?,l.nth i xv with
    |some fd,some q=>cond (Nat.blt 0 (P.cellsOf fd.type)) (k (.val (.dq b p (o+fd.offset) fd.type q.1 q.2))) f
    |_,_=>f
   |_=>f) f
  |_=>opE P Γ ro (.fieldAddr st x i) ev get f k
 | .load t a=>match ev a with
  |some (.dq b p o te d x)=>cond (Nat.beq t te&&d.fit P t) (k (.val (d.mkB b p o x).1)) f
  |_=>opE P Γ ro (.load t a) ev get f k
 | .convert src dst x=>match ev x with
  |some (.int q a)=>opE P Γ ro (.convert src dst x) ev get f k
  |some .nils=>match P.underlying src,P.underlying dst with
   |some (.slice e),some .string=>match P.underlying e with
    |some (.int .u8)=>k (.val (.str (bStr [])))
    |_=>f
   |_,_=>f
  |some v=>match P.underlying src,P.underlying dst with
   |some (.slice e),some .string=>match rowC get v with
    |some r=>match r.1 with
     | .ints .u8 _ l=>cond (Nat.beq e r.2) (k (.val (.str (bStr l)))) f
     |_=>f
    |none=>f
   |_,_=>f
  |none=>f
 | .binOp .add t x y ty=>match ev x,ev y with
  |some (.str a),some (.str b)=>cond (inR .i64 ((a.size+b.size:Nat):Int)) (k (.val (.str (a++b)))) f
  |_,_=>opE P Γ ro (.binOp .add t x y ty) ev get f k
 | .binOp .eql t x y ty=>match ev x,ev y with
  |some (.gp b lo n te true _),some .nils=>match P.underlying t with
   |some (.slice _)=>k (.val (.bool false))
   |_=>f
  |_,_=>opE P Γ ro (.binOp .eql t x y ty) ev get f k
 | .makeSlice t len cap=>match ev len,ev cap with
  |some (.int _ i),some (.int _ j)=>match P.underlying t with
   |some (.slice e)=>match zeroRow P e i.toNat with
    |some T=>cond (decide (0≤i∧i≤j)&&fits P e j.toNat&&rowTy P e) (k (.grow none T fun c=>.gs c i.toNat e)) f
    |none=>f
   |_=>f
  |_,_=>f
 | .buildSlice t n ps=>match n with
  |0=>match P.underlying t with
   |some (.slice e)=>match zeroRow P e 0 with
    |some T=>cond (rowTy P e&&(match ps.toList with| []=>true|_::_=>false)) (k (.grow none T fun c=>.gs c 0 e)) f
    |none=>f
   |_=>f
  |n=>opE P Γ ro (.buildSlice t n ps) ev get f k
 | .call c=>match c.callee with
  | .builtin .append=>match evL ev c.args.toList,c.argTypes.toList with
   |some [x,y],[t,t']=>cond (Nat.beq t t') (match P.underlying t with
    |some (.slice e)=>match frzD P (fzm Γ) e x y with
     |some d=>appF P ro e d x y get f k
     |none=>appX P ro e x y get f k
    |_=>f) (match P.underlying t,P.underlying t' with
    |some (.slice e),some (.int _)=>appZ P e x y f k
    |_,_=>f)
   |_,_=>f
  | .builtin .cap=>match evL ev c.args.toList,c.argTypes.toList with
   |some [.nils],[t]=>match P.underlying t with
    |some (.slice _)=>k (.val (.int .i64 0))
    |_=>f
   |_,_=>f
  | .builtin .min=>match evL ev c.args.toList with
   |some [.int q i,.int q' j]=>cond (kEq q q') (k (.val (.int q (cond (decide (j<i)) j i)))) f
   |_=>f
  | .builtin .len=>match evL ev c.args.toList,c.argTypes.toList with
   |some [.gp _ _ n _ _ _],[t]=>match P.underlying t with
    |some (.slice _)=>k (.val (.int .i64 n))
    |_=>f
   |some [.dv _ _ _ _ x],[t]=>match P.underlying t with
    |some (.slice _)=>k (.val (.int .i64 x.length))
    |_=>f
   |_,_=>opE P Γ ro (.call c) ev get f k
  |_=>opE P Γ ro (.call c) ev get f k
 |o=>opE P Γ ro o ev get f k
structure St where
 tm:List (Nat×AV)
 mem:List (Nat×AV)
 nx:Nat
def St.put(st:St)(d:Option Nat)(v:AV):St:=
 match d with
 |some d=>{st with tm:=(d,v)::st.tm}
 |none=>st
def St.know(st:St)(d:Nat)(b:Bool):St:={st with tm:=(d,.bool b)::st.tm}
def dOK(nt:Nat):Option Nat→Bool
 |some d=>Nat.blt d nt
 |none=>true
def St.app(st:St)(i:Nat)(d:Option Nat):Eff→St
 | .val v=>st.put d v
 | .new _ _ _ T g=>{st.put d (g (st.nx+i)) with mem:=(st.nx+i,T)::st.mem}
 | .upd b T=>{st.put d (.tup []) with mem:=(b,T)::st.mem}
 | .grow b T g=>{st.put d (g (st.nx+i)) with mem:=(st.nx+i,T)::del b st.mem}
def clear(d:Option Nat)(l:List Nat):Bool:=
 match d with
 |none=>true
 |some d=>l.all fun x=> !Nat.beq x d
structure Inl where
 run:{R:Type}→R→List AV→List (Nat×AV)→Nat→(AV→List (Nat×AV)→Nat→R)→R
 par:∀ {R:Type} (f:R) (vs:List AV) (mem:List (Nat×AV)) (nx:Nat) (k:AV→List (Nat×AV)→Nat→R),run f vs mem nx k=mo (run none vs mem nx fun v m n=>some (v,m,n)) f fun r=>k r.1 r.2.1 r.2.2
 /-- Of which names that were there something may change; none: not known. -/
 foot:List AV→List (Nat×AV)→Nat→Option (List Nat):=fun _ _ _=>none
 keeps:∀ {vs:List AV} {mem:List (Nat×AV)} {nx:Nat} {v:AV} {mem':List (Nat×AV)} {nx':Nat} {l:List Nat},run none vs mem nx (fun v m n=>some (v,m,n))=some (v,mem',nx')→foot vs mem nx=some l→nx≤nx'∧∀ b,b<nx→clear (some b) l=true→lk b mem'=lk b mem:=by intros;contradiction
def Inl.no:Inl where
 run:=fun f _ _ _ _=>f
 par:=fun _ _ _ _ _=>rfl
structure Cx where
 Γ:FuncId→Option Ct
 gl:Nat→Option AV
 ro:Nat
 nt:Nat
 inl:FuncId→Option Inl:=fun _=>none
 kp:Bool:=false
def methF(P:Program)(t:TypeId)(name:String):Option FuncId:=
 match P.underlying t with
 |some (.struct _)=>match P.info? t with
  |some i=>match i.methods.find? (·.name==name) with
   |some m=>match m.path.toList,m.func with
    | [],some (f,false)=>some f
    |_,_=>none
   |none=>none
  |none=>none
 |_=>none
def inlAt(P:Program)(cx:Cx)(o:Oper)(st:St):Option (Inl×List AV):=
 match o.op with
 | .call c=>match c.callee with
  | .value fo=>match evO cx.gl st.tm fo with
   |some (.clo g caps)=>match cx.inl g with
    |some I=>match evL (evO cx.gl st.tm) c.args.toList with
     |some vs=>some (I,vs++caps)
     |none=>none
    |none=>none
   |_=>none
  | .invoke x name=>match evO cx.gl st.tm x with
   |some (.ifc t v)=>match methF P t name with
    |some g=>match cx.inl g with
     |some I=>match evL (evO cx.gl st.tm) c.args.toList with
      |some vs=>some (I,v::vs)
      |none=>none
     |none=>none
    |none=>none
   |_=>none
  |_=>none
 |_=>none
def runOps{R:Type}(P:Program)(cx:Cx)(acc:Nat→Nat→Bool)(all:Array Oper)(f:R):List (Nat×Oper)→St→(St→R)→R
 | [],st,K=>K st
 |(i,o)::rest,st,K=>
  cond (dOK cx.nt o.dst)
   (match o.guard with
   |none=>opK' P cx.Γ cx.ro o.op (evO cx.gl st.tm) (fun b=>cond (acc i b) (lk b st.mem) none) f fun e=>runOps P cx acc all f rest (st.app i o.dst e) K
   |some (j,want)=>match (all[j]?).bind (·.dst) with
    |none=>f
    |some d=>match lk d st.tm with
     |some (.bool b)=>match want with
      |true=>cond b (opK' P cx.Γ cx.ro o.op (evO cx.gl (st.know d true).tm) (fun b=>cond (acc i b) (lk b st.mem) none) f fun e=>runOps P cx acc all f rest ((st.know d true).app i o.dst e) K)
        (runOps P cx acc all f rest ((st.know d false).put o.dst (.tup [])) K)
      |false=>cond b (runOps P cx acc all f rest ((st.know d true).put o.dst (.tup [])) K)
        (opK' P cx.Γ cx.ro o.op (evO cx.gl (st.know d false).tm) (fun b=>cond (acc i b) (lk b st.mem) none) f fun e=>runOps P cx acc all f rest ((st.know d false).app i o.dst e) K)
     |some (.tup [])=>runOps P cx acc all f rest (st.put o.dst (.tup [])) K
     |_=>f)
   f
def stepI{R:Type}(all:Array Oper)(f:R)(o:Oper)(I:Inl)(vs:List AV)(st:St)(K:St→R):R:=
 match o.guard with
 |none=>I.run f vs st.mem (st.nx+all.size) fun v mem nx=>K {st.put o.dst v with mem:=mem,nx:=nx}
 |some (j,want)=>match (all[j]?).bind (·.dst) with
  |none=>f
  |some d=>match lk d st.tm with
   |some (.bool b)=>match want with
    |true=>cond b (I.run f vs st.mem (st.nx+all.size) fun v mem nx=>K {(st.know d true).put o.dst v with mem:=mem,nx:=nx}) (K ((st.know d false).put o.dst (.tup [])))
    |false=>cond b (K ((st.know d true).put o.dst (.tup []))) (I.run f vs st.mem (st.nx+all.size) fun v mem nx=>K {(st.know d false).put o.dst v with mem:=mem,nx:=nx})
   |some (.tup [])=>K (st.put o.dst (.tup []))
   |_=>f
def rangeI(s:ByteArray):Inl where
 run:=fun _ _ mem nx k=>k (.itp nx) ((nx,.itr s 0)::mem) (nx+1)
 par:=by intros;rfl
def nextI(b:Nat):Inl where
 run:=fun f _ mem nx k=>match lk b mem with
  |some (.itr s p)=>cond (Nat.blt p s.size) (k (.tup [.bool true,.int .i64 p,.int .i32 (Utf8.decode s p).1]) ((b,.itr s (p+(Utf8.decode s p).2))::mem) nx) (k (.tup [.bool false]) mem nx)
  |_=>f
 par:=by
  intros
  split
  ·rename_i s p _;cases Nat.blt p s.size<;>rfl
  ·rfl
def copyR{R:Type}(ro:Nat)(x y:AV)(f:R)(mem:List (Nat×AV))(nx:Nat)(k:AV→List (Nat×AV)→Nat→R):R:=
 match rowC (fun b=>lk b mem) y with
  |some r=>match x with
   | .gs b _ te=>cond (Nat.beq te r.2&&Nat.ble ro b) (match lk b mem with
    |some T=>match copyT T r.1 with
     |some V=>k (.int .i64 ((min (rowN r.1) (rowN T):Nat):Int)) ((b,V)::mem) nx
     |none=>f
    |none=>f) f
   | .sl b p off len _ te=>match p with
    | []=>cond (Nat.beq te r.2&&Nat.ble ro b&&Nat.beq off 0) (match lk b mem with
     |some (.ints q n l)=>cond (Nat.beq n len) (match copyT (.ints q n l) r.1 with
      |some V=>k (.int .i64 ((min (rowN r.1) n:Nat):Int)) ((b,V)::mem) nx
      |none=>f) f
     |_=>f) f
    |_::_=>f
   |_=>f
  |none=>f
def copyI(ro:Nat)(x y:AV):Inl where
 run:=fun f _ mem nx k=>copyR ro x y f mem nx k
 par:=by
  intro R f vs mem nx k;unfold copyR;cases rowC (fun b=>lk b mem) y with
  |none=>rfl
  |some r=>
   cases x with
   |gs b n te=>
    simp only;cases (Nat.beq te r.2&&Nat.ble ro b) with
    |false=>rfl
    |true=>
     simp only[cond_true];cases lk b mem with
     |none=>rfl
     |some T=>
      simp only;cases copyT T r.1 with
      |none=>rfl
      |some V=>rfl
   |sl b p off len cap te=>
    simp only;cases p with
    |cons _ _=>rfl
    |nil=>
     simp only;cases (Nat.beq te r.2&&Nat.ble ro b&&Nat.beq off 0) with
     |false=>rfl
     |true=>
     simp only[cond_true];cases lk b mem with
     |none=>rfl
     |some T=>
      cases T with
      |ints q n l=>
       simp only;cases (Nat.beq n len) with
       |false=>rfl
       |true=>
        simp only[cond_true];cases copyT (.ints q n l) r.1 with
        |none=>rfl
        |some V=>rfl
      |_=>rfl
   |_=>rfl
 foot:=fun _ _ _=>match x with
  | .gs b _ _=>some [b]
  | .sl b _ _ _ _ _=>some [b]
  |_=>none
 keeps:=by
  intro vs mem nx v mem' nx' l h hl;unfold copyR at h;have one:∀ {b b':Nat} {V:AV},clear (some b') [b]=true→lk b' ((b,V)::mem)=lk b' mem:=by
   intro b b' V hc;simp only[clear,List.all_cons,List.all_nil,Bool.and_true,Bool.not_eq_true'] at hc;simp only[lk,hc,cond_false]
  have cs:∀ {α:Type} {b:Bool} {x:Option α} {r:α},cond b x none=some r→x=some r:=by
   intro α b x r h;cases b
   ·cases h
   ·exact h
  split at h
  ·split at h
   ·have e1:=oI hl;subst e1;replace h:=cs h;split at h
    ·split at h
     ·simp only[oE,pE] at h;obtain⟨-,rfl,rfl⟩:=h;exact⟨Nat.le_refl _,fun b' _ hc=>one hc⟩
     ·cases h
    ·cases h
   ·have e1:=oI hl;subst e1;split at h
    ·replace h:=cs h;split at h
     ·replace h:=cs h;split at h
      ·simp only[oE,pE] at h;obtain⟨-,rfl,rfl⟩:=h;exact⟨Nat.le_refl _,fun b' _ hc=>one hc⟩
      ·cases h
     ·cases h
    ·cases h
   ·cases h
  ·cases h
theorem ZCO{R:Type}(ro:Nat)(x y:AV)(f:R)(vs:List AV)(mem:List (Nat×AV))(nx:Nat)(k:AV→List (Nat×AV)→Nat→R):(copyI ro x y).run f vs mem nx k=copyR ro x y f mem nx k:=rfl
def wAt(P:Program)(cx:Cx)(o:Oper)(st:St):Option Inl:=
 match o.op with
 | .range t x=>match evO cx.gl st.tm x,P.underlying t with
  |some (.str s),some .string=>some (rangeI s)
  |_,_=>none
 | .next it true=>match evO cx.gl st.tm it with
  |some (.itp b)=>some (nextI b)
  |_=>none
 | .call c=>match c.callee with
  | .builtin .copy=>match evL (evO cx.gl st.tm) c.args.toList,c.argTypes.toList with
   |some [x,y],[t,t']=>match P.underlying t,P.underlying t' with
    |some (.slice e),some (.slice _)=>match x with
     | .gs _ _ te=>cond (Nat.beq e te&&rowTy P e) (some (copyI cx.ro x y)) none
     | .sl _ _ _ _ _ te=>cond (Nat.beq e te&&rowTy P e) (some (copyI cx.ro x y)) none
     |_=>none
    |_,_=>none
   |_,_=>none
  |_=>none
 |_=>none
def runI{R:Type}(P:Program)(cx:Cx)(all:Array Oper)(f:R):List (Nat×Oper)→St→(St→R)→R
 | [],st,K=>K st
 |(i,o)::rest,st,K=>match inlAt P cx o st with
  |some (I,vs)=>cond (dOK cx.nt o.dst) (stepI all f o I vs st fun st'=>runI P cx all f rest st' K) f
  |none=>match wAt P cx o st with
   |some I=>cond (dOK cx.nt o.dst) (stepI all f o I [] st fun st'=>runI P cx all f rest st' K) f
   |none=>runOps P cx (fun _ _=>true) all f [(i,o)] st fun st'=>runI P cx all f rest st' K
inductive Ex where
 |normal
 |exit (id:Nat)
 |ret
 |goto (l:Nat)
abbrev Lf:=St→Res (Ex×St)
def iterK{R:Type}(body:St→(Ex→St→R)→R)(f:R):Nat→St→(Ex→St→R)→R
 |0,_,_=>f
 |n+1,st,K=>body st fun e st'=>match e with
  | .normal=>iterK body f n st' K
  |e=>K e st'
def numbered{α:Type}:Nat→List α→List (Nat×α)
 |_,[]=>[]
 |i,a::l=>(i,a)::numbered (i+1) l
def maskAt(ms:List Nat)(o:Oper):Nat:=
 o.after.toList.foldl (fun s e=>cond (Region.binds .any e) (s ||| (2^e.on ||| ms.getD e.on 0)) s) 0
def masks:List Oper→List Nat→List Nat
 | [],ms=>ms
 |o::l,ms=>masks l (ms++[maskAt ms o])
def tmpOf:Operand→Option Nat
 | .tmp t=>some t
 |_=>none
def looks(all:Array Oper)(o:Oper):List Nat:=
 (o.op.operands.toList.filterMap tmpOf)++(match o.guard with
  |some (g,_)=>((all[g]?).bind (·.dst)).toList
  |none=>[])
def isW:Op→Bool
 | .store _ _ _=>true
 | .call c=>match c.callee with
  | .builtin .append=>true
  |_=>false
 |_=>false
def isM:Op→Bool
 | .store _ _ _=>true
 | .load _ _=>true
 | .call _=>true
 | .convert _ _ _=>true
 |_=>false
def sepO(a b:Option Nat):Bool:=
 match a with
 |some a=>(match b with
  |some b=> !Nat.beq a b
  |none=>false)
 |none=>false
def dstIs(t:Nat)(o:Oper):Bool:=
 match o.dst with
 |some d=>Nat.beq d t
 |none=>false
def findD(t:Nat):Nat→List Oper→Option (Nat×Oper)
 |_,[]=>none
 |i,o::l=>cond (dstIs t o) (some (i,o)) (findD t (i+1) l)
def foreA(nx:Nat)(tm mem:List (Nat×AV))(ops:List Oper):Nat→Operand→Option AV
 |0,_=>none
 |k+1,x=>match x with
  | .tmp t=>match findD t 0 ops with
   |some (i0,o)=>(match o.op with
    | .alloc t'=>some (.ptr (nx+i0) [] t')
    | .box t' _=>some (.ptr (nx+i0) [] t')
    | .move y=>foreA nx tm mem ops k y
    | .assign y=>foreA nx tm mem ops k y
    | .nilCheck y=>foreA nx tm mem ops k y
    | .fieldAddr _ y i=>(match foreA nx tm mem ops k y with
     |some (.ptr b p t')=>some (.ptr b (p++[i]) t')
     |_=>none)
    | .load _ y=>(match foreA nx tm mem ops k y with
     |some (.ptr b p _)=>(match lk b mem with
      |some T=>getP T p
      |none=>none)
     |_=>none)
    | .indexAddr _ y _=>(match foreA nx tm mem ops k y with
     |some (.ptr b p t')=>some (.ptr b p t')
     |some (.gs b _ t')=>some (.ptr b [] t')
     |some (.gp b _ _ t' _ _)=>some (.ptr b [] t')
     |some (.sl b p _ _ _ t')=>some (.ptr b p t')
     |_=>none)
    |_=>none)
   |none=>lk t tm
  |_=>none
def ownOf(nx:Nat)(tm mem:List (Nat×AV))(ops:List Oper)(o:Oper):Option Nat:=
 match o.op with
 | .load _ x=>(match foreA nx tm mem ops 10 x with
  |some (.ptr b _ _)=>some b
  |_=>none)
 | .store _ x _=>(match foreA nx tm mem ops 10 x with
  |some (.ptr b _ _)=>some b
  |_=>none)
 |_=>none
def owns(nx:Nat)(tm mem:List (Nat×AV))(ops:List Oper):List (Option Nat):=ops.map (ownOf nx tm mem ops)
def indep(all:Array Oper)(d:Bool)(x y:Oper):Bool:=
 clear x.dst (looks all y)&&clear y.dst (looks all x)&&clear x.dst y.dst.toList&&(d||(!(isW x.op&&isM y.op)&& !(isM x.op&&isW y.op)))
def ind(all:Array Oper)(os:List (Option Nat))(x y:Nat×Oper):Bool:=indep all (sepO (os.getD x.1 none) (os.getD y.1 none)) x.2 y.2
def loose(all:Array Oper)(os:List (Option Nat))(o:Nat×Oper)(m:Nat):List (Nat×Oper)→Bool
 | []=>true
 |x::l=>(m.testBit x.1||ind all os x o)&&loose all os o m l
def looseAll(all:Array Oper)(os:List (Option Nat))(ms:List Nat):List (Nat×Oper)→List (Nat×Oper)→Bool
 | [],_=>true
 |x::l,done=>loose all os x (ms.getD x.1 0) done&&looseAll all os ms l (x::done)
def edgesOK:List (Nat×Oper)→Bool
 | []=>true
 |x::l=>(x.2.after.toList.all fun e=> !(Region.binds .any e)||Nat.blt e.on x.1)&&edgesOK l
def drawOK(ops:Array Oper)(os:List (Option Nat)):Bool:=
 edgesOK (numbered 0 ops.toList)&&looseAll ops os (masks ops.toList []) (numbered 0 ops.toList) []
def quietO(P:Program)(o:Oper):Bool:=match o.op with
 | .move _=>true
 | .assign _=>true
 | .fieldAddr _ _ _=>true
 | .load _ _=>true
 | .nilCheck _=>true
 | .slice _ _ _ _ _=>true
 | .binOp .add _ _ _ _=>true
 | .indexAddr _ _ _=>true
 | .convert s _ _=>match P.underlying s with
  |some (.int _)=>true
  |_=>false
 |_=>false
def isLd:Op→Bool
 | .load _ _=>true
 |_=>false
def ownLt(nx:Nat)(b:Option Nat):Bool:=match b with
 |some b=>Nat.blt b nx
 |none=>false
def quietP(P:Program)(all:Array Oper)(os:List (Option Nat))(nx:Nat)(x y:Nat×Oper):Bool:=
 quietO P x.2&&(clear x.2.dst (looks all y.2)&&clear y.2.dst (looks all x.2)&&clear x.2.dst y.2.dst.toList&&(!(isLd x.2.op)||quietO P y.2||(ownLt nx (os.getD x.1 none)&& !(isW y.2.op))))
def looseQ(P:Program)(all:Array Oper)(os:List (Option Nat))(nx:Nat)(o:Nat×Oper)(m:Nat):List (Nat×Oper)→Bool
 | []=>true
 |x::l=>(m.testBit x.1||(quietP P all os nx x o||quietP P all os nx o x))&&looseQ P all os nx o m l
def looseQA(P:Program)(all:Array Oper)(os:List (Option Nat))(nx:Nat)(ms:List Nat):List (Nat×Oper)→List (Nat×Oper)→Bool
 | [],_=>true
 |x::l,done=>looseQ P all os nx x (ms.getD x.1 0) done&&looseQA P all os nx ms l (x::done)
def drawQ(P:Program)(ops:Array Oper)(os:List (Option Nat))(nx:Nat):Bool:=
 edgesOK (numbered 0 ops.toList)&&looseQA P ops os nx (masks ops.toList []) (numbered 0 ops.toList) []
def footOK(ops:Array Oper)(os:List (Option Nat))(ms:List Nat)(j:Nat)(foot:List Nat):Bool:=
 (numbered 0 ops.toList).all fun q=> !(isLd q.2.op)||(ms.getD q.1 0).testBit j||(ms.getD j 0).testBit q.1||clear (os.getD q.1 none) foot
def hasInl(cx:Cx)(ops:Array Oper):Bool:=ops.toList.any fun o=>match o.op with
 | .call c=>match c.callee with
  | .value (.func g)=>match cx.inl g with
   |some _=>true
   |none=>false
  | .builtin .copy=>true
  |_=>false
 |_=>false
def accD(nx:Nat)(ms:List Nat)(os:List (Option Nat))(i b:Nat):Bool:=
 match os.getD i none with
 |some b0=>(Nat.blt b nx||(ms.getD i 0).testBit (b-nx))&&Nat.beq b b0
 |none=>Nat.blt b nx||(ms.getD i 0).testBit (b-nx)
def atD(P:Program)(cx:Cx)(o:Oper)(st:St):Option (Inl×List AV):=
 match inlAt P cx o st with
 |some r=>some r
 |none=>match wAt P cx o st with
  |some I=>some (I,[])
  |none=>none
def skips(all:Array Oper)(o:Oper)(st:St):Bool:=match o.guard with
 |none=>false
 |some (j,want)=>match (all[j]?).bind (·.dst) with
  |none=>false
  |some d=>match lk d st.tm with
   |some (.bool b)=>(match want with
    |true=> !b
    |false=>b)
   |some (.tup [])=>true
   |_=>false
def atG(P:Program)(cx:Cx)(all:Array Oper)(o:Oper)(st:St):Option (Inl×List AV):=match atD P cx o st with
 |some r=>cond (skips all o st) none (some r)
 |none=>none
def runD{R:Type}(P:Program)(cx:Cx)(os:List (Option Nat))(ms:List Nat)(all:Array Oper)(f:R):List (Nat×Oper)→St→(St→R)→R
 | [],st,K=>K st
 |(i,o)::rest,st,K=>match atG P cx all o st with
  |some (I,vs)=>match I.foot vs st.mem (st.nx+all.size) with
   |some l=>cond (dOK cx.nt o.dst&&footOK all os ms i l) (stepI all f o I vs st fun st'=>runD P cx os ms all f rest st' K) f
   |none=>f
  |none=>runOps P cx (accD st.nx ms os) all f [(i,o)] st fun st'=>runD P cx os ms all f rest st' K
noncomputable def execB{R:Type}(P:Program)(cx:Cx)(Λ:Nat→Option Lf)(n:Nat)(f:R)(c:Code):(St→(Ex→St→R)→R)×(Nat→St→(Ex→St→R)→R):=
 Code.rec (motive:=fun _=>(St→(Ex→St→R)→R)×(Nat→St→(Ex→St→R)→R))
  (fun st K=>K .normal st,fun _ _ _=>f)
  (fun _ ops draw=>(fun st K=>cond draw
   (cond (hasInl cx ops)
    (cond (P.follows .mixedOrders&&drawQ P ops (owns st.nx st.tm st.mem ops.toList) st.nx) (runD P cx (owns st.nx st.tm st.mem ops.toList) (masks ops.toList []) ops f (numbered 0 ops.toList) st fun st'=>K .normal {st' with nx:=st'.nx+ops.size}) f)
    (cond (P.follows .mixedOrders&&drawOK ops (owns st.nx st.tm st.mem ops.toList)) (runOps P cx (accD st.nx (masks ops.toList []) (owns st.nx st.tm st.mem ops.toList)) ops f (numbered 0 ops.toList) st fun st'=>K .normal {st' with nx:=st'.nx+ops.size}) f))
   (runI P cx ops f (numbered 0 ops.toList) st fun st'=>K .normal {st' with nx:=st'.nx+ops.size}),fun _ _ _=>f))
  (fun a _ iha ihb=>(fun st K=>iha.1 st fun e st'=>match e with
   | .normal=>ihb.1 st' K
   |e=>K e st',
   fun l st K=>match findLabel a l with
   |some _=>iha.2 l st fun e st'=>match e with
    | .normal=>ihb.1 st' K
    |e=>K e st'
   |none=>ihb.2 l st K))
  (fun c _ _ iha ihb=>(fun st K=>match evO cx.gl st.tm c with
   |some (.bool t)=>(match c with
    | .tmp d=>cond t (iha.1 (st.know d true) K) (ihb.1 (st.know d false) K)
    |_=>cond t (iha.1 st K) (ihb.1 st K))
   |_=>f,fun _ _ _=>f))
  (fun id _ iha=>(fun st K=>match Λ id with
   |some L=>(L st).run f fun r=>K r.1 r.2
   |none=>iha.1 st fun e st'=>match e with
    | .exit j=>cond (Nat.beq j id) (K .normal st') (K (.exit j) st')
    |e=>K e st',fun _ _ _=>f))
  (fun _ iha=>(fun st K=>iterK iha.1 f n st K,fun _ _ _=>f))
  (fun _ _ _ _ _ _=>(fun _ _=>f,fun _ _ _=>f))
  (fun id=>(fun st K=>K (.exit id) st,fun _ _ _=>f))
  (fun a iha=>(fun st K=>iha.1 st fun e st'=>match e with
   | .goto l=>(match findLabel a l with
    |some _=>iha.2 l st' fun e st''=>match e with
     | .goto _=>f
     |e=>K e st''
    |none=>f)
   |e=>K e st',fun _ _ _=>f))
  (fun _=>(fun st K=>K .normal st,fun _ st K=>K .normal st))
  (fun l=>(fun st K=>K (.goto l) st,fun _ _ _=>f))
  (fun st K=>K .ret st,fun _ _ _=>f)
  (fun _=>(fun _ _=>f,fun _ _ _=>f))
  c
noncomputable def exec{R:Type}(P:Program)(cx:Cx)(Λ:Nat→Option Lf)(n:Nat)(f:R)(c:Code):St→(Ex→St→R)→R:=(execB P cx Λ n f c).1
noncomputable def execL{R:Type}(P:Program)(cx:Cx)(Λ:Nat→Option Lf)(n:Nat)(f:R)(c:Code):Nat→St→(Ex→St→R)→R:=(execB P cx Λ n f c).2
def resV(st:St):ResultVar→Option AV
 | .tmp t=>lk t st.tm
 | .cell a t=>match lk a st.tm with
  |some (.ptr b p t')=>cond (Nat.beq t t') (match lk b st.mem with
   |some T=>getP T p
   |none=>none) none
  |_=>none
def resL(st:St):List ResultVar→Option (List AV)
 | []=>some []
 |r::l=>match resV st r with
  |some v=>match resL st l with
   |some q=>some (v::q)
   |none=>none
  |none=>none
def results'(fn:Func)(st:St):Option AV:=
 match resL st fn.results.toList with
 |some [v]=>some v
 |some l=>some (.tup l)
 |none=>none
noncomputable def run{R:Type}(P:Program)(Γ:FuncId→Option Ct)(gl:Nat→Option AV)(ro:Nat)(mem:List (Nat×AV))(Λ:Nat→Option Lf)(n:Nat)(fn:Func)(args:List AV)(f:R)(k:AV→R)(inl:FuncId→Option Inl:=fun _=>none):R:=
 match fn.body with
 |some c=>cond (Nat.ble args.length fn.ntmps) (exec P {Γ,gl,ro,nt:=fn.ntmps,inl} Λ n f c {tm:=numbered 0 args,mem,nx:=ro} fun e st=>match e with
  | .exit _=>f
  | .goto _=>f
  |_=>match results' fn st with
   |some v=>match resC P ro (fun b=>lk b st.mem) fn.resultTypes.toList v with
    |some u=>k u
    |none=>f
   |none=>f) f
 |none=>f
theorem mo_mo{α β R:Type}(x:Option α)(g:α→Option β)(f:R)(k:β→R):mo (mo x none g) f k=mo x f fun a=>mo (g a) f k:=by
 cases x<;>rfl
theorem Res.run_par{A R:Type}(r:Res A)(f:R)(k:A→R):r.run f k=mo (r.run none some) f k:=by
 induction r with
 |fail=>rfl
 |ok a=>rfl
 |opt x g ih=>
  simp only[Res.run,mo_mo];cases x with
  |none=>rfl
  |some a=>exact ih a
 |ite b t e iht ihe=>cases b<;>simp[Res.run,iht,ihe]
 |sum x l r ihl ihr=>
  cases x with
  |inl a=>simp only[Res.run];exact ihl a
  |inr b=>simp only[Res.run];exact ihr b
theorem Zb8{α R:Type}(b:Bool){x y:R}{x' y':Option α}{f:R}{k:α→R}(hx:x=mo x' f k)(hy:y=mo y' f k):
  cond b x y=mo (cond b x' y') f k:=by cases b<;>simp[hx,hy]
theorem ZGI{α R:Type}(ev:Operand→Option AV)(x:Option Operand)(d y:Nat)(f:R)(k:α→R)(g:Nat→R)(g':Nat→Option α)(h:∀ n,g n=mo (g' n) f k):
  bnd ev x d y f g=mo (bnd ev x d y none g') f k:=by
 unfold bnd;split
 ·exact h _
 ·split
  ·exact Zb8 _ (h _) rfl
  ·rfl
theorem ZIc{R:Type}(P:Program)(ro:Nat)(e:TypeId)(x y:AV)(get:Nat→Option AV)(f:R)(k:Eff→R):appK P ro e x y get f k=mo (appK P ro e x y get none some) f k:=by
 unfold appK
 repeat' (first
  |rfl
  |refine Zb8 _ ?_ ?_
  |split)
theorem ZBR{R:Type}(v:AV)(f:R)(k:Eff→R):retK v k=mo (retK v fun e=>some e) f k:=by
 unfold retK;split<;>rfl
theorem ZId{R:Type}(P:Program)(fz:Bool)(v:AV)(f:R)(k:Eff→R):retX P fz v k=mo (retX P fz v fun e=>some e) f k:=by
 unfold retX;cases fz with
 |false=>exact ZBR v f k
 |true=>
  simp only[cond_true];unfold retF;split
  ·split
   ·rfl
   ·exact ZBR _ f k
  ·split
   ·rfl
   ·exact ZBR _ f k
  ·rfl
theorem ZIe{R:Type}(P:Program)(ro:Nat)(e:TypeId)(d:Dc)(x y:AV)(get:Nat→Option AV)(f:R)(k:Eff→R):appF P ro e d x y get f k=mo (appF P ro e d x y get none some) f k:=by
 unfold appF
 repeat' (first
  |rfl
  |refine Zb8 _ ?_ ?_
  |split)
theorem opK_par{R:Type}(P:Program)(Γ:FuncId→Option Ct)(ro:Nat)(o:Op)(ev:Operand→Option AV)(get:Nat→Option AV)(f:R)(k:Eff→R):
  opK P Γ ro o ev get f k=mo (opK P Γ ro o ev get none some) f k:=by
 unfold opK
 repeat' (first
  |rfl
  |refine Zb8 _ ?_ ?_
  |exact Res.run_par _ _ _
  |exact ZIc _ _ _ _ _ _ _ _
  |(refine ZGI _ _ _ _ _ _ _ _ fun _=>?_)
  |split)
 all_goals (rw[Res.run_par,Res.run_par (R:=Option Eff)];cases Res.run _ none some with|none=>rfl|some v=>exact ZId P _ v f k)
theorem ZGJ{R:Type}(P:Program)(t:TypeId)(n:Bool)(x y:AV)(f:R)(k:Eff→R):eqK P t n x y f k=mo (eqK P t n x y none some) f k:=by
 unfold eqK;split
 ·exact Zb8 _ rfl rfl
 ·rfl
theorem opE_par{R:Type}(P:Program)(Γ:FuncId→Option Ct)(ro:Nat)(o:Op)(ev:Operand→Option AV)(get:Nat→Option AV)(f:R)(k:Eff→R):
  opE P Γ ro o ev get f k=mo (opE P Γ ro o ev get none some) f k:=by
 unfold opE;split
 ·split
  ·exact Zb8 _ rfl rfl
  ·exact ZGJ _ _ _ _ _ _ _
  ·rfl
 ·split
  ·exact Zb8 _ rfl rfl
  ·exact ZGJ _ _ _ _ _ _ _
  ·rfl
 ·exact opK_par _ _ _ _ _ _ _ _
theorem ZIf{R:Type}(P:Program)(ro:Nat)(e:TypeId)(x y:AV)(get:Nat→Option AV)(f:R)(k:Eff→R):appX P ro e x y get f k=mo (appX P ro e x y get none some) f k:=by
 unfold appX
 repeat' (first
  |rfl
  |refine Zb8 _ ?_ ?_
  |split)
theorem ZIg{R:Type}(P:Program)(e:TypeId)(x y:AV)(f:R)(k:Eff→R):appZ P e x y f k=mo (appZ P e x y none some) f k:=by
 unfold appZ
 repeat' (first
  |rfl
  |refine Zb8 _ ?_ ?_
  |split)
theorem Zqu{R:Type}(P:Program)(Γ:FuncId→Option Ct)(ro:Nat)(o:Op)(ev:Operand→Option AV)(get:Nat→Option AV)(f:R)(k:Eff→R):
  opK' P Γ ro o ev get f k=mo (opK' P Γ ro o ev get none some) f k:=by
 unfold opK'
 repeat' (first
  |exact opE_par _ _ _ _ _ _ _ _
  |rfl
  |exact ZIf _ _ _ _ _ _ _ _
  |exact ZIg _ _ _ _ _ _
  |exact ZIe _ _ _ _ _ _ _ _ _
  |refine Zb8 _ ?_ ?_
  |(refine ZGI _ _ _ _ _ _ _ _ fun _=>?_)
  |split)
theorem Zeh{R:Type}(P:Program)(cx:Cx)(acc:Nat→Nat→Bool)(all:Array Oper)(f:R):(l:List (Nat×Oper))→(st:St)→(K:St→R)→
  runOps P cx acc all f l st K=mo (runOps P cx acc all none l st some) f K
 | [],st,K=>rfl
 |(i,o)::rest,st,K=>by
  have one:∀ (st:St) (ev:Operand→Option AV) (get:Nat→Option AV),opK' P cx.Γ cx.ro o.op ev get f (fun e=>runOps P cx acc all f rest (st.app i o.dst e) K)=
    mo (opK' P cx.Γ cx.ro o.op ev get none (fun e=>runOps P cx acc all none rest (st.app i o.dst e) some)) f K:=by
   intro st ev get;rw[Zqu,Zqu (R:=Option St),mo_mo]
   congr 1
   funext e
   exact Zeh P cx acc all f rest _ K
  unfold runOps;refine Zb8 _ ?_ rfl;split
  ·exact one _ _ _
  ·split
   ·rfl
   ·split
    ·split
     ·exact Zb8 _ (one _ _ _) (Zeh P cx acc all f rest _ K)
     ·exact Zb8 _ (Zeh P cx acc all f rest _ K) (one _ _ _)
    ·exact Zeh P cx acc all f rest _ K
    ·rfl
theorem Zlq{R:Type}(all:Array Oper)(f:R)(o:Oper)(I:Inl)(vs:List AV)(st:St)(K:St→R):stepI all f o I vs st K=mo (stepI all none o I vs st some) f K:=by
 have run:∀ g:AV→List (Nat×AV)→Nat→St,(I.run f vs st.mem (st.nx+all.size) fun v mem nx=>K (g v mem nx))=mo (I.run none vs st.mem (st.nx+all.size) fun v mem nx=>some (g v mem nx)) f K:=by
  intro g;rw[I.par,I.par (R:=Option St),mo_mo];rfl
 unfold stepI;split
 ·exact run _
 ·split
  ·rfl
  ·split
   ·split
    ·exact Zb8 _ (run _) rfl
    ·exact Zb8 _ rfl (run _)
   ·rfl
   ·rfl
theorem Zxc{R:Type}(P:Program)(cx:Cx)(os:List (Option Nat))(ms:List Nat)(all:Array Oper)(f:R):(l:List (Nat×Oper))→(st:St)→(K:St→R)→
  runD P cx os ms all f l st K=mo (runD P cx os ms all none l st some) f K
 | [],st,K=>rfl
 |(i,o)::rest,st,K=>by
  unfold runD;split
  ·rename_i I vs _;split
   ·refine Zb8 _ ?_ rfl;refine(Zlq all f o I vs st _).trans ?_;refine Eq.trans ?_ (congrArg (fun z=>mo z f K) (Zlq all (none:Option St) o I vs st _)).symm;rw[mo_mo]
    congr 1
    funext r
    exact Zxc P cx os ms all f rest _ K
   ·rfl
  ·refine(Zeh P cx _ all f [(i,o)] st _).trans ?_;refine Eq.trans ?_ (congrArg (fun z=>mo z f K) (Zeh P cx _ all (none:Option St) [(i,o)] st _)).symm;rw[mo_mo]
   congr 1
   funext r
   exact Zxc P cx os ms all f rest _ K
theorem Zuk{R:Type}(P:Program)(cx:Cx)(all:Array Oper)(f:R):(l:List (Nat×Oper))→(st:St)→(K:St→R)→
  runI P cx all f l st K=mo (runI P cx all none l st some) f K
 | [],st,K=>rfl
 |(i,o)::rest,st,K=>by
  unfold runI;split
  ·rename_i I vs _;refine Zb8 _ ?_ rfl;refine(Zlq all f o I vs st _).trans ?_;refine Eq.trans ?_ (congrArg (fun z=>mo z f K) (Zlq all (none:Option St) o I vs st _)).symm;rw[mo_mo]
   congr 1
   funext r
   exact Zuk P cx all f rest _ K
  ·split
   ·rename_i I _;refine Zb8 _ ?_ rfl;refine(Zlq all f o I [] st _).trans ?_;refine Eq.trans ?_ (congrArg (fun z=>mo z f K) (Zlq all (none:Option St) o I [] st _)).symm;rw[mo_mo]
    congr 1
    funext r
    exact Zuk P cx all f rest _ K
   refine(Zeh P cx _ all f [(i,o)] st _).trans ?_;refine Eq.trans ?_ (congrArg (fun z=>mo z f K) (Zeh P cx _ all (none:Option St) [(i,o)] st _)).symm;rw[mo_mo]
   congr 1
   funext r
   exact Zuk P cx all f rest _ K
abbrev Way(a:{R:Type}→R→St→(Ex→St→R)→R):Prop:=
 ∀ {R:Type} (f:R) (st:St) (K:Ex→St→R),a f st K=mo (a none st fun e s=>some (e,s)) f fun r=>K r.1 r.2
theorem ZC9{R:Type}(a:{R:Type}→R→St→(Ex→St→R)→R)(h:Way a)(f:R):(n:Nat)→(st:St)→(K:Ex→St→R)→
  iterK (a f) f n st K=mo (iterK (a none) none n st fun e s=>some (e,s)) f fun r=>K r.1 r.2
 |0,st,K=>rfl
 |n+1,st,K=>by
  unfold iterK;refine(h f st _).trans ?_;refine Eq.trans ?_ (congrArg (fun z=>mo z f _) (h none st _)).symm;rw[mo_mo]
  congr 1
  funext r
  obtain⟨e,s⟩:=r;cases e with
  |normal=>exact ZC9 a h f n s K
  |_=>rfl
section
variable {R:Type} (P:Program) (cx:Cx) (Λ:Nat→Option Lf) (n:Nat) (f:R)
theorem ZF0(st:St)(K:Ex→St→R):exec P cx Λ n f .skip st K=K .normal st:=rfl
theorem ZzH(id:Nat)(ops:Array Oper)(draw:Bool)(st:St)(K:Ex→St→R):exec P cx Λ n f (.region id ops draw) st K=
  cond draw
   (cond (hasInl cx ops)
    (cond (P.follows .mixedOrders&&drawQ P ops (owns st.nx st.tm st.mem ops.toList) st.nx) (runD P cx (owns st.nx st.tm st.mem ops.toList) (masks ops.toList []) ops f (numbered 0 ops.toList) st fun st'=>K .normal {st' with nx:=st'.nx+ops.size}) f)
    (cond (P.follows .mixedOrders&&drawOK ops (owns st.nx st.tm st.mem ops.toList)) (runOps P cx (accD st.nx (masks ops.toList []) (owns st.nx st.tm st.mem ops.toList)) ops f (numbered 0 ops.toList) st fun st'=>K .normal {st' with nx:=st'.nx+ops.size}) f))
   (runI P cx ops f (numbered 0 ops.toList) st fun st'=>K .normal {st' with nx:=st'.nx+ops.size}):=rfl
theorem ZEo(a b:Code)(st:St)(K:Ex→St→R):exec P cx Λ n f (.seq a b) st K=exec P cx Λ n f a st fun e st'=>match e with
   | .normal=>exec P cx Λ n f b st' K
   |e=>K e st':=rfl
theorem ZCA(c:Operand)(a b:Code)(st:St)(K:Ex→St→R):exec P cx Λ n f (.cond c a b) st K=match evO cx.gl st.tm c with
   |some (.bool t)=>(match c with
    | .tmp d=>cond t (exec P cx Λ n f a (st.know d true) K) (exec P cx Λ n f b (st.know d false) K)
    |_=>cond t (exec P cx Λ n f a st K) (exec P cx Λ n f b st K))
   |_=>f:=rfl
theorem ZAS(id:Nat)(a:Code)(st:St)(K:Ex→St→R):exec P cx Λ n f (.block id a) st K=match Λ id with
   |some L=>(L st).run f fun r=>K r.1 r.2
   |none=>exec P cx Λ n f a st fun e st'=>match e with
    | .exit j=>cond (Nat.beq j id) (K .normal st') (K (.exit j) st')
    |e=>K e st':=rfl
theorem ZCB(a:Code)(st:St)(K:Ex→St→R):exec P cx Λ n f (.loop a) st K=iterK (exec P cx Λ n f a) f n st K:=rfl
theorem ZF1(id:Nat)(st:St)(K:Ex→St→R):exec P cx Λ n f (.exit id) st K=K (.exit id) st:=rfl
theorem ZAT(a:Code)(st:St)(K:Ex→St→R):exec P cx Λ n f (.scope a) st K=exec P cx Λ n f a st fun e st'=>match e with
   | .goto l=>(match findLabel a l with
    |some _=>execL P cx Λ n f a l st' fun e st''=>match e with
     | .goto _=>f
     |e=>K e st''
    |none=>f)
   |e=>K e st':=rfl
theorem ZF2(l:Nat)(st:St)(K:Ex→St→R):exec P cx Λ n f (.goto l) st K=K (.goto l) st:=rfl
theorem ZzI(a b:Code)(l:Nat)(st:St)(K:Ex→St→R):execL P cx Λ n f (.seq a b) l st K=match findLabel a l with
   |some _=>execL P cx Λ n f a l st fun e st'=>match e with
    | .normal=>exec P cx Λ n f b st' K
    |e=>K e st'
   |none=>execL P cx Λ n f b l st K:=rfl
theorem ZDF(l' l:Nat)(st:St)(K:Ex→St→R):execL P cx Λ n f (.label l') l st K=K .normal st:=rfl
theorem ZFi(l:Nat)(st:St)(K:Ex→St→R):exec P cx Λ n f (.label l) st K=K .normal st:=rfl
theorem ZHL(st:St)(K:Ex→St→R):exec P cx Λ n f .ret st K=K .ret st:=rfl
end
theorem ZCz(P:Program)(cx:Cx)(Λ:Nat→Option Lf)(n:Nat)(c:Code):(Way fun f st K=>exec P cx Λ n f c st K)∧∀ l,Way fun f st K=>execL P cx Λ n f c l st K:=by
 induction c with
 |skip=>exact⟨fun f st K=>rfl,fun l R f st K=>rfl⟩
 |region id ops draw=>
  refine⟨?_,fun l R f st K=>rfl⟩;intro R f st K;simp only[ZzH];refine Zb8 _ (Zb8 _ (Zb8 _ ?_ rfl) (Zb8 _ ?_ rfl)) ?_
  ·rw[Zxc,Zxc (R:=Option (Ex×St)),mo_mo];rfl
  ·rw[Zeh,Zeh (R:=Option (Ex×St)),mo_mo];rfl
  ·rw[Zuk,Zuk (R:=Option (Ex×St)),mo_mo];rfl
 |seq a b iha ihb=>
  refine⟨?_,fun l=>?_⟩
  ·intro R f st K;simp only[ZEo];refine(iha.1 f st _).trans ?_;refine Eq.trans ?_ (congrArg (fun z=>mo z f _) (iha.1 none st _)).symm;rw[mo_mo]
   congr 1
   funext r
   obtain⟨e,s⟩:=r;cases e with
   |normal=>exact ihb.1 f s K
   |_=>rfl
  ·intro R f st K;simp only[ZzI];split
   ·refine(iha.2 l f st _).trans ?_;refine Eq.trans ?_ (congrArg (fun z=>mo z f _) (iha.2 l none st _)).symm;rw[mo_mo]
    congr 1
    funext r
    obtain⟨e,s⟩:=r;cases e with
    |normal=>exact ihb.1 f s K
    |_=>rfl
   ·exact ihb.2 l f st K
 |cond c a b iha ihb=>
  refine⟨?_,fun l R f st K=>rfl⟩;intro R f st K;simp only[ZCA];split
  ·split
   ·exact Zb8 _ (iha.1 f _ K) (ihb.1 f _ K)
   ·exact Zb8 _ (iha.1 f st K) (ihb.1 f st K)
  ·rfl
 |block id a iha=>
  refine⟨?_,fun l R f st K=>rfl⟩;intro R f st K;simp only[ZAS];split
  ·exact Res.run_par _ _ _
  ·refine(iha.1 f st _).trans ?_;refine Eq.trans ?_ (congrArg (fun z=>mo z f _) (iha.1 none st _)).symm;rw[mo_mo]
   congr 1
   funext r
   obtain⟨e,s⟩:=r;cases e with
   |exit=>exact Zb8 _ rfl rfl
   |_=>rfl
 |loop a iha=>
  refine⟨?_,fun l R f st K=>rfl⟩;intro R f st K;simp only[ZCB];exact ZC9 (fun f st K=>exec P cx Λ n f a st K) iha.1 f n st K
 |rangeFunc=>exact⟨fun f st K=>rfl,fun l R f st K=>rfl⟩
 |exit=>exact⟨fun f st K=>rfl,fun l R f st K=>rfl⟩
 |scope a iha=>
  refine⟨?_,fun l R f st K=>rfl⟩;intro R f st K;simp only[ZAT];refine(iha.1 f st _).trans ?_;refine Eq.trans ?_ (congrArg (fun z=>mo z f _) (iha.1 none st _)).symm;rw[mo_mo]
  congr 1
  funext r
  obtain⟨e,s⟩:=r;cases e with
  |goto l=>
   simp only;split
   ·refine(iha.2 l f s _).trans ?_;refine Eq.trans ?_ (congrArg (fun z=>mo z f _) (iha.2 l none s _)).symm;rw[mo_mo]
    congr 1
    funext r
    obtain⟨e,s⟩:=r;cases e<;>rfl
   ·rfl
  |_=>rfl
 |label=>exact⟨fun f st K=>rfl,fun l R f st K=>rfl⟩
 |goto=>exact⟨fun f st K=>rfl,fun l R f st K=>rfl⟩
 |ret=>exact⟨fun f st K=>rfl,fun l R f st K=>rfl⟩
 |refuse=>exact⟨fun f st K=>rfl,fun l R f st K=>rfl⟩
theorem ZHK(P:Program)(cx:Cx)(Λ:Nat→Option Lf)(n:Nat)(c:Code):Way fun f st K=>exec P cx Λ n f c st K:=(ZCz P cx Λ n c).1
end Go.Vx
