import Derived.Test.YtoionfdfofmplaaGreatDoorVxK
import Derived.Orders
import Derived.Laws.RangeString
import Derived.Laws.IdiomCopy
set_option autoImplicit false
set_option linter.unusedVariables false
set_option linter.unusedSimpArgs false
namespace Go.Vx
open Go Go.RowKit
def step1(P:Program)(cx:Cx)(acc:Nat→Nat→Bool)(all:Array Oper)(p:Nat×Oper)(st:St):Option St:=
 runOps P cx acc all none [p] st some
theorem Zpa{R:Type}(P:Program)(cx:Cx)(acc:Nat→Nat→Bool)(all:Array Oper)(f:R)(i:Nat)(o:Oper)(rest:List (Nat×Oper))(st:St)(K:St→R):
  runOps P cx acc all f ((i,o)::rest) st K=cond (dOK cx.nt o.dst)
   (match o.guard with
   |none=>opK' P cx.Γ cx.ro o.op (evO cx.gl st.tm) (fun b=>cond (acc i b) (lk b st.mem) none) f fun e=>runOps P cx acc all f rest (st.app i o.dst e) K
   |some (j,want)=>match (all[j]?).bind (·.dst) with
    |none=>f
    |some d=>match lk d st.tm with
     |some (.bool b)=>match want with
      |true=>cond b (opK' P cx.Γ cx.ro o.op (evO cx.gl (st.know d true).tm) (fun b=>cond (acc i b) (lk b st.mem) none) f fun e=>runOps P cx acc all f rest ((st.know d true).app i o.dst e) K)
        (runOps P cx acc all f rest ((st.know d false).put o.dst (.tup [])) K)
      |false=>cond b (runOps P cx acc all f rest ((st.know d true).put o.dst (.tup [])) K)
        (opK' P cx.Γ cx.ro o.op (evO cx.gl (st.know d false).tm) (fun b=>cond (acc i b) (lk b st.mem) none) f fun e=>runOps P cx acc all f rest ((st.know d false).app i o.dst e) K)
     |some (.tup [])=>runOps P cx acc all f rest (st.put o.dst (.tup [])) K
     |_=>f)
   f:=rfl
theorem ZCF{α β:Type}{b:Bool}{x y:Option β}{x' y':Option α}{g:α→Option β}(hx:x=x'.bind g)(hy:y=y'.bind g):cond b x y=(cond b x' y').bind g:=by
 cases b<;>simp[hx,hy]
theorem Zit(P:Program)(cx:Cx)(acc:Nat→Nat→Bool)(all:Array Oper)(p:Nat×Oper)(l:List (Nat×Oper))(st:St):
  runOps P cx acc all none (p::l) st some=(step1 P cx acc all p st).bind fun s=>runOps P cx acc all none l s some:=by
 obtain⟨i,o⟩:=p;have one:∀ (st:St) (ev:Operand→Option AV) (get:Nat→Option AV),opK' P cx.Γ cx.ro o.op ev get none (fun e=>runOps P cx acc all none l (st.app i o.dst e) some)=
   (opK' P cx.Γ cx.ro o.op ev get none (fun e=>runOps P cx acc all none [] (st.app i o.dst e) some)).bind fun s=>runOps P cx acc all none l s some:=by
  intro st ev get;rw[Zqu,Zqu (R:=Option St)];cases opK' P cx.Γ cx.ro o.op ev get none some<;>rfl
 unfold step1;rw[Zpa,Zpa];cases dOK cx.nt o.dst
 ·rfl
 ·simp only[cond_true];split
  ·exact one _ _ _
  ·split
   ·rfl
   ·split
    ·split
     ·exact ZCF (one _ _ _) rfl
     ·exact ZCF rfl (one _ _ _)
    ·rfl
    ·rfl
structure Alike (s s':St):Prop where
 tm:∀ d,lk d s.tm=lk d s'.tm
 mem:∀ b,lk b s.mem=lk b s'.mem
 nx:s.nx=s'.nx
theorem Alike.refl(s:St):Alike s s:=⟨fun _=>rfl,fun _=>rfl,rfl⟩
theorem Alike.symm{s s':St}(h:Alike s s'):Alike s' s:=⟨fun d=>(h.tm d).symm,fun b=>(h.mem b).symm,h.nx.symm⟩
theorem Alike.trans{a b c:St}(h:Alike a b)(k:Alike b c):Alike a c:=⟨fun d=>(h.tm d).trans (k.tm d),fun x=>(h.mem x).trans (k.mem x),h.nx.trans k.nx⟩
theorem Sim.alike{P:Program}{w0:Base}{ro:Nat}{ρ:Rho}{s s':St}{tmps:Array Value}{w:World}(S:Sim P w0 ro ρ s.tm s.mem tmps w)(h:Alike s s'):Sim P w0 ro ρ s'.tm s'.mem tmps w:=
 ⟨fun d v hv=>S.slot d v (by rw[h.tm];exact hv),fun b T hT=>S.cell b T (by rw[h.mem];exact hT),fun b T nm hT=>S.own b T nm (by rw[h.mem];exact hT),
  fun b b' T T' nm nm' hT hT'=>S.apart b b' T T' nm nm' (by rw[h.mem];exact hT) (by rw[h.mem];exact hT'),fun b T nm hT=>S.rows b T nm (by rw[h.mem];exact hT),S.below,S.ex.sub fun b T hT=>by rw[h.mem];exact hT⟩
theorem Zdg{st:St}{d:Nat}{b:Bool}(h:lk d st.tm=some (.bool b)):Alike st (st.know d b):=
 ⟨fun n=>by
  by_cases hn:d=n
  ·subst hn;rw[h];exact(Zal _ _ _).symm
  ·exact(Zan hn _ _).symm,fun _=>rfl,rfl⟩
theorem ZBE{st:St}{d:Nat}{b:Bool}(h:lk d st.tm=some (.bool b))(gl:Nat→Option AV):evO gl (st.know d b).tm=evO gl st.tm:=by
 funext x
 cases x with
 |tmp t=>exact((Zdg h).tm t).symm
 |_=>rfl
theorem ZAX(st:St)(i:Nat)(d:Option Nat)(e:Eff):(st.app i d e).nx=st.nx:=by cases e<;>simp[St.app,ZsW]
theorem ZmV{st st':St}(ha:Alike st st')(d:Option Nat)(v:AV):Alike (st.put d v) (st'.put d v):=by
 refine⟨fun n=>?_,fun b=>by rw[Zea,Zea];exact ha.mem b,by rw[ZsW,ZsW];exact ha.nx⟩;rw[ZsV,ZsV];cases d with
 |none=>exact ha.tm n
 |some d=>
  by_cases h1:d=n
  ·subst h1;rw[Zal,Zal]
  ·rw[Zan h1,Zan h1];exact ha.tm n
theorem Zr2{st st':St}(ha:Alike st st')(i:Nat)(d:Option Nat)(e:Eff):Alike (st.app i d e) (st'.app i d e):=by
 refine⟨fun n=>?_,fun n=>?_,by rw[ZAX,ZAX];exact ha.nx⟩
 ·cases e<;>simp only[St.app]<;>first|exact(ZmV ha d _).tm n|(rw[ha.nx];exact(ZmV ha d _).tm n)
 ·cases e with
  |val v=>simp only[St.app,Zea];exact ha.mem n
  |new ty row cap T g=>
   simp only[St.app,ha.nx];by_cases h1:st'.nx+i=n
   ·subst h1;rw[Zal,Zal]
   ·rw[Zan h1,Zan h1];exact ha.mem n
  |upd b T=>
   simp only[St.app];by_cases h1:b=n
   ·subst h1;rw[Zal,Zal]
   ·rw[Zan h1,Zan h1];exact ha.mem n
  |grow b T g=>
   simp only[St.app,ha.nx];by_cases h1:st'.nx+i=n
   ·subst h1;rw[Zal,Zal]
   ·rw[Zan h1,Zan h1,ZzM,ZzM,ha.mem n]
inductive Stp (P:Program) (cx:Cx) (acc:Nat→Nat→Bool) (all:Array Oper) (i:Nat) (o:Oper) (st:St):St→Prop
 |act (e:Eff):(o.guard=none∨∃ j want d b,o.guard=some (j,want)∧(all[j]?).bind (·.dst)=some d∧lk d st.tm=some (.bool b)∧b=want)→
   opK' P cx.Γ cx.ro o.op (evO cx.gl st.tm) (fun b=>cond (acc i b) (lk b st.mem) none) none some=some e→Stp P cx acc all i o st (st.app i o.dst e)
 |skip:(∃ j want d,o.guard=some (j,want)∧(all[j]?).bind (·.dst)=some d∧((∃ b,lk d st.tm=some (.bool b)∧b≠want)∨lk d st.tm=some (.tup [])))→Stp P cx acc all i o st (st.put o.dst (.tup []))
theorem Zpb{P:Program}{cx:Cx}{acc:Nat→Nat→Bool}{all:Array Oper}{i:Nat}{o:Oper}{st s:St}(h:step1 P cx acc all (i,o) st=some s):
  dOK cx.nt o.dst=true∧∃ t,Stp P cx acc all i o st t∧Alike t s:=by
 have one:∀ (g:o.guard=none∨∃ j want d b,o.guard=some (j,want)∧(all[j]?).bind (·.dst)=some d∧lk d st.tm=some (.bool b)∧b=want) (st':St),Alike st st'→
   opK' P cx.Γ cx.ro o.op (evO cx.gl st.tm) (fun b=>cond (acc i b) (lk b st.mem) none) none (fun e=>some (st'.app i o.dst e))=some s→∃ t,Stp P cx acc all i o st t∧Alike t s:=by
  intro g st' ha hh;rw[Zqu] at hh;obtain⟨e,h1,h2⟩:=ZbW hh;simp only[oE] at h2;subst h2;exact⟨_,.act e g h1,Zr2 ha _ _ _⟩
 unfold step1 at h;rw[Zpa] at h;replace h:=Zac h;obtain⟨hd,h⟩:=h;refine⟨hd,?_⟩;simp only[runOps] at h;split at h
 ·rename_i hg;exact one (.inl hg) st (Alike.refl st) h
 ·rename_i j want hg;split at h
  ·simp at h
  ·rename_i d hj;split at h
   ·rename_i b hb;split at h
    ·cases b
     ·simp only[cond_false,oE] at h;subst h;exact⟨_,.skip ⟨j,true,d,hg,hj,.inl ⟨false,hb,by simp⟩⟩,ZmV (Zdg hb) _ _⟩
     ·rw[cond_true,ZBE hb] at h;exact one (.inr ⟨j,true,d,true,hg,hj,hb,rfl⟩) _ (Zdg hb) h
    ·cases b
     ·rw[cond_false,ZBE hb] at h;exact one (.inr ⟨j,false,d,false,hg,hj,hb,rfl⟩) _ (Zdg hb) h
     ·simp only[cond_true,oE] at h;subst h;exact⟨_,.skip ⟨j,false,d,hg,hj,.inl ⟨true,hb,by simp⟩⟩,ZmV (Zdg hb) _ _⟩
   ·rename_i hb;simp only[oE] at h;subst h;exact⟨_,.skip ⟨j,want,d,hg,hj,.inr hb⟩,Alike.refl _⟩
   ·simp at h
theorem ZvU{P:Program}{cx:Cx}{acc:Nat→Nat→Bool}{all:Array Oper}{i:Nat}{o:Oper}{st t:St}(hd:dOK cx.nt o.dst=true)(h:Stp P cx acc all i o st t):∃ s,step1 P cx acc all (i,o) st=some s∧Alike t s:=by
 unfold step1;rw[Zpa,hd];simp only[cond_true,runOps];cases h with
 |act e g h1=>
  have h2:∀ st':St,opK' P cx.Γ cx.ro o.op (evO cx.gl st.tm) (fun b=>cond (acc i b) (lk b st.mem) none) none (fun e=>some (st'.app i o.dst e))=some (st'.app i o.dst e):=by
   intro st';rw[Zqu,h1];rfl
  rcases g with g|⟨j,want,d,b,g,hj,hb,rfl⟩
  ·rw[g];exact⟨_,h2 st,Alike.refl _⟩
  ·rw[g];simp only[hj,hb];cases b
   ·exact⟨_,by rw[cond_false,ZBE hb];exact h2 _,Zr2 (Zdg hb) _ _ _⟩
   ·exact⟨_,by rw[cond_true,ZBE hb];exact h2 _,Zr2 (Zdg hb) _ _ _⟩
 |skip h=>
  obtain⟨j,want,d,g,hj,hb⟩:=h;rw[g];simp only[hj];rcases hb with⟨b,hb,hne⟩|hb
  ·simp only[hb];cases b<;>cases want<;>simp at hne ⊢ <;>exact ZmV (Zdg hb) _ _
  ·simp only[hb];exact⟨_,rfl,Alike.refl _⟩
theorem stp_nx{P:Program}{cx:Cx}{acc:Nat→Nat→Bool}{all:Array Oper}{i:Nat}{o:Oper}{st s:St}(h:Stp P cx acc all i o st s):s.nx=st.nx:=by
 cases h with
 |act e=>exact ZAX _ _ _ _
 |skip=>exact ZsW _ _ _
theorem ZzF{P:Program}{cx:Cx}{acc:Nat→Nat→Bool}{all:Array Oper}{p:Nat×Oper}{st s:St}(h:step1 P cx acc all p st=some s):s.nx=st.nx:=by
 obtain⟨-,t,h1,h2⟩:=Zpb (i:=p.1) (o:=p.2) h;rw[← h2.nx,stp_nx h1]
theorem Zx6{P:Program}{cx:Cx}{w0:Base}(hΓ:∀ g C,cx.Γ g=some C→SoundAt P w0.g g C){acc:Nat→Nat→Bool}{all:Array Oper}{Q:Exit→Act→World→Prop}{i:Nat}{o:Oper}(hi:all[i]? =some o)
  {ρ:Rho} {st s:St} {a:Act} {w:World} (hnt:a.tmps.size=cx.nt) (S:Sim P w0 cx.ro ρ st.tm st.mem a.tmps w) (hgl:GL P ρ cx.gl) (hm:ρ (st.nx+i)=none) (h:step1 P cx acc all (i,o) st=some s) {K:Act→World→Prop}
  (hK:∀ ρ' a' w',Sim P w0 cx.ro ρ' s.tm s.mem a'.tmps w'→a'.defers=a.defers→a'.tmps.size=cx.nt→Ext ρ ρ'→(∀ b,b≠st.nx+i→ρ' b=ρ b)→K a' w'):wpOp P all Q i K a w:=by
 obtain⟨hd,t,hs,hts⟩:=Zpb h;have hd':=ZEl hd;rw[← hnt] at hd'
 
 have gslot:∀ {d:Nat} {v:AV},lk d st.tm=some v→a.tmps[d]? =some (den P ρ v):=by
  intro d v hv;obtain⟨h1,h2,-⟩:=S.slot d v hv;rw[← h2,Array.getD_eq_getD_getElem?,Array.getElem?_eq_getElem h1];rfl
 unfold wpOp;rw[hi];cases hs with
 |act e g h1=>
  have hw:Region.wanted o (yielded all a.tmps)=true:=by
   unfold Region.wanted;rcases g with g|⟨j,want,d,b,g,hj,hb,rfl⟩
   ·simp[g]
   ·have hj':(all[j]?.bind fun x=>x.dst)=some d:=hj;simp[g,yielded,hj',gslot hb,den]
  simp only[hw,if_true];left;refine ZHN S hgl hΓ (get:=fun b=>cond (acc i b) (lk b st.mem) none) (fun b T hb=>(Zac hb).2) (m:=st.nx+i) (fun v ρ' w' hA=>?_) h1;obtain⟨k1,k2,k3⟩:=ZDG S hm hd' hA;exact hK ρ' _ w' (k1.alike hts) (Zr1 _ _ _) (by rw[Zui,hnt]) k2 k3
 |skip g=>
  obtain⟨j,want,d,g,hj,hb⟩:=g;have hj':(all[j]?.bind fun x=>x.dst)=some d:=hj;have hw:Region.wanted o (yielded all a.tmps)=false:=by
   unfold Region.wanted;rcases hb with⟨b,hb,hne⟩|hb
   ·simp[g,yielded,hj',gslot hb,den,hne]
   ·simp[g,yielded,hj',gslot hb,den,denT]
  simp only[hw,Bool.false_eq_true,if_false];refine hK ρ _ w (Sim.alike (s:=st.put o.dst (.tup [])) ?_ hts) (Zr1 _ _ _) (by rw[Zui,hnt]) (Ext.refl ρ) (fun _ _=>rfl);refine⟨?_,?_,?_,?_,?_,S.below,by rw[Zea];exact S.ex⟩
  ·rw[ZsV];exact Zms S.slot (Ext.refl ρ) hd' (by simp[den,denT,undef]) (by simp[OK,OKL])
  ·rw[Zea];exact S.cell
  ·rw[Zea];exact S.own
  ·rw[Zea];exact S.apart
  ·rw[Zea];exact S.rows
theorem Zf4{α:Type}:(l:List α)→(i:Nat)→(numbered i l).map Prod.fst=List.range' i l.length
 | [],i=>by simp[numbered]
 |a::l,i=>by simp[numbered,Zf4 l (i+1),List.range'_succ]
theorem ZkQ{α:Type}:(l:List α)→(i:Nat)→∀ p∈numbered i l,i≤p.1∧l[p.1-i]? =some p.2
 | [],i,p,h=>by simp[numbered] at h
 |a::l,i,p,h=>by
  simp only[numbered,List.mem_cons] at h;rcases h with rfl|h
  ·simp
  ·obtain⟨h1,h2⟩:=ZkQ l (i+1) p h;refine⟨by omega,?_⟩;rw[show p.1-i=(p.1-(i+1))+1 by omega,List.getElem?_cons_succ];exact h2
theorem Ziu(all:Array Oper):∀ p∈numbered 0 all.toList,all[p.1]? =some p.2:=by
 intro p hp;obtain⟨-,h⟩:=ZkQ all.toList 0 p hp;simpa using h
end Go.Vx
namespace Go.Vx
open Go Go.RowKit
theorem Zpc{ev ev':Operand→Option AV}:(l:List Operand)→(∀ x∈l,ev x=ev' x)→evL ev l=evL ev' l
 | [],_=>rfl
 |x::l,h=>by
  unfold evL;rw[h x (by simp),Zpc l fun y hy=>h y (by simp[hy])]
theorem ZCG{ev ev':Operand→Option AV}:(l:List (Nat×Operand))→(∀ x∈l,ev x.2=ev' x.2)→evP ev l=evP ev' l
 | [],_=>rfl
 |(i,x)::l,h=>by
  unfold evP;rw[h (i,x) (by simp),ZCG l fun y hy=>h y (by simp[hy])]
theorem ZzN{ev ev':Operand→Option AV}{k:IntKind}:(l:List (Nat×Operand))→(i:Nat)→(∀ x∈l,ev x.2=ev' x.2)→dense ev k i l=dense ev' k i l
 | [],_,_=>rfl
 |x::l,i,h=>by
  rw[dense,dense,h x (by simp),ZzN l (i+1) fun y hy=>h y (by simp[hy])]
theorem ZyG{P:Program}{ev ev':Operand→Option AV}{e:TypeId}:(l:List (Nat×Operand))→(i:Nat)→(∀ x∈l,ev x.2=ev' x.2)→denseA P ev e i l=denseA P ev' e i l
 | [],i,_=>rfl
 |x::l,i,h=>by
  simp only[denseA];rw[h x (by simp),ZyG l (i+1) fun y hy=>h y (by simp[hy])]
theorem Zxd{R:Type}{ev ev':Operand→Option AV}{x:Option Operand}(h:∀ o,x=some o→ev o=ev' o)(d y:Nat)(f:R){k k':Nat→R}(hk:∀ n,k n=k' n):bnd ev x d y f k=bnd ev' x d y f k':=by
 have:k=k':=funext hk;subst this;unfold bnd;cases x with
 |none=>rfl
 |some o=>simp only;rw[h o rfl]
theorem ZBF{v:AV}{e:Eff}(h:retK v (fun e=>some e)=some e):(∃ T g,e= .grow none T g)∨∃ u,e= .val u:=by
 unfold retK at h;split at h
 ·simp only[oE] at h;exact .inl ⟨_,_,h.symm⟩
 ·simp only[oE] at h;exact .inl ⟨_,_,h.symm⟩
 ·simp only[oE] at h;exact .inr ⟨_,h.symm⟩
theorem ZEr{P:Program}{fz:Bool}{v:AV}{e:Eff}(h:retX P fz v (fun e=>some e)=some e):(∃ T g,e= .grow none T g)∨∃ u,e= .val u:=by
 unfold retX at h;cases fz with
 |false=>exact ZBF h
 |true=>
  rw[cond_true] at h;unfold retF at h;split at h
  ·split at h
   ·simp only[oE] at h;exact .inl ⟨_,_,h.symm⟩
   ·exact ZBF h
  ·split at h
   ·simp only[oE] at h;exact .inl ⟨_,_,h.symm⟩
   ·exact ZBF h
  ·simp only[oE] at h;exact .inr ⟨_,h.symm⟩
theorem ZGc{P:Program}{ro:Nat}{el:TypeId}{d:Dc}{x y:AV}{get:Nat→Option AV}{e:Eff}(h:appF P ro el d x y get none some=some e):∃ b V g,e= .grow b V g∧∀ b0,b=some b0→∃ T0,get b0=some T0:=by
 unfold appF at h;split at h
 ·rename_i r hr;split at h
  ·refine⟨_,_,_,(oI (Zac h).2).symm,fun b0 hb=>?_⟩;unfold frzX at hr;split at hr
   ·obtain rfl:=oI hr;cases hb
   ·split at hr
    ·split at hr
     ·split at hr
      ·rename_i hg;have:=oI (Zac hr).2;subst this;obtain rfl:=oI hb;exact⟨_,hg⟩
      ·cases hr
     ·cases hr
    ·cases hr
   ·cases hr
  ·cases h
 ·cases h
theorem ZCH{P:Program}{ro:Nat}{e:TypeId}{x y:AV}{get:Nat→Option AV}{ef:Eff}(h:appK P ro e x y get none some=some ef):
  ∃ b V g,ef= .grow b V g∧∀ b0,b=some b0→ro≤b0∧∃ T0,get b0=some T0:=by
 unfold appK at h;split at h
 ·replace h:=Zac h;obtain⟨-,h⟩:=h;split at h
  ·split at h
   ·split at h
    ·split at h
     ·replace h:=Zac h;obtain⟨-,h⟩:=h;simp only[oE] at h;exact⟨_,_,_,h.symm,fun b0 hb=>by cases hb⟩
     ·simp at h
    ·simp at h
   ·replace h:=Zac h;obtain⟨hc,h⟩:=h;simp only[bA] at hc;have hro:=Nat.le_of_ble_eq_true hc.2;split at h
    ·rename_i T hT;split at h
     ·replace h:=Zac h;obtain⟨-,h⟩:=h;simp only[oE] at h;refine⟨_,_,_,h.symm,fun b0 hb=>?_⟩;obtain rfl:=oI hb;exact⟨hro,T,hT⟩
     ·simp at h
    ·simp at h
   ·simp at h
  ·simp at h
 ·simp at h
theorem ZGd{R:Type}(P:Program)(Γ:FuncId→Option Ct)(ro:Nat)(o:Op){ev ev':Operand→Option AV}(h:∀ x∈o.operands.toList,ev x=ev' x){get get':Nat→Option AV}(hg:isM o=true→get=get')(f:R)(k:Eff→R):
  opK P Γ ro o ev get f k=opK P Γ ro o ev' get' f k:=by
 cases o<;>simp only[Op.operands] at h<;>try (simp only[opK];done)
 case move x=>simp only[opK,h x (by simp)]
 case assign x=>simp only[opK,h x (by simp)]
 case pick c a b=>simp only[opK,h c (by simp),h a (by simp),h b (by simp)]
 case box t x=>simp only[opK,h x (by simp)]
 case build t ps=>simp only[opK];rw[ZCG ps.toList fun x hx=>h x.2 (by simp;exact⟨x.1,by simpa using hx⟩)]
 case load t x=>simp only[opK,h x (by simp),hg rfl]
 case store t x y=>simp only[opK,h x (by simp),h y (by simp),hg rfl]
 case nilCheck x=>simp only[opK,h x (by simp)]
 case sliceToArrayPointer t x=>simp only[opK,h x (by simp)]
 case binOp op t x y ty=>simp only[opK,h x (by simp),h y (by simp)]
 case unOp op t x=>simp only[opK,h x (by simp)]
 case convert s d x=>simp only[opK,h x (by simp)]
 case fieldAddr s x i=>simp only[opK,h x (by simp)]
 case field s x i=>simp only[opK,h x (by simp)]
 case indexAddr t x y=>simp only[opK,h x (by simp),h y (by simp)]
 case index t x y=>simp only[opK,h x (by simp),h y (by simp)]
 case slice t x lo hi mx=>
  have hx:=h x (by simp);have hlo:∀ o,lo=some o→ev o=ev' o:=by rintro o rfl;exact h o (by simp)
  have hhi:∀ o,hi=some o→ev o=ev' o:=by rintro o rfl;exact h o (by simp)
  cases mx with
  |some _=>rfl
  |none=>
   simp only[opK,hx];have e:∀ (y:Nat) (g:Nat→R),bnd ev lo 0 y f g=bnd ev' lo 0 y f g:=fun y g=>Zxd hlo 0 y f fun _=>rfl
   have e':∀ (d y:Nat) (g:Nat→R),bnd ev hi d y f g=bnd ev' hi d y f g:=fun d y g=>Zxd hhi d y f fun _=>rfl
   simp only[e,e']
 case extract x i=>simp only[opK,h x (by simp)]
 case buildSlice t n ps=>
  have hd:∀ q,dense ev q 0 ps.toList=dense ev' q 0 ps.toList:=fun q=>ZzN ps.toList 0 fun x hx=>h x.2 (by simp;exact⟨x.1,by simpa using hx⟩)
  have hA:∀ e,denseA P ev e 0 ps.toList=denseA P ev' e 0 ps.toList:=fun e=>ZyG ps.toList 0 fun x hx=>h x.2 (by simp;exact⟨x.1,by simpa using hx⟩)
  simp only[opK,hd,hA]
 case makeFunc g first caps=>
  have hc:=Zpc caps.toList fun x hx=>h x (by simp;right;simpa using hx)
  cases g<;>simp only[opK,hc]
 case makeInterface t x=>simp only[opK,h x (by simp)]
 case call c=>
  have hc:=Zpc c.args.toList fun x hx=>h x (by simp[Call.operands];right;simpa using hx)
  simp only[opK,hc,hg rfl];split
  ·rename_i fo hfo;rw[h fo (by simp[Call.operands,hfo])]
  ·rfl
  ·rfl
  ·rfl
theorem ZGe{R:Type}(P:Program)(Γ:FuncId→Option Ct)(ro:Nat)(o:Op){ev ev':Operand→Option AV}(h:∀ x∈o.operands.toList,ev x=ev' x){get get':Nat→Option AV}(hg:isM o=true→get=get')(f:R)(k:Eff→R):
  opE P Γ ro o ev get f k=opE P Γ ro o ev' get' f k:=by
 unfold opE;split
 ·rename_i t x y ty;simp only[Op.operands] at h;rw[h x (by simp),h y (by simp)]
 ·rename_i t x y ty;simp only[Op.operands] at h;rw[h x (by simp),h y (by simp)]
 ·exact ZGd P Γ ro _ h hg f k
theorem ZGf{P:Program}{Γ:FuncId→Option Ct}{ro:Nat}{o:Op}{ev:Operand→Option AV}{get:Nat→Option AV}{b:Nat}{T:AV}(h0:opE P Γ ro o ev get none some=some (.upd b T)):isW o=true∧∃ T0,get b=some T0:=by
 have main:opK P Γ ro o ev get none some=some (.upd b T)→isW o=true∧∃ T0,get b=some T0:=by
  clear h0;intro h;cases o
  case slice t x lo hi mx=>
   exfalso;have nb:∀ (lo hi:Option Operand) (d y:Nat) (g:Nat→Nat→Eff),(∀ h l,g h l≠ .upd b T)→bnd ev hi d y none (fun h=>bnd ev lo 0 h none fun l=>some (g h l))≠some (.upd b T):=by
    intro lo hi d y g hg hh;have one:∀ (x:Option Operand) (d y:Nat) (k:Nat→Option Eff),bnd ev x d y none k=some (.upd b T)→∃ n,k n=some (.upd b T):=by
     intro x d y k hk;unfold bnd at hk;split at hk
     ·exact⟨_,hk⟩
     ·split at hk
      ·exact⟨_,(Zac hk).2⟩
      ·simp at hk
    obtain⟨n,hn⟩:=one _ _ _ _ hh;obtain⟨l,hl⟩:=one _ _ _ _ hn;exact hg n l (oI hl)
   cases mx with
   |some _=>simp[opK] at h
   |none=>
    simp only[opK] at h;split at h
    ·replace h:=Zac h;obtain⟨-,h⟩:=h;split at h
     ·replace h:=Zac h;exact nb _ _ _ _ (fun h l=>_) (fun _ _=>by simp) h.2
     ·simp at h
    ·split at h
     ·replace h:=Zac h;exact nb _ _ _ _ (fun h l=>_) (fun _ _=>by simp) h.2
     ·simp at h
    ·split at h
     ·replace h:=Zac h;exact nb _ _ _ _ (fun h l=>_) (fun _ _=>by simp) h.2
     ·simp at h
    ·simp at h
  all_goals simp only[opK] at h
  case store t x y=>
   refine⟨rfl,?_⟩;split at h
   ·replace h:=Zac h;obtain⟨-,h⟩:=h;split at h
    ·rename_i T0 hT0;split at h
     ·simp only[oE,Eff.upd.injEq] at h;obtain⟨rfl,-⟩:=h;exact⟨T0,hT0⟩
     ·simp at h
    ·simp at h
   ·simp at h
  case call c=>
   exfalso;split at h
   ·split at h
    ·split at h
     ·split at h
      ·rw[Res.run_par] at h;obtain⟨v,-,h⟩:=ZbW h;rcases ZEr h with⟨_,_,h⟩|⟨_,h⟩<;>cases h
      ·simp at h
     ·simp at h
    ·simp at h
   ·split at h
    ·replace h:=Zac h;obtain⟨-,h⟩:=h;split at h
     ·obtain⟨b1,V,g,h1,-⟩:=ZCH h;cases h1
     ·simp at h
    ·simp at h
   ·split at h
    all_goals (try (split at h))
    all_goals (try (replace h:=Zac h;obtain⟨-,h⟩:=h))
    all_goals (simp at h;done)
   ·simp at h
  case pick c x y=>
   exfalso;split at h
   ·rename_i c _ _ _ _ _;cases c<;>simp at h
   ·simp at h
  case makeFunc g f c=>
   exfalso;cases g<;>simp only at h
   case func=>split at h<;>(try (split at h))<;>simp at h
   all_goals simp at h
  all_goals exfalso
  all_goals (repeat' (first|(simp at h;done)|(replace h:=(Zac h).2)|(replace h:=(Zya h).2)|split at h))
 have h:=h0;clear h0;unfold opE at h;split at h
 ·exfalso;split at h
  ·replace h:=Zac h;simp at h
  ·unfold eqK at h;split at h
   ·replace h:=Zac h;simp at h
   ·simp at h
  ·simp at h
 ·exfalso;split at h
  ·replace h:=Zac h;simp at h
  ·unfold eqK at h;split at h
   ·replace h:=Zac h;simp at h
   ·simp at h
  ·simp at h
 ·exact main h
theorem ZFl{P:Program}{Γ:FuncId→Option Ct}{ro:Nat}{o:Op}{ev:Operand→Option AV}{get:Nat→Option AV}{b:Option Nat}{T:AV}{gm:Nat→AV}(h0:opE P Γ ro o ev get none some=some (.grow b T gm)):∀ b0,b=some b0→isW o=true∧∃ T0,get b0=some T0:=by
 have main:opK P Γ ro o ev get none some=some (.grow b T gm)→∀ b0,b=some b0→isW o=true∧∃ T0,get b0=some T0:=by
  clear h0;intro h;cases o
  case slice t x lo hi mx=>
   exfalso;have nb:∀ (lo hi:Option Operand) (d y:Nat) (g:Nat→Nat→Eff),(∀ h l,g h l≠ .grow b T gm)→bnd ev hi d y none (fun h=>bnd ev lo 0 h none fun l=>some (g h l))≠some (.grow b T gm):=by
    intro lo hi d y g hg hh;have one:∀ (x:Option Operand) (d y:Nat) (k:Nat→Option Eff),bnd ev x d y none k=some (.grow b T gm)→∃ n,k n=some (.grow b T gm):=by
     intro x d y k hk;unfold bnd at hk;split at hk
     ·exact⟨_,hk⟩
     ·split at hk
      ·exact⟨_,(Zac hk).2⟩
      ·simp at hk
    obtain⟨n,hn⟩:=one _ _ _ _ hh;obtain⟨l,hl⟩:=one _ _ _ _ hn;exact hg n l (oI hl)
   cases mx with
   |some _=>simp[opK] at h
   |none=>
    simp only[opK] at h;split at h
    ·replace h:=Zac h;obtain⟨-,h⟩:=h;split at h
     ·replace h:=Zac h;exact nb _ _ _ _ (fun h l=>_) (fun _ _=>by simp) h.2
     ·simp at h
    ·split at h
     ·replace h:=Zac h;exact nb _ _ _ _ (fun h l=>_) (fun _ _=>by simp) h.2
     ·simp at h
    ·split at h
     ·replace h:=Zac h;exact nb _ _ _ _ (fun h l=>_) (fun _ _=>by simp) h.2
     ·simp at h
    ·simp at h
  all_goals simp only[opK] at h
  case store t x y=>
   exfalso;split at h
   ·replace h:=Zac h;obtain⟨-,h⟩:=h;split at h
    ·split at h
     ·simp at h
     ·simp at h
    ·simp at h
   ·simp at h
  case call c=>
   split at h
   ·split at h
    ·split at h
     ·split at h
      ·rw[Res.run_par] at h;obtain⟨v,-,h⟩:=ZbW h;rcases ZEr h with⟨_,_,h⟩|⟨_,h⟩
       ·cases h;exact fun b0 hb=>by cases hb
       ·cases h
      ·simp at h
     ·simp at h
    ·simp at h
   ·rename_i hcal;split at h
    ·replace h:=Zac h;obtain⟨-,h⟩:=h;split at h
     ·obtain⟨b1,V,g,h1,h2⟩:=ZCH h;simp only[Eff.grow.injEq] at h1;obtain⟨rfl,-,-⟩:=h1;exact fun b0 hb=>⟨by simp[isW,hcal],(h2 b0 hb).2⟩
     ·simp at h
    ·simp at h
   ·exfalso;split at h
    all_goals (try (split at h))
    all_goals (try (replace h:=Zac h;obtain⟨-,h⟩:=h))
    all_goals (simp at h;done)
   ·simp at h
  case buildSlice t n ps=>
   split at h
   ·split at h
    ·split at h
     ·replace h:=Zac h;obtain⟨-,h⟩:=h;simp only[oE,Eff.grow.injEq] at h;obtain⟨rfl,-⟩:=h;exact fun b0 hb=>by cases hb
     ·simp at h
    ·split at h
     ·replace h:=Zac h;obtain⟨-,h⟩:=h;simp only[oE,Eff.grow.injEq] at h;obtain⟨rfl,-⟩:=h;exact fun b0 hb=>by cases hb
     ·simp at h
   ·simp at h
  case pick c x y=>
   exfalso;split at h
   ·rename_i c _ _ _ _ _;cases c<;>simp at h
   ·simp at h
  case makeFunc g f c=>
   exfalso;cases g<;>simp only at h
   case func=>split at h<;>(try (split at h))<;>simp at h
   all_goals simp at h
  all_goals exfalso
  all_goals (repeat' (first|(simp at h;done)|(replace h:=(Zac h).2)|(replace h:=(Zya h).2)|split at h))
 have h:=h0;clear h0;unfold opE at h;split at h
 ·exfalso;split at h
  ·replace h:=Zac h;simp at h
  ·unfold eqK at h;split at h
   ·replace h:=Zac h;simp at h
   ·simp at h
  ·simp at h
 ·exfalso;split at h
  ·replace h:=Zac h;simp at h
  ·unfold eqK at h;split at h
   ·replace h:=Zac h;simp at h
   ·simp at h
  ·simp at h
 ·exact main h
theorem Zyb{R:Type}(P:Program)(Γ:FuncId→Option Ct)(ro:Nat)(o:Op){ev ev':Operand→Option AV}(h:∀ x∈o.operands.toList,ev x=ev' x){get get':Nat→Option AV}(hg:isM o=true→get=get')(f:R)(k:Eff→R):
  opK' P Γ ro o ev get f k=opK' P Γ ro o ev' get' f k:=by
 have old:=ZGe P Γ ro o h hg f k;cases o<;>simp only[opK']<;>try exact old
 all_goals simp only[Op.operands] at h
 case slice t x lo hi mx=>
  have hx:=h x (by simp);have hlo:∀ o,lo=some o→ev o=ev' o:=by rintro o rfl;exact h o (by simp)
  have hhi:∀ o,hi=some o→ev o=ev' o:=by rintro o rfl;exact h o (by simp)
  cases mx with
  |some _=>exact old
  |none=>
   simp only[hx,old];have e:∀ (y:Nat) (g:Nat→R),bnd ev lo 0 y f g=bnd ev' lo 0 y f g:=fun y g=>Zxd hlo 0 y f fun _=>rfl
   have e':∀ (d y:Nat) (g:Nat→R),bnd ev hi d y f g=bnd ev' hi d y f g:=fun d y g=>Zxd hhi d y f fun _=>rfl
   simp only[e,e'];cases lo with
   |none=>rfl
   |some z=>simp only[e]
 case fieldAddr st x i=>simp only[h x (by simp),old]
 case load t x=>simp only[h x (by simp),old]
 case binOp op t x y ty=>
  cases op
  case add=>simp only[h x (by simp),h y (by simp),old]
  case eql=>simp only[h x (by simp),h y (by simp),old]
  all_goals exact old
 case convert s d x=>
  have e:=hg rfl;subst e;simp only[h x (by simp),old]
 case indexAddr t x y=>simp only[h x (by simp),h y (by simp),old]
 case makeSlice t x y=>simp only[h x (by simp),h y (by simp)]
 case buildSlice t n ps=>
  cases n with
  |zero=>rfl
  |succ n=>exact old
 case call c=>
  have hc:=Zpc c.args.toList fun x hx=>h x (by simp[Call.operands];right;simpa using hx)
  simp only[hc,hg rfl];rw[hg rfl] at old;split
  ·rfl
  ·rfl
  ·rfl
  ·split
   ·rfl
   ·rfl
   ·exact old
  ·exact old
theorem ZGg{P:Program}{el:TypeId}{x y:AV}{e:Eff}(h:appZ P el x y none some=some e):∃ V g,e= .grow none V g:=by
 unfold appZ at h;split at h
 ·split at h
  ·split at h
   ·exact⟨_,_,(oI (Zac h).2).symm⟩
   ·cases h
  ·cases h
 ·cases h
theorem ZGh{P:Program}{ro:Nat}{el:TypeId}{x y:AV}{get:Nat→Option AV}{e:Eff}(h:appX P ro el x y get none some=some e):(∃ v,e= .val v)∨∃ b V g,e= .grow b V g∧∀ b0,b=some b0→∃ T0,get b0=some T0:=by
 unfold appX at h;split at h
 ·split at h
  ·exact .inl ⟨_,(oI (Zac h).2).symm⟩
  ·replace h:=(Zac h).2;split at h
   ·exact .inl ⟨_,(oI (Zac h).2).symm⟩
   ·cases h
  ·cases h
 ·split at h
  ·replace h:=(Zac h).2;split at h
   ·split at h
    ·split at h
     ·exact .inr ⟨_,_,_,(oI (Zac h).2).symm,fun b0 hb=>by cases hb⟩
     ·cases h
    ·cases h
   ·replace h:=(Zac h).2;split at h
    ·rename_i T hT;split at h
     ·refine .inr ⟨_,_,_,(oI (Zac h).2).symm,fun b0 hb=>?_⟩;obtain rfl:=oI hb;exact⟨T,hT⟩
     ·cases h
    ·cases h
   ·replace h:=(Zac h).2;split at h
    ·rename_i T hT;split at h
     ·split at h
      ·refine .inr ⟨_,_,_,(oI (Zac h).2).symm,fun b0 hb=>?_⟩;obtain rfl:=oI hb;exact⟨T,hT⟩
      ·cases h
     ·cases h
    ·cases h
   ·cases h
  ·cases h
theorem Zul{ev:Operand→Option AV}{x:Option Operand}{d y:Nat}{α:Type}{k:Nat→Option α}{r:α}(h:bnd ev x d y none k=some r):∃ n,k n=some r:=by
 unfold bnd at h;split at h
 ·exact⟨_,h⟩
 ·split at h
  ·exact⟨_,(Zac h).2⟩
  ·simp at h
theorem ZGi{P:Program}{Γ:FuncId→Option Ct}{ro:Nat}{o:Op}{ev:Operand→Option AV}{get:Nat→Option AV}{e:Eff}(h:opK' P Γ ro o ev get none some=some e):
  opE P Γ ro o ev get none some=some e∨(∃ v,e= .val v)∨(∃ V g,e= .grow none V g)∨(isW o=true∧∃ b V g,e= .grow b V g∧∀ b0,b=some b0→∃ T0,get b0=some T0):=by
 cases o<;>simp only[opK'] at h<;>try exact .inl h
 case slice t x lo hi mx=>
  cases mx with
  |some _=>exact .inl h
  |none=>
   simp only at h;have two:∀ {lo hi:Option Operand} {d y:Nat} {g:Nat→Nat→Eff},bnd ev hi d y none (fun h=>bnd ev lo 0 h none fun l=>some (g h l))=some e→∃ h l,e=g h l:=by
    intro lo hi d y g h;obtain⟨n,h⟩:=Zul h;obtain⟨l,h⟩:=Zul h;exact⟨n,l,(oI h).symm⟩
   split at h
   ·split at h
    ·obtain⟨_,_,rfl⟩:=two (Zac h).2;exact .inr (.inl ⟨_,rfl⟩)
    ·cases h
   ·split at h
    ·replace h:=(Zac h).2;split at h
     ·obtain⟨n,h⟩:=Zul h;exact .inr (.inl ⟨_,(oI h).symm⟩)
     ·obtain⟨_,_,rfl⟩:=two h;exact .inr (.inl ⟨_,rfl⟩)
    ·cases h
   ·split at h
    ·obtain⟨_,_,rfl⟩:=two (Zac h).2;exact .inr (.inl ⟨_,rfl⟩)
    ·cases h
   ·split at h
    ·obtain⟨_,_,rfl⟩:=two h;exact .inr (.inl ⟨_,rfl⟩)
    ·cases h
   ·exact .inl h
 case fieldAddr st x i=>
  split at h
  ·replace h:=(Zac h).2;split at h
   ·split at h
    ·exact .inr (.inl ⟨_,(oI (Zac h).2).symm⟩)
    ·cases h
   ·cases h
  ·exact .inl h
 case load t x=>
  split at h
  ·exact .inr (.inl ⟨_,(oI (Zac h).2).symm⟩)
  ·exact .inl h
 case binOp op t x y ty=>
  cases op
  case add=>
   simp only at h;split at h
   ·exact .inr (.inl ⟨_,(oI (Zac h).2).symm⟩)
   ·exact .inl h
  case eql=>
   simp only at h;split at h
   ·split at h
    ·exact .inr (.inl ⟨_,(oI h).symm⟩)
    ·cases h
   ·exact .inl h
  all_goals exact .inl h
 case convert s d x=>
  split at h
  ·exact .inl h
  ·split at h
   ·split at h
    ·exact .inr (.inl ⟨_,(oI h).symm⟩)
    ·cases h
   ·cases h
  ·split at h
   ·split at h
    ·split at h
     ·exact .inr (.inl ⟨_,(oI (Zac h).2).symm⟩)
     ·cases h
    ·cases h
   ·cases h
  ·cases h
 case indexAddr t x y=>
  split at h
  ·split at h
   ·exact .inr (.inl ⟨_,(oI (Zac (Zac h).2).2).symm⟩)
   ·cases h
  ·split at h
   ·exact .inr (.inl ⟨_,(oI (Zac (Zac h).2).2).symm⟩)
   ·cases h
  ·exact .inl h
 case makeSlice t x y=>
  split at h
  ·split at h
   ·split at h
    ·exact .inr (.inr (.inl ⟨_,_,(oI (Zac h).2).symm⟩))
    ·cases h
   ·cases h
  ·cases h
 case buildSlice t n ps=>
  cases n with
  |zero=>
   simp only at h;split at h
   ·split at h
    ·exact .inr (.inr (.inl ⟨_,_,(oI (Zac h).2).symm⟩))
    ·cases h
   ·cases h
  |succ n=>exact .inl h
 case call c=>
  split at h
  ·rename_i hc;split at h
   ·rename_i x y t t' _ _;cases hq:Nat.beq t t' with
    |true=>
     rw[hq,cond_true] at h;split at h
     ·split at h
      ·exact .inr (.inr (.inr ⟨by simp[isW,hc],ZGc h⟩))
      ·rcases ZGh h with h|h
       ·exact .inr (.inl h)
       ·exact .inr (.inr (.inr ⟨by simp[isW,hc],h⟩))
     ·cases h
    |false=>
     rw[hq,cond_false] at h;split at h
     ·exact .inr (.inr (.inl (ZGg h)))
     ·cases h
   ·cases h
  ·split at h
   ·split at h
    ·exact .inr (.inl ⟨_,(oI h).symm⟩)
    ·cases h
   ·cases h
  ·split at h
   ·exact .inr (.inl ⟨_,(oI (Zac h).2).symm⟩)
   ·cases h
  ·split at h
   ·split at h
    ·exact .inr (.inl ⟨_,(oI h).symm⟩)
    ·cases h
   ·split at h
    ·exact .inr (.inl ⟨_,(oI h).symm⟩)
    ·cases h
   ·exact .inl h
  ·exact .inl h
theorem ZEs{P:Program}{Γ:FuncId→Option Ct}{ro:Nat}{o:Op}{ev:Operand→Option AV}{get:Nat→Option AV}{b:Nat}{T:AV}(h0:opK' P Γ ro o ev get none some=some (.upd b T)):isW o=true∧∃ T0,get b=some T0:=by
 rcases ZGi h0 with h|⟨_,h⟩|⟨_,_,h⟩|⟨_,_,_,_,h,_⟩
 ·exact ZGf h
 ·cases h
 ·cases h
 ·cases h
theorem ZCI{P:Program}{Γ:FuncId→Option Ct}{ro:Nat}{o:Op}{ev:Operand→Option AV}{get:Nat→Option AV}{b:Option Nat}{T:AV}{gm:Nat→AV}(h0:opK' P Γ ro o ev get none some=some (.grow b T gm)):∀ b0,b=some b0→isW o=true∧∃ T0,get b0=some T0:=by
 rcases ZGi h0 with h|⟨_,h⟩|⟨_,_,h⟩|⟨hw,_,_,_,h,h2⟩
 ·exact ZFl h
 ·cases h
 ·simp only[Eff.grow.injEq] at h;obtain⟨rfl,-⟩:=h;exact fun b0 hb=>by cases hb
 ·simp only[Eff.grow.injEq] at h;obtain⟨rfl,-⟩:=h;exact fun b0 hb=>⟨hw,h2 b0 hb⟩
end Go.Vx
namespace Go.Vx
open Go Go.RowKit
def Gen(P:Program)(cx:Cx)(acc:Nat→Nat→Bool)(all:Array Oper)(i:Nat)(o:Oper)(st:St)(e:Eff):Prop:=
 ((o.guard=none∨∃ j want d b,o.guard=some (j,want)∧(all[j]?).bind (·.dst)=some d∧lk d st.tm=some (.bool b)∧b=want)∧
   opK' P cx.Γ cx.ro o.op (evO cx.gl st.tm) (fun b=>cond (acc i b) (lk b st.mem) none) none some=some e)∨
 ((∃ j want d,o.guard=some (j,want)∧(all[j]?).bind (·.dst)=some d∧((∃ b,lk d st.tm=some (.bool b)∧b≠want)∨lk d st.tm=some (.tup [])))∧e= .val (.tup []))
theorem Zyc{P:Program}{cx:Cx}{acc:Nat→Nat→Bool}{all:Array Oper}{i:Nat}{o:Oper}{st s:St}(h:Stp P cx acc all i o st s):∃ e,Gen P cx acc all i o st e∧s=st.app i o.dst e:=by
 cases h with
 |act e g h=>exact⟨e,.inl ⟨g,h⟩,rfl⟩
 |skip g=>exact⟨.val (.tup []),.inr ⟨g,rfl⟩,rfl⟩
theorem Zyd{P:Program}{cx:Cx}{acc:Nat→Nat→Bool}{all:Array Oper}{i:Nat}{o:Oper}{st:St}{e:Eff}(h:Gen P cx acc all i o st e):Stp P cx acc all i o st (st.app i o.dst e):=by
 rcases h with⟨g,h⟩|⟨g,rfl⟩
 ·exact .act e g h
 ·exact .skip g
theorem ZCJ{l:List Operand}{t:Nat}(h:Operand.tmp t∈l):t∈l.filterMap tmpOf:=List.mem_filterMap.2 ⟨_,h,rfl⟩
theorem ZtZ{P:Program}{cx:Cx}{acc:Nat→Nat→Bool}{all:Array Oper}{i:Nat}{o:Oper}{st st':St}{e:Eff}(ht:∀ d∈looks all o,lk d st.tm=lk d st'.tm)
  (hm:isM o.op=true→(fun b=>cond (acc i b) (lk b st.mem) none)=(fun b=>cond (acc i b) (lk b st'.mem) none)) (h:Gen P cx acc all i o st e):Gen P cx acc all i o st' e:=by
 have hg:∀ {j:Nat} {want:Bool} {d:Nat},o.guard=some (j,want)→(all[j]?).bind (·.dst)=some d→lk d st.tm=lk d st'.tm:=by
  intro j want d h1 h2;refine ht d ?_;unfold looks;have h2':(all[j]?.bind fun x=>x.dst)=some d:=h2;simp[h1,h2']
 rcases h with⟨g,h⟩|⟨⟨j,want,d,g,hj,hb⟩,he⟩
 ·left;refine⟨?_,?_⟩
  ·rcases g with g|⟨j,want,d,b,g,hj,hb,hw⟩
   ·exact .inl g
   ·exact .inr ⟨j,want,d,b,g,hj,by rw[← hg g hj];exact hb,hw⟩
  ·rw[← h];symm;refine Zyb P cx.Γ cx.ro o.op (fun x hx=>?_) hm none some;cases x with
   |tmp t=>exact ht t (by unfold looks;exact List.mem_append_left _ (ZCJ hx))
   |const v=>rfl
   |global g=>rfl
   |func f=>rfl
 ·right;exact⟨⟨j,want,d,g,hj,by rw[← hg g hj];exact hb⟩,he⟩
theorem Zr0{d:Nat}{l:List Nat}(h:clear (some d) l=true):d ∉ l:=by
 intro hd;simp only[clear,List.all_eq_true,Bool.not_eq_true'] at h;have:=h d hd;simp at this
theorem app_tm(st:St)(i:Nat)(d:Option Nat)(e:Eff):∃ v,(st.app i d e).tm=(st.put d v).tm:=by
 cases e with
 |val v=>exact⟨v,rfl⟩
 |new ty row cap T g=>exact⟨g (st.nx+i),rfl⟩
 |upd b T=>exact⟨.tup [],rfl⟩
 |grow b T g=>exact⟨g (st.nx+i),rfl⟩
theorem ZCK{st:St}{d:Option Nat}{v:AV}{n:Nat}(h:d≠some n):lk n (st.put d v).tm=lk n st.tm:=by
 cases d with
 |none=>rfl
 |some d=>exact Zan (fun e=>h (by rw[e])) v st.tm
theorem ZGj{st:St}{i:Nat}{d:Option Nat}{e:Eff}{n:Nat}(h:d≠some n):lk n (st.app i d e).tm=lk n st.tm:=by
 obtain⟨v,hv⟩:=app_tm st i d e;rw[hv,ZCK h]
theorem gen_upd{P:Program}{cx:Cx}{acc:Nat→Nat→Bool}{all:Array Oper}{i:Nat}{o:Oper}{st:St}{b:Nat}{T:AV}(h:Gen P cx acc all i o st (.upd b T)):isW o.op=true∧acc i b=true:=by
 rcases h with⟨-,h⟩|⟨-,h⟩
 ·obtain⟨h1,T0,h2⟩:=ZEs h;exact⟨h1,(Zac h2).1⟩
 ·simp at h
theorem isW_isM{o:Op}(h:isW o=true):isM o=true:=by cases o<;>simp[isW] at h<;>rfl
def memF(e:Eff)(m:Nat)(L:Nat→Option AV)(n:Nat):Option AV:=
 match e with
 | .val _=>L n
 | .new _ _ _ T _=>if n=m then some T else L n
 | .upd b T=>if n=b then some T else L n
 | .grow b T _=>if n=m then some T else if b=some n then none else L n
def wr(e:Eff)(m n:Nat):Prop:=
 match e with
 | .val _=>False
 | .new _ _ _ _ _=>n=m
 | .upd b _=>n=b
 | .grow b _ _=>n=m∨b=some n
theorem Zum{e:Eff}{m n:Nat}(h:¬ wr e m n)(L:Nat→Option AV):memF e m L n=L n:=by
 cases e with
 |val v=>rfl
 |new ty row cap T g=>simp only[wr] at h;simp only[memF,h,if_false]
 |upd b T=>simp only[wr] at h;simp only[memF,h,if_false]
 |grow b T g=>simp only[wr,not_or] at h;simp only[memF,h.1,h.2,if_false]
theorem ZGk{e:Eff}{m n:Nat}(h:wr e m n)(L L':Nat→Option AV):memF e m L n=memF e m L' n:=by
 cases e with
 |val v=>exact h.elim
 |new ty row cap T g=>simp only[wr] at h;simp only[memF,h,if_true]
 |upd b T=>simp only[wr] at h;simp only[memF,h,if_true]
 |grow b T g=>
  simp only[memF];by_cases h1:n=m
  ·simp only[h1,if_true]
  ·rcases h with h|h
   ·exact absurd h h1
   ·simp only[h1,if_false,h,if_true]
theorem ZzO(st:St)(i:Nat)(d:Option Nat)(e:Eff)(n:Nat):lk n (st.app i d e).mem=memF e (st.nx+i) (fun n=>lk n st.mem) n:=by
 have one:∀ (b:Nat) (T:AV) (l:List (Nat×AV)),lk n ((b,T)::l)=if n=b then some T else lk n l:=by
  intro b T l;by_cases h:b=n
  ·subst h;rw[Zal,if_pos rfl]
  ·rw[Zan h,if_neg (fun hh=>h hh.symm)]
 cases e with
 |val v=>simp only[St.app,Zea,memF]
 |new ty row cap T g=>simp only[St.app,memF,one]
 |upd b T=>simp only[St.app,memF,one]
 |grow b T g=>simp only[St.app,memF,one,ZzM]
theorem ZGl{P:Program}{cx:Cx}{acc:Nat→Nat→Bool}{all:Array Oper}{i:Nat}{o:Oper}{st:St}{e:Eff}(h:Gen P cx acc all i o st e){n:Nat}(hw:wr e (st.nx+i) n):n=st.nx+i∨(isW o.op=true∧acc i n=true):=by
 cases e with
 |val v=>exact hw.elim
 |new ty row cap T g=>exact .inl hw
 |upd b T=>
  simp only[wr] at hw;subst hw;exact .inr (gen_upd h)
 |grow b T g=>
  rcases hw with hw|hw
  ·exact .inl hw
  ·subst hw;rcases h with⟨-,h⟩|⟨-,h⟩
   ·obtain⟨h1,T0,h2⟩:=ZCI h n rfl;exact .inr ⟨h1,(Zac h2).1⟩
   ·simp at h
theorem ZEt{P:Program}{cx:Cx}{acc:Nat→Nat→Bool}{all:Array Oper}{i j:Nat}{x y:Oper}{st:St}{e:Eff}(hx:Gen P cx acc all i x st e)(h1:clear x.dst (looks all y)=true)(h2:(∀ b,acc i b=true→acc j b=false)∨(isW x.op&&isM y.op)=false)
  (ha:acc j (st.nx+i)=false):(∀ d∈looks all y,lk d (st.app i x.dst e).tm=lk d st.tm)∧
   (isM y.op=true→(fun b=>cond (acc j b) (lk b (st.app i x.dst e).mem) none)=(fun b=>cond (acc j b) (lk b st.mem) none)):=by
 refine⟨fun d hd=>ZGj (fun hh=>?_),fun hy=>?_⟩
 ·rw[hh] at h1;exact Zr0 h1 hd
 ·funext b
  rw[ZzO];by_cases hb:wr e (st.nx+i) b
  ·rcases ZGl hx hb with h|⟨k1,k2⟩
   ·subst h;rw[ha];rfl
   ·rcases h2 with h2|h2
    ·rw[h2 b k2];rfl
    ·rw[k1,hy] at h2;simp at h2
  ·rw[Zum hb]
def putl(d:Option Nat)(v:AV)(l:List (Nat×AV)):List (Nat×AV):=
 match d with
 |some d=>(d,v)::l
 |none=>l
theorem ZCL(st:St)(d:Option Nat)(v:AV):(st.put d v).tm=putl d v st.tm:=by cases d<;>rfl
theorem ZEu(l:List (Nat×AV)){d e:Option Nat}(h:∀ n,d=some n→e≠some n)(u v:AV)(n:Nat):
  lk n (putl e v (putl d u l))=lk n (putl d u (putl e v l)):=by
 cases d with
 |none=>cases e<;>rfl
 |some d=>
  cases e with
  |none=>rfl
  |some e=>
   have hne:d≠e:=fun hh=>h d rfl (by rw[hh])
   simp only[putl];by_cases h1:d=n
   ·subst h1;rw[Zan (fun hh=>hne hh.symm),Zal,Zal]
   ·by_cases h2:e=n
    ·subst h2;rw[Zal,Zan h1,Zal]
    ·rw[Zan h2,Zan h1,Zan h1,Zan h2]
theorem ZGm{P:Program}{cx:Cx}{acc:Nat→Nat→Bool}{all:Array Oper}{i j:Nat}(hij:i≠j){x y:Oper}{st s1 s2:St}{d:Bool}(hsep:d=true→∀ b,acc i b=true→acc j b=false)(hind:indep all d x y=true)(hai:acc i (st.nx+j)=false)(haj:acc j (st.nx+i)=false)
  (h1:step1 P cx acc all (i,x) st=some s1) (h2:step1 P cx acc all (j,y) s1=some s2):∃ s1' s2',step1 P cx acc all (j,y) st=some s1'∧step1 P cx acc all (i,x) s1'=some s2'∧Alike s2 s2':=by
 simp only[indep,bA,Bool.or_eq_true,Bool.not_eq_true'] at hind;obtain⟨⟨⟨c1,c2⟩,c3⟩,c45⟩:=hind;have c4:(∀ b,acc i b=true→acc j b=false)∨(isW x.op&&isM y.op)=false:=c45.imp (fun h=>hsep h) (fun h=>h.1);have c5':(∀ b,acc j b=true→acc i b=false)∨(isW y.op&&isM x.op)=false:=c45.imp (fun h b hb=>by
  cases hq:acc i b
  ·rfl
  ·rw[hsep h b hq] at hb;simp at hb) (fun h=>by rw[Bool.and_comm];exact h.2)
 obtain⟨hdx,t1,hx,a1⟩:=Zpb h1;obtain⟨hdy,t2,hy,a2⟩:=Zpb h2;obtain⟨ex,gx,rfl⟩:=Zyc hx;obtain⟨ey,gy0,rfl⟩:=Zyc hy;have gy:Gen P cx acc all j y (st.app i x.dst ex) ey:=ZtZ (fun d _=>(a1.tm d).symm) (fun _=>by funext b;rw[a1.mem]) gy0;obtain⟨n1,n2⟩:=ZEt gx c1 c4 haj;have gy':Gen P cx acc all j y st ey:=ZtZ n1 n2 gy;obtain⟨m1,m2⟩:=ZEt gy' c2 c5' hai;have gx':Gen P cx acc all i x (st.app j y.dst ey) ex:=ZtZ (fun d hd=>(m1 d hd).symm) (fun hh=>(m2 hh).symm) gx;obtain⟨u1,p1,q1⟩:=ZvU hdy (Zyd gy');have gx2:Gen P cx acc all i x u1 ex:=ZtZ (fun d _=>q1.tm d) (fun _=>by funext b;rw[q1.mem]) gx';obtain⟨u2,p2,q2⟩:=ZvU hdx (Zyd gx2);refine⟨u1,u2,p1,p2,(a2.symm.trans ((Zr2 a1.symm _ _ _).trans ?_)).trans ((Zr2 q1 _ _ _).trans q2)⟩;refine⟨?_,?_,?_⟩
 ·intro n;have hdd:∀ n,x.dst=some n→y.dst≠some n:=by
   intro n hn hy;rw[hn,hy] at c3;exact Zr0 c3 (by simp)
  cases ex<;>cases ey<;>simp only[St.app,ZCL,ZsW]<;>exact ZEu st.tm hdd _ _ n
 ·intro n;have dis:∀ n,wr ex (st.nx+i) n→¬ wr ey (st.nx+j) n:=by
   intro n h1 h2;rcases ZGl gx h1 with k1|⟨k1,k2⟩<;>rcases ZGl gy' h2 with k3|⟨k3,k4⟩
   ·omega
   ·rw[k1,haj] at k4;cases k4
   ·rw[k3,hai] at k2;cases k2
   ·rcases c4 with c4|c4
    ·rw[c4 n k2] at k4;cases k4
    ·rw[k1,isW_isM k3] at c4;cases c4
  rw[ZzO,ZzO,ZAX,ZAX];have e1:∀ n,lk n (st.app i x.dst ex).mem=memF ex (st.nx+i) (fun n=>lk n st.mem) n:=fun n=>ZzO _ _ _ _ _
  have e2:∀ n,lk n (st.app j y.dst ey).mem=memF ey (st.nx+j) (fun n=>lk n st.mem) n:=fun n=>ZzO _ _ _ _ _
  by_cases h1:wr ex (st.nx+i) n
  ·rw[Zum (dis n h1)];show lk n (st.app i x.dst ex).mem=_;rw[e1];exact ZGk h1 _ _
  ·rw[Zum h1];show _=lk n (st.app j y.dst ey).mem;rw[e2];by_cases h2:wr ey (st.nx+j) n
   ·exact ZGk h2 _ _
   ·rw[Zum h2,Zum h2];show lk n (st.app i x.dst ex).mem=_;rw[e1,Zum h1]
 ·simp only[ZAX]
theorem ZFm{P:Program}{cx:Cx}{acc:Nat→Nat→Bool}{all:Array Oper}{p:Nat×Oper}{st st' s:St}(ha:Alike st st')(h:step1 P cx acc all p st=some s):∃ s',step1 P cx acc all p st'=some s'∧Alike s s':=by
 obtain⟨i,o⟩:=p;obtain⟨hd,t,hs,hts⟩:=Zpb h;obtain⟨e,g,rfl⟩:=Zyc hs;have g':Gen P cx acc all i o st' e:=ZtZ (fun d _=>ha.tm d) (fun _=>by funext b;rw[ha.mem]) g;obtain⟨s',h1,h2⟩:=ZvU hd (Zyd g');exact⟨s',h1,hts.symm.trans ((Zr2 ha _ _ _).trans h2)⟩
theorem ZCM{P:Program}{cx:Cx}{acc:Nat→Nat→Bool}{all:Array Oper}:(l:List (Nat×Oper))→{st st' s:St}→Alike st st'→runOps P cx acc all none l st some=some s→∃ s',runOps P cx acc all none l st' some=some s'∧Alike s s'
 | [],st,st',s,ha,h=>by
  simp only[runOps,oE] at h;subst h;exact⟨st',rfl,ha⟩
 |p::l,st,st',s,ha,h=>by
  rw[Zit] at h;obtain⟨s1,h1,h2⟩:=Option.bind_eq_some_iff.1 h;obtain⟨s1',k1,k2⟩:=ZFm ha h1;obtain⟨s',k3,k4⟩:=ZCM l k2 h2;exact⟨s',by rw[Zit,k1];exact k3,k4⟩
theorem ZCN{P:Program}{cx:Cx}{acc:Nat→Nat→Bool}{all:Array Oper}(x:Nat×Oper)(nx:Nat)(os:List (Option Nat))(hos:∀ i j,sepO (os.getD i none) (os.getD j none)=true→∀ b,acc i b=true→acc j b=false):(A B:List (Nat×Oper))→(∀ a∈A,a.1≠x.1∧ind all os a x=true∧acc a.1 (nx+x.1)=false∧acc x.1 (nx+a.1)=false)→
  {st s:St}→st.nx=nx→runOps P cx acc all none (A++x::B) st some=some s→∃ s',runOps P cx acc all none (x::(A++B)) st some=some s'∧Alike s s'
 | [],B,_,st,s,_,h=>⟨s,h,Alike.refl s⟩
 |a::A,B,hA,st,s,hnx,h=>by
  rw[List.cons_append,Zit] at h;obtain⟨s1,h1,h2⟩:=Option.bind_eq_some_iff.1 h;have hnx1:s1.nx=nx:=(ZzF h1).trans hnx;obtain⟨t,k1,k2⟩:=ZCN x nx os hos A B (fun b hb=>hA b (by simp[hb])) hnx1 h2;rw[Zit] at k1;obtain⟨s2,j1,j2⟩:=Option.bind_eq_some_iff.1 k1;obtain⟨q1,q2,q3,q4⟩:=hA a (by simp);obtain⟨u1,u2,l1,l2,l3⟩:=ZGm (i:=a.1) (j:=x.1) q1 (hos a.1 x.1) q2 (by rw[hnx];exact q3) (by rw[hnx];exact q4) h1 j1;obtain⟨v,m1,m2⟩:=ZCM (A++B) l3 j2;refine⟨v,?_,k2.trans m2⟩;rw[Zit];simp only[show step1 P cx acc all x st=some u1 from l1,Option.bind_some];rw[List.cons_append,Zit];simp only[show step1 P cx acc all a u1=some u2 from l2,Option.bind_some];exact m1
end Go.Vx
namespace Go.Vx
open Go Go.RowKit
theorem ZzP(ms:List Nat)(b:Nat):(es:List Edge)→(s:Nat)→(es.foldl (fun s e=>cond (Region.binds .any e) (s ||| (2^e.on ||| ms.getD e.on 0)) s) s).testBit b=true→
  s.testBit b=true∨∃ e∈es,Region.binds .any e=true∧(e.on=b∨(ms.getD e.on 0).testBit b=true)
 | [],s,h=>.inl h
 |e::es,s,h=>by
  simp only[List.foldl_cons] at h;rcases ZzP ms b es _ h with h|⟨e',h1,h2⟩
  ·cases hb:Region.binds .any e
   ·rw[hb] at h;exact .inl h
   ·rw[hb] at h;simp only[cond_true,Nat.testBit_or,Bool.or_eq_true,Nat.testBit_two_pow,decide_eq_true_eq] at h;rcases h with h|h
    ·exact .inl h
    ·exact .inr ⟨e,by simp,hb,h⟩
  ·exact .inr ⟨e',by simp[h1],h2⟩
theorem ZzQ:(l:List Oper)→(pre:List Nat)→(k:Nat)→k<pre.length→(masks l pre).getD k 0=pre.getD k 0
 | [],pre,k,_=>rfl
 |o::l,pre,k,h=>by
  rw[masks,ZzQ l _ k (by simp;omega)];simp[List.getD_eq_getElem?_getD,List.getElem?_append_left h]
theorem ZEv:(l:List Oper)→(pre:List Nat)→(t:Nat)→(o:Oper)→l[t]? =some o→
  ∃ pre',pre'.length=pre.length+t∧(∀ k,k<pre'.length→(masks l pre).getD k 0=pre'.getD k 0)∧(masks l pre).getD (pre.length+t) 0=maskAt pre' o
 | [],_,_,_,h=>by simp at h
 |o'::l,pre,0,o,h=>by
  simp only[List.getElem?_cons_zero,oE] at h;subst h;refine⟨pre,rfl,fun k hk=>ZzQ _ pre k hk,?_⟩;rw[masks,ZzQ l _ _ (by simp)];simp[List.getD_eq_getElem?_getD]
 |o'::l,pre,t+1,o,h=>by
  obtain⟨pre',h1,h2,h3⟩:=ZEv l (pre++[maskAt pre o']) t o (by simpa using h);refine⟨pre',by rw[h1];simp;omega,fun k hk=>by rw[masks];exact h2 k hk,?_⟩;rw[masks,← h3]
  congr 1
  simp;omega
theorem ZAY:(l:List (Nat×Oper))→edgesOK l=true→∀ p∈l,∀ e∈p.2.after.toList,Region.binds .any e=true→e.on<p.1
 | [],_,p,hp=>by simp at hp
 |x::l,h,p,hp=>by
  simp only[edgesOK,bA,List.all_eq_true] at h;rcases List.mem_cons.1 hp with rfl|hp
  ·intro e he hb;have h2:=h.1 e he;simpa [hb] using h2
  ·exact ZAY l h.2 p hp
section
variable {ops:Array Oper} (hE:edgesOK (numbered 0 ops.toList)=true)
include hE
theorem ZDC{i:Nat}{o:Oper}(hi:ops[i]? =some o):∀ e∈o.after.toList,Region.binds .any e=true→e.on<i:=by
 intro e he;have hmem:(i,o)∈numbered 0 ops.toList:=by
  have hlt:i<ops.size:=by
   rcases Nat.lt_or_ge i ops.size with h|h
   ·exact h
   ·simp[Array.getElem?_eq_none h] at hi
  have h1:(numbered 0 ops.toList)[i]? =some (i,o):=by
   have key:∀ (l:List Oper) (k t:Nat) (o:Oper),l[t]? =some o→(numbered k l)[t]? =some (k+t,o):=by
    intro l
    induction l with
    |nil=>intro k t o h;simp at h
    |cons a l ih=>
     intro k t o h;cases t with
     |zero=>simp at h;simp[numbered,h]
     |succ t=>simp at h;simp only[numbered,List.getElem?_cons_succ,ih (k+1) t o h];congr 2;omega
   have:=key ops.toList 0 i o (by simpa using hi);simpa using this
  exact List.mem_of_getElem? h1
 exact ZAY _ hE (i,o) hmem e he
theorem ZzG{i:Nat}{o:Oper}(hi:ops[i]? =some o){b:Nat}(hb:((masks ops.toList []).getD i 0).testBit b=true):
  ∃ e∈o.after.toList,Region.binds .any e=true∧e.on<i∧(e.on=b∨((masks ops.toList []).getD e.on 0).testBit b=true):=by
 obtain⟨pre',h1,h2,h3⟩:=ZEv ops.toList [] i o (by simpa using hi);simp only[List.length_nil,Nat.zero_add] at h1 h3;rw[h3] at hb;rcases ZzP pre' b o.after.toList 0 hb with h|⟨e,he,hbn,h⟩
 ·simp at h
 ·have hlt:=ZDC hE hi e he hbn;exact⟨e,he,hbn,hlt,by rw[h2 e.on (by omega)];exact h⟩
theorem ZFZ{i b:Nat}(hb:((masks ops.toList []).getD i 0).testBit b=true)(hi:i<ops.size):b<i:=by
 induction i using Nat.strongRecOn with
 |_ i ih=>
  obtain⟨e,-,-,hlt,h⟩:=ZzG hE (Array.getElem?_eq_getElem hi) hb;rcases h with h|h
  ·omega
  ·have:=ih e.on hlt h (by omega);omega
end
theorem Zo8{α:Type}:(l:List α)→(k:Nat)→(numbered k l).Pairwise fun a b=>a.1<b.1
 | [],_=>by simp[numbered]
 |a::l,k=>by
  simp only[numbered,List.pairwise_cons];refine⟨fun p hp=>?_,Zo8 l (k+1)⟩;have:=(ZkQ l (k+1) p hp).1;omega
theorem sep_acc{nx:Nat}{ms:List Nat}{os:List (Option Nat)}(i j:Nat)(h:sepO (os.getD i none) (os.getD j none)=true)(b:Nat)(hb:accD nx ms os i b=true):accD nx ms os j b=false:=by
 unfold accD at hb ⊢;unfold sepO at h;split at h
 ·rename_i a ha;split at h
  ·rename_i c hc;rw[ha] at hb;simp only[bA] at hb;have e:=Zaj hb.2;subst e;cases hq:Nat.beq b c
   ·simp
   ·rw[hq] at h;simp at h
  ·simp at h
 ·simp at h
theorem ZAZ{all:Array Oper}{os:List (Option Nat)}{o:Nat×Oper}{m:Nat}:{l:List (Nat×Oper)}→loose all os o m l=true→∀ x∈l,m.testBit x.1=true∨ind all os x o=true
 | [],_,x,hx=>by simp at hx
 |y::l,h,x,hx=>by
  simp only[loose,bA,Bool.or_eq_true] at h;rcases List.mem_cons.1 hx with rfl|hx
  ·exact h.1
  ·exact ZAZ h.2 x hx
theorem Zxe{all:Array Oper}{os:List (Option Nat)}{ms:List Nat}:{l done:List (Nat×Oper)}→looseAll all os ms l done=true→l.Pairwise (fun a b=>(ms.getD b.1 0).testBit a.1=true∨ind all os a b=true)∧∀ a∈done,∀ b∈l,(ms.getD b.1 0).testBit a.1=true∨ind all os a b=true
 | [],done,_=>by simp
 |x::l,done,h=>by
  simp only[looseAll,bA] at h;obtain⟨h1,h2⟩:=Zxe h.2;refine⟨List.pairwise_cons.2 ⟨fun b hb=>h2 x (by simp) b hb,h1⟩,fun a ha b hb=>?_⟩;rcases List.mem_cons.1 hb with rfl|hb
  ·exact ZAZ h.1 a ha
  ·exact h2 a (by simp[ha]) b hb
def todo(ops:Array Oper)(listed:Array Bool):List (Nat×Oper):=(numbered 0 ops.toList).filter fun p=> !listed.getD p.1 true
theorem ZEn{P:Program}{cx:Cx}{w0:Base}(hΓ:∀ g C,cx.Γ g=some C→SoundAt P w0.g g C){ops:Array Oper}(hE:edgesOK (numbered 0 ops.toList)=true){os:List (Option Nat)}(hL:looseAll ops os (masks ops.toList []) (numbered 0 ops.toList) []=true)
  {Q:Exit→Act→World→Prop} {nx:Nat} {s:St}:(fuel:Nat)→(listed:Array Bool)→listed.size=ops.size→
  (∀ i,listed.getD i false=true→∀ b,((masks ops.toList []).getD i 0).testBit b=true→listed.getD b false=true)→(todo ops listed).length=fuel→
  {ρ:Rho}→{st:St}→{a:Act}→{w:World}→st.nx=nx→a.tmps.size=cx.nt→Sim P w0 cx.ro ρ st.tm st.mem a.tmps w→GL P ρ cx.gl→(∀ p∈todo ops listed,ρ (nx+p.1)=none)→
  (∃ s',runOps P cx (accD nx (masks ops.toList []) os) ops none (todo ops listed) st some=some s'∧Alike s s')→
  (∀ ρ' a' w',Sim P w0 cx.ro ρ' s.tm s.mem a'.tmps w'→a'.defers=a.defers→a'.tmps.size=cx.nt→Ext ρ ρ'→(∀ b,(∀ p∈todo ops listed,b≠nx+p.1)→ρ' b=ρ b)→Q .normal a' w')→
  wpAny P .any ops Q fuel listed a w
 |fuel,listed,hsz,hcl,hfu,ρ,st,a,w,hnx,hnt,S,hgl,hm,⟨s',hrun,hal⟩,hK=>by
  have hsort:(todo ops listed).Pairwise fun a b=>a.1<b.1:=(Zo8 ops.toList 0).filter _
  have hmem:∀ p∈todo ops listed,ops[p.1]? =some p.2∧listed.getD p.1 true=false:=by
   intro p hp;obtain⟨h1,h2⟩:=List.mem_filter.1 hp;exact⟨Ziu ops p h1,by simpa using h2⟩
  cases fuel with
  |zero=>
   have hnil:todo ops listed=[]:=List.eq_nil_of_length_eq_zero hfu;rw[hnil] at hrun hK;simp only[runOps,oE] at hrun;subst hrun;refine⟨?_,hK ρ a w (S.alike hal.symm) rfl hnt (Ext.refl ρ) (fun _ _=>rfl)⟩;unfold Region.ready;rw[List.filter_eq_nil_iff];intro i hi;have hlt:=List.mem_range.1 hi;have hnot:(i,ops[i]) ∉ todo ops listed:=by rw[hnil];simp
   have hin:(i,ops[i])∈numbered 0 ops.toList:=by
    have:(numbered 0 ops.toList).map Prod.fst=List.range' 0 ops.toList.length:=Zf4 _ _;have hmem':i∈(numbered 0 ops.toList).map Prod.fst:=by rw[this];simp[List.mem_range'];exact hlt
    obtain⟨p,hp,hpi⟩:=List.mem_map.1 hmem';have h2:=Ziu ops p hp;rw[hpi,Array.getElem?_eq_getElem hlt] at h2;have:p=(i,ops[i]):=by
     obtain⟨p1,p2⟩:=p;simp only at hpi h2;subst hpi;rw[oI h2]
    rw[← this];exact hp
   have:¬ (!listed.getD i true)=true:=fun hh=>hnot (List.mem_filter.2 ⟨hin,hh⟩)
   simp only[Bool.not_eq_true',Bool.not_eq_false] at this;rw[this];simp
  |succ fuel=>
   have hinn:∀ i,i<ops.size→(i,ops[i]?)=(i,ops[i]?):=fun _ _=>rfl
   have hin:∀ i (hlt:i<ops.size),(i,ops[i])∈numbered 0 ops.toList:=by
    intro i hlt;have:(numbered 0 ops.toList).map Prod.fst=List.range' 0 ops.toList.length:=Zf4 _ _;have hmem':i∈(numbered 0 ops.toList).map Prod.fst:=by rw[this];simp[List.mem_range'];exact hlt
    obtain⟨p,hp,hpi⟩:=List.mem_map.1 hmem';have h2:=Ziu ops p hp;rw[hpi,Array.getElem?_eq_getElem hlt] at h2;have:p=(i,ops[i]):=by
     obtain⟨p1,p2⟩:=p;simp only at hpi h2;subst hpi;rw[oI h2]
    rw[← this];exact hp
   have hget:∀ i,i<ops.size→listed.getD i true=listed.getD i false:=by
    intro i hi;simp[Array.getD_eq_getD_getElem?,Array.getElem?_eq_getElem (show i<listed.size by omega)]
   refine⟨fun hr=>?_,fun i hi=>?_⟩
   ·
    exfalso;cases ht:todo ops listed with
    |nil=>rw[ht] at hfu;simp at hfu
    |cons p rest=>
     have hp:p∈todo ops listed:=by rw[ht];simp
     obtain⟨h1,h2⟩:=hmem p hp;have hlt:p.1<ops.size:=by
      rcases Nat.lt_or_ge p.1 ops.size with h|h
      ·exact h
      ·simp[Array.getElem?_eq_none h] at h1
     have:p.1∈Region.ready .any ops listed:=by
      unfold Region.ready;refine List.mem_filter.2 ⟨List.mem_range.2 hlt,?_⟩;rw[h2,h1];simp only[Bool.not_false,Option.map_some,Option.getD_some,Bool.true_and];rw[Array.all_eq_true_iff_forall_mem];intro e he;cases hbn:Region.binds .any e
      ·rfl
      have hlow:=ZDC hE h1 e (by simpa using he) hbn;have hon:e.on<ops.size:=by omega
      have hls:listed.getD e.on true=true:=by
       cases hq:listed.getD e.on true
       ·exfalso;have hmem2:(e.on,ops[e.on])∈todo ops listed:=List.mem_filter.2 ⟨hin e.on hon,by simp[hq]⟩;rw[ht] at hmem2;rcases List.mem_cons.1 hmem2 with h|h
        ·rw[← h] at hlow;simp only at hlow;omega
        ·rw[ht] at hsort;have:=(List.pairwise_cons.1 hsort).1 _ h;simp only at this;omega
       ·rfl
      rw[← hget e.on hon,hls];simp
     rw[hr] at this;simp at this
   ·obtain⟨hi1,hi2⟩:=List.mem_filter.1 hi;have hlt:=List.mem_range.1 hi1;simp only[bA,Bool.not_eq_true'] at hi2;obtain⟨hnl,hrd⟩:=hi2;rw[Array.getElem?_eq_getElem hlt] at hrd;simp only[Option.map_some,Option.getD_some] at hrd;have hx:(i,ops[i])∈todo ops listed:=List.mem_filter.2 ⟨hin i hlt,by simp[hnl]⟩;obtain⟨A,B,hAB⟩:=List.append_of_mem hx
    
    have hpre:∀ b,((masks ops.toList []).getD i 0).testBit b=true→listed.getD b false=true:=by
     intro b hb;obtain⟨e,he,hbn,hlt',h⟩:=ZzG hE (Array.getElem?_eq_getElem hlt) hb;rw[Array.all_eq_true_iff_forall_mem] at hrd;have h1:=hrd e (by simpa using he);rw[hbn] at h1;simp only[Bool.not_true,Bool.false_or] at h1;rcases h with h|h
     ·rw[← h];exact h1
     ·exact hcl e.on h1 b h
    have hsort':=hsort;rw[hAB] at hsort';have hAlt:∀ a∈A,a.1<i:=fun a ha=>(List.pairwise_append.1 hsort').2.2 a ha (i,ops[i]) (by simp)
    have hBgt:∀ b∈B,i<b.1:=fun b hb=>(List.pairwise_cons.1 (List.pairwise_append.1 hsort').2.1).1 b hb
    have hloose:(todo ops listed).Pairwise (fun a b=>((masks ops.toList []).getD b.1 0).testBit a.1=true∨ind ops os a b=true):=(Zxe hL).1.filter _;rw[hAB] at hloose;have hA:∀ a∈A,a.1≠i∧ind ops os a (i,ops[i])=true∧accD nx (masks ops.toList []) os a.1 (nx+i)=false∧accD nx (masks ops.toList []) os i (nx+a.1)=false:=by
     intro a ha;have hal:=hAlt a ha;have ham:a∈todo ops listed:=by rw[hAB];simp[ha]
     obtain⟨ha1,ha2⟩:=hmem a ham;have hno:((masks ops.toList []).getD i 0).testBit a.1=false:=by
      cases hq:((masks ops.toList []).getD i 0).testBit a.1
      ·rfl
      ·have:=hpre a.1 hq;rw[← hget a.1 (by omega),ha2] at this;simp at this
     have hno':((masks ops.toList []).getD a.1 0).testBit i=false:=by
      cases hq:((masks ops.toList []).getD a.1 0).testBit i
      ·rfl
      ·have:=ZFZ hE hq (by omega);omega
     have hbl:∀ k,Nat.blt (nx+k) nx=false:=fun k=>by
      cases hq:Nat.blt (nx+k) nx
      ·rfl
      ·have:=Nat.le_of_ble_eq_true (show Nat.ble (nx+k+1) nx=true from hq);omega
     refine⟨by omega,?_,?_,?_⟩
     ·rcases(List.pairwise_append.1 hloose).2.2 a ha (i,ops[i]) (by simp) with h|h
      ·simp only at h;rw[hno] at h;simp at h
      ·exact h
     ·unfold accD;split<;>simp only[hbl,Nat.add_sub_cancel_left,hno',Bool.or_false,Bool.false_and]
     ·unfold accD;split<;>simp only[hbl,Nat.add_sub_cancel_left,hno,Bool.or_false,Bool.false_and]
    rw[hAB] at hrun;obtain⟨t,ht1,ht2⟩:=ZCN (i,ops[i]) nx os sep_acc A B hA hnx hrun;rw[Zit] at ht1;obtain⟨s1,k1,k2⟩:=Option.bind_eq_some_iff.1 ht1;have hnx1:s1.nx=nx:=(ZzF k1).trans hnx;have htodo:todo ops (listed.setIfInBounds i true)=A++B:=by
     have h1:todo ops (listed.setIfInBounds i true)=(todo ops listed).filter fun p=> !Nat.beq p.1 i:=by
      unfold todo;rw[List.filter_filter];refine List.filter_congr fun p hp=>?_
      by_cases hpi:p.1=i
      ·simp[hpi,Array.getD_eq_getD_getElem?,show i<listed.size by omega]
      ·have hq:Nat.beq p.1 i=false:=by
        cases hq:Nat.beq p.1 i
        ·rfl
        ·exact absurd (Zaj hq) hpi
       have hne:i≠p.1:=fun h=>hpi h.symm
       simp[hq,Array.getD_eq_getD_getElem?,hne]
     have hbe:∀ k,k≠i→Nat.beq k i=false:=fun k hk=>by
      cases hq:Nat.beq k i
      ·rfl
      ·exact absurd (Zaj hq) hk
     rw[h1,hAB,List.filter_append,List.filter_cons];have e1:A.filter (fun p=> !Nat.beq p.1 i)=A:=List.filter_eq_self.2 fun p hp=>by
      have:=hAlt p hp;rw[hbe p.1 (by omega)];rfl
     have e2:B.filter (fun p=> !Nat.beq p.1 i)=B:=List.filter_eq_self.2 fun p hp=>by
      have:=hBgt p hp;rw[hbe p.1 (by omega)];rfl
     rw[e1,e2];simp
    have hmemAB:∀ p∈A++B,p∈todo ops listed∧p.1≠i:=by
     intro p hp;rcases List.mem_append.1 hp with h|h
     ·exact⟨by rw[hAB];simp[h],by have:=hAlt p h;omega⟩
     ·exact⟨by rw[hAB];simp[h],by have:=hBgt p h;omega⟩
    refine Zx6 hΓ (Array.getElem?_eq_getElem hlt) hnt S hgl (by rw[hnx];exact hm (i,ops[i]) hx) k1 (fun ρ1 a1 w1 S1 hd1 hs1 he1 hr1=>?_);rw[hnx] at hr1;refine ZEn hΓ hE hL fuel (listed.setIfInBounds i true) (by simp[hsz]) ?_ ?_ hnx1 hs1 S1 (hgl.ext he1) ?_ ⟨t,by rw[htodo];exact k2,hal.trans ht2⟩ ?_
    ·intro j hj b hb;have up:∀ b,listed.getD b false=true→(listed.setIfInBounds i true).getD b false=true:=by
      intro b hb;by_cases hbi:i=b
      ·subst hbi;simp[Array.getD_eq_getD_getElem?,show i<listed.size by omega]
      ·rw[← hb];simp[Array.getD_eq_getD_getElem?,hbi]
     by_cases hji:i=j
     ·subst hji;exact up b (hpre b hb)
     ·refine up b (hcl j ?_ b hb);rw[← hj];simp[Array.getD_eq_getD_getElem?,hji]
    ·rw[htodo];rw[hAB] at hfu;simp at hfu ⊢;omega
    ·intro p hp;rw[htodo] at hp;obtain⟨h1,h2⟩:=hmemAB p hp;rw[hr1 _ (by omega)];exact hm p h1
    ·intro ρ2 a2 w2 S2 hd2 hs2 he2 hr2;refine hK ρ2 a2 w2 S2 (hd2.trans hd1) hs2 (he1.trans he2) (fun b hb=>?_);rw[hr2 b (fun p hp=>by rw[htodo] at hp;exact hb p (hmemAB p hp).1),hr1 b (hb (i,ops[i]) hx)]
end Go.Vx
namespace Go.Vx
open Go Go.RowKit
def OpW(P:Program)(cx:Cx)(w0:Base)(o:Oper)(st:St)(I:Inl):Prop:=
 ∀ (nx:Nat) (v:AV) (mem':List (Nat×AV)) (nx':Nat),I.run none [] st.mem nx (fun v m n=>some (v,m,n))=some (v,mem',nx')→
  ∀ (ρ:Rho) (a:Act) (w:World),Sim P w0 cx.ro ρ st.tm st.mem a.tmps w→GL P ρ cx.gl→(∀ b,nx≤b→ρ b=none)→
   ∃ w' ρ',(execOp a.eval o).run P w= .ok (.value (den P ρ' v)) w'∧OK P ρ' v∧Sim P w0 cx.ro ρ' [] mem' #[] w'∧Ext ρ ρ'∧∀ b,nx'≤b→ρ' b=none
theorem ZGn(s:ByteArray)(i:Nat):(Utf8.decode s i).1≤1114111:=by
 unfold Utf8.decode;have hv:∀ c:Nat,Utf8.valid (c:Int)=true→c≤1114111:=by
  intro c h;simp only[Utf8.valid,Bool.or_eq_true,bA,decide_eq_true_eq] at h;omega
 simp only;split
 ·simp only;omega
 ·split
  ·split
   ·simp only;omega
   ·simp[Utf8.runeError]
  ·split
   ·split
    ·rename_i h;simp only[bA] at h;exact hv _ h.2
    ·simp[Utf8.runeError]
   ·split
    ·split
     ·rename_i h;simp only[bA] at h;exact hv _ h.2
     ·simp[Utf8.runeError]
    ·simp[Utf8.runeError]
theorem ZHO{P:Program}{cx:Cx}{w0:Base}{o:Oper}{st:St}{t:TypeId}{x:Operand}{s:ByteArray}(ho:o.op= .range t x)(hx:evO cx.gl st.tm x=some (.str s))(ht:P.underlying t=some .string):OpW P cx w0 o st (rangeI s):=by
 intro nx v mem' nx' h ρ a w S hgl hfr;simp only[rangeI,oE,pE] at h;obtain⟨rfl,rfl,rfl⟩:=h;obtain⟨h1,h2⟩:=Zay S hgl hx;simp only[den] at h1;simp only[OK] at h2
 let nm:Nm:=⟨w.heap.size,0,0,t,true,0,true,nk⟩
 have hm:ρ nx=none:=hfr nx (Nat.le_refl _);have hE:=ZzJ hm nm;have self:upd ρ nx nm nx=some nm:=by simp[upd]
 have other:∀ b,b≠nx→upd ρ nx nm b=ρ b:=fun b h=>by simp[upd,h]
 have hb:Below w.heap.size w (w.iter s 0):=(Below.refl _ _).alloc (Nat.le_refl _) _;have live:∀ b U,lk b ((nx,AV.itr s 0)::st.mem)=some U→(b=nx∧U= .itr s 0)∨(b≠nx∧lk b st.mem=some U):=by
  intro b U h;by_cases hbn:nx=b
  ·subst hbn;rw[Zal] at h;exact .inl ⟨rfl,(oI h).symm⟩
  ·rw[Zan hbn] at h;exact .inr ⟨fun hh=>hbn hh.symm,h⟩
 have lt:∀ {k:Nat} {x:Obj},w.heap[k]? =some x→k<w.heap.size:=fun h=>(Array.getElem?_eq_some_iff.1 h).1
 refine⟨w.iter s 0,upd ρ nx nm,?_,⟨nm,self⟩,⟨fun d v h=>by simp[lk] at h,?_,?_,?_,?_,S.below.trans hb,?_⟩,hE,fun b hbb=>by rw[other b (by omega)];exact hfr b (by omega)⟩
 ·have hr:=run_range_string (P:=P) w t s ht;simp[execOp,ho,h1,hr,den,self,nm]
 ·intro b U hU;rcases live b U hU with⟨rfl,rfl⟩|⟨hne,hU⟩
  ·exact⟨nm,self,⟨rfl,rfl⟩,h2,.inr ⟨rfl,by simp[cells,den,Value.cells]⟩,fun j x hx=>by simp[cells,den,Value.cells] at hx⟩
  ·obtain⟨nm2,k1,k2,k3,k4,k5⟩:=S.cell b U hU;refine⟨nm2,by rw[other b hne];exact k1,k2,(Zcm P hE _ k3).2,by rw[ZbX P hE U k3];exact Liv.size k4 hb.size,fun j x hx=>?_⟩;rw[ZbX P hE U k3] at hx;rw[Liv.cell k4 hb hx];exact k5 j x hx
 ·intro b U nm2 hU hnm hbr;rcases live b U hU with⟨rfl,rfl⟩|⟨hne,hU⟩
  ·rw[self] at hnm;obtain rfl:=oI hnm;exact⟨fun _=>.inl S.below.size,fun j hj=>by simp[cells,den,Value.cells] at hj⟩
  ·rw[other b hne] at hnm;obtain⟨k1,k2⟩:=S.own b U nm2 hU hnm hbr;obtain⟨nm',g1,-,g3,g4,-⟩:=S.cell b U hU;rw[hnm] at g1;obtain rfl:=oI g1;refine⟨k1,fun j hj=>?_⟩;rw[ZbX P hE U g3] at hj;rw[Liv.frozen g4 hb hj];exact k2 j hj
 ·intro b b' U U' n1 n2 hU hU' e1 e2 hbr hne z1 z2;rcases live b U hU with⟨rfl,rfl⟩|⟨k1,hU1⟩
  ·rw[self] at e1;obtain rfl:=oI e1;cases z1
  ·rcases live b' U' hU' with⟨rfl,rfl⟩|⟨k2,hU2⟩
   ·rw[self] at e2;obtain rfl:=oI e2;cases z2
   ·rw[other b k1] at e1;rw[other b' k2] at e2;exact S.apart b b' U U' n1 n2 hU1 hU2 e1 e2 hbr hne z1 z2
 ·intro b U nm2 hU hnm hbr hr;rcases live b U hU with⟨rfl,rfl⟩|⟨hne,hU⟩
  ·rw[self] at hnm;obtain rfl:=oI hnm;exact .inl rfl
  ·rw[other b hne] at hnm;exact(S.rows b U nm2 hU hnm hbr hr).imp id fun h=>h.same (hb.block _ h.lt)
 ·have E:=S.ex;have upK:∀ b nm2,upd ρ nx nm b=some nm2→ρ b=some nm2∨nm2.K=nk:=by
   intro b nm2 h;by_cases hbn:b=nx
   ·subst hbn;rw[self] at h;exact .inr (by rw[← oI h])
   ·rw[other b hbn] at h;exact .inl h
  refine⟨?_,?_,?_,?_,?_,?_,?_,?_⟩
  ·intro b nm2 hb2 k of v hk;rcases upK b nm2 hb2 with h|h
   ·have h3:=E.froz b nm2 h k of v hk;rw[World.cell?_of_block (hb.block k (ZqV h3))];exact h3
   ·rw[h] at hk;simp[nk] at hk
  ·intro b nm2 hb2;rcases upK b nm2 hb2 with h|h
   ·exact Nat.le_trans (E.fhs b nm2 h) hb.size
   ·rw[h];exact Nat.zero_le _
  ·intro b nm2 hb2 k of v hk;rcases upK b nm2 hb2 with h|h
   ·exact E.org b nm2 h k of v hk
   ·rw[h] at hk;simp[nk] at hk
  ·intro b U nm2 hU hnm hbr hnon k of hf hk;rcases live b U hU with⟨rfl,rfl⟩|⟨hne,hU⟩
   ·rw[self] at hnm;obtain rfl:=oI hnm;cases hnon
   ·rw[other b hne] at hnm;refine E.away b U nm2 hU hnm hbr hnon k of ?_ hk;rcases hf with hf|⟨b',nm',v,hb',hv⟩
    ·exact .inl hf
    ·rcases upK b' nm' hb' with h|h
     ·exact .inr ⟨b',nm',v,h,hv⟩
     ·rw[h] at hv;simp[nk] at hv
  ·intro b U nm2 hU hnm hbr;rcases live b U hU with⟨rfl,rfl⟩|⟨hne,hU⟩
   ·rw[self] at hnm;rw[← oI hnm];rfl
   ·rw[other b hne] at hnm;exact E.nas b U nm2 hU hnm hbr
  ·intro b s' p' hU;rcases live b _ hU with⟨rfl,hq⟩|⟨hne,hU⟩
   ·simp only[AV.itr.injEq] at hq;obtain⟨rfl,rfl⟩:=hq;exact⟨nm,self,World.iter_heap w s' 0,.inl S.below.size⟩
   ·obtain⟨nm2,g1,g2,g3⟩:=E.its b s' p' hU;exact⟨nm2,by rw[other b hne];exact g1,by rw[hb.block _ (lt g2)];exact g2,g3⟩
  ·intro b s' p' nm2 hU hnm b' U' nm' hU' hnm' hro' hnon;rcases live b' U' hU' with⟨rfl,rfl⟩|⟨hne',hU2⟩
   ·rw[self] at hnm';obtain rfl:=oI hnm';cases hnon
   ·rw[other b' hne'] at hnm';rcases live b _ hU with⟨rfl,hq⟩|⟨hne,hU⟩
    ·rw[self] at hnm;obtain rfl:=oI hnm;obtain⟨nm3,g1,-,-,g4,-⟩:=S.cell b' U' hU2;rw[hnm'] at g1;obtain rfl:=oI g1;rcases g4 with⟨-,g4⟩|⟨g4,-⟩
     ·simp only[nm];omega
     ·rw[hnon] at g4;cases g4
    ·rw[other b hne] at hnm;exact E.ita b s' p' nm2 hU hnm b' U' nm' hU2 hnm' hro' hnon
  ·intro b b' s1 s2 p1 p2 n1 n2 hU hU' e1 e2 hne;have blkI:∀ b s p nm2,lk b st.mem=some (.itr s p)→ρ b=some nm2→nm2.blk<w.heap.size:=by
    intro b s p nm2 hb2 hn2;obtain⟨nm3,g1,g2,-⟩:=E.its b s p hb2;rw[hn2] at g1;obtain rfl:=oI g1;exact lt g2
   rcases live b _ hU with⟨rfl,hq⟩|⟨k1,hU1⟩<;>rcases live b' _ hU' with⟨rfl,hq'⟩|⟨k2,hU2⟩
   ·exact absurd rfl hne
   ·rw[self] at e1;obtain rfl:=oI e1;rw[other b' k2] at e2;have:=blkI b' s2 p2 n2 hU2 e2;simp only[nm];omega
   ·rw[self] at e2;obtain rfl:=oI e2;rw[other b k1] at e1;have:=blkI b s1 p1 n1 hU1 e1;simp only[nm];omega
   ·rw[other b k1] at e1;rw[other b' k2] at e2;exact E.itd b b' s1 s2 p1 p2 n1 n2 hU1 hU2 e1 e2 hne
theorem next_ok{P:Program}{cx:Cx}{w0:Base}{o:Oper}{st:St}{x:Operand}{b:Nat}(ho:o.op= .next x true)(hx:evO cx.gl st.tm x=some (.itp b)):OpW P cx w0 o st (nextI b):=by
 intro nx v mem' nx' h ρ a w S hgl hfr;simp only[nextI] at h;obtain⟨h1,-⟩:=Zay S hgl hx;split at h
 ·rename_i s p hT;have E:=S.ex;obtain⟨nm,hb,hblk,hown⟩:=E.its b s p hT;obtain⟨nm',hb',hN,okT,-⟩:=S.cell b _ hT;rw[hb] at hb';obtain rfl:=oI hb';simp only[OK] at okT;have hnn:nm.non=true∧nm.row=true:=by
   unfold HasN at hN;split at hN
   ·rename_i hr;exact⟨hN.2,hr⟩
   ·simp[Has] at hN
  have lt:nm.blk<w.heap.size:=(Array.getElem?_eq_some_iff.1 hblk).1;have hv:a.eval x= .pointer (some ⟨nm.blk,0,none⟩):=by rw[h1];simp[den,hb]
  have S0:Sim P w0 cx.ro ρ [] st.mem #[] w:=⟨fun d v h=>by simp[lk] at h,S.cell,S.own,S.apart,S.rows,S.below,S.ex⟩;cases hq:Nat.blt p s.size with
  |false=>
   rw[hq] at h;simp only[cond_false,oE,pE] at h;obtain⟨rfl,rfl,rfl⟩:=h;have hlt:¬ p<s.size:=by
    intro hh;have:Nat.blt p s.size=true:=by simpa using hh
    rw[hq] at this;cases this
   refine⟨w,ρ,?_,⟨trivial,trivial⟩,S0,Ext.refl ρ,hfr⟩;simp[execOp,ho,hv,Instr.next,getObj,Sem.run,hblk,hlt,den,denT]
  |true=>
   rw[hq] at h;simp only[cond_true,oE,pE] at h;obtain⟨rfl,rfl,rfl⟩:=h;have hlt:p<s.size:=by simpa using hq
   let w':World:={w with heap:=w.heap.setIfInBounds nm.blk (.stringIter s (p+(Utf8.decode s p).2))}
   have hself:w'.heap[nm.blk]? =some (.stringIter s (p+(Utf8.decode s p).2)):=by simp[w',lt]
   have hother:∀ k,k≠nm.blk→w'.heap[k]? =w.heap[k]? :=by
    intro k hk;simp only[w'];rw[Array.getElem?_setIfInBounds_ne (fun h=>hk h.symm)]
   have hsz:w'.heap.size=w.heap.size:=by simp[w']
   have live:∀ c U,lk c ((b,AV.itr s (p+(Utf8.decode s p).2))::st.mem)=some U→(c=b∧U= .itr s (p+(Utf8.decode s p).2))∨(c≠b∧lk c st.mem=some U):=by
    intro c U h;by_cases hcb:b=c
    ·subst hcb;rw[Zal] at h;exact .inl ⟨rfl,(oI h).symm⟩
    ·rw[Zan hcb] at h;exact .inr ⟨fun hh=>hcb hh.symm,h⟩
   
   have cellB:∀ k of u,w.cell? ⟨k,of,none⟩=some u→k≠nm.blk:=by
    intro k of u hc hk;rw[hk] at hc;simp[World.cell?,hblk] at hc
   have keep:∀ k of u,w.cell? ⟨k,of,none⟩=some u→w'.cell? ⟨k,of,none⟩=some u:=by
    intro k of u hc;rw[World.cell?_of_block (hother k (cellB k of u hc))];exact hc
   have frz:∀ k of,w'.frozen? ⟨k,of,none⟩=w.frozen? ⟨k,of,none⟩:=by
    intro k of;by_cases hk:k=nm.blk
    ·subst hk;simp[World.frozen?,hself,hblk]
    ·exact World.frozen?_of_block (hother k hk)
   refine⟨w',ρ,?_,?_,⟨fun d v h=>by simp[lk] at h,?_,?_,?_,?_,?_,?_⟩,Ext.refl ρ,hfr⟩
   ·simp[execOp,ho,hv,Instr.next,getObj,setObj,Sem.run,hblk,hlt,den,denT,goInt,w']
   ·simp only[OK,OKL];have:=ZGn s p;have e1:IntKind.i64.min= -9223372036854775808:=by decide
    have e2:IntKind.i64.max=9223372036854775807:=by decide
    have e3:IntKind.i32.min= -2147483648:=by decide
    have e4:IntKind.i32.max=2147483647:=by decide
    rw[e1,e2,e3,e4];exact⟨trivial,by omega,by omega,trivial⟩
   ·intro c U hU;rcases live c U hU with⟨rfl,rfl⟩|⟨hne,hU⟩
    ·refine⟨nm,hb,?_,okT,.inr ⟨hnn.1,by simp[cells,den,Value.cells]⟩,fun j x hx=>by simp[cells,den,Value.cells] at hx⟩;simp only[HasN,hnn.2,if_true] at hN ⊢;exact hN
    ·obtain⟨nm2,k1,k2,k3,k4,k5⟩:=S.cell c U hU;exact⟨nm2,k1,k2,k3,Liv.size k4 (by rw[hsz];exact Nat.le_refl _),fun j x hx=>keep _ _ _ (k5 j x hx)⟩
   ·intro c U nm2 hU hnm hbr;rcases live c U hU with⟨rfl,rfl⟩|⟨hne,hU⟩
    ·rw[hb] at hnm;obtain rfl:=oI hnm;exact⟨fun _=>hown,fun j hj=>by simp[cells,den,Value.cells] at hj⟩
    ·obtain⟨k1,k2⟩:=S.own c U nm2 hU hnm hbr;exact⟨k1,fun j hj=>by rw[frz];exact k2 j hj⟩
   ·intro c c' U U' n1 n2 hU hU' e1 e2 hbr hne z1 z2;have get:∀ c U,lk c ((b,AV.itr s (p+(Utf8.decode s p).2))::st.mem)=some U→∃ V,lk c st.mem=some V:=by
     intro c U h;rcases live c U h with⟨rfl,rfl⟩|⟨_,h⟩
     ·exact⟨_,hT⟩
     ·exact⟨U,h⟩
    obtain⟨V,hV⟩:=get c U hU;obtain⟨V',hV'⟩:=get c' U' hU';exact S.apart c c' V V' n1 n2 hV hV' e1 e2 hbr hne z1 z2
   ·intro c U nm2 hU hnm hbr hr;rcases live c U hU with⟨rfl,rfl⟩|⟨hne,hU⟩
    ·rw[hb] at hnm;obtain rfl:=oI hnm;exact .inl hnn.1
    ·rcases S.rows c U nm2 hU hnm hbr hr with h|h
     ·exact .inl h
     ·refine .inr (h.same (hother _ ?_));obtain⟨-,-,-,cur,h4,-⟩:=h;intro hk;rw[hk,hblk] at h4;cases h4
   ·exact S.below.step rfl rfl rfl (by rw[hsz];exact Nat.le_refl _) (fun k _ hn=>hother k (fun h=>hn (h▸hown))) (fun k of v _ hv=>keep _ _ _ hv)
   ·refine⟨?_,?_,E.org,?_,?_,?_,?_,?_⟩
    ·intro c nm2 hc k of u hk;exact keep _ _ _ (E.froz c nm2 hc k of u hk)
    ·intro c nm2 hc;rw[hsz];exact E.fhs c nm2 hc
    ·intro c U nm2 hU hnm hbr hnon k of hf hk;rcases live c U hU with⟨rfl,rfl⟩|⟨hne,hU⟩
     ·rw[hb] at hnm;obtain rfl:=oI hnm;rw[hnn.1] at hnon;cases hnon
     ·exact E.away c U nm2 hU hnm hbr hnon k of hf hk
    ·intro c U nm2 hU hnm hbr;rcases live c U hU with⟨rfl,rfl⟩|⟨hne,hU⟩
     ·exact E.nas c _ nm2 hT hnm hbr
     ·exact E.nas c U nm2 hU hnm hbr
    ·intro c s' p' hU;rcases live c _ hU with⟨rfl,hq⟩|⟨hne,hU⟩
     ·simp only[AV.itr.injEq] at hq;obtain⟨rfl,rfl⟩:=hq;exact⟨nm,hb,hself,hown⟩
     ·obtain⟨nm2,g1,g2,g3⟩:=E.its c s' p' hU;refine⟨nm2,g1,?_,g3⟩;rw[hother _ (E.itd c b s' s p' p nm2 nm hU hT g1 hb hne)];exact g2
    ·intro c s' p' nm2 hU hnm c' U' nm' hU' hnm' hro' hnon;have getI:∃ s0 p0,lk c st.mem=some (.itr s0 p0):=by
      rcases live c _ hU with⟨rfl,-⟩|⟨-,h⟩
      ·exact⟨_,_,hT⟩
      ·exact⟨_,_,h⟩
     obtain⟨s0,p0,hI⟩:=getI;rcases live c' U' hU' with⟨rfl,rfl⟩|⟨hne',hU'⟩
     ·rw[hb] at hnm';obtain rfl:=oI hnm';rw[hnn.1] at hnon;cases hnon
     ·exact E.ita c s0 p0 nm2 hI hnm c' U' nm' hU' hnm' hro' hnon
    ·intro c c' s1 s2 p1 p2 n1 n2 hU hU' e1 e2 hne;have getI:∀ c s1 p1,lk c ((b,AV.itr s (p+(Utf8.decode s p).2))::st.mem)=some (.itr s1 p1)→∃ s0 p0,lk c st.mem=some (.itr s0 p0):=by
      intro c s1 p1 h;rcases live c _ h with⟨rfl,-⟩|⟨-,h⟩
      ·exact⟨_,_,hT⟩
      ·exact⟨_,_,h⟩
     obtain⟨a1,a2,hI⟩:=getI c s1 p1 hU;obtain⟨a3,a4,hI'⟩:=getI c' s2 p2 hU';exact E.itd c c' a1 a3 a2 a4 n1 n2 hI hI' e1 e2 hne
 ·cases h
theorem ZA0{P:Program}{ρ:Rho}{te:TypeId}{T U V:AV}(h:copyT T U=some V)(hT:RowSh P te T)(hU:RowSh P te U)(oT:OK P ρ T)(oU:OK P ρ U):
  RowSh P te V∧OK P ρ V∧rowN V=rowN T∧(∀ s p,V≠ .itr s p)∧cells P ρ V=(cells P ρ U).take (min (rowN U) (rowN T)*P.cellsOf te)++(cells P ρ T).drop (min (rowN U) (rowN T)*P.cellsOf te):=by
 unfold copyT at h;split at h
 ·rename_i q n l q' m u;obtain⟨hk,h⟩:=Zac h;obtain rfl:=oI h;obtain rfl:=ZmU hk;simp only[OK] at oT oU;obtain⟨t1,t2⟩:=hT;refine⟨⟨t1,t2⟩,?_,rfl,(fun _ _ e=>by cases e),?_⟩
  ·simp only[OK];refine⟨by simp;omega,fun x hx=>?_⟩;rcases List.mem_append.1 hx with h|h
   ·exact oU.2 x (List.mem_of_mem_take h)
   ·exact oT.2 x (List.mem_of_mem_drop h)
  ·rw[ZaZ,ZaZ,ZaZ,t2,Nat.mul_one,← List.map_take,← List.map_drop,← List.map_append];simp only[rowN]
   congr 2
   ·rcases Nat.le_total m n with h|h
    ·rw[Nat.min_eq_left h,List.take_of_length_le (by omega),List.take_of_length_le (by omega)]
    ·rw[Nat.min_eq_right h]
   ·rcases Nat.le_total m n with h|h
    ·rw[Nat.min_eq_left h]
    ·rw[Nat.min_eq_right h,List.drop_of_length_le (by omega),List.drop_of_length_le (by omega)]
 ·rename_i c l c' u;split at h
  ·rename_i hs;have e:=Tc.same_eq c' c hs;subst e;obtain rfl:=oI h;simp only[OK] at oT oU;have hT':c'.fit P te=true:=hT;have tk:∀ (z:List c'.T),(∀ x∈z,c'.ok x)→∀ n,(z.take n).flatMap c'.cs=(z.flatMap c'.cs).take (n*P.cellsOf te)∧(z.drop n).flatMap c'.cs=(z.flatMap c'.cs).drop (n*P.cellsOf te):=by
    intro z
    induction z with
    |nil=>intro _ n;simp
    |cons x z ih=>
     intro hz n;have hx:=ZvV P hT' (hz x (by simp));cases n with
     |zero=>simp
     |succ n=>
      obtain⟨i1,i2⟩:=ih (fun y hy=>hz y (by simp[hy])) n;rw[List.take_succ_cons,List.drop_succ_cons,List.flatMap_cons,List.flatMap_cons,i1,i2,Nat.succ_mul,Nat.add_comm (n*_) _];generalize n*P.cellsOf te=q;have e1:(c'.cs x++z.flatMap c'.cs).take (P.cellsOf te+q)=c'.cs x++(z.flatMap c'.cs).take q:=by rw[← hx,List.take_length_add_append]
      have e2:(c'.cs x++z.flatMap c'.cs).drop (P.cellsOf te+q)=(z.flatMap c'.cs).drop q:=by rw[← hx,List.drop_length_add_append]
      exact⟨e1.symm,e2.symm⟩
   show RowSh P te (.vec c' (u.take l.length++l.drop u.length))∧OK P ρ (.vec c' (u.take l.length++l.drop u.length))∧rowN (.vec c' (u.take l.length++l.drop u.length))=rowN (.vec c' l)∧(∀ s p,AV.vec c' (u.take l.length++l.drop u.length)≠ .itr s p)∧cells P ρ (.vec c' (u.take l.length++l.drop u.length))=_;refine⟨hT,?_,by simp[rowN];omega,(fun _ _ e=>by cases e),?_⟩
   ·simp only[OK];intro x hx;rcases List.mem_append.1 hx with h|h
    ·exact oU x (List.mem_of_mem_take h)
    ·exact oT x (List.mem_of_mem_drop h)
   ·rw[ZcD,ZcD,ZcD,List.flatMap_append];simp only[rowN];have hu:=Zzj P hT' oU;have hl:=Zzj P hT' oT;rw[(tk u oU l.length).1,(tk l oT u.length).2]
    congr 1
    ·rcases Nat.le_total u.length l.length with h|h
     ·rw[Nat.min_eq_left h,List.take_of_length_le (by rw[hu];exact Nat.mul_le_mul_right _ h),List.take_of_length_le (by rw[hu];exact Nat.le_refl _)]
     ·rw[Nat.min_eq_right h]
    ·rcases Nat.le_total u.length l.length with h|h
     ·rw[Nat.min_eq_left h]
     ·rw[Nat.min_eq_right h,List.drop_of_length_le (by rw[hl];exact Nat.mul_le_mul_right _ h),List.drop_of_length_le (by rw[hl];exact Nat.le_refl _)]
  ·cases h
 ·cases h
theorem copy_ok{P:Program}{cx:Cx}{w0:Base}{o:Oper}{st:St}{c:Call}{t t' e e':TypeId}{b n:Nat}{y:AV}(ho:o.op= .call c)(hcal:c.callee= .builtin .copy)(hx:evL (evO cx.gl st.tm) c.args.toList=some [.gs b n e,y])(hty:c.argTypes.toList=[t,t'])
  (hu:P.underlying t=some (.slice e)) (_hu':P.underlying t'=some (.slice e')) (hrt:rowTy P e=true):OpW P cx w0 o st (copyI cx.ro (.gs b n e) y):=by
 intro nx v mem' nx' h ρ a w S hgl hfr;rw[ZCO] at h;simp only[copyR] at h;obtain⟨h1,h2⟩:=ZeB S hgl hx;simp only[OKL,and_true] at h2;obtain⟨okx,oky⟩:=h2;have hargs:c.args.map a.eval= #[den P ρ (.gs b n e),den P ρ y]:=by
  rw[← Array.toArray_toList (xs:=c.args.map a.eval),Array.toList_map,h1];simp[denT]
 have hty':c.argTypes= #[t,t']:=by rw[← Array.toArray_toList (xs:=c.argTypes),hty]
 split at h
 ·rename_i r hr;obtain⟨U,te⟩:=r;replace h:=Zac h;obtain⟨hc,h⟩:=h;simp only[bA] at hc;have hro':=Nat.le_of_ble_eq_true hc.2;have hte:=Zaj hc.1;simp only at hte h;subst hte;split at h
  ·rename_i T hT;split at h
   ·rename_i V hV;simp only[oE,pE] at h;obtain⟨rfl,rfl,rfl⟩:=h;obtain⟨shU,okU,plU,hmaxU,hyv⟩:=Zye S (get:=fun b=>lk b st.mem) (fun _ _ h=>h) hr oky;have hT':lk b st.mem=some T:=hT;obtain⟨nm,hb,hN,okT,hs,hcell⟩:=S.cell b T hT';have okx0:=okx;simp only[OK] at okx;obtain⟨nm',hb',hrw,ht',hn',hle,hnon,hmx⟩:=okx;rw[hb] at hb';obtain rfl:=oI hb';have shT:RowSh P nm.ty T∧rowN T=nm.cap:=by
     refine Zun hN hrw ⟨fun n f q=>?_,fun s p q=>?_,?_⟩
     ·subst q;simp[copyT] at hV
     ·subst q;simp[copyT] at hV
     ·cases T<;>first|rfl|simp[copyT] at hV
    rw[ht'] at shT;obtain⟨shV,okV,hrV,hnI,hcV⟩:=ZA0 hV shT.1 shU okT okU;have lenU:=ZjH shU okU;have lenT:=ZjH shT.1 okT;obtain⟨i,hi⟩:∃ i,P.info? e=some i:=by
     unfold rowTy at hrt;split at hrt
     ·rename_i i hi;exact⟨i,hi⟩
     ·cases hrt
    have hsz:P.cellsOf e=i.size:=by simp[Program.cellsOf,hi]
    let k:=min (rowN U) (rowN T)
    let xs:=(cells P ρ U).take (k*P.cellsOf e)
    have hxl:xs.length=k*P.cellsOf e:=by
     simp only[xs,List.length_take,lenU];exact Nat.min_eq_left (Nat.mul_le_mul_right _ (Nat.min_le_left _ _))
    have hkT:k≤rowN T:=Nat.min_le_right _ _;have hkU:k≤rowN U:=Nat.min_le_left _ _;have hkz:((k:Nat):Int)≤9223372036854775807:=by omega
    have okV0:OK P ρ (.int .i64 ((k:Nat):Int)):=by
     simp only[OK];have e1:IntKind.i64.min= -9223372036854775808:=by decide
     have e2:IntKind.i64.max=9223372036854775807:=by decide
     rw[e1,e2];omega
    
    have hA:After P cx.ro ρ st.mem w nx (.upd b V) undef ρ (w.setCells nm.blk (nm.off+([]:List Value).length) xs):=by
     refine .upd b V T nm [] ((cells P ρ T).take (k*P.cellsOf e)) ((cells P ρ T).drop (k*P.cellsOf e)) xs hro' hb hT' ⟨hnI,(by cases T<;>first|rfl|simp[RowSh] at shT),(by cases V<;>first|rfl|simp[RowSh] at shV)⟩ (ZBG hrw (by rw[ht'];exact shV) (by rw[hrV];exact shT.2)) okV (by simp) hcV ?_;rw[hxl,List.length_take,lenT];exact(Nat.min_eq_left (Nat.mul_le_mul_right _ hkT)).symm
    have S0:Sim P w0 cx.ro ρ [] st.mem #[] w:=⟨fun d v h=>by simp[lk] at h,S.cell,S.own,S.apart,S.rows,S.below,S.ex⟩;obtain⟨S1,-,-⟩:=ZDG (st:={tm:=[],mem:=st.mem,nx:=nx}) (a:={tmps:= #[],defers:=[]}) (i:=0) (d:=none) S0 (by rw[Nat.add_zero];exact hfr nx (Nat.le_refl _)) (fun _ h=>by cases h) hA;refine⟨w.setCells nm.blk nm.off xs,ρ,?_,okV0,S1,Ext.refl ρ,hfr⟩;have hfc:(Builtin.firstCells (P.cellsOf e) k (den P ρ y)).run P w= .ok xs.toArray w:=by
     rcases hyv with⟨z,e1,e2,e3⟩|⟨ub,uo,uq,e1,-,-,-,e4⟩
     ·rw[e1];cases z with
      |none=>simp[Builtin.firstCells,xs,e3]
      |some ad=>
       have hk0:k=0:=by omega
       have:=run_loadCells_list (P:=P) (w:=w) ad [] (fun j z hz=>by simp at hz);simpa [Builtin.firstCells,xs,e3,hk0] using this
     ·rw[e1];have:=run_loadCells_list (P:=P) (w:=w) ⟨ub,uo,none⟩ xs (fun j z hz=>by
       rw[ZbG];refine e4 j z ?_;simp only[xs] at hz;rw[List.getElem?_take] at hz;split at hz
       ·exact hz
       ·cases hz)
      rw[hxl] at this;simpa [Builtin.firstCells] using this
    have hlo:(Builtin.lenOf (den P ρ y)).run P w= .ok (rowN U) w:=by
     rcases hyv with⟨z,e1,e2,-⟩|⟨ub,uo,uq,e1,-⟩
     ·rw[e1,e2];cases z<;>rfl
     ·rw[e1];rfl
    have hnT:rowN T=n:=by omega
    have hmin:Nat.min (rowN U) n=k:=by show min (rowN U) n=min (rowN U) (rowN T);rw[hnT]
    have hso:(sizeOf e).run P w= .ok (P.cellsOf e) w:=by simp[sizeOf,typeInfo,hi,hsz]
    have hcopy:(Builtin.copy_ #[t,t'] o.type #[den P ρ (.gs b n e),den P ρ y]).run P w= .ok (.int .i64 (k:Int)) (w.setCells nm.blk nm.off xs):=by
     cases hq:nm.non with
     |true=>
      have hn0:=hnon hq;have hk0:k=0:=by omega
      have hx0:xs=[]:=List.eq_nil_of_length_eq_zero (by rw[hxl,hk0,Nat.zero_mul]);have hd:den P ρ (.gs b n e)= .slice none 0 0:=by simp[den,hb,gsV,hq,S.ex.nas b T nm hT' hb hro']
      rw[hn0] at hmin;rw[hd,hx0];rw[hk0] at hfc;simp[Builtin.copy_,run_underlying hu,hlo,hso,hfc,goInt,hk0,hmin,hx0,World.setCells]
     |false=>
      have hd:den P ρ (.gs b n e)= .slice (some ⟨nm.blk,nm.off,none⟩) n nm.tot:=by simp[den,hb,gsV,hq]
      have hst:=run_storeCells_cells (P:=P) nm.blk nm.off xs 0 w (fun j hj=>by
       rw[Nat.add_zero];have hj':j<(cells P ρ T).length:=by rw[lenT];exact Nat.lt_of_lt_of_le (by rw[hxl] at hj;exact hj) (Nat.mul_le_mul_right _ hkT)
       rw[hcell j _ (List.getElem?_eq_getElem hj')];rfl) (fun j hj=>by
       rw[Nat.add_zero];refine(S.own b T nm hT' hb hro').2 j ?_;rw[lenT];exact Nat.lt_of_lt_of_le (by rw[hxl] at hj;exact hj) (Nat.mul_le_mul_right _ hkT)) (fun z hz=>Zxf shU z (List.mem_of_mem_take hz))
      simp only[Nat.add_zero] at hst;rw[hd];simp[Builtin.copy_,run_underlying hu,hlo,hso,hmin,hfc,hst,goInt]
    have hd9:den P ρ (.int .i64 ((k:Nat):Int))= .int .i64 (k:Int):=by simp[den]
    show (execOp a.eval o).run P w= .ok (.value (den P ρ (.int .i64 ((k:Nat):Int)))) _;rw[hd9];simp[execOp,ho,resolve,hcal,invoke,builtin,hargs,hty',hcopy]
   ·cases h
  ·cases h
 ·cases h
theorem ZHP{P:Program}{cx:Cx}{w0:Base}{o:Oper}{st:St}{c:Call}{t t' e e':TypeId}{b off n cap:Nat}{p:List Nat}{y:AV}(ho:o.op= .call c)(hcal:c.callee= .builtin .copy)(hx:evL (evO cx.gl st.tm) c.args.toList=some [.sl b p off n cap e,y])(hty:c.argTypes.toList=[t,t'])
  (hu:P.underlying t=some (.slice e)) (_hu':P.underlying t'=some (.slice e')) (hrt:rowTy P e=true):OpW P cx w0 o st (copyI cx.ro (.sl b p off n cap e) y):=by
 intro nx v mem' nx' h ρ a w S hgl hfr;rw[ZCO] at h;simp only[copyR] at h;obtain⟨h1,h2⟩:=ZeB S hgl hx;simp only[OKL,and_true] at h2;obtain⟨okx,oky⟩:=h2;have hargs:c.args.map a.eval= #[den P ρ (.sl b p off n cap e),den P ρ y]:=by
  rw[← Array.toArray_toList (xs:=c.args.map a.eval),Array.toList_map,h1];simp[denT]
 have hty':c.argTypes= #[t,t']:=by rw[← Array.toArray_toList (xs:=c.argTypes),hty]
 split at h
 ·rename_i r hr;obtain⟨U,te⟩:=r;split at h
  ·replace h:=Zac h;obtain⟨hc,h⟩:=h;simp only[bA] at hc;have hro':=Nat.le_of_ble_eq_true hc.1.2;have hte:=Zaj hc.1.1;have hoff:=Zaj hc.2;simp only at hte h;subst hte;subst hoff;split at h
   ·rename_i q m l hT;replace h:=Zac h;obtain⟨hmn,h⟩:=h;have hmn:=Zaj hmn;subst hmn;split at h
    ·rename_i V hV;simp only[oE,pE] at h;obtain⟨rfl,rfl,rfl⟩:=h;obtain⟨shU,okU,plU,hmaxU,hyv⟩:=Zye S (get:=fun b=>lk b st.mem) (fun _ _ h=>h) hr oky;have hT':lk b st.mem=some (.ints q m l):=hT;obtain⟨nm,hb,hN,okT,hs,hcell⟩:=S.cell b (.ints q m l) hT';simp only[OK] at okx;obtain⟨nm',o0,n0,hb',hbase,hoc,hle,hmx⟩:=okx;rw[hb] at hb';obtain rfl:=oI hb';obtain⟨z1,z2,z3,z4,z5,-⟩:=Zxg S hT' hb hbase (show getP (.ints q m l) []=some (.ints q m l) from rfl);have ho0:o0=0:=by
      unfold baseN at hbase;split at hbase
      ·simp at hbase;exact hbase.1.symm
      ·simp only[pathT] at hbase;split at hbase
       ·simp at hbase;exact hbase.1.symm
       ·cases hbase
     subst ho0;have shT:RowSh P e (.ints q m l)∧rowN (.ints q m l)=m:=⟨⟨z4,z5⟩,rfl⟩;have hVi:∃ l',V= .ints q m l':=by
      unfold copyT at hV;split at hV
      ·rename_i q1 n1 l1 q2 m2 u2 he;obtain⟨-,hV⟩:=Zac hV;cases he;exact⟨_,(oI hV).symm⟩
      ·rename_i he;cases he
      ·cases hV
     obtain⟨l',rfl⟩:=hVi;have hNV:HasN P nm (.ints q m l'):=by
      unfold HasN at hN ⊢;split at hN
      ·rename_i hrw;rw[if_pos hrw];exact hN
      ·rename_i hrw;rw[if_neg hrw];exact hN
     obtain⟨shV,okV,hrV,hnI,hcV⟩:=ZA0 hV shT.1 shU okT okU;have lenU:=ZjH shU okU;have lenT:=ZjH shT.1 okT;obtain⟨i,hi⟩:∃ i,P.info? e=some i:=by
      unfold rowTy at hrt;split at hrt
      ·rename_i i hi;exact⟨i,hi⟩
      ·cases hrt
     have hsz:P.cellsOf e=i.size:=by simp[Program.cellsOf,hi]
     let k:=min (rowN U) (rowN (.ints q m l))
     let xs:=(cells P ρ U).take (k*P.cellsOf e)
     have hxl:xs.length=k*P.cellsOf e:=by
      simp only[xs,List.length_take,lenU];exact Nat.min_eq_left (Nat.mul_le_mul_right _ (Nat.min_le_left _ _))
     have hkT:k≤rowN (.ints q m l):=Nat.min_le_right _ _;have hkU:k≤rowN U:=Nat.min_le_left _ _;have hkz:((k:Nat):Int)≤9223372036854775807:=by omega
     have okV0:OK P ρ (.int .i64 ((k:Nat):Int)):=by
      simp only[OK];have e1:IntKind.i64.min= -9223372036854775808:=by decide
      have e2:IntKind.i64.max=9223372036854775807:=by decide
      rw[e1,e2];omega
     
     have hA:After P cx.ro ρ st.mem w nx (.upd b (.ints q m l')) undef ρ (w.setCells nm.blk (nm.off+([]:List Value).length) xs):=by
      refine .upd b (.ints q m l') (.ints q m l) nm [] ((cells P ρ (.ints q m l)).take (k*P.cellsOf e)) ((cells P ρ (.ints q m l)).drop (k*P.cellsOf e)) xs hro' hb hT' ⟨hnI,rfl,rfl⟩ hNV okV (by simp) hcV ?_;rw[hxl,List.length_take,lenT];exact(Nat.min_eq_left (Nat.mul_le_mul_right _ hkT)).symm
     have S0:Sim P w0 cx.ro ρ [] st.mem #[] w:=⟨fun d v h=>by simp[lk] at h,S.cell,S.own,S.apart,S.rows,S.below,S.ex⟩;obtain⟨S1,-,-⟩:=ZDG (st:={tm:=[],mem:=st.mem,nx:=nx}) (a:={tmps:= #[],defers:=[]}) (i:=0) (d:=none) S0 (by rw[Nat.add_zero];exact hfr nx (Nat.le_refl _)) (fun _ h=>by cases h) hA;refine⟨w.setCells nm.blk nm.off xs,ρ,?_,okV0,S1,Ext.refl ρ,hfr⟩;have hfc:(Builtin.firstCells (P.cellsOf e) k (den P ρ y)).run P w= .ok xs.toArray w:=by
      rcases hyv with⟨z,e1,e2,e3⟩|⟨ub,uo,uq,e1,-,-,-,e4⟩
      ·rw[e1];cases z with
       |none=>simp[Builtin.firstCells,xs,e3]
       |some ad=>
        have hk0:k=0:=by omega
        have:=run_loadCells_list (P:=P) (w:=w) ad [] (fun j z hz=>by simp at hz);simpa [Builtin.firstCells,xs,e3,hk0] using this
      ·rw[e1];have:=run_loadCells_list (P:=P) (w:=w) ⟨ub,uo,none⟩ xs (fun j z hz=>by
        rw[ZbG];refine e4 j z ?_;simp only[xs] at hz;rw[List.getElem?_take] at hz;split at hz
        ·exact hz
        ·cases hz)
       rw[hxl] at this;simpa [Builtin.firstCells] using this
     have hlo:(Builtin.lenOf (den P ρ y)).run P w= .ok (rowN U) w:=by
      rcases hyv with⟨z,e1,e2,-⟩|⟨ub,uo,uq,e1,-⟩
      ·rw[e1,e2];cases z<;>rfl
      ·rw[e1];rfl
     have hmin:Nat.min (rowN U) m=k:=rfl;have hso:(sizeOf e).run P w= .ok (P.cellsOf e) w:=by simp[sizeOf,typeInfo,hi,hsz]
     have hcopy:(Builtin.copy_ #[t,t'] o.type #[den P ρ (.sl b [] 0 m cap e),den P ρ y]).run P w= .ok (.int .i64 (k:Int)) (w.setCells nm.blk nm.off xs):=by
      have hd:den P ρ (.sl b [] 0 m cap e)= .slice (some ⟨nm.blk,nm.off,none⟩) m cap:=by
       rw[Zqv hb hbase];simp
      have hst:=run_storeCells_cells (P:=P) nm.blk nm.off xs 0 w (fun j hj=>by
       rw[Nat.add_zero];have hj':j<(cells P ρ (.ints q m l)).length:=by rw[lenT];exact Nat.lt_of_lt_of_le (by rw[hxl] at hj;exact hj) (Nat.mul_le_mul_right _ hkT)
       rw[hcell j _ (List.getElem?_eq_getElem hj')];rfl) (fun j hj=>by
       rw[Nat.add_zero];refine(S.own b (.ints q m l) nm hT' hb hro').2 j ?_;rw[lenT];exact Nat.lt_of_lt_of_le (by rw[hxl] at hj;exact hj) (Nat.mul_le_mul_right _ hkT)) (fun z hz=>Zxf shU z (List.mem_of_mem_take hz))
      simp only[Nat.add_zero] at hst;rw[hd];simp[Builtin.copy_,run_underlying hu,hlo,hso,hmin,hfc,hst,goInt]
     have hd9:den P ρ (.int .i64 ((k:Nat):Int))= .int .i64 (k:Int):=by simp[den]
     show (execOp a.eval o).run P w= .ok (.value (den P ρ (.int .i64 ((k:Nat):Int)))) _;rw[hd9];simp[execOp,ho,resolve,hcal,invoke,builtin,hargs,hty',hcopy]
    ·cases h
   ·cases h
  ·cases h
 ·cases h
theorem ZIU{P:Program}{cx:Cx}{w0:Base}{o:Oper}{st:St}{I:Inl}(h:wAt P cx o st=some I):OpW P cx w0 o st I:=by
 unfold wAt at h;split at h
 ·split at h
  ·obtain rfl:=oI h;exact ZHO ‹_› ‹_› ‹_›
  ·cases h
 ·split at h
  ·obtain rfl:=oI h;exact next_ok ‹_› ‹_›
  ·cases h
 ·split at h
  ·split at h
   ·split at h
    ·split at h
     ·rename_i e el hu hu' _ b n te hxx;cases hq:(Nat.beq e te&&rowTy P e) with
      |false=>rw[hq] at h;cases h
      |true=>
       rw[hq] at h;simp only[cond_true,oE] at h;simp only[bA] at hq;obtain rfl:=Zaj hq.1;subst h;exact copy_ok ‹_› ‹_› hxx ‹_› hu hu' hq.2
     ·rename_i e el hu hu' _ b p off n cap te hxx;cases hq:(Nat.beq e te&&rowTy P e) with
      |false=>rw[hq] at h;cases h
      |true=>
       rw[hq] at h;simp only[cond_true,oE] at h;simp only[bA] at hq;obtain rfl:=Zaj hq.1;subst h;exact ZHP ‹_› ‹_› hxx ‹_› hu hu' hq.2
     ·cases h
    ·cases h
   ·cases h
  ·cases h
 ·cases h
end Go.Vx
namespace Go.Vx
open Go Go.RowKit
def stepD(P:Program)(cx:Cx)(os:List (Option Nat))(ms:List Nat)(all:Array Oper)(p:Nat×Oper)(st:St):Option St:=
 match atG P cx all p.2 st with
 |some (I,vs)=>match I.foot vs st.mem (st.nx+all.size) with
  |some l=>cond (dOK cx.nt p.2.dst&&footOK all os ms p.1 l) (stepI all none p.2 I vs st some) none
  |none=>none
 |none=>runOps P cx (accD st.nx ms os) all none [p] st some
theorem Zo9(P:Program)(cx:Cx)(os:List (Option Nat))(ms:List Nat)(all:Array Oper)(p:Nat×Oper)(l:List (Nat×Oper))(st:St):
  runD P cx os ms all none (p::l) st some=(stepD P cx os ms all p st).bind fun s=>runD P cx os ms all none l s some:=by
 obtain⟨i,o⟩:=p;show (match atG P cx all o st with
  |some (I,vs)=>match I.foot vs st.mem (st.nx+all.size) with
   |some l'=>cond (dOK cx.nt o.dst&&footOK all os ms i l') (stepI all none o I vs st fun st'=>runD P cx os ms all none l st' some) none
   |none=>none
  |none=>runOps P cx (accD st.nx ms os) all none [(i,o)] st fun st'=>runD P cx os ms all none l st' some)=_
 unfold stepD;simp only;split
 ·split
  ·cases hc:dOK cx.nt o.dst&&footOK all os ms i _
   ·rfl
   ·simp only[cond_true];rw[Zlq];cases stepI all none o _ _ st some<;>rfl
  ·rfl
 ·rw[Zeh];cases runOps P cx (accD st.nx ms os) all none [(i,o)] st some<;>rfl
structure Same (s s':St):Prop where
 tm:∀ d,lk d s.tm=lk d s'.tm
 mem:s.mem=s'.mem
 nx:s.nx=s'.nx
theorem Same.refl(s:St):Same s s:=⟨fun _=>rfl,rfl,rfl⟩
theorem Same.symm{s s':St}(h:Same s s'):Same s' s:=⟨fun d=>(h.tm d).symm,h.mem.symm,h.nx.symm⟩
theorem Same.trans{a b c:St}(h:Same a b)(k:Same b c):Same a c:=⟨fun d=>(h.tm d).trans (k.tm d),h.mem.trans k.mem,h.nx.trans k.nx⟩
theorem Same.alike{s s':St}(h:Same s s'):Alike s s':=⟨h.tm,fun b=>by rw[h.mem],h.nx⟩
theorem Zuo{s s':St}(h:Same s s')(d:Option Nat)(v:AV):Same (s.put d v) (s'.put d v):=
 ⟨(ZmV h.alike d v).tm,by rw[Zea,Zea];exact h.mem,by rw[ZsW,ZsW];exact h.nx⟩
theorem Zr3{st:St}{d:Nat}{b:Bool}(h:lk d st.tm=some (.bool b)):Same st (st.know d b):=⟨(Zdg h).tm,rfl,rfl⟩
def Res1(o:Oper)(st:St)(v:AV)(m:List (Nat×AV))(n:Nat)(s:St):Prop:=Same s {st.put o.dst v with mem:=m,nx:=n}
def GA(all:Array Oper)(o:Oper)(st:St):Prop:=o.guard=none∨∃ j want d b,o.guard=some (j,want)∧(all[j]?).bind (·.dst)=some d∧lk d st.tm=some (.bool b)∧b=want
def GS(all:Array Oper)(o:Oper)(st:St):Prop:=∃ j want d,o.guard=some (j,want)∧(all[j]?).bind (·.dst)=some d∧((∃ b,lk d st.tm=some (.bool b)∧b≠want)∨lk d st.tm=some (.tup []))
def guardK(all:Array Oper)(o:Oper)(st:St)(act:St→Option St):Option St:=
 match o.guard with
 |none=>act st
 |some (j,want)=>match (all[j]?).bind (·.dst) with
  |none=>none
  |some d=>match lk d st.tm with
   |some (.bool b)=>match want with
    |true=>cond b (act (st.know d true)) (some ((st.know d false).put o.dst (.tup [])))
    |false=>cond b (some ((st.know d true).put o.dst (.tup []))) (act (st.know d false))
   |some (.tup [])=>some (st.put o.dst (.tup []))
   |_=>none
theorem ZzR{all:Array Oper}{o:Oper}{st s:St}{act:St→Option St}(h:guardK all o st act=some s):
  (GA all o st∧∃ st',Same st st'∧act st'=some s)∨(GS all o st∧Res1 o st (.tup []) st.mem st.nx s):=by
 have sk:∀ st',Same st st'→Res1 o st (.tup []) st.mem st.nx (st'.put o.dst (.tup [])):=fun st' hs=>
  ⟨(Zuo hs o.dst _).symm.tm,by rw[Zea];exact hs.mem.symm,by rw[ZsW];exact hs.nx.symm⟩
 unfold guardK at h;split at h
 ·rename_i hg;exact .inl ⟨.inl hg,st,Same.refl st,h⟩
 ·rename_i j want hg;split at h
  ·cases h
  ·rename_i d hj;split at h
   ·rename_i b hb;split at h
    ·cases b
     ·simp only[cond_false,oE] at h;subst h;exact .inr ⟨⟨j,true,d,hg,hj,.inl ⟨false,hb,by simp⟩⟩,sk _ (Zr3 hb)⟩
     ·exact .inl ⟨.inr ⟨j,true,d,true,hg,hj,hb,rfl⟩,_,Zr3 hb,h⟩
    ·cases b
     ·exact .inl ⟨.inr ⟨j,false,d,false,hg,hj,hb,rfl⟩,_,Zr3 hb,h⟩
     ·simp only[cond_true,oE] at h;subst h;exact .inr ⟨⟨j,false,d,hg,hj,.inl ⟨true,hb,by simp⟩⟩,sk _ (Zr3 hb)⟩
   ·rename_i hb;simp only[oE] at h;subst h;exact .inr ⟨⟨j,want,d,hg,hj,.inr hb⟩,sk _ (Same.refl st)⟩
   ·cases h
theorem ZCP{all:Array Oper}{o:Oper}{st:St}(act:St→Option St)(h:GA all o st):∃ st',Same st st'∧guardK all o st act=act st':=by
 rcases h with hg|⟨j,want,d,b,hg,hj,hb,rfl⟩
 ·exact⟨st,Same.refl st,by unfold guardK;rw[hg]⟩
 ·refine⟨st.know d b,Zr3 hb,?_⟩;unfold guardK;rw[hg];simp only[hj,hb];cases b<;>rfl
theorem ZA1{all:Array Oper}{o:Oper}{st:St}(act:St→Option St)(h:GS all o st):∃ s,guardK all o st act=some s∧Res1 o st (.tup []) st.mem st.nx s:=by
 have sk:∀ st',Same st st'→Res1 o st (.tup []) st.mem st.nx (st'.put o.dst (.tup [])):=fun st' hs=>
  ⟨(Zuo hs o.dst _).symm.tm,by rw[Zea];exact hs.mem.symm,by rw[ZsW];exact hs.nx.symm⟩
 obtain⟨j,want,d,hg,hj,hb⟩:=h;unfold guardK;rw[hg];simp only[hj];rcases hb with⟨b,hb,hne⟩|hb
 ·simp only[hb];cases b<;>cases want<;>simp at hne ⊢ <;>exact sk _ (Zr3 hb)
 ·simp only[hb];exact⟨_,rfl,sk _ (Same.refl st)⟩
def effV(e:Eff)(m:Nat):AV:=match e with
 | .val v=>v
 | .new _ _ _ _ g=>g m
 | .upd _ _=>.tup []
 | .grow _ _ g=>g m
def effM(e:Eff)(m:Nat)(mem:List (Nat×AV)):List (Nat×AV):=match e with
 | .val _=>mem
 | .new _ _ _ T _=>(m,T)::mem
 | .upd b T=>(b,T)::mem
 | .grow b T _=>(m,T)::del b mem
theorem ZGo{o:Oper}{st st':St}(hs:Same st st')(i:Nat)(e:Eff):Res1 o st (effV e (st.nx+i)) (effM e (st.nx+i) st.mem) st.nx (st'.app i o.dst e):=by
 cases e<;>simp only[St.app,effV,effM,Res1]<;>rw[hs.nx]<;>
  exact⟨(Zuo hs o.dst _).symm.tm,by simp only[Zea,hs.mem],by simp only[ZsW,hs.nx]⟩
inductive Out (P:Program) (cx:Cx) (os:List (Option Nat)) (ms:List Nat) (all:Array Oper) (p:Nat×Oper) (st:St):AV→List (Nat×AV)→Nat→Prop
 |skip:GS all p.2 st→(∀ I vs,atG P cx all p.2 st=some (I,vs)→∃ l,I.foot vs st.mem (st.nx+all.size)=some l∧footOK all os ms p.1 l=true)→Out P cx os ms all p st (.tup []) st.mem st.nx
 |op (e:Eff):GA all p.2 st→atG P cx all p.2 st=none→opK' P cx.Γ cx.ro p.2.op (evO cx.gl st.tm) (fun b=>cond (accD st.nx ms os p.1 b) (lk b st.mem) none) none some=some e→Out P cx os ms all p st (effV e (st.nx+p.1)) (effM e (st.nx+p.1) st.mem) st.nx
 |call {I:Inl} {vs:List AV} {l:List Nat} {v:AV} {m:List (Nat×AV)} {n:Nat}:GA all p.2 st→atG P cx all p.2 st=some (I,vs)→I.foot vs st.mem (st.nx+all.size)=some l→footOK all os ms p.1 l=true→
   I.run none vs st.mem (st.nx+all.size) (fun v m n=>some (v,m,n))=some (v,m,n)→Out P cx os ms all p st v m n
theorem ZGp{gl:Nat→Option AV}{st st':St}(h:∀ d,lk d st.tm=lk d st'.tm):evO gl st.tm=evO gl st'.tm:=by
 funext x
 cases x with
 |tmp t=>exact h t
 |_=>rfl
theorem Zmq{P:Program}{cx:Cx}{os:List (Option Nat)}{ms:List Nat}{all:Array Oper}{p:Nat×Oper}{st s:St}(h:stepD P cx os ms all p st=some s):
  dOK cx.nt p.2.dst=true∧∃ v m n,Out P cx os ms all p st v m n∧Res1 p.2 st v m n s:=by
 obtain⟨i,o⟩:=p;unfold stepD at h;simp only at h ⊢;split at h
 ·rename_i I vs hat;split at h
  ·rename_i l hl;obtain⟨hc,h⟩:=Zac h;simp only[bA] at hc;refine⟨hc.1,?_⟩;have h':guardK all o st (fun st'=>I.run none vs st.mem (st.nx+all.size) fun v m n=>some {st'.put o.dst v with mem:=m,nx:=n})=some s:=by
    rw[← h];unfold guardK stepI;rfl
   rcases ZzR h' with⟨hg,st',hs,ha⟩|⟨hg,hr⟩
   ·rw[I.par] at ha;obtain⟨⟨v,m,n⟩,h1,h2⟩:=ZbW ha;simp only[oE] at h2;subst h2;exact⟨v,m,n,.call hg hat hl hc.2 h1,(Zuo hs o.dst v).symm.tm,rfl,rfl⟩
   ·refine⟨_,_,_,.skip hg (fun I' vs' h'=>?_),hr⟩;simp only at h';rw[hat] at h';obtain⟨rfl,rfl⟩:=Prod.mk.inj (oI h');exact⟨l,hl,hc.2⟩
  ·cases h
 ·rename_i hat;rw[Zpa] at h;obtain⟨hd,h⟩:=Zac h;refine⟨hd,?_⟩;have h':guardK all o st (fun st'=>opK' P cx.Γ cx.ro o.op (evO cx.gl st'.tm) (fun b=>cond (accD st.nx ms os i b) (lk b st.mem) none) none fun e=>some (st'.app i o.dst e))=some s:=by
   rw[← h];unfold guardK;rfl
  rcases ZzR h' with⟨hg,st',hs,ha⟩|⟨hg,hr⟩
  ·rw[Zqu] at ha;obtain⟨e,h1,h2⟩:=ZbW ha;simp only[oE] at h2;subst h2;rw[← ZGp hs.tm] at h1;exact⟨_,_,_,.op e hg hat h1,ZGo hs i e⟩
  ·exact⟨_,_,_,.skip hg (fun I' vs' h'=>by simp only at h';rw[hat] at h';cases h'),hr⟩
theorem Zpd{P:Program}{cx:Cx}{os:List (Option Nat)}{ms:List Nat}{all:Array Oper}{p:Nat×Oper}{st:St}(hd:dOK cx.nt p.2.dst=true){v:AV}{m:List (Nat×AV)}{n:Nat}(h:Out P cx os ms all p st v m n):
  ∃ s,stepD P cx os ms all p st=some s∧Res1 p.2 st v m n s:=by
 obtain⟨i,o⟩:=p;simp only at hd;unfold stepD;cases h with
 |skip hg hf=>
  simp only at hg hf ⊢;split
  ·rename_i I vs hat;obtain⟨l,hl,hk⟩:=hf I vs hat;simp only[hl,hd,hk,Bool.and_self,cond_true];obtain⟨s,h1,h2⟩:=ZA1 (fun st'=>I.run none vs st.mem (st.nx+all.size) fun v m n=>some {st'.put o.dst v with mem:=m,nx:=n}) hg;exact⟨s,by rw[← h1];unfold guardK stepI;rfl,h2⟩
  ·rw[Zpa,hd];simp only[cond_true];obtain⟨s,h1,h2⟩:=ZA1 (fun st'=>opK' P cx.Γ cx.ro o.op (evO cx.gl st'.tm) (fun b=>cond (accD st.nx ms os i b) (lk b st.mem) none) none fun e=>some (st'.app i o.dst e)) hg;exact⟨s,by rw[← h1];unfold guardK;rfl,h2⟩
 |op e hg hat h1=>
  simp only at hg hat h1 ⊢;rw[hat];simp only;rw[Zpa,hd];simp only[cond_true];obtain⟨st',hs,h2⟩:=ZCP (fun st'=>opK' P cx.Γ cx.ro o.op (evO cx.gl st'.tm) (fun b=>cond (accD st.nx ms os i b) (lk b st.mem) none) none fun e=>some (st'.app i o.dst e)) hg;refine⟨st'.app i o.dst e,?_,ZGo hs i e⟩;have:guardK all o st (fun st'=>opK' P cx.Γ cx.ro o.op (evO cx.gl st'.tm) (fun b=>cond (accD st.nx ms os i b) (lk b st.mem) none) none fun e=>some (st'.app i o.dst e))=some (st'.app i o.dst e):=by
   rw[h2,Zqu,← ZGp hs.tm,h1];rfl
  rw[← this];unfold guardK;rfl
 |call hg hat hl hk h1=>
  rename_i I vs l;simp only at hg hat hl hk h1 ⊢;rw[hat];simp only[hl,hd,hk,Bool.and_self,cond_true];obtain⟨st',hs,h2⟩:=ZCP (fun st'=>I.run none vs st.mem (st.nx+all.size) fun v m n=>some {st'.put o.dst v with mem:=m,nx:=n}) hg;refine⟨{st'.put o.dst v with mem:=m,nx:=n},?_,(Zuo hs o.dst v).symm.tm,rfl,rfl⟩;have:guardK all o st (fun st'=>I.run none vs st.mem (st.nx+all.size) fun v m n=>some {st'.put o.dst v with mem:=m,nx:=n})=some {st'.put o.dst v with mem:=m,nx:=n}:=by
   rw[h2,I.par,h1];rfl
  rw[← this];unfold guardK stepI;rfl
theorem Zzk{all:Array Oper}{o:Oper}{st st':St}(ht:∀ d∈looks all o,lk d st.tm=lk d st'.tm)(gl:Nat→Option AV):∀ x∈o.op.operands.toList,evO gl st.tm x=evO gl st'.tm x:=by
 intro x hx;cases x with
 |tmp t=>exact ht t (by unfold looks;exact List.mem_append_left _ (ZCJ hx))
 |const v=>rfl
 |global g=>rfl
 |func f=>rfl
theorem ZvW{all:Array Oper}{o:Oper}{st st':St}(ht:∀ d∈looks all o,lk d st.tm=lk d st'.tm){j:Nat}{want:Bool}{d:Nat}(h1:o.guard=some (j,want))(h2:(all[j]?).bind (·.dst)=some d):lk d st.tm=lk d st'.tm:=by
 refine ht d ?_;unfold looks;have h2':(all[j]?.bind fun x=>x.dst)=some d:=h2;simp[h1,h2']
theorem GA.congr{all:Array Oper}{o:Oper}{st st':St}(ht:∀ d∈looks all o,lk d st.tm=lk d st'.tm)(h:GA all o st):GA all o st':=by
 rcases h with g|⟨j,want,d,b,g,hj,hb,hw⟩
 ·exact .inl g
 ·exact .inr ⟨j,want,d,b,g,hj,by rw[← ZvW ht g hj];exact hb,hw⟩
theorem GS.congr{all:Array Oper}{o:Oper}{st st':St}(ht:∀ d∈looks all o,lk d st.tm=lk d st'.tm)(h:GS all o st):GS all o st':=by
 obtain⟨j,want,d,g,hj,hb⟩:=h;exact⟨j,want,d,g,hj,by rw[← ZvW ht g hj];exact hb⟩
theorem ZGq{P:Program}{cx:Cx}{o:Oper}{st st':St}(h:∀ x∈o.op.operands.toList,evO cx.gl st.tm x=evO cx.gl st'.tm x):inlAt P cx o st=inlAt P cx o st':=by
 unfold inlAt;split
 ·rename_i c hc;rw[hc] at h;have hargs:∀ x∈c.args.toList,evO cx.gl st.tm x=evO cx.gl st'.tm x:=fun x hx=>h x (by simp[Op.operands,Call.operands];right;simpa using hx)
  split
  ·rename_i fo hf;rw[h fo (by simp[Op.operands,Call.operands,hf])];rw[Zpc c.args.toList hargs]
  ·rename_i x name hf;rw[h x (by simp[Op.operands,Call.operands,hf])];rw[Zpc c.args.toList hargs]
  ·rfl
 ·rfl
theorem w_congr{P:Program}{cx:Cx}{o:Oper}{st st':St}(h:∀ x∈o.op.operands.toList,evO cx.gl st.tm x=evO cx.gl st'.tm x):wAt P cx o st=wAt P cx o st':=by
 unfold wAt;split
 ·rename_i t x hc;rw[hc] at h;rw[h x (by simp[Op.operands])]
 ·rename_i it hc;rw[hc] at h;rw[h it (by simp[Op.operands])]
 ·rename_i c hc;rw[hc] at h;split
  ·rw[Zpc c.args.toList fun x hx=>h x (by simp[Op.operands,Call.operands];right;simpa using hx)]
  ·rfl
 ·rfl
theorem ZHQ{P:Program}{cx:Cx}{o:Oper}{st st':St}(h:∀ x∈o.op.operands.toList,evO cx.gl st.tm x=evO cx.gl st'.tm x):atD P cx o st=atD P cx o st':=by
 unfold atD;rw[ZGq h,w_congr h]
theorem ZDH{all:Array Oper}{o:Oper}{st st':St}(ht:∀ d∈looks all o,lk d st.tm=lk d st'.tm):skips all o st=skips all o st':=by
 unfold skips;split
 ·rfl
 ·rename_i j want hg;split
  ·rfl
  ·rename_i d hj;rw[ZvW ht hg hj]
theorem ZGr{P:Program}{cx:Cx}{all:Array Oper}{o:Oper}{st st':St}(ht:∀ d∈looks all o,lk d st.tm=lk d st'.tm):atG P cx all o st=atG P cx all o st':=by
 unfold atG;rw[ZDH ht,ZHQ (Zzk ht cx.gl)]
theorem ZzS{P:Program}{cx:Cx}{os:List (Option Nat)}{ms:List Nat}{all:Array Oper}{p:Nat×Oper}{st st':St}(ht:∀ d∈looks all p.2,lk d st.tm=lk d st'.tm)(hm:st.mem=st'.mem)(hn:st.nx=st'.nx){v:AV}{m:List (Nat×AV)}{n:Nat}
  (h:Out P cx os ms all p st v m n):Out P cx os ms all p st' v m n:=by
 have hi:=ZGr (P:=P) (cx:=cx) ht;cases h with
 |skip hg hf=>
  rw[hm,hn];refine .skip (hg.congr ht) fun I vs h=>?_
  rw[← hi] at h;rw[← hm,← hn];exact hf I vs h
 |op e hg hat h1=>
  rw[hn,hm];refine .op e (hg.congr ht) (hi▸hat) ?_;rw[← h1,hm,hn];exact Zyb P cx.Γ cx.ro p.2.op (fun x hx=>(Zzk ht cx.gl x hx).symm) (fun _=>rfl) none some
 |call hg hat hl hk h1=>exact .call (hg.congr ht) (hi▸hat) (by rw[← hm,← hn];exact hl) hk (by rw[← hm,← hn];exact h1)
theorem ZGs{P:Program}{Γ:FuncId→Option Ct}{ro:Nat}{t:TypeId}{x:Operand}{lo hi mx:Option Operand}{ev:Operand→Option AV}{get:Nat→Option AV}{e:Eff}(h:opK' P Γ ro (.slice t x lo hi mx) ev get none some=some e):∃ v,e= .val v:=by
 have one:∀ {hi:Option Operand} {d y:Nat} {g:Nat→AV},bnd ev hi d y none (fun h=>some (Eff.val (g h)))=some e→∃ v,e= .val v:=by
  intro hi d y g h;obtain⟨n,h⟩:=Zul h;exact⟨_,(oI h).symm⟩
 have two:∀ {lo hi:Option Operand} {d y:Nat} {g:Nat→Nat→AV},bnd ev hi d y none (fun h=>bnd ev lo 0 h none fun l=>some (Eff.val (g h l)))=some e→∃ v,e= .val v:=by
  intro lo hi d y g h;obtain⟨n,h⟩:=Zul h;obtain⟨m,h⟩:=Zul h;exact⟨_,(oI h).symm⟩
 cases mx with
 |some m=>simp[opK',opE,opK] at h
 |none=>
  simp only[opK'] at h;split at h
  ·split at h
   ·exact two (Zac h).2
   ·cases h
  ·split at h
   ·replace h:=(Zac h).2;split at h
    ·exact one h
    ·exact two h
   ·cases h
  ·split at h
   ·exact two (Zac h).2
   ·cases h
  ·split at h
   ·exact two h
   ·cases h
  ·simp only[opE,opK] at h;split at h
   ·replace h:=(Zac h).2;split at h
    ·exact two (Zac h).2
    ·cases h
   ·split at h
    ·exact two (Zac h).2
    ·cases h
   ·split at h
    ·exact two (g:=fun _ _=>.nils) (Zac h).2
    ·cases h
   ·cases h
theorem ZGt{P:Program}{Γ:FuncId→Option Ct}{ro:Nat}{t t':TypeId}{x y:Operand}{ev:Operand→Option AV}{get:Nat→Option AV}{e:Eff}(h:opK' P Γ ro (.binOp .add t x y t') ev get none some=some e):∃ v,e= .val v:=by
 simp only[opK'] at h;split at h
 ·exact⟨_,(oI (Zac h).2).symm⟩
 ·simp only[opE,opK] at h;split at h
  ·simp only[bcl] at h;exact⟨_,(oI (Zac h).2).symm⟩
  ·cases h
def convI(P:Program)(s d:TypeId)(v:Option AV):Option Eff:=match v with
 |some (.int _ a)=>match P.underlying s,P.underlying d with
  |some (.int _),some (.int k)=>some (.val (.int k (k.wrap a)))
  |_,_=>none
 |_=>none
theorem ZBH{P:Program}{Γ:FuncId→Option Ct}{ro:Nat}{s d:TypeId}{q0:IntKind}(hs:P.underlying s=some (.int q0)){x:Operand}{ev:Operand→Option AV}{get:Nat→Option AV}:opK' P Γ ro (.convert s d x) ev get none some=convI P s d (ev x):=by
 simp only[opK',opE,opK,convI];cases hx:ev x with
 |none=>rfl
 |some v=>
  cases v<;>simp only[hs]
  all_goals (try rfl)
  all_goals (cases P.underlying d<;>try rfl)
  all_goals (rename_i t;cases t<;>rfl)
theorem ZGu{P:Program}{Γ:FuncId→Option Ct}{ro:Nat}{o:Oper}(hq:quietO P o=true){ev:Operand→Option AV}{get:Nat→Option AV}{e:Eff}(h:opK' P Γ ro o.op ev get none some=some e):∃ v,e= .val v:=by
 unfold quietO at hq;cases hop:o.op with
 |move x=>
  rw[hop] at h;simp only[opK',opE,opK] at h
  repeat' split at h
  all_goals first|(cases h;done)|exact⟨_,(oI h).symm⟩
 |assign x=>
  rw[hop] at h;simp only[opK',opE,opK] at h
  repeat' split at h
  all_goals first|(cases h;done)|exact⟨_,(oI h).symm⟩
 |fieldAddr t x i=>
  rw[hop] at h;simp only[opK',opE,opK] at h
  repeat' (first|split at h|(replace h:=(Zac h).2))
  all_goals first|(cases h;done)|exact⟨_,(oI h).symm⟩
 |load t x=>
  rw[hop] at h;simp only[opK',opE,opK] at h
  repeat' (first|split at h|(replace h:=(Zac h).2))
  all_goals first|(cases h;done)|exact⟨_,(oI h).symm⟩
 |nilCheck x=>
  rw[hop] at h;simp only[opK',opE,opK] at h
  repeat' split at h
  all_goals first|(cases h;done)|exact⟨_,(oI h).symm⟩
 |slice t x lo hi mx=>
  rw[hop] at h;exact ZGs h
 |indexAddr t x y=>
  rw[hop] at h;simp only[opK',opE,opK] at h
  repeat' (first|split at h|(replace h:=(Zac h).2))
  all_goals first|(cases h;done)|exact⟨_,(oI h).symm⟩
 |convert s d x=>
  rw[hop] at h hq;simp only at hq;split at hq
  ·rename_i q0 hs;rw[ZBH hs] at h;unfold convI at h
   repeat' split at h
   all_goals first|(cases h;done)|exact⟨_,(oI h).symm⟩
  ·cases hq
 |binOp op t x y t'=>
  rw[hop] at h hq;cases op with
  |add=>exact ZGt h
  |_=>cases hq
 |_=>rw[hop] at hq;cases hq
theorem ZzT{P:Program}{cx:Cx}{all:Array Oper}{o:Oper}{st:St}(hq:quietO P o=true):atG P cx all o st=none:=by
 have h:atD P cx o st=none:=by
  unfold quietO at hq;unfold atD inlAt wAt;split at hq<;>rename_i hop<;>first|(rw[hop];done)|(simp only[hop];done)|cases hq
 unfold atG;rw[h]
theorem ZGv{P:Program}{o:Oper}(hq:quietO P o=true)(h:isM o.op=true):isLd o.op=true∨∃ s d x q0,o.op= .convert s d x∧P.underlying s=some (.int q0):=by
 unfold quietO at hq;split at hq
 all_goals rename_i hop
 all_goals first
  |(rw[hop] at h;simp[isM] at h;done)
  |(left;rw[hop];rfl;done)
  |(cases hq;done)
  |skip
 ·split at hq
  ·rename_i q0 hs;exact .inr ⟨_,_,_,q0,hop,hs⟩
  ·cases hq
section
variable {P:Program} {cx:Cx} {os:List (Option Nat)} {ms:List Nat} {all:Array Oper}
theorem Zxh{x:Nat×Oper}(hq:quietO P x.2=true){st:St}{v:AV}{m:List (Nat×AV)}{n:Nat}(h:Out P cx os ms all x st v m n):
  m=st.mem∧n=st.nx∧((GS all x.2 st∧v= .tup [])∨(GA all x.2 st∧opK' P cx.Γ cx.ro x.2.op (evO cx.gl st.tm) (fun b=>cond (accD st.nx ms os x.1 b) (lk b st.mem) none) none some=some (.val v))):=by
 cases h with
 |skip hg _=>exact⟨rfl,rfl,.inl ⟨hg,rfl⟩⟩
 |op e hg hat h1=>
  obtain⟨v,rfl⟩:=ZGu hq h1;exact⟨rfl,rfl,.inr ⟨hg,h1⟩⟩
 |call hg hat hl hk h1=>
  rw[ZzT hq] at hat;cases hat
theorem ZzU{x:Nat×Oper}(hq:quietO P x.2=true){st st':St}{v:AV}(ht:∀ d∈looks all x.2,lk d st.tm=lk d st'.tm)
  (hm:isLd x.2.op=true→(st.mem=st'.mem∧st.nx=st'.nx)∨∃ b0,os.getD x.1 none=some b0∧b0<st.nx∧b0<st'.nx∧lk b0 st.mem=lk b0 st'.mem)
  (h:(GS all x.2 st∧v= .tup [])∨(GA all x.2 st∧opK' P cx.Γ cx.ro x.2.op (evO cx.gl st.tm) (fun b=>cond (accD st.nx ms os x.1 b) (lk b st.mem) none) none some=some (.val v))):Out P cx os ms all x st' v st'.mem st'.nx:=by
 rcases h with⟨hg,rfl⟩|⟨hg,h⟩
 ·exact .skip (hg.congr ht) fun I vs h=>by rw[ZzT hq] at h;cases h
 have:opK' P cx.Γ cx.ro x.2.op (evO cx.gl st'.tm) (fun b=>cond (accD st'.nx ms os x.1 b) (lk b st'.mem) none) none some=some (.val v):=by
  rw[← h];by_cases hc:isM x.2.op=true∧isLd x.2.op=false
  ·rcases ZGv hq hc.1 with hl|⟨s,d,y,q0,hop,hs⟩
   ·rw[hc.2] at hl;cases hl
   ·have hy:=Zzk ht cx.gl y (by rw[hop];simp[Op.operands]);rw[hop,ZBH hs,ZBH hs,hy]
  refine Zyb P cx.Γ cx.ro x.2.op (fun y hy=>(Zzk ht cx.gl y hy).symm) (fun hM=>?_) none some;have hL:isLd x.2.op=true:=by
   cases hL:isLd x.2.op
   ·exact absurd ⟨hM,hL⟩ hc
   ·rfl
  rcases hm hL with⟨e1,e2⟩|⟨b0,e0,l1,l2,e1⟩
  ·rw[e1,e2]
  funext b
  unfold accD;rw[e0];simp only;by_cases hb:b=b0
  ·subst hb;have k1:Nat.blt b st.nx=true:=by simpa [Nat.blt_eq] using l1
   have k2:Nat.blt b st'.nx=true:=by simpa [Nat.blt_eq] using l2
   simp only[k1,k2,e1,Bool.true_or]
  ·have:Nat.beq b b0=false:=by
    cases hq:Nat.beq b b0
    ·rfl
    ·exact absurd (Zaj hq) hb
   simp only[this,Bool.and_false,cond_false]
 exact .op (.val v) (hg.congr ht) (ZzT hq) this
theorem ZGw{y:Nat×Oper}{st:St}{v:AV}{m:List (Nat×AV)}{n:Nat}(h:Out P cx os ms all y st v m n):st.nx≤n:=by
 cases h with
 |skip=>exact Nat.le_refl _
 |op=>exact Nat.le_refl _
 |call hg hat hl hk h1=>
  rename_i I vs l;have:=(I.keeps h1 hl).1;omega
theorem ZCQ{x y:Nat×Oper}(hx:x∈numbered 0 all.toList)(hld:isLd x.2.op=true)(f1:(ms.getD x.1 0).testBit y.1=false)(f2:(ms.getD y.1 0).testBit x.1=false)(hw:isW y.2.op=false){b0:Nat}(h0:os.getD x.1 none=some b0)
  {st:St} (hb:b0<st.nx) {v:AV} {m:List (Nat×AV)} {n:Nat} (h:Out P cx os ms all y st v m n):lk b0 m=lk b0 st.mem:=by
 cases h with
 |skip=>rfl
 |op e hg hat h1=>
  cases e with
  |val v=>rfl
  |new ty row cap T g=>exact Zan (by omega) _ _
  |upd b T=>
   have:=(ZEs h1).1;rw[hw] at this;cases this
  |grow b T g=>
   cases b with
   |none=>
    simp only[effM,del];exact Zan (by omega) _ _
   |some b=>
    have:=(ZCI h1 b rfl).1;rw[hw] at this;cases this
 |call hg hat hl hk h1=>
  rename_i I vs l;have hfo:=List.all_eq_true.1 hk x hx;rw[hld,f1,f2,h0] at hfo;exact(I.keeps h1 hl).2 b0 (by omega) (by simpa using hfo)
theorem ZzV{nx:Nat}{x y:Nat×Oper}(h:quietP P all os nx x y=true):quietO P x.2=true∧clear x.2.dst (looks all y.2)=true∧clear y.2.dst (looks all x.2)=true∧clear x.2.dst y.2.dst.toList=true∧
  (isLd x.2.op=true→quietO P y.2=true∨∃ b0,os.getD x.1 none=some b0∧b0<nx∧isW y.2.op=false):=by
 simp only[quietP,bA,Bool.or_eq_true,Bool.not_eq_true'] at h;obtain⟨h1,⟨⟨h2,h3⟩,h4⟩,h5⟩:=h;refine⟨h1,h2,h3,h4,fun hl=>?_⟩;rcases h5 with(h5|h5)|⟨h5,h6⟩
 ·rw[hl] at h5;cases h5
 ·exact .inl h5
 ·unfold ownLt at h5;split at h5
  ·rename_i b hb;exact .inr ⟨b,hb,by simpa [Nat.blt_eq] using h5,h6⟩
  ·cases h5
theorem Zxi{st:St}{d:Option Nat}{v:AV}{l:List Nat}(h:clear d l=true):∀ k∈l,lk k (st.put d v).tm=lk k st.tm:=by
 intro k hk;refine ZCK fun e=>?_
 rw[e] at h;exact Zr0 h hk
theorem ZGx{d:Option Nat}{v:AV}{l l':List (Nat×AV)}(h:∀ k,lk k l=lk k l'){k:Nat}:lk k (putl d v l)=lk k (putl d v l'):=by
 cases d with
 |none=>exact h k
 |some d=>
  simp only[putl];by_cases hd:d=k
  ·subst hd;rw[Zal,Zal]
  ·rw[Zan hd,Zan hd];exact h k
theorem ZEw{x y:Oper}(h:clear x.dst y.dst.toList=true){st:St}{u v:AV}{m:List (Nat×AV)}{n:Nat}{s1 s2 s1' s2':St}
  (r1:Res1 x st u st.mem st.nx s1) (r2:Res1 y s1 v m n s2) (r1':Res1 y st v m n s1') (r2':Res1 x s1' u s1'.mem s1'.nx s2'):Same s2 s2':=by
 have hdd:∀ n,x.dst=some n→y.dst≠some n:=by
  intro n hn hy;rw[hn,hy] at h;exact Zr0 h (by simp)
 refine⟨fun k=>?_,?_,?_⟩
 ·have e1:lk k s2.tm=lk k (putl y.dst v s1.tm):=by rw[← ZCL];exact r2.tm k
  have e2:lk k s2'.tm=lk k (putl x.dst u s1'.tm):=by rw[← ZCL];exact r2'.tm k
  have f1:∀ k,lk k s1.tm=lk k (putl x.dst u st.tm):=fun k=>by rw[← ZCL];exact r1.tm k
  have f2:∀ k,lk k s1'.tm=lk k (putl y.dst v st.tm):=fun k=>by rw[← ZCL];exact r1'.tm k
  rw[e1,e2,ZGx f1,ZGx f2];exact ZEu st.tm hdd u v k
 ·exact r2.mem.trans (r1'.mem.symm.trans r2'.mem.symm)
 ·exact r2.nx.trans (r1'.nx.symm.trans r2'.nx.symm)
theorem swap_qy{nx:Nat}{x y:Nat×Oper}(hp:quietP P all os nx x y=true)(hx:x∈numbered 0 all.toList)(f1:(ms.getD x.1 0).testBit y.1=false)(f2:(ms.getD y.1 0).testBit x.1=false){st s1 s2:St}(hnx:nx≤st.nx)
  (h1:stepD P cx os ms all x st=some s1) (h2:stepD P cx os ms all y s1=some s2):∃ s1' s2',stepD P cx os ms all y st=some s1'∧stepD P cx os ms all x s1'=some s2'∧Same s2 s2':=by
 obtain⟨q0,q1,q2,q3,q4⟩:=ZzV hp;obtain⟨hdx,u,m1,n1,ox,rx⟩:=Zmq h1;obtain⟨rfl,rfl,kx⟩:=Zxh q0 ox;obtain⟨hdy,v,m,n,oy,ry⟩:=Zmq h2;have oy':Out P cx os ms all y st v m n:=ZzS (st:=s1) (st':=st) (fun d hd=>by rw[rx.tm d];exact Zxi q1 d hd) rx.mem rx.nx oy;obtain⟨s1',g1,g2⟩:=Zpd hdy oy';have ox':Out P cx os ms all x s1' u s1'.mem s1'.nx:=by
  refine ZzU q0 (fun d hd=>?_) (fun hl=>?_) kx
  ·rw[g2.tm d];exact(Zxi q2 d hd).symm
  ·rcases q4 hl with hq|⟨b0,e0,e1,e2⟩
   ·obtain⟨k1,k2,-⟩:=Zxh hq oy';exact .inl ⟨by rw[g2.mem];exact k1.symm,by rw[g2.nx];exact k2.symm⟩
   have:=ZGw oy';refine .inr ⟨b0,e0,by omega,by rw[g2.nx];show b0<n;omega,?_⟩;rw[g2.mem];exact(ZCQ hx hl f1 f2 e2 e0 (by omega) oy').symm
 obtain⟨s2',g3,g4⟩:=Zpd hdx ox';exact⟨s1',s2',g1,g3,ZEw q3 rx ry g2 g4⟩
theorem swap_yq{nx:Nat}{x y:Nat×Oper}(hp:quietP P all os nx x y=true)(hx:x∈numbered 0 all.toList)(f1:(ms.getD x.1 0).testBit y.1=false)(f2:(ms.getD y.1 0).testBit x.1=false){st s1 s2:St}(hnx:nx≤st.nx)
  (h1:stepD P cx os ms all y st=some s1) (h2:stepD P cx os ms all x s1=some s2):∃ s1' s2',stepD P cx os ms all x st=some s1'∧stepD P cx os ms all y s1'=some s2'∧Same s2 s2':=by
 obtain⟨q0,q1,q2,q3,q4⟩:=ZzV hp;obtain⟨hdy,v,m,n,oy,ry⟩:=Zmq h1;obtain⟨hdx,u,m1,n1,ox,rx⟩:=Zmq h2;obtain⟨rfl,rfl,kx⟩:=Zxh q0 ox;have ox':Out P cx os ms all x st u st.mem st.nx:=by
  refine ZzU q0 (fun d hd=>?_) (fun hl=>?_) kx
  ·rw[ry.tm d];exact Zxi q2 d hd
  ·rcases q4 hl with hq|⟨b0,e0,e1,e2⟩
   ·obtain⟨k1,k2,-⟩:=Zxh hq oy;exact .inl ⟨by rw[ry.mem];exact k1,by rw[ry.nx];exact k2⟩
   have:=ZGw oy;refine .inr ⟨b0,e0,by rw[ry.nx];show b0<n;omega,by omega,?_⟩;rw[ry.mem];exact ZCQ hx hl f1 f2 e2 e0 (by omega) oy
 obtain⟨s1',g1,g2⟩:=Zpd hdx ox';have oy':Out P cx os ms all y s1' v m n:=ZzS (st:=st) (st':=s1') (fun d hd=>by rw[g2.tm d];exact(Zxi q1 d hd).symm) g2.mem.symm g2.nx.symm oy;obtain⟨s2',g3,g4⟩:=Zpd hdy oy';exact⟨s1',s2',g1,g3,(ZEw q3 g2 g4 ry rx).symm⟩
theorem ZFn{p:Nat×Oper}{st st' s:St}(hs:Same st st')(h:stepD P cx os ms all p st=some s):∃ s',stepD P cx os ms all p st'=some s'∧Same s s':=by
 obtain⟨hd,v,m,n,o,r⟩:=Zmq h;obtain⟨s',g1,g2⟩:=Zpd hd (ZzS (fun d _=>hs.tm d) hs.mem hs.nx o);have mid:Same {st.put p.2.dst v with mem:=m,nx:=n} {st'.put p.2.dst v with mem:=m,nx:=n}:=⟨(Zuo hs p.2.dst v).tm,rfl,rfl⟩;exact⟨s',g1,Same.trans r (Same.trans mid (Same.symm g2))⟩
theorem ZCR:(l:List (Nat×Oper))→{st st' s:St}→Same st st'→runD P cx os ms all none l st some=some s→∃ s',runD P cx os ms all none l st' some=some s'∧Same s s'
 | [],st,st',s,ha,h=>by
  simp only[runD,oE] at h;subst h;exact⟨st',rfl,ha⟩
 |p::l,st,st',s,ha,h=>by
  rw[Zo9] at h;obtain⟨s1,h1,h2⟩:=Option.bind_eq_some_iff.1 h;obtain⟨s1',k1,k2⟩:=ZFn ha h1;obtain⟨s',k3,k4⟩:=ZCR l k2 h2;exact⟨s',by rw[Zo9,k1];exact k3,k4⟩
theorem ZEm{p:Nat×Oper}{st s:St}(h:stepD P cx os ms all p st=some s):st.nx≤s.nx:=by
 obtain⟨hd,v,m,n,o,r⟩:=Zmq h;have e:s.nx=n:=r.nx;rw[e];exact ZGw o
theorem ZAQ{nx:Nat}(x:Nat×Oper)(hx:x∈numbered 0 all.toList):(A B:List (Nat×Oper))→(∀ a∈A,a∈numbered 0 all.toList∧(quietP P all os nx a x=true∨quietP P all os nx x a=true)∧(ms.getD a.1 0).testBit x.1=false∧(ms.getD x.1 0).testBit a.1=false)→
  {st s:St}→nx≤st.nx→runD P cx os ms all none (A++x::B) st some=some s→∃ s',runD P cx os ms all none (x::(A++B)) st some=some s'∧Same s s'
 | [],B,_,st,s,_,h=>⟨s,h,Same.refl s⟩
 |a::A,B,hA,st,s,hnx,h=>by
  rw[List.cons_append,Zo9] at h;obtain⟨s1,h1,h2⟩:=Option.bind_eq_some_iff.1 h;obtain⟨t,k1,k2⟩:=ZAQ x hx A B (fun b hb=>hA b (by simp[hb])) (Nat.le_trans hnx (ZEm h1)) h2;rw[Zo9] at k1;obtain⟨s2,j1,j2⟩:=Option.bind_eq_some_iff.1 k1;obtain⟨q0,q1,q2,q3⟩:=hA a (by simp);have sw:∃ s1' s2',stepD P cx os ms all x st=some s1'∧stepD P cx os ms all a s1'=some s2'∧Same s2 s2':=by
   rcases q1 with q|q
   ·exact swap_qy q q0 q2 q3 hnx h1 j1
   ·exact swap_yq q hx q3 q2 hnx h1 j1
  obtain⟨u1,u2,l1,l2,l3⟩:=sw;obtain⟨v,m1,m2⟩:=ZCR (A++B) l3 j2;refine⟨v,?_,k2.trans m2⟩;rw[Zo9,l1];simp only[Option.bind_some];rw[List.cons_append,Zo9,l2];exact m1
end
theorem ZzW{P:Program}{all:Array Oper}{os:List (Option Nat)}{nx:Nat}{o:Nat×Oper}{m:Nat}:{l:List (Nat×Oper)}→looseQ P all os nx o m l=true→∀ x∈l,m.testBit x.1=true∨(quietP P all os nx x o=true∨quietP P all os nx o x=true)
 | [],_,x,hx=>by simp at hx
 |y::l,h,x,hx=>by
  simp only[looseQ,bA,Bool.or_eq_true] at h;rcases List.mem_cons.1 hx with rfl|hx
  ·exact h.1
  ·exact ZzW h.2 x hx
theorem ZyF{P:Program}{all:Array Oper}{os:List (Option Nat)}{nx:Nat}{ms:List Nat}:{l done:List (Nat×Oper)}→looseQA P all os nx ms l done=true→l.Pairwise (fun a b=>(ms.getD b.1 0).testBit a.1=true∨(quietP P all os nx a b=true∨quietP P all os nx b a=true))∧∀ a∈done,∀ b∈l,(ms.getD b.1 0).testBit a.1=true∨(quietP P all os nx a b=true∨quietP P all os nx b a=true)
 | [],done,_=>⟨List.Pairwise.nil,fun a _ b hb=>by simp at hb⟩
 |x::l,done,h=>by
  simp only[looseQA,bA] at h;obtain⟨h1,h2⟩:=ZyF h.2;refine⟨List.pairwise_cons.2 ⟨fun b hb=>h2 x (by simp) b hb,h1⟩,fun a ha b hb=>?_⟩;rcases List.mem_cons.1 hb with rfl|hb
  ·exact ZzW h.1 a ha
  ·exact h2 a (by simp[ha]) b hb
end Go.Vx
