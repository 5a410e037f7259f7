import Derived.Test.YtoionfdfofmplaaGreatDoorVxR2
set_option autoImplicit false
set_option linter.unusedSimpArgs false
set_option linter.unusedVariables false
namespace Go.Vx
open Go Go.RowKit
theorem Ent.lk_names{α:Type}:(e:Ent α)→(x:α)→∀ d,d∈e.names→∃ v,lk d (e.mk x)=some v
 | .nil,x,d,h=>by simp[Ent.names] at h
 | .one d0 p,x,d,h=>by
  simp only[Ent.names,List.mem_singleton] at h;subst h;exact⟨_,by rw[Ent.mk,Zal]⟩
 | .cons d0 p r,x,d,h=>by
  by_cases hd:d0=d
  ·subst hd;exact⟨_,by rw[Ent.mk,Zal]⟩
  ·simp only[Ent.names,List.mem_cons] at h;obtain⟨v,hv⟩:=Ent.lk_names r x.2 d (h.resolve_left fun e=>hd e.symm);exact⟨v,by rw[Ent.mk,Zan hd];exact hv⟩
def dropN(ns:List Nat):List (Nat×AV)→List (Nat×AV)
 | []=>[]
 |p::l=>cond (hasN p.1 ns) (dropN ns l) (p::dropN ns l)
theorem ZBr{ns:List Nat}{b:Nat}{T:AV}:{l:List (Nat×AV)}→lk b (dropN ns l)=some T→lk b l=some T∧b ∉ ns
 | [],h=>by simp[dropN,lk] at h
 |p::l,h=>by
  rw[dropN] at h;cases hq:hasN p.1 ns with
  |true=>
   rw[hq] at h;obtain⟨h1,h2⟩:=ZBr (l:=l) h;have:p.1≠b:=fun e=>h2 (e▸Zqr.1 hq)
   exact⟨by rw[show p=(p.1,p.2) from rfl,Zan this];exact h1,h2⟩
  |false=>
   rw[hq,cond_false] at h;by_cases hb:p.1=b
   ·subst hb;have hn:p.1 ∉ ns:=fun hh=>by rw[Zqr.2 hh] at hq;cases hq
    rw[show p=(p.1,p.2) from rfl,Zal] at h ⊢;exact⟨h,hn⟩
   ·rw[show p=(p.1,p.2) from rfl,Zan hb] at h ⊢;exact ZBr h
def noItr:List (Nat×AV)→Bool
 | []=>true
 |p::l=>match p.2 with
  | .itr _ _=>false
  |_=>noItr l
theorem ZEf{b:Nat}{s:ByteArray}{q:Nat}:{l:List (Nat×AV)}→noItr l=true→lk b l≠some (.itr s q)
 | [],_,h=>by simp[lk] at h
 |p::l,hn,h=>by
  rw[noItr] at hn;by_cases hb:p.1=b
  ·subst hb;rw[show p=(p.1,p.2) from rfl,Zal] at h;rw[oI h] at hn;cases hn
  ·rw[show p=(p.1,p.2) from rfl,Zan hb] at h;refine ZEf (l:=l) ?_ h;split at hn
   ·cases hn
   ·exact hn
theorem ZDz{b:Nat}{T:AV}{l r:List (Nat×AV)}(h:lk b (l++r)=some T):lk b l=some T∨(lk b l=none∧lk b r=some T):=by
 induction l with
 |nil=>exact .inr ⟨rfl,h⟩
 |cons p l ih=>
  by_cases hb:p.1=b
  ·subst hb;rw[List.cons_append,show p=(p.1,p.2) from rfl,Zal] at h;exact .inl (by rw[show p=(p.1,p.2) from rfl,Zal];exact h)
  ·rw[List.cons_append,show p=(p.1,p.2) from rfl,Zan hb] at h;rcases ih h with h|⟨h1,h2⟩
   ·exact .inl (by rw[show p=(p.1,p.2) from rfl,Zan hb];exact h)
   ·exact .inr ⟨by rw[show p=(p.1,p.2) from rfl,Zan hb];exact h1,h2⟩
end Go.Vx
namespace Go.Vx
open Go Go.RowKit
def OneOK(P:Program)(w0:World)(gs:List Gv)(S:Nat)(g:FuncId)(I:Inl):Prop:=
 ∀ w:Base,w.g=w0→∀ cx:Cx,cx.ro=gs.length+S→cx.gl=glAt gs 0→InlOK P cx w g I
def AllOK(P:Program)(w0:World)(gs:List Gv)(S:Nat)(is:List (FuncId×Inl)):Prop:=
 ∀ w:Base,w.g=w0→∀ cx:Cx,cx.ro=gs.length+S→cx.gl=glAt gs 0→∀ x∈is,InlOK P cx w x.1 x.2
theorem Za0{P:Program}{w0:World}{gs:List Gv}{S:Nat}:AllOK P w0 gs S []:=fun _ _ _ _ _ x hx=>by simp at hx
theorem Zaf{P:Program}{w0:World}{gs:List Gv}{S:Nat}{g:FuncId}{I:Inl}{l:List (FuncId×Inl)}(h1:OneOK P w0 gs S g I)(h:AllOK P w0 gs S l):AllOK P w0 gs S ((g,I)::l):=fun w hw cx e1 e2 x hx=>by
 rcases List.mem_cons.1 hx with rfl|hx
 ·exact h1 w hw cx e1 e2
 ·exact h w hw cx e1 e2 x hx
theorem Zp6{P:Program}{w0:World}{cs:List (FuncId×Ct)}(hcs:∀ x∈cs,SoundAt P w0 x.1 x.2){gs:List Gv}{S n:Nat}{l:List (FuncId×Inl)}(h:AllOK P w0 gs S l){g:FuncId}{fn:Func}(k1:P.funcs[g]? =some fn)(k2:(fn.name== "runtime.NumGoroutine")=false)(k3:fn.body.isNone=false):
  OneOK P w0 gs S g (inlOf P cs gs S n l fn):=fun w hw cx h1 h2=>
 inl_ok (cx:=cxIn fn cs gs S l) (ZrZ cs fun x hx=>by rw[hw];exact hcs x hx) n (Zw9 l (h w hw _ rfl rfl)) k1 k2 k3 h1 h2
end Go.Vx
namespace Go.Vx
open Go Go.RowKit
mutual
def rn(f:Nat→Nat):AV→AV
 | .ptr b p t=>.ptr (f b) p t
 | .sl b p o n c t=>.sl (f b) p o n c t
 | .pa b p o n t=>.pa (f b) p o n t
 | .gs b n t=>.gs (f b) n t
 | .gp b lo n t nn z=>.gp (f b) lo n t nn z
 | .dv b p t d x=>.dv (f b) p t d x
 | .dq b p o t d x=>.dq (f b) p o t d x
 | .itp b=>.itp (f b)
 | .clo g l=>.clo g (rnL f l)
 | .ifc t v=>.ifc t (rn f v)
 | .agg l=>.agg (rnL f l)
 | .rows n g=>.rows n fun i=>rn f (g i)
 | .tup l=>.tup (rnL f l)
 |v=>v
def rnL(f:Nat→Nat):List AV→List AV
 | []=>[]
 |v::l=>rn f v::rnL f l
end
mutual
theorem ZCn(P:Program)(ρ:Rho)(f:Nat→Nat):(v:AV)→den P ρ (rn f v)=den P (fun b=>ρ (f b)) v∧(OK P ρ (rn f v)↔OK P (fun b=>ρ (f b)) v)
 | .int _ _=>⟨rfl,Iff.rfl⟩
 | .bool _=>⟨rfl,Iff.rfl⟩
 | .str _=>⟨rfl,Iff.rfl⟩
 | .ptr _ _ _=>⟨rfl,Iff.rfl⟩
 | .nilp=>⟨rfl,Iff.rfl⟩
 | .sl _ _ _ _ _ _=>⟨rfl,Iff.rfl⟩
 | .pa _ _ _ _ _=>⟨rfl,Iff.rfl⟩
 | .nils=>⟨rfl,Iff.rfl⟩
 | .gs _ _ _=>⟨rfl,Iff.rfl⟩
 | .clo g l=>by
  obtain⟨-,h2,h3⟩:=ZBs P ρ f l;exact⟨by simp only[rn,den,h2],by simp only[rn,OK];exact h3⟩
 | .nilfn=>⟨rfl,Iff.rfl⟩
 | .nilif=>⟨rfl,Iff.rfl⟩
 | .ifc t v=>by
  obtain⟨h1,h2⟩:=ZCn P ρ f v;exact⟨by simp only[rn,den,h1],by simp only[rn,OK];exact h2⟩
 | .ints _ _ _=>⟨rfl,Iff.rfl⟩
 | .agg l=>by
  obtain⟨h1,-,h3⟩:=ZBs P ρ f l;exact⟨by simp only[rn,den,h1],by simp only[rn,OK];exact h3⟩
 | .rows n g=>by
  refine⟨?_,?_⟩
  ·simp only[rn,den]
   congr 2
   exact congrArg (fun h=>(List.range n).flatMap h) (funext fun i=>by rw[(ZCn P ρ f (g i)).1])
  ·simp only[rn,OK];exact forall_congr' fun i=>(ZCn P ρ f (g i)).2
 | .tup l=>by
  obtain⟨-,h2,h3⟩:=ZBs P ρ f l;exact⟨by simp only[rn,den,h2],by simp only[rn,OK];exact h3⟩
 | .vec _ _=>⟨rfl,Iff.rfl⟩
 | .gp _ _ _ _ _ _=>⟨rfl,Iff.rfl⟩
 | .dv _ _ _ _ _=>⟨rfl,Iff.rfl⟩
 | .dq _ _ _ _ _ _=>⟨rfl,Iff.rfl⟩
 | .dc _ _=>⟨rfl,Iff.rfl⟩
 | .itr _ _=>⟨rfl,Iff.rfl⟩
 | .itp _=>⟨rfl,Iff.rfl⟩
theorem ZBs(P:Program)(ρ:Rho)(f:Nat→Nat):(l:List AV)→denC P ρ (rnL f l)=denC P (fun b=>ρ (f b)) l∧denT P ρ (rnL f l)=denT P (fun b=>ρ (f b)) l∧(OKL P ρ (rnL f l)↔OKL P (fun b=>ρ (f b)) l)
 | []=>⟨rfl,rfl,Iff.rfl⟩
 |v::l=>by
  obtain⟨h1,h2⟩:=ZCn P ρ f v;obtain⟨k1,k2,k3⟩:=ZBs P ρ f l;exact⟨by simp only[rnL,denC,h1,k1],by simp only[rnL,denT,h1,k2],by simp only[rnL,OKL,h2,k3]⟩
end
mutual
theorem ZCo(P:Program)(f:Nat→Nat):(v:AV)→(t:TypeId)→Has P v t→Has P (rn f v) t
 | .int _ _,_,h=>h
 | .bool _,_,h=>h
 | .str _,_,h=>h
 | .ptr _ _ _,_,h=>h
 | .nilp,_,h=>h
 | .sl _ _ _ _ _ _,_,h=>h
 | .pa _ _ _ _ _,_,h=>h
 | .nils,_,h=>h
 | .gs _ _ _,_,h=>h
 | .clo g l,_,h=>by simp only[rn,Has] at h ⊢;exact h
 | .nilfn,_,h=>h
 | .nilif,_,h=>h
 | .ifc t v,_,h=>by simp only[rn,Has] at h ⊢;exact h
 | .ints _ _ _,_,h=>h
 | .agg l,t,h=>by
  simp only[rn,Has] at h ⊢;rcases h with⟨fs,h1,h2⟩|⟨n,e,h1,h2,h3,h4⟩
  ·exact .inl ⟨fs,h1,(Zx2 P f l).1 _ _ _ h2⟩
  ·exact .inr ⟨n,e,h1,by rw[(Zx2 P f l).2.2];exact h2,(Zx2 P f l).2.1 e h3,h4⟩
 | .rows n g,t,h=>by
  simp only[rn,Has] at h ⊢;obtain⟨e,h1,h2,h3⟩:=h;exact⟨e,h1,fun i=>ZCo P f (g i) e (h2 i),h3⟩
 | .tup l,_,h=>by simp[Has] at h
 | .vec _ _,_,h=>h
 | .gp _ _ _ _ _ _,_,h=>h
 | .dv _ _ _ _ _,_,h=>h
 | .dq _ _ _ _ _ _,_,h=>h
 | .dc _ _,_,h=>h
 | .itr _ _,_,h=>h
 | .itp _,_,h=>h
theorem Zx2(P:Program)(f:Nat→Nat):(l:List AV)→(∀ fs o s,HasF P l fs o s→HasF P (rnL f l) fs o s)∧(∀ e,HasA P l e→HasA P (rnL f l) e)∧(rnL f l).length=l.length
 | []=>⟨fun fs o s h=>h,fun e h=>h,rfl⟩
 |v::l=>by
  obtain⟨h1,h2,h3⟩:=Zx2 P f l;refine⟨fun fs o s h=>?_,fun e h=>?_,by simp[rnL,h3]⟩
  ·cases fs with
   |nil=>simp[HasF] at h
   |cons fd fs=>simp only[rnL,HasF] at h ⊢;exact⟨h.1,ZCo P f v _ h.2.1,h1 _ _ _ h.2.2⟩
  ·simp only[rnL,HasA] at h ⊢;exact⟨ZCo P f v e h.1,h2 e h.2⟩
end
theorem rn_hasN(P:Program)(f:Nat→Nat)(nm:Nm)(T:AV)(h:HasN P nm T):HasN P nm (rn f T):=by
 unfold HasN at h ⊢;split
 ·rename_i hr;rw[if_pos hr] at h;cases T with
  |agg l=>simp only[rn] at h ⊢;exact⟨by rw[(Zx2 P f l).2.2];exact h.1,(Zx2 P f l).2.1 _ h.2⟩
  |rows n g=>simp only[rn] at h ⊢;exact⟨h.1,fun i=>ZCo P f _ _ (h.2 i)⟩
  |_=>first|exact h|(simp only[rn] at h ⊢ <;>exact h)
 ·rename_i hr;rw[if_neg hr] at h;exact ZCo P f T _ h
inductive Src where
 |nm (b:Nat)
 |nil (te:TypeId)
 |sub (b:Nat) (p:List Ds) (te:TypeId) (n:Nat)
abbrev Sg:=List (Nat×Src)
def Src.same:Src→Src→Bool
 | .nm b,.nm c=>Nat.beq b c
 | .nil t,.nil u=>Nat.beq t u
 | .sub b p t n,.sub c q u m=>Nat.beq b c&&(decide (p=q)&&(Nat.beq t u&&Nat.beq n m))
 |_,_=>false
theorem Src.same_eq{a b:Src}(h:a.same b=true):a=b:=by
 cases a<;>cases b<;>simp only[Src.same,bA,decide_eq_true_eq,Bool.false_eq_true] at h
 ·rw[Zaj h]
 ·rw[Zaj h]
 ·rw[Zaj h.1,h.2.1,Zaj h.2.2.1,Zaj h.2.2.2]
def lkS(c:Nat):Sg→Option Src
 | []=>none
 |x::l=>cond (Nat.beq x.1 c) (some x.2) (lkS c l)
def bindS(c:Nat)(s:Src)(σ:Sg):Option Sg:=
 match lkS c σ with
 |some s'=>cond (s'.same s) (some σ) none
 |none=>some ((c,s)::σ)
def SgSub(σ σ':Sg):Prop:=∀ c s,lkS c σ=some s→lkS c σ'=some s
theorem SgSub.refl(σ:Sg):SgSub σ σ:=fun _ _ h=>h
theorem SgSub.trans{a b c:Sg}(h:SgSub a b)(k:SgSub b c):SgSub a c:=fun x s hx=>k x s (h x s hx)
theorem ZgV{c:Nat}{s:Src}{σ σ':Sg}(h:bindS c s σ=some σ'):lkS c σ'=some s∧SgSub σ σ':=by
 unfold bindS at h;split at h
 ·rename_i s' hs;obtain⟨h1,h2⟩:=Zac h;obtain rfl:=oI h2;rw[Src.same_eq h1] at hs;exact⟨hs,SgSub.refl _⟩
 ·rename_i hn;obtain rfl:=oI h;have h1:lkS c ((c,s)::σ)=some s:=by simp[lkS]
  refine⟨h1,fun d u hd=>?_⟩;rw[lkS];cases hq:Nat.beq c d with
  |true=>rw[Zaj hq] at hn;rw[hn] at hd;cases hd
  |false=>exact hd
def subN(nm:Option Nm)(p:List Ds)(te:TypeId)(n:Nat):Option Nm:=
 match nm with
 |some nm=>match dloc nm.K (nmL nm) p with
  |some (a,c)=>match c,a with
   |c+1,some ad=>some ⟨ad.block,ad.off,0,te,true,c+1,false,{nm.K with na:=none,fz:=n,fc:=0}⟩
   |_,a=>some ⟨0,0,0,te,true,0,true,{nm.K with na:=a,fz:=n,fc:=0}⟩
  |none=>none
 |none=>none
theorem ZIS{o:Option Nm}{p:List Ds}{te:TypeId}{n:Nat}{nm:Nm}(h:subN o p te n=some nm):∃ nm0,o=some nm0∧nm.K.K=nm0.K.K∧nm.K.hs=nm0.K.hs:=by
 unfold subN at h;split at h
 ·rename_i nm0;split at h
  ·split at h
   ·obtain rfl:=oI h;exact⟨nm0,rfl,rfl,rfl⟩
   ·obtain rfl:=oI h;exact⟨nm0,rfl,rfl,rfl⟩
  ·cases h
 ·cases h
def Agr(hs:Nat)(ρ ρc:Rho)(σ:Sg):Prop:=∀ c s,lkS c σ=some s→match s with
 | .nm b=>ρc c=ρ b
 | .nil te=>ρc c=some ⟨hs,0,0,te,true,0,true,nk⟩
 | .sub b p te n=>ρc c=subN (ρ b) p te n
theorem Agr.sub{hs:Nat}{ρ ρc:Rho}{σ σ':Sg}(h:Agr hs ρ ρc σ')(k:SgSub σ σ'):Agr hs ρ ρc σ:=fun c s hc=>h c s (k c s hc)
def rhoS(hs:Nat)(ρ:Rho)(σ:Sg):Rho:=fun c=>match lkS c σ with
 |some (.nm b)=>ρ b
 |some (.nil te)=>some ⟨hs,0,0,te,true,0,true,nk⟩
 |some (.sub b p te n)=>subN (ρ b) p te n
 |none=>none
theorem ZBt(hs:Nat)(ρ:Rho)(σ:Sg):Agr hs ρ (rhoS hs ρ σ) σ:=by
 intro c s h;cases s<;>simp[rhoS,h]
mutual
def matS:AV→AV→Sg→Option Sg
 | .ptr c p t,v,σ=>match v with
  | .ptr b p' t'=>cond (decide (p=p')&&Nat.beq t t') (bindS c (.nm b) σ) none
  |_=>none
 | .agg l,v,σ=>match v with
  | .agg l'=>matL l l' σ
  |_=>none
 | .clo g l,v,σ=>match v with
  | .clo g' l'=>cond (Nat.beq g g') (matL l l' σ) none
  |_=>none
 |u,v,σ=>cond ((pl u||isDc u)&&eqv u v) (some σ) none
def matL:List AV→List AV→Sg→Option Sg
 | [],[],σ=>some σ
 |u::l,v::l',σ=>match matS u v σ with
  |some σ'=>matL l l' σ'
  |none=>none
 |_,_,_=>none
end
def Like(P:Program)(hs:Nat)(u v:AV)(σ:Sg):Prop:=
 (∀ ρ ρc,Agr hs ρ ρc σ→OK P ρ v→OK P ρc u∧den P ρc u=den P ρ v)∧(∀ t,Has P v t→Has P u t)
def LikeL(P:Program)(hs:Nat)(l l':List AV)(σ:Sg):Prop:=
 (∀ ρ ρc,Agr hs ρ ρc σ→OKL P ρ l'→OKL P ρc l∧denC P ρc l=denC P ρ l'∧denT P ρc l=denT P ρ l')∧(∀ fs o s,HasF P l' fs o s→HasF P l fs o s)∧(∀ e,HasA P l' e→HasA P l e)∧l.length=l'.length
theorem Like.sub{P:Program}{hs:Nat}{u v:AV}{σ σ':Sg}(h:Like P hs u v σ)(k:SgSub σ σ'):Like P hs u v σ':=⟨fun ρ ρc a=>h.1 ρ ρc (a.sub k),h.2⟩
theorem LikeL.nil{P:Program}{hs:Nat}{σ:Sg}:LikeL P hs [] [] σ:=⟨fun _ _ _ _=>⟨trivial,rfl,rfl⟩,fun _ _ _ h=>h,fun _ h=>h,rfl⟩
theorem LikeL.cons{P:Program}{hs:Nat}{u v:AV}{l l':List AV}{σ σ':Sg}(h:Like P hs u v σ)(hl:LikeL P hs l l' σ')(k:SgSub σ σ'):LikeL P hs (u::l) (v::l') σ':=by
 obtain⟨h1,h2⟩:=h.sub k;obtain⟨k1,k2,k3,k4⟩:=hl;refine⟨fun ρ ρc a ok=>?_,fun fs o s hh=>?_,fun e hh=>?_,by simp[k4]⟩
 ·simp only[OKL] at ok ⊢;obtain⟨a1,a2⟩:=h1 ρ ρc a ok.1;obtain⟨b1,b2,b3⟩:=k1 ρ ρc a ok.2;exact⟨⟨a1,b1⟩,by simp only[denC,a2,b2],by simp only[denT,a2,b3]⟩
 ·cases fs with
  |nil=>simp[HasF] at hh
  |cons f fs=>simp only[HasF] at hh ⊢;exact⟨hh.1,h2 _ hh.2.1,k2 _ _ _ hh.2.2⟩
 ·simp only[HasA] at hh ⊢;exact⟨h2 e hh.1,k3 e hh.2⟩
theorem LikeL.agg{P:Program}{hs:Nat}{l l':List AV}{σ:Sg}(h:LikeL P hs l l' σ):Like P hs (.agg l) (.agg l') σ:=by
 obtain⟨k1,k2,k3,k4⟩:=h;refine⟨fun ρ ρc a ok=>?_,fun t hh=>?_⟩
 ·simp only[OK] at ok ⊢;obtain⟨b1,b2,-⟩:=k1 ρ ρc a ok;exact⟨b1,by simp only[den,b2]⟩
 ·simp only[Has] at hh ⊢;rcases hh with⟨fs,h1,h2⟩|⟨n,e,h1,h2,h3,h4⟩
  ·exact .inl ⟨fs,h1,k2 _ _ _ h2⟩
  ·exact .inr ⟨n,e,h1,k4.trans h2,k3 e h3,h4⟩
theorem LikeL.tup{P:Program}{hs:Nat}{l l':List AV}{σ:Sg}(h:LikeL P hs l l' σ):Like P hs (.tup l) (.tup l') σ:=by
 obtain⟨k1,k2,k3,k4⟩:=h;refine⟨fun ρ ρc a ok=>?_,fun t hh=>?_⟩
 ·simp only[OK] at ok ⊢;obtain⟨b1,-,b3⟩:=k1 ρ ρc a ok;exact⟨b1,by simp only[den,b3]⟩
 ·simp[Has] at hh
theorem ZFP{P:Program}{hs:Nat}{v:AV}{σ:Sg}(h:pl v=true):Like P hs v v σ:=by
 refine⟨fun ρ ρc _ ok=>?_,fun _ h=>h⟩;have k:=pl_ok P v h ok;obtain⟨h1,h2⟩:=Zcm P (Ext.empty ρc) v k;exact⟨h2,h1.trans (Zcm P (Ext.empty ρ) v k).1.symm⟩
theorem ZHI{P:Program}{hs:Nat}{b c:Nat}{p:List Nat}{t:TypeId}{σ:Sg}(h:lkS c σ=some (.nm b)):Like P hs (.ptr c p t) (.ptr b p t) σ:=by
 refine⟨fun ρ ρc a ok=>?_,fun t h=>h⟩;have e:ρc c=ρ b:=a c _ h;simp only[OK,den] at ok ⊢;rw[e];exact⟨ok,rfl⟩
theorem ZFQ{P:Program}{hs:Nat}{b c n:Nat}{t:TypeId}{σ:Sg}(h:lkS c σ=some (.nm b)):Like P hs (.gs c n t) (.gs b n t) σ:=by
 refine⟨fun ρ ρc a ok=>?_,fun t h=>h⟩;have e:ρc c=ρ b:=a c _ h;simp only[OK,den] at ok ⊢;rw[e];exact⟨ok,rfl⟩
theorem ZEg{P:Program}{hs:Nat}{c:Nat}{t:TypeId}{σ:Sg}(h:lkS c σ=some (.nil t)):Like P hs (.gs c 0 t) .nils σ:=by
 refine⟨fun ρ ρc a ok=>?_,fun t h=>h⟩;have e:ρc c=some ⟨hs,0,0,t,true,0,true,nk⟩:=a c _ h;simp only[OK,den];rw[e];exact⟨⟨_,rfl,by simp⟩,rfl⟩
theorem like_gp{P:Program}{hs:Nat}{b c lo n z:Nat}{t:TypeId}{nn:Bool}{σ:Sg}(h:lkS c σ=some (.nm b)):Like P hs (.gp c lo n t false z) (.gp b lo n t nn z) σ:=by
 refine⟨fun ρ ρc a ok=>?_,fun t h=>h⟩;have e:ρc c=ρ b:=a c _ h;simp only[OK,den] at ok ⊢;rw[e];obtain⟨nm,h1,h2,h3⟩:=ok;exact⟨⟨nm,h1,fun h=>by simp at h,h3⟩,rfl⟩
theorem ZFf{P:Program}{hs:Nat}{b c n:Nat}{t:TypeId}{σ:Sg}(h:lkS c σ=some (.nm b)):Like P hs (.gp c 0 n t false 0) (.gs b n t) σ:=by
 refine⟨fun ρ ρc a ok=>?_,fun t h=>h⟩;have e:ρc c=ρ b:=a c _ h;obtain⟨k1,k2⟩:=ZEh P (ρ:=ρ) [b] (.gs b n t) ok;have hq:hasN b [b]=true:=Zqr.2 (by simp);simp only[toGpF,hq,cond_true] at k1 k2;simp only[OK,den] at k1 k2 ⊢;rw[e];exact⟨k1,k2⟩
theorem ZFg{P:Program}{hs:Nat}{c:Nat}{t:TypeId}{d:Dc}{σ:Sg}(h:lkS c σ=some (.nil t))(hf:d.fit P t=true):Like P hs (.dv c [] t d []) .nils σ:=by
 refine⟨fun ρ ρc a ok=>?_,fun t h=>h⟩;have e:ρc c=some ⟨hs,0,0,t,true,0,true,nk⟩:=a c _ h;simp only[OK,den];rw[e];exact⟨⟨_,(none,0),rfl,rfl,hf,⟨⟨fun _=>rfl,fun ad h=>by cases h⟩,Nat.le_refl _,by decide,fun i y hy=>by simp at hy⟩,fun _=>⟨rfl,rfl⟩⟩,rfl⟩
theorem ZFh{P:Program}{hs:Nat}{b c:Nat}{p:List Ds}{t:TypeId}{d:Dc}{x:List d.T}{σ:Sg}(h:lkS c σ=some (.sub b p t x.length)):Like P hs (.dv c [] t d x) (.dv b p t d x) σ:=by
 refine⟨fun ρ ρc a ok=>?_,fun t h=>h⟩;have e:ρc c=subN (ρ b) p t x.length:=a c _ h;simp only[OK] at ok;obtain⟨nm,⟨la,lc⟩,hb,hl,hf,⟨hadr,h1,h2,h3⟩,-⟩:=ok;have key:∀ (K2:Fz) (l:Option Addr×Nat),nm.K.le K2→l=(la,lc)→RepR P K2 d t l x:=by
  intro K2 l hle e;subst e;refine⟨hadr.le hle,h1,h2,fun i y hy=>?_⟩;obtain⟨b',o',k1,k2⟩:=h3 i y hy;exact⟨b',o',k1,DRep.move hle d b' _ b' _ y k2 fun j v _ hv=>hle.1 _ _ _ hv⟩
 have hd:den P ρ (.dv b p t d x)= .slice la x.length lc:=by simp[den,hb,dvV,hl]
 have hk:∀ na fz,nm.K.le {nm.K with na:=na,fz:=fz,fc:=0}:=fun na fz=>⟨fun _ _ _ h=>h,Nat.le_refl _⟩
 rw[hd];have none':∀ la',la'=la→lc=0→OK P ρc (.dv c [] t d x)∧den P ρc (.dv c [] t d x)= .slice la x.length lc:=by
  intro la' e1 e2;subst e2;have e':ρc c=some ⟨0,0,0,t,true,0,true,{nm.K with na:=la,fz:=x.length,fc:=0}⟩:=by
   rw[e,hb];simp only[subN,hl]
  refine⟨?_,by simp[den,e',dvV,dloc,nmL]⟩;simp only[OK];exact⟨_,(la,0),e',rfl,hf,key _ _ (hk _ _) rfl,fun _=>⟨rfl,rfl⟩⟩
 cases lc with
 |zero=>exact none' la rfl rfl
 |succ lc=>
  cases la with
  |none=>exact absurd (hadr.1 rfl) (by simp)
  |some ad=>
   obtain⟨ab,ao,as⟩:=ad;have hsp:as=none:=(hadr.2 _ rfl (Nat.succ_pos _)).1;subst hsp;have e':ρc c=some ⟨ab,ao,0,t,true,lc+1,false,{nm.K with na:=none,fz:=x.length,fc:=0}⟩:=by
    rw[e,hb];simp only[subN,hl]
   refine⟨?_,by simp[den,e',dvV,dloc,nmL]⟩;simp only[OK];exact⟨_,(some ⟨ab,ao,none⟩,lc+1),e',rfl,hf,key _ _ (hk _ _) rfl,fun _=>⟨rfl,rfl⟩⟩
theorem like_dv{P:Program}{hs:Nat}{b c:Nat}{t:TypeId}{d:Dc}{x:List d.T}{σ:Sg}(h:lkS c σ=some (.nm b)):Like P hs (.dv c [] t d x) (.dv b [] t d x) σ:=by
 refine⟨fun ρ ρc a ok=>?_,fun t h=>h⟩;have e:ρc c=ρ b:=a c _ h;simp only[OK,den] at ok ⊢;rw[e];exact⟨ok,rfl⟩
mutual
theorem ZzB(P:Program)(hs:Nat):(u v:AV)→(σ σ':Sg)→matS u v σ=some σ'→SgSub σ σ'∧Like P hs u v σ'
 | .ptr c p t,v,σ,σ',h=>by
  simp only[matS] at h;split at h
  ·obtain⟨h1,h2⟩:=Zac h;simp only[bA,decide_eq_true_eq] at h1;obtain⟨rfl,h3⟩:=h1;rw[← Zaj h3];obtain⟨k1,k2⟩:=ZgV h2;exact⟨k2,ZHI k1⟩
  ·cases h
 | .agg l,v,σ,σ',h=>by
  simp only[matS] at h;split at h
  ·obtain⟨h1,h2⟩:=Zxa P hs l _ σ σ' h;exact⟨h1,h2.agg⟩
  ·cases h
 | .clo g l,v,σ,σ',h=>by
  simp only[matS] at h;split at h
  ·obtain⟨h1,h2⟩:=Zac h;rw[← Zaj h1];obtain⟨k1,k2⟩:=Zxa P hs l _ σ σ' h2;refine⟨k1,fun ρ ρc a ok=>?_,fun t hh=>by simp only[Has] at hh ⊢;exact hh⟩;simp only[OK] at ok ⊢;obtain⟨b1,-,b3⟩:=k2.1 ρ ρc a ok;exact⟨b1,by simp only[den,b3]⟩
  ·cases h
 | .int k n,v,σ,σ',h=>Zc5 (by simpa only[matS] using h)
 | .bool b,v,σ,σ',h=>Zc5 (by simpa only[matS] using h)
 | .str s,v,σ,σ',h=>Zc5 (by simpa only[matS] using h)
 | .nilp,v,σ,σ',h=>Zc5 (by simpa only[matS] using h)
 | .sl _ _ _ _ _ _,v,σ,σ',h=>Zc5 (by simpa only[matS] using h)
 | .pa _ _ _ _ _,v,σ,σ',h=>Zc5 (by simpa only[matS] using h)
 | .nils,v,σ,σ',h=>Zc5 (by simpa only[matS] using h)
 | .gs _ _ _,v,σ,σ',h=>Zc5 (by simpa only[matS] using h)
 | .nilfn,v,σ,σ',h=>Zc5 (by simpa only[matS] using h)
 | .nilif,v,σ,σ',h=>Zc5 (by simpa only[matS] using h)
 | .ifc _ _,v,σ,σ',h=>Zc5 (by simpa only[matS] using h)
 | .ints _ _ _,v,σ,σ',h=>Zc5 (by simpa only[matS] using h)
 | .rows _ _,v,σ,σ',h=>Zc5 (by simpa only[matS] using h)
 | .tup _,v,σ,σ',h=>Zc5 (by simpa only[matS] using h)
 | .vec _ _,v,σ,σ',h=>Zc5 (by simpa only[matS] using h)
 | .gp _ _ _ _ _ _,v,σ,σ',h=>Zc5 (by simpa only[matS] using h)
 | .dv _ _ _ _ _,v,σ,σ',h=>Zc5 (by simpa only[matS] using h)
 | .dq _ _ _ _ _ _,v,σ,σ',h=>Zc5 (by simpa only[matS] using h)
 | .dc _ _,v,σ,σ',h=>Zc5 (by simpa only[matS] using h)
 | .itr _ _,v,σ,σ',h=>Zc5 (by simpa only[matS] using h)
 | .itp _,v,σ,σ',h=>Zc5 (by simpa only[matS] using h)
theorem Zc5{P:Program}{hs:Nat}{u v:AV}{σ σ':Sg}(h:cond ((pl u||isDc u)&&eqv u v) (some σ) none=some σ'):SgSub σ σ'∧Like P hs u v σ':=by
 obtain⟨h1,h2⟩:=Zac h;simp only[bA,Bool.or_eq_true] at h1;obtain rfl:=oI h2;rw[← ZCp _ _ h1.2];refine⟨SgSub.refl _,?_⟩;rcases h1.1 with h|h
 ·exact ZFP h
 ·cases u<;>simp only[isDc,Bool.false_eq_true] at h;exact⟨fun ρ ρc _ _=>⟨by simp[OK],by simp[den]⟩,fun _ h=>h⟩
theorem Zxa(P:Program)(hs:Nat):(l l':List AV)→(σ σ':Sg)→matL l l' σ=some σ'→SgSub σ σ'∧LikeL P hs l l' σ'
 | [],[],σ,σ',h=>by
  simp only[matL,oE] at h;subst h;exact⟨SgSub.refl _,LikeL.nil⟩
 |u::l,v::l',σ,σ',h=>by
  simp only[matL] at h;split at h
  ·rename_i σ1 h1;obtain⟨a1,a2⟩:=ZzB P hs u v σ σ1 h1;obtain⟨b1,b2⟩:=Zxa P hs l l' σ1 σ' h;exact⟨a1.trans b1,LikeL.cons a2 b2 b1⟩
  ·cases h
 | [],_::_,_,_,h=>by simp[matL] at h
 |_::_,[],_,_,h=>by simp[matL] at h
end
mutual
def Pt.gS(P:Program){α:Type}:Pt α→AV→Sg→Option (α×Sg)
 | .slw c te,v,σ=>match v with
  | .gs b n te'=>cond (Nat.beq te te') (match bindS c (.nm b) σ with|some σ'=>some (n,σ')|none=>none) none
  | .nils=>match bindS c (.nil te) σ with|some σ'=>some (0,σ')|none=>none
  |_=>none
 | .gsw c te,v,σ=>match v with
  | .gs b n te'=>cond (Nat.beq te te') (match bindS c (.nm b) σ with|some σ'=>some (n,σ')|none=>none) none
  | .nils=>match bindS c (.nil te) σ with|some σ'=>some (0,σ')|none=>none
  |_=>none
 | .gpw c te,v,σ=>match v with
  | .gp b lo n te' _ z=>cond (Nat.beq te te') (match bindS c (.nm b) σ with|some σ'=>some ((lo,n,z),σ')|none=>none) none
  | .gs b n te'=>cond (Nat.beq te te') (match bindS c (.nm b) σ with|some σ'=>some ((0,n,0),σ')|none=>none) none
  |_=>none
 | .dvw c te d,v,σ=>match v with
  | .dv b p te' d' x=>match p with
   | []=>(match h:d'.same d with
    |true=>cond (Nat.beq te te') (match bindS c (.nm b) σ with|some σ'=>some (castD (Dc.same_eq d' d h) x,σ')|none=>none) none
    |false=>none)
   |s::p=>(match h:d'.same d with
    |true=>cond (Nat.beq te te') (match bindS c (.sub b (s::p) te x.length) σ with|some σ'=>some (castD (Dc.same_eq d' d h) x,σ')|none=>none) none
    |false=>none)
  | .nils=>cond (d.fit P te) (match bindS c (.nil te) σ with|some σ'=>some ([],σ')|none=>none) none
  |_=>none
 | .lit u,v,σ=>match matS u v σ with
  |some σ'=>some ((),σ')
  |none=>none
 | .agg e,v,σ=>match v with
  | .agg l=>e.gS P l σ
  |_=>none
 | .tup e,v,σ=>match v with
  | .tup l=>e.gS P l σ
  |_=>none
 | .itr,_,_=>none
 |p,v,σ=>match p.get v with
  |some x=>some (x,σ)
  |none=>none
def Ag.gS(P:Program){α:Type}:Ag α→List AV→Sg→Option (α×Sg)
 | .nil,l,σ=>match l with| []=>some ((),σ)|_::_=>none
 | .one p,l,σ=>match l with
  | []=>none
  |v::l=>match l with| []=>p.gS P v σ|_::_=>none
 | .cons p r,l,σ=>match l with
  |v::l=>match p.gS P v σ with
   |some x=>match r.gS P l x.2 with
    |some y=>some ((x.1,y.1),y.2)
    |none=>none
   |none=>none
  | []=>none
end
theorem Zuh{P:Program}{hs:Nat}{α:Type}{p:Pt α}{v:AV}{σ σ':Sg}{x:α}(hp:∀ x,pl (p.mk x)=true)(h:(match p.get v with|some x=>some (x,σ)|none=>none)=some (x,σ')):SgSub σ σ'∧Like P hs (p.mk x) v σ':=by
 split at h
 ·rename_i y hy;simp only[oE,pE] at h;obtain⟨rfl,rfl⟩:=h;rw[Pt.get_mk p v y hy];exact⟨SgSub.refl _,ZFP (hp y)⟩
 ·cases h
mutual
theorem Pt.gS_spec(P:Program)(hs:Nat){α:Type}:(p:Pt α)→(v:AV)→(σ σ':Sg)→(x:α)→p.gS P v σ=some (x,σ')→SgSub σ σ'∧Like P hs (p.mk x) v σ'
 | .int k,v,σ,σ',x,h=>Zuh (fun _=>rfl) (by simpa only[Pt.gS] using h)
 | .bool,v,σ,σ',x,h=>Zuh (fun _=>rfl) (by simpa only[Pt.gS] using h)
 | .ints k n,v,σ,σ',x,h=>Zuh (fun _=>rfl) (by simpa only[Pt.gS] using h)
 | .lst k,v,σ,σ',x,h=>Zuh (fun _=>rfl) (by simpa only[Pt.gS] using h)
 | .vec c,v,σ,σ',x,h=>Zuh (fun _=>rfl) (by simpa only[Pt.gS] using h)
 | .str,v,σ,σ',x,h=>Zuh (fun _=>rfl) (by simpa only[Pt.gS] using h)
 | .itr,v,σ,σ',x,h=>by simp[Pt.gS] at h
 | .slw c te,v,σ,σ',x,h=>by
  simp only[Pt.gS] at h;split at h
  ·obtain⟨h1,h2⟩:=Zac h;split at h2
   ·rename_i σ1 h3;simp only[oE,pE] at h2;obtain⟨rfl,rfl⟩:=h2;obtain⟨k1,k2⟩:=ZgV h3;rw[← Zaj h1];exact⟨k2,ZFQ k1⟩
   ·cases h2
  ·split at h
   ·rename_i σ1 h3;simp only[oE,pE] at h;obtain⟨rfl,rfl⟩:=h;obtain⟨k1,k2⟩:=ZgV h3;exact⟨k2,ZEg k1⟩
   ·cases h
  ·cases h
 | .gsw c te,v,σ,σ',x,h=>by
  simp only[Pt.gS] at h;split at h
  ·obtain⟨h1,h2⟩:=Zac h;split at h2
   ·rename_i σ1 h3;simp only[oE,pE] at h2;obtain⟨rfl,rfl⟩:=h2;obtain⟨k1,k2⟩:=ZgV h3;rw[← Zaj h1];exact⟨k2,ZFQ k1⟩
   ·cases h2
  ·split at h
   ·rename_i σ1 h3;simp only[oE,pE] at h;obtain⟨rfl,rfl⟩:=h;obtain⟨k1,k2⟩:=ZgV h3;exact⟨k2,ZEg k1⟩
   ·cases h
  ·cases h
 | .gpw c te,v,σ,σ',x,h=>by
  simp only[Pt.gS] at h;split at h
  ·obtain⟨h1,h2⟩:=Zac h;split at h2
   ·rename_i σ1 h3;simp only[oE,pE] at h2;obtain⟨rfl,rfl⟩:=h2;obtain⟨k1,k2⟩:=ZgV h3;rw[← Zaj h1];exact⟨k2,like_gp k1⟩
   ·cases h2
  ·obtain⟨h1,h2⟩:=Zac h;split at h2
   ·rename_i σ1 h3;simp only[oE,pE] at h2;obtain⟨rfl,rfl⟩:=h2;obtain⟨k1,k2⟩:=ZgV h3;rw[← Zaj h1];exact⟨k2,ZFf k1⟩
   ·cases h2
  ·cases h
 | .dvw c te d,v,σ,σ',x,h=>by
  simp only[Pt.gS] at h;split at h
  ·split at h
   ·split at h
    ·rename_i d' x0 hs;obtain⟨h1,h2⟩:=Zac h;split at h2
     ·rename_i σ1 h3;simp only[oE,pE] at h2;obtain⟨h2,rfl⟩:=h2;obtain⟨k1,k2⟩:=ZgV h3;have e:=Dc.same_eq _ d hs;subst e;rw[← Zaj h1,← h2];exact⟨k2,like_dv k1⟩
     ·cases h2
    ·cases h
   ·split at h
    ·rename_i hs;obtain⟨h1,h2⟩:=Zac h;split at h2
     ·rename_i σ1 h3;simp only[oE,pE] at h2;obtain⟨h2,rfl⟩:=h2;obtain⟨k1,k2⟩:=ZgV h3;have e:=Dc.same_eq _ d hs;subst e;rw[← Zaj h1,← h2];exact⟨k2,ZFh (by rw[Zaj h1] at k1;rw[Zaj h1];exact k1)⟩
     ·cases h2
    ·cases h
  ·obtain⟨h1,h2⟩:=Zac h;split at h2
   ·rename_i σ1 h3;simp only[oE,pE] at h2;obtain⟨rfl,rfl⟩:=h2;obtain⟨k1,k2⟩:=ZgV h3;exact⟨k2,ZFg k1 h1⟩
   ·cases h2
  ·cases h
 | .lit u,v,σ,σ',x,h=>by
  simp only[Pt.gS] at h;split at h
  ·rename_i σ1 h1;simp only[oE,pE] at h;obtain⟨-,rfl⟩:=h;exact ZzB P hs u v σ σ1 h1
  ·cases h
 | .agg e,v,σ,σ',x,h=>by
  simp only[Pt.gS] at h;split at h
  ·obtain⟨h1,h2⟩:=Ag.gS_spec P hs e _ σ σ' x h;exact⟨h1,h2.agg⟩
  ·cases h
 | .tup e,v,σ,σ',x,h=>by
  simp only[Pt.gS] at h;split at h
  ·obtain⟨h1,h2⟩:=Ag.gS_spec P hs e _ σ σ' x h;exact⟨h1,h2.tup⟩
  ·cases h
theorem Ag.gS_spec(P:Program)(hs:Nat){α:Type}:(e:Ag α)→(l:List AV)→(σ σ':Sg)→(x:α)→e.gS P l σ=some (x,σ')→SgSub σ σ'∧LikeL P hs (e.mk x) l σ'
 | .nil,l,σ,σ',x,h=>by
  simp only[Ag.gS] at h;split at h
  ·simp only[oE,pE] at h;obtain⟨-,rfl⟩:=h;exact⟨SgSub.refl _,LikeL.nil⟩
  ·cases h
 | .one p,l,σ,σ',x,h=>by
  simp only[Ag.gS] at h;split at h
  ·cases h
  ·split at h
   ·obtain⟨h1,h2⟩:=Pt.gS_spec P hs p _ σ σ' x h;exact⟨h1,LikeL.cons h2 LikeL.nil (SgSub.refl _)⟩
   ·cases h
 | .cons p r,l,σ,σ',x,h=>by
  simp only[Ag.gS] at h;split at h
  ·split at h
   ·rename_i y hy;split at h
    ·rename_i z hz;simp only[oE,pE] at h;obtain⟨rfl,rfl⟩:=h;obtain⟨h1,h2⟩:=Pt.gS_spec P hs p _ σ y.2 y.1 (by rw[hy]);obtain⟨k1,k2⟩:=Ag.gS_spec P hs r _ y.2 z.2 z.1 (by rw[hz]);exact⟨h1.trans k1,LikeL.cons h2 k2 k1⟩
    ·cases h
   ·cases h
  ·cases h
end
end Go.Vx
namespace Go.Vx
open Go Go.RowKit
theorem Zsp{P:Program}{nm:Nm}{u v:AV}(h:∀ t,Has P v t→Has P u t)(hr:nm.row=true→HasN P nm v→HasN P nm u)(hv:HasN P nm v):HasN P nm u:=by
 cases hq:nm.row with
 |true=>exact hr hq hv
 |false=>
  unfold HasN at hv ⊢;rw[hq] at hv ⊢;simp only[Bool.false_eq_true,if_false] at hv ⊢;exact h _ hv
theorem ZCq{P:Program}{nm:Nm}{l l':List AV}(hA:∀ e,HasA P l' e→HasA P l e)(hl:l.length=l'.length)(hr:nm.row=true)(hv:HasN P nm (.agg l')):HasN P nm (.agg l):=by
 unfold HasN at hv ⊢;rw[if_pos hr] at hv ⊢;exact⟨hl.trans hv.1,hA _ hv.2⟩
theorem ZFR(P:Program){u v:AV}{σ σ':Sg}(h:matS u v σ=some σ')(nm:Nm)(hv:HasN P nm v):HasN P nm u:=by
 have h0:=(ZzB P 0 u v σ σ' h).2.2;refine Zsp h0 (fun hr hv=>?_) hv;cases u with
 |ptr c p t=>
  simp only[matS] at h;split at h
  ·unfold HasN at hv;rw[if_pos hr] at hv;exact hv.elim
  ·cases h
 |agg l=>
  simp only[matS] at h;split at h
  ·obtain⟨-,-,-,k3,k4⟩:=Zxa P 0 l _ σ σ' h;exact ZCq k3 k4 hr hv
  ·cases h
 |clo g l=>
  simp only[matS] at h;split at h
  ·unfold HasN at hv;rw[if_pos hr] at hv;exact hv.elim
  ·cases h
 |_=>
  simp only[matS] at h;obtain⟨h1,-⟩:=Zac h;simp only[bA] at h1;rw[ZCp _ _ h1.2];exact hv
theorem gS_hasN(P:Program){α:Type}(p:Pt α){v:AV}{σ σ':Sg}{x:α}(h:p.gS P v σ=some (x,σ'))(nm:Nm)(hv:HasN P nm v):HasN P nm (p.mk x):=by
 have h0:=(Pt.gS_spec P 0 p v σ σ' x h).2.2;have plain:∀ {p:Pt α} {y:α},p.get v=some y→some (y,σ)=some (x,σ')→HasN P nm (p.mk x):=by
  intro p y hy h;simp only[oE,pE] at h;obtain⟨rfl,rfl⟩:=h;rw[← Pt.get_mk p v y hy];exact hv
 cases p with
 |int k=>
  simp only[Pt.gS] at h;split at h
  ·rename_i y hy;exact plain hy h
  ·cases h
 |bool=>
  simp only[Pt.gS] at h;split at h
  ·rename_i y hy;exact plain hy h
  ·cases h
 |ints k n=>
  simp only[Pt.gS] at h;split at h
  ·rename_i y hy;exact plain hy h
  ·cases h
 |lst k=>
  simp only[Pt.gS] at h;split at h
  ·rename_i y hy;exact plain hy h
  ·cases h
 |vec c=>
  simp only[Pt.gS] at h;split at h
  ·rename_i y hy;exact plain hy h
  ·cases h
 |str=>
  simp only[Pt.gS] at h;split at h
  ·rename_i y hy;exact plain hy h
  ·cases h
 |itr=>simp[Pt.gS] at h
 |lit u=>
  simp only[Pt.gS] at h;split at h
  ·rename_i σ1 h1;exact ZFR P h1 nm hv
  ·cases h
 |agg e=>
  refine Zsp h0 (fun hr hv=>?_) hv;simp only[Pt.gS] at h;split at h
  ·obtain⟨-,-,-,k3,k4⟩:=Ag.gS_spec P 0 e _ σ σ' x h;exact ZCq k3 k4 hr hv
  ·cases h
 |tup e=>
  refine Zsp h0 (fun hr hv=>?_) hv;simp only[Pt.gS] at h;split at h
  ·unfold HasN at hv;rw[if_pos hr] at hv;exact hv.elim
  ·cases h
 |slw c te=>
  refine Zsp h0 (fun hr hv=>?_) hv;simp only[Pt.gS] at h;split at h
  ·unfold HasN at hv;rw[if_pos hr] at hv;exact hv.elim
  ·unfold HasN at hv;rw[if_pos hr] at hv;exact hv.elim
  ·cases h
 |gsw c te=>
  refine Zsp h0 (fun hr hv=>?_) hv;simp only[Pt.gS] at h;split at h
  ·unfold HasN at hv;rw[if_pos hr] at hv;exact hv.elim
  ·unfold HasN at hv;rw[if_pos hr] at hv;exact hv.elim
  ·cases h
 |gpw c te=>
  refine Zsp h0 (fun hr hv=>?_) hv;simp only[Pt.gS] at h;split at h
  ·unfold HasN at hv;rw[if_pos hr] at hv;exact hv.elim
  ·unfold HasN at hv;rw[if_pos hr] at hv;exact hv.elim
  ·cases h
 |dvw c te d=>
  refine Zsp h0 (fun hr hv=>?_) hv;simp only[Pt.gS] at h;split at h
  ·unfold HasN at hv;rw[if_pos hr] at hv;exact hv.elim
  ·unfold HasN at hv;rw[if_pos hr] at hv;exact hv.elim
  ·cases h
theorem matS_dc{u v:AV}{σ σ':Sg}(h:matS u v σ=some σ'):isDc u=isDc v:=by
 cases u with
 |ptr c p t=>simp only[matS] at h;split at h<;>first|rfl|cases h
 |agg l=>simp only[matS] at h;split at h<;>first|rfl|cases h
 |clo g l=>simp only[matS] at h;split at h<;>first|rfl|cases h
 |_=>
  simp only[matS] at h;obtain⟨h1,-⟩:=Zac h;simp only[bA] at h1;rw[ZCp _ _ h1.2]
theorem gS_dc{P:Program}{α:Type}(p:Pt α){v:AV}{σ σ':Sg}{x:α}(h:p.gS P v σ=some (x,σ')):isDc (p.mk x)=isDc v:=by
 have plain:∀ {p:Pt α} {y:α},p.get v=some y→some (y,σ)=some (x,σ')→isDc (p.mk x)=isDc v:=by
  intro p y hy h;simp only[oE,pE] at h;obtain⟨rfl,rfl⟩:=h;rw[← Pt.get_mk p v y hy]
 cases p with
 |lit u=>
  simp only[Pt.gS] at h;split at h
  ·rename_i σ1 h1;exact matS_dc h1
  ·cases h
 |itr=>simp[Pt.gS] at h
 |slw=>simp only[Pt.gS] at h;split at h<;>first|rfl|cases h
 |gsw=>simp only[Pt.gS] at h;split at h<;>first|rfl|cases h
 |gpw=>simp only[Pt.gS] at h;split at h<;>first|rfl|cases h
 |dvw=>simp only[Pt.gS] at h;split at h<;>first|rfl|cases h
 |agg=>simp only[Pt.gS] at h;split at h<;>first|rfl|cases h
 |tup=>simp only[Pt.gS] at h;split at h<;>first|rfl|cases h
 |_=>
  simp only[Pt.gS] at h;split at h
  ·rename_i y hy;exact plain hy h
  ·cases h
theorem ZHJ{P:Program}{α:Type}(p:Pt α){v:AV}{σ σ':Sg}{x:α}(h:p.gS P v σ=some (x,σ'))(s:ByteArray)(q:Nat):p.mk x≠ .itr s q:=by
 cases p with
 |itr=>simp[Pt.gS] at h
 |lit u=>
  simp only[Pt.gS] at h;split at h
  ·rename_i σ1 h1
   rintro rfl
   simp[matS,pl,isDc,Pt.mk] at h1
  ·cases h
 |_=>simp[Pt.mk]
def Pt.emp{α:Type}:Pt α→Option α
 | .lst _=>some (0,[])
 | .vec _=>some []
 | .lit v=>match v with
  | .dc _ x=>cond x.isEmpty (some ()) none
  |_=>none
 |_=>none
theorem Pt.emp_spec{α:Type}{p:Pt α}{x:α}{q:Rk}(h:p.emp=some x)(hq:p.rk=some q):p.mk x=q.T:=by
 cases p<;>simp only[Pt.emp,Pt.rk,oE,reduceCtorEq] at h hq
 ·subst h hq;rfl
 ·subst h hq;rfl
 ·split at h
  ·obtain⟨h1,-⟩:=Zac h;simp only[oE] at hq;subst hq;simp only[Pt.mk,Rk.T,List.isEmpty_iff.1 h1]
  ·cases h
def entS(P:Program){α:Type}(c:Nat)(p:Pt α)(m:List (Nat×AV))(σ:Sg):Option (α×Sg):=
 match lkS c σ with
 |some (.nm b)=>match lk b m with
  |some T=>p.gS P T σ
  |none=>none
 |some (.nil te)=>match p.emp,p.rk with
  |some x,some q=>cond (q.ok P te) (some (x,σ)) none
  |_,_=>none
 |some (.sub _ _ _ _)=>none
 |none=>none
def Ent.gS(P:Program){α:Type}:Ent α→List (Nat×AV)→Sg→Option (α×Sg)
 | .nil,_,σ=>some ((),σ)
 | .one c p,m,σ=>entS P c p m σ
 | .cons c p r,m,σ=>match entS P c p m σ with
  |some x=>match r.gS P m x.2 with
   |some y=>some ((x.1,y.1),y.2)
   |none=>none
  |none=>none
def Met(P:Program)(hs:Nat)(mem:List (Nat×AV))(c:Nat)(T:AV)(σ:Sg):Prop:=
 ((∃ b T0,lkS c σ=some (.nm b)∧lk b mem=some T0∧Like P hs T T0 σ∧(∀ nm,HasN P nm T0→HasN P nm T)∧isDc T=isDc T0)∨(∃ te q,lkS c σ=some (.nil te)∧T=Rk.T q∧q.ok P te=true))∧∀ s p,T≠ .itr s p
theorem Met.sub{P:Program}{hs:Nat}{mem:List (Nat×AV)}{c:Nat}{T:AV}{σ σ':Sg}(h:Met P hs mem c T σ)(k:SgSub σ σ'):Met P hs mem c T σ':=by
 obtain⟨h,hi⟩:=h;refine⟨?_,hi⟩;rcases h with⟨b,T0,h1,h2,h3,h4⟩|⟨te,q,h1,h2⟩
 ·exact .inl ⟨b,T0,k _ _ h1,h2,h3.sub k,h4⟩
 ·exact .inr ⟨te,q,k _ _ h1,h2⟩
theorem ZCr{P:Program}(hs:Nat){α:Type}{c:Nat}{p:Pt α}{m:List (Nat×AV)}{σ σ':Sg}{x:α}(h:entS P c p m σ=some (x,σ')):SgSub σ σ'∧Met P hs m c (p.mk x) σ':=by
 unfold entS at h;split at h
 ·rename_i b hb;split at h
  ·rename_i T hT;obtain⟨h1,h2⟩:=Pt.gS_spec P hs p T σ σ' x h;exact⟨h1,.inl ⟨b,T,h1 _ _ hb,hT,h2,gS_hasN P p h,gS_dc p h⟩,ZHJ p h⟩
  ·cases h
 ·rename_i te ht;split at h
  ·rename_i y q hy hq;obtain⟨h1,h2⟩:=Zac h;simp only[oE,pE] at h2;obtain⟨rfl,rfl⟩:=h2;rw[Pt.emp_spec hy hq];exact⟨SgSub.refl _,.inr ⟨te,q,ht,rfl,h1⟩,by cases q<;>simp[Rk.T]⟩
  ·cases h
 ·cases h
 ·cases h
theorem Ent.gS_spec{P:Program}(hs:Nat){α:Type}:(e:Ent α)→(m:List (Nat×AV))→(σ σ':Sg)→(x:α)→e.gS P m σ=some (x,σ')→SgSub σ σ'∧∀ c T,lk c (e.mk x)=some T→Met P hs m c T σ'
 | .nil,m,σ,σ',x,h=>by
  simp only[Ent.gS,oE,pE] at h;obtain⟨-,rfl⟩:=h;exact⟨SgSub.refl _,fun c T hT=>by simp[Ent.mk,lk] at hT⟩
 | .one d p,m,σ,σ',x,h=>by
  simp only[Ent.gS] at h;obtain⟨h1,h2⟩:=ZCr hs h;refine⟨h1,fun c T hT=>?_⟩;simp only[Ent.mk] at hT;by_cases hd:d=c
  ·subst hd;rw[Zal] at hT;rw[← oI hT];exact h2
  ·rw[Zan hd] at hT;simp[lk] at hT
 | .cons d p r,m,σ,σ',x,h=>by
  simp only[Ent.gS] at h;split at h
  ·rename_i y hy;split at h
   ·rename_i z hz;simp only[oE,pE] at h;obtain⟨rfl,rfl⟩:=h;obtain⟨h1,h2⟩:=ZCr hs (x:=y.1) (σ':=y.2) hy;obtain⟨k1,k2⟩:=Ent.gS_spec hs r m y.2 z.2 z.1 hz;refine⟨h1.trans k1,fun c T hT=>?_⟩;simp only[Ent.mk] at hT;by_cases hd:d=c
    ·subst hd;rw[Zal] at hT;rw[← oI hT];exact h2.sub k1
    ·rw[Zan hd] at hT;exact k2 c T hT
   ·cases h
  ·cases h
def ownOK(ro ro':Nat)(ns:List Nat)(σ:Sg):Bool:=
 ns.all fun c=>Nat.blt c ro'||(match lkS c σ with
  |some (.nm b)=>Nat.ble ro b&&ns.all fun c'=>Nat.beq c' c||(match lkS c' σ with
   |some (.nm b')=> !Nat.beq b' b
   |_=>true)
  |_=>true)
theorem Zmo{ro ro':Nat}{ns:List Nat}{σ:Sg}(h:ownOK ro ro' ns σ=true){c b:Nat}(hc:c∈ns)(hr:ro'≤c)(hb:lkS c σ=some (.nm b)):ro≤b∧∀ c' b',c'∈ns→c'≠c→lkS c' σ=some (.nm b')→b'≠b:=by
 have h1:=List.all_eq_true.1 h c hc;simp only[Bool.or_eq_true,hb,bA] at h1;rcases h1 with h1|⟨h1,h2⟩
 ·have:c<ro':=by simpa using h1
  omega
 ·refine⟨Nat.le_of_ble_eq_true h1,fun c' b' hc' hne hb' e=>?_⟩;have h3:=List.all_eq_true.1 h2 c' hc';simp only[hb',Bool.or_eq_true] at h3;rcases h3 with h3|h3
  ·exact hne (Zaj h3)
  ·subst e;simp at h3
theorem Sim.under{P:Program}{w0:Base}{ro ro':Nat}{ρ:Rho}{mem L:List (Nat×AV)}{w:World}(S:Sim P w0 ro ρ [] mem #[] w){σ:Sg}{ns:List Nat}(hL:∀ c T,lk c L=some T→c∈ns∧Met P w.heap.size mem c T σ)(ho:ownOK ro ro' ns σ=true):
  Sim P w0 ro' (rhoS w.heap.size ρ σ) [] L #[] w:=by
 have A:=ZBt w.heap.size ρ σ;have atK:∀ c nm,rhoS w.heap.size ρ σ c=some nm→(∃ b nm0,ρ b=some nm0∧nm.K.K=nm0.K.K∧nm.K.hs=nm0.K.hs)∨nm.K=nk:=by
  intro c nm h;unfold rhoS at h;split at h
  ·rename_i b hb;exact .inl ⟨b,nm,h,rfl,rfl⟩
  ·rename_i te ht;obtain rfl:=oI h;exact .inr rfl
  ·rename_i b p te n hb;obtain⟨nm0,k1,k2⟩:=ZIS h;exact .inl ⟨b,nm0,k1,k2⟩
  ·cases h
 have at1:∀ c nm T,lk c L=some T→rhoS w.heap.size ρ σ c=some nm→(∃ b,lkS c σ=some (.nm b)∧ρ b=some nm)∨(nm.non=true∧nm.K=nk∧∃ te,lkS c σ=some (.nil te)):=by
  intro c nm T hT h;obtain⟨-,hm,-⟩:=hL c T hT;unfold rhoS at h;split at h
  ·rename_i b hb;exact .inl ⟨b,hb,h⟩
  ·rename_i te ht;obtain rfl:=oI h;exact .inr ⟨rfl,rfl,te,ht⟩
  ·rename_i b p te n hb;rcases hm with⟨_,_,q1,-⟩|⟨_,_,q1,-⟩<;>rw[hb] at q1<;>cases q1
  ·cases h
 refine⟨fun d v h=>by simp[lk] at h,?_,?_,?_,?_,S.below,?_⟩
 ·intro c T hT;obtain⟨hc,hm,-⟩:=hL c T hT;rcases hm with⟨b,T0,h1,h2,h3,h4,-⟩|⟨te,q,h1,rfl,h3⟩
  ·obtain⟨nm,k1,k2,k3,k4,k5⟩:=S.cell b T0 h2;obtain⟨l1,l2⟩:=h3.1 ρ _ A k3;have hce:cells P (rhoS w.heap.size ρ σ) T=cells P ρ T0:=by unfold cells;rw[l2]
   exact⟨nm,(A c _ h1).trans k1,h4 nm k2,l1,by rw[hce];exact k4,fun j x hx=>k5 j x (by rw[← hce];exact hx)⟩
  ·obtain⟨k1,k2⟩:=Rk.T_spec P (rhoS w.heap.size ρ σ) q;exact⟨_,A c _ h1,Rk.has h3 _,k1,.inr ⟨rfl,k2⟩,fun j x hx=>by rw[k2] at hx;simp at hx⟩
 ·intro c T nm hT hnm hro;obtain⟨hc,hm,-⟩:=hL c T hT;rcases hm with⟨b,T0,h1,h2,h3,h4,-⟩|⟨te,q,h1,rfl,h3⟩
  ·have hb:ρ b=some nm:=by rw[← A c _ h1];exact hnm
   obtain⟨o1,-⟩:=Zmo ho hc hro h1;obtain⟨k1,k2⟩:=S.own b T0 nm h2 hb o1;obtain⟨nm',-,-,g3,-⟩:=S.cell b T0 h2;refine⟨k1,fun j hj=>k2 j ?_⟩;unfold cells at hj ⊢;rw[(h3.1 ρ _ A g3).2] at hj;exact hj
  ·have:nm=⟨w.heap.size,0,0,te,true,0,true,nk⟩:=by
    have:=A c _ h1;rw[hnm] at this;exact oI this
   subst this;refine⟨fun h=>by simp at h,fun j hj=>?_⟩;rw[(Rk.T_spec P _ q).2] at hj;simp at hj
 ·intro c c' T T' nm nm' hT hT' hnm hnm' hro hne z z';obtain⟨hc,hm,-⟩:=hL c T hT;obtain⟨hc',hm',-⟩:=hL c' T' hT';rcases at1 c nm T hT hnm with⟨b,h1,h2⟩|⟨h1,-⟩
  ·rcases at1 c' nm' T' hT' hnm' with⟨b',h1',h2'⟩|⟨h1',-⟩
   ·obtain⟨o1,o2⟩:=Zmo ho hc hro h1;have hbb:=o2 c' b' hc' (fun e=>hne e.symm) h1';rcases hm with⟨_,T0,q1,q2,-⟩|⟨te,q,q1,-⟩
    ·rw[h1] at q1;obtain⟨rfl⟩:=q1;rcases hm' with⟨_,T0',q1',q2',-⟩|⟨te,q,q1',-⟩
     ·rw[h1'] at q1';obtain⟨rfl⟩:=q1';exact S.apart b b' T0 T0' nm nm' q2 q2' h2 h2' o1 (fun e=>hbb e.symm) z z'
     ·rw[h1'] at q1';cases q1'
    ·rw[h1] at q1;cases q1
   ·rw[h1'] at z';cases z'
  ·rw[h1] at z;cases z
 ·intro c T nm hT hnm hro hr;obtain⟨hc,hm,-⟩:=hL c T hT;rcases at1 c nm T hT hnm with⟨b,h1,h2⟩|⟨h1,-⟩
  ·rcases hm with⟨_,T0,q1,q2,-⟩|⟨te,q,q1,-⟩
   ·rw[h1] at q1;obtain⟨rfl⟩:=q1;exact S.rows b T0 nm q2 h2 (Zmo ho hc hro h1).1 hr
   ·rw[h1] at q1;cases q1
  ·exact .inl h1
 ·refine⟨fun c nm h k o v hk=>?_,fun c nm h=>?_,fun c nm h k o v hk=>?_,fun c T nm hT hnm hro z k o hf hk=>?_,fun c T nm hT hnm hro=>?_,fun c s p h=>((hL c _ h).2.2 s p rfl).elim,fun c s p nm h=>((hL c _ h).2.2 s p rfl).elim,fun c c' s s' p p' nm nm' h=>((hL c _ h).2.2 s p rfl).elim⟩
  ·rcases atK c nm h with⟨b,nm0,h2,h3,-⟩|h2
   ·rw[h3] at hk;exact S.ex.froz b nm0 h2 k o v hk
   ·rw[h2] at hk;simp[nk] at hk
  ·rcases atK c nm h with⟨b,nm0,h2,-,h3⟩|h2
   ·rw[h3];exact S.ex.fhs b nm0 h2
   ·rw[h2];exact Nat.zero_le _
  ·rcases atK c nm h with⟨b,nm0,h2,h3,-⟩|h2
   ·rw[h3] at hk;exact S.ex.org b nm0 h2 k o v hk
   ·rw[h2] at hk;simp[nk] at hk
  ·obtain⟨hc,hm,-⟩:=hL c T hT;rcases at1 c nm T hT hnm with⟨b,h1,h2⟩|⟨h1,-⟩
   ·rcases hm with⟨_,T0,q1,q2,-,-,q5⟩|⟨te,q,q1,-⟩
    ·rw[h1] at q1;obtain⟨rfl⟩:=q1;rw[q5];refine S.ex.away b T0 nm q2 h2 (Zmo ho hc hro h1).1 z k o ?_ hk;rcases hf with hf|⟨c',nm',v,hnm',hv⟩
     ·exact .inl hf
     ·rcases atK c' nm' hnm' with⟨b',nm0',h2',h3',-⟩|h2'
      ·rw[h3'] at hv;exact .inr ⟨b',nm0',v,h2',hv⟩
      ·rw[h2'] at hv;simp[nk] at hv
    ·rw[h1] at q1;cases q1
   ·rw[h1] at z;cases z
  ·obtain⟨hc,hm,-⟩:=hL c T hT;rcases at1 c nm T hT hnm with⟨b,h1,h2⟩|⟨-,h1,-⟩
   ·rcases hm with⟨_,T0,q1,q2,-⟩|⟨te,q,q1,-⟩
    ·rw[h1] at q1;obtain⟨rfl⟩:=q1;exact S.ex.nas b T0 nm q2 h2 (Zmo ho hc hro h1).1
    ·rw[h1] at q1;cases q1
   ·rw[h1];rfl
def SoundIo(P:Program)(w0:World)(g:FuncId)(ro nh:Nat){α β μ γ δ:Type}(A:Ag α)(R:Ent β)(M:Ent μ)(B:Pt γ)(M':Ent δ)(K:List Nat)(F:α×β×μ→Option (γ×δ)):Prop:=
 ∀ x y,F x=some y→∀ W:Base,W.g=w0→∀ ρ w,Sim P W ro ρ [] (R.mk x.2.1++M.mk x.2.2) #[] w→(∀ b nm,ρ b=some nm→32≤b∧b<nh)→OKL P ρ (A.mk x.1)→
  (callFunc g (denT P ρ (A.mk x.1)).toArray).run P w= .ok (.enter g (denT P ρ (A.mk x.1)).toArray) w∧
  Calls P g (denT P ρ (A.mk x.1)).toArray w fun e w'=>∃ a ρ',e= .returned a∧a=den P ρ' (B.mk y.1)∧OK P ρ' (B.mk y.1)∧Sim P W ro ρ' [] (M'.mk y.2) #[] w'∧Kp K ρ ρ'
def idS:List Nat→Sg
 | []=>[]
 |c::l=>(c,.nm c)::idS l
theorem ZEi{c:Nat}:{l:List Nat}→c∈l→lkS c (idS l)=some (.nm c)
 | [],h=>by simp at h
 |d::l,h=>by
  simp only[idS,lkS];cases hq:Nat.beq d c with
  |true=>rw[Zaj hq];rfl
  |false=>
   rcases List.mem_cons.1 h with rfl|h
   ·simp at hq
   ·exact ZEi h
def rdIo(P:Program)(ro:Nat){γ δ:Type}(B:Pt γ)(M':Ent δ)(K:List Nat)(v:AV)(mem:List (Nat×AV)):Option (γ×δ):=
 match B.gS P v (idS K) with
 |some x=>match M'.gS P mem x.2 with
  |some y=>cond (ownOK ro ro M'.names y.2) (some (x.1,y.1)) none
  |none=>none
 |none=>none
noncomputable def runIo(P:Program)(cx:Cx)(Λ:Nat→Option Lf)(n:Nat)(fn:Func)(g0:List (Nat×AV))(nh:Nat){α β μ γ δ:Type}(A:Ag α)(R:Ent β)(M:Ent μ)(B:Pt γ)(M':Ent δ)(K:List Nat)(x:α×β×μ):Option (γ×δ):=
 match fn.body with
 |some c=>cond (Nat.ble (A.mk x.1).length fn.ntmps) (exec P cx Λ n none c {tm:=numbered 0 (A.mk x.1),mem:=g0++(R.mk x.2.1++M.mk x.2.2),nx:=nh} fun e st=>match e with
  | .exit _=>none
  | .goto _=>none
  |_=>match results' fn st with
   |some v=>rdIo P cx.ro B M' K v st.mem
   |none=>none) none
 |none=>none
theorem ZFS:(gs:List Gv)→(k b:Nat)→(nm:Nm)→rhoAt gs k b=some nm→nm.K=nk
 | [],_,_,_,h=>by simp[rhoAt] at h
 |v::l,k,b,nm,h=>by
  rw[rhoAt] at h;split at h
  ·obtain rfl:=oI h;rfl
  ·exact ZFS l _ _ _ h
theorem io_run{P:Program}{w0:World}{g:FuncId}{fn:Func}{gs:List Gv}(hgs:GlobOK P w0 gs){cx:Cx}(hcl:cx.gl=glAt gs 0)(hcn:cx.nt=fn.ntmps){Λ:Nat→Option Lf}{n ro nh:Nat}(hro:cx.ro=ro){K:List Nat}
  (hΓ:∀ g C,cx.Γ g=some C→SoundAt P w0 g C) (hI:∀ W:Base,W.g=w0→∀ g I,cx.inl g=some I→InlOK P cx W g I) (hΛ:∀ W:Base,W.g=w0→∀ ρk c,fn.body=some c→LoopsOKX P cx W (Kp K ρk) Λ c)
  (hfn:P.funcs[g]? =some fn) (hname:(fn.name== "runtime.NumGoroutine")=false) (hb:fn.body.isNone=false)
  {α β μ γ δ:Type} {A:Ag α} {R:Ent β} {M:Ent μ} {B:Pt γ} {M':Ent δ} {F:α×β×μ→Option (γ×δ)} (hc:(Nat.ble gs.length 32&&Nat.ble 32 ro&&Nat.ble 32 nh)=true)
  (hrun:∀ x,runIo P cx Λ n fn (memAt gs 0) nh A R M B M' K x=F x):SoundIo P w0 g ro nh A R M B M' K F:=by
 simp only[bA] at hc;obtain⟨⟨c1,c2⟩,c3⟩:=hc;have c1:=Nat.le_of_ble_eq_true c1;have c2:=Nat.le_of_ble_eq_true c2;have c3:=Nat.le_of_ble_eq_true c3;intro x y hF W hW ρ w S hρ okv;refine⟨ZqU hfn hb hname _ w,?_⟩;rw[← hrun x] at hF;unfold runIo at hF;split at hF
 ·rename_i c hcb;obtain⟨hle,hF⟩:=Zac hF;rw[ZgQ] at hF;obtain⟨⟨e,st'⟩,h1,h2⟩:=ZbW hF;have hle':(A.mk x.1).length≤fn.ntmps:=Nat.le_of_ble_eq_true hle;have hlen:(denT P ρ (A.mk x.1)).length=(A.mk x.1).length:=Zsq P _ _
  let ρ0:Rho:=fun b=>if b<32 then rhoAt gs 0 b else ρ b
  have e0:Ext ρ ρ0:=fun b nm h=>by
   have:=(hρ b nm h).1;simp only[ρ0,show ¬ b<32 by omega,if_false];exact h
  have e1:Ext (rhoAt gs 0) ρ0:=fun b nm h=>by
   have:b<32:=by
    rcases Nat.lt_or_ge b 32 with h'|h'
    ·exact h'
    ·rw[Zx3 gs 0 b (.inr (by omega))] at h;cases h
   simp only[ρ0,this,if_true];exact h
  have r0:∀ b nm,ρ0 b=some nm→ρ b=some nm∨(b<32∧nm.K=nk):=by
   intro b nm h;by_cases hb:b<32
   ·simp only[ρ0,hb,if_true] at h;exact .inr ⟨hb,ZFS gs 0 b nm h⟩
   ·simp only[ρ0,hb,if_false] at h;exact .inl h
  obtain⟨-,hdT,hokT⟩:=Zqs P e0 _ okv;have hlow:∀ b T,lk b (R.mk x.2.1++M.mk x.2.2)=some T→32≤b:=fun b T hT=>by
   obtain⟨nm,k1,-⟩:=S.cell b T hT;exact(hρ b nm k1).1
  have live:∀ b T,lk b (memAt gs 0++(R.mk x.2.1++M.mk x.2.2))=some T→(b<32∧lk b (memAt gs 0)=some T)∨(32≤b∧lk b (R.mk x.2.1++M.mk x.2.2)=some T):=by
   intro b T hT;rw[ZCs] at hT;split at hT
   ·rename_i T' hT';obtain rfl:=oI hT;obtain⟨-,h2,-⟩:=Zmp gs 0 b T' hT';exact .inl ⟨by omega,hT'⟩
   ·exact .inr ⟨hlow b T hT,hT⟩
  have same:∀ b,32≤b→ρ0 b=ρ b:=fun b hb=>by simp only[ρ0,show ¬ b<32 by omega,if_false]
  have hB:=S.below.below;rw[hW] at hB;have start:In P cx W ρ0 {tm:=numbered 0 (A.mk x.1),mem:=memAt gs 0++(R.mk x.2.1++M.mk x.2.2),nx:=nh} {tmps:=(denT P ρ (A.mk x.1)).toArray++Array.replicate (fn.ntmps-(denT P ρ (A.mk x.1)).toArray.size) undef,defers:=[]} w:=by
   refine⟨⟨?_,?_,?_,?_,?_,S.below,?_⟩,?_,?_,?_,rfl⟩
   ·intro d v hd;obtain⟨-,h2⟩:=Zsr (A.mk x.1) 0 d v hd;simp only[Nat.sub_zero] at h2;have hdl:d<(A.mk x.1).length:=by
     rcases Nat.lt_or_ge d (A.mk x.1).length with h|h
     ·exact h
     ·simp[List.getElem?_eq_none h] at h2
    refine⟨by simp[hlen];omega,?_,Zx4 hokT h2⟩;have h3:=Zxb (P:=P) (ρ:=ρ0) h2;rw[hdT] at h3;simp only[Array.getD_eq_getD_getElem?];rw[Array.getElem?_append_left (by simp[hlen];omega)];simp[h3]
   ·intro b T hT;rcases live b T hT with⟨hb,h⟩|⟨hb,h⟩
    ·obtain⟨-,-,v,g3,rfl,g5⟩:=Zmp gs 0 b T h;obtain⟨k1,k2,k3,k4⟩:=hgs v g3;obtain⟨-,o2⟩:=Zcm P (Ext.empty ρ0) v.T k2;have hce:=ZbX P (Ext.empty ρ0) v.T k2;refine⟨_,e1 b _ g5,by simpa [HasN] using k1,o2,.inl ⟨rfl,Nat.lt_of_lt_of_le k3 hB.size⟩,fun j z hz=>?_⟩;rw[hce] at hz;simp only[Nat.zero_add];rw[Zx5 hB k3];exact k4 j z hz
    ·obtain⟨nm,k1,k2,k3,k4,k5⟩:=S.cell b T h;have hce:=ZbX P e0 T k3;exact⟨nm,e0 b nm k1,k2,(Zcm P e0 T k3).2,by rw[hce];exact k4,fun j z hz=>k5 j z (by rw[← hce];exact hz)⟩
   ·intro b T nm hT hnm hr;rw[hro] at hr;rcases live b T hT with⟨hb,h⟩|⟨hb,h⟩
    ·omega
    ·rw[same b hb] at hnm;obtain⟨k1,k2⟩:=S.own b T nm h hnm hr;obtain⟨nm',g1,-,g3,-⟩:=S.cell b T h;exact⟨k1,fun j hj=>k2 j (by rw[← ZbX P e0 T g3];exact hj)⟩
   ·intro b b' T T' nm nm' hT hT' hnm hnm' hr hne z z';rw[hro] at hr;rcases live b T hT with⟨hb,h⟩|⟨hb,h⟩
    ·omega
    ·rw[same b hb] at hnm;rcases live b' T' hT' with⟨hb',h'⟩|⟨hb',h'⟩
     ·obtain⟨-,-,v,g3,-,g5⟩:=Zmp gs 0 b' T' h';obtain⟨-,-,k3,-⟩:=hgs v g3;have:=e1 b' _ g5;rw[hnm'] at this;obtain rfl:=oI this;have:=Base.own_ge ((S.own b T nm h hnm hr).1 z);rw[hW] at this;simp only;omega
     ·rw[same b' hb'] at hnm';exact S.apart b b' T T' nm nm' h h' hnm hnm' hr hne z z'
   ·intro b T nm hT hnm hr;rw[hro] at hr;rcases live b T hT with⟨hb,h⟩|⟨hb,h⟩
    ·omega
    ·rw[same b hb] at hnm;exact S.rows b T nm h hnm hr
   ·have noI:∀ b s p,lk b (memAt gs 0)≠some (.itr s p):=by
     intro b s p hT;obtain⟨-,-,v,h3,h4,-⟩:=Zmp gs 0 b _ hT;obtain⟨k1,-⟩:=hgs v h3;rw[h4] at k1;simp[Has] at k1
    have it:∀ b s p,lk b (memAt gs 0++(R.mk x.2.1++M.mk x.2.2))=some (.itr s p)→32≤b∧lk b (R.mk x.2.1++M.mk x.2.2)=some (.itr s p):=by
     intro b s p h;rcases live b _ h with⟨-,h⟩|h
     ·exact(noI b s p h).elim
     ·exact h
    have noI2:∀ b s p,lk b (R.mk x.2.1++M.mk x.2.2)=some (.itr s p)→∃ nm,ρ b=some nm∧w.heap[nm.blk]? =some (.stringIter s p)∧W.own nm.blk:=S.ex.its;refine⟨fun b nm h k o v hk=>?_,fun b nm h=>?_,fun b nm h k o v hk=>?_,fun b T nm hT hnm hr z k o hf hk=>?_,fun b T nm hT hnm hr=>?_,fun b s p h=>?_,fun b s p nm h hnm b' T nm' hT' hnm' hr' z'=>?_,fun b b' s s' p p' nm nm' h h' hnm hnm' hne=>?_⟩
    ·rcases r0 b nm h with h|⟨-,h⟩
     ·exact S.ex.froz b nm h k o v hk
     ·rw[h] at hk;simp[nk] at hk
    ·rcases r0 b nm h with h|⟨-,h⟩
     ·exact S.ex.fhs b nm h
     ·rw[h];exact Nat.zero_le _
    ·rcases r0 b nm h with h|⟨-,h⟩
     ·exact S.ex.org b nm h k o v hk
     ·rw[h] at hk;simp[nk] at hk
    ·rw[hro] at hr;rcases live b T hT with⟨hb,h⟩|⟨hb,h⟩
     ·omega
     ·rw[same b hb] at hnm;refine S.ex.away b T nm h hnm hr z k o ?_ hk;rcases hf with hf|⟨b',nm',v,hnm',hv⟩
      ·exact .inl hf
      ·rcases r0 b' nm' hnm' with h'|⟨-,h'⟩
       ·exact .inr ⟨b',nm',v,h',hv⟩
       ·rw[h'] at hv;simp[nk] at hv
    ·rw[hro] at hr;rcases live b T hT with⟨hb,h⟩|⟨hb,h⟩
     ·omega
     ·rw[same b hb] at hnm;exact S.ex.nas b T nm h hnm hr
    ·obtain⟨hb,h⟩:=it b s p h;obtain⟨nm,k1,k2⟩:=S.ex.its b s p h;exact⟨nm,e0 b nm k1,k2⟩
    ·rw[hro] at hr';obtain⟨hb,h⟩:=it b s p h;rw[same b hb] at hnm;rcases live b' T hT' with⟨hb',h'⟩|⟨hb',h'⟩
     ·omega
     ·rw[same b' hb'] at hnm';exact S.ex.ita b s p nm h hnm b' T nm' h' hnm' hr' z'
    ·obtain⟨hb,h⟩:=it b s p h;obtain⟨hb',h'⟩:=it b' s' p' h';rw[same b hb] at hnm;rw[same b' hb'] at hnm';exact S.ex.itd b b' s s' p p' nm nm' h h' hnm hnm' hne
   ·intro b hb;simp only at hb;rw[same b (by omega)];cases hq:ρ b with
    |none=>rfl
    |some nm=>have:=(hρ b nm hq).2;omega
   ·rw[hcn];simp[hlen];omega
   ·rw[hcl];intro g u hu;obtain⟨b,v,h1,rfl,h3,-,h5⟩:=ZzC P gs 0 g u hu;have hp:pathN P ⟨v.g,0,1,v.ty,false,1,false,nk⟩ []=some (0,v.ty):=by simp[pathN,pathT]
    have h6:=e1 b _ h5;rw[Zhs h6 hp];refine⟨by rw[h3],?_⟩;simp only[OK];exact⟨_,_,h6,hp⟩
  have walk:=Zss (fun g C hC=>by rw[hW];exact hΓ g C hC) (hI W hW) (X:=Kp K ρ) (fun _ _=>Kp.ext) n c (hΛ W hW ρ c hcb) _ e st' h1 ρ0 _ w (fun b _ nm h=>e0 b nm h) start;refine calls_of_wp hfn hcb (wp_mono walk ?_)
  rintro ex a' w' ⟨rfl,ρ1,x1,I'⟩
  have fin:∀ v0,results' fn st'=some v0→rdIo P cx.ro B M' K v0 st'.mem=some y→(results fn a'.tmps).run P w'= .ok (den P ρ1 v0) w'∧∃ ρ',den P ρ1 v0=den P ρ' (B.mk y.1)∧OK P ρ' (B.mk y.1)∧Sim P W ro ρ' [] (M'.mk y.2) #[] w'∧Kp K ρ ρ':=by
   intro v0 hv hr;obtain⟨k1,k2⟩:=Zst I' hv;refine⟨k2,?_⟩;unfold rdIo at hr;split at hr
   ·rename_i y1 hy1;split at hr
    ·rename_i y2 hy2;obtain⟨ho,hr⟩:=Zac hr;obtain rfl:=oI hr;obtain⟨s1,s2⟩:=Pt.gS_spec P w'.heap.size B v0 _ y1.2 y1.1 hy1;obtain⟨t1,t2⟩:=Ent.gS_spec w'.heap.size M' st'.mem y1.2 y2.2 y2.1 hy2;have S1:Sim P W cx.ro ρ1 [] st'.mem #[] w':=⟨fun d v h=>by simp[lk] at h,I'.sim.cell,I'.sim.own,I'.sim.apart,I'.sim.rows,I'.sim.below,I'.sim.ex⟩;have A1:=ZBt w'.heap.size ρ1 y2.2;obtain⟨l1,l2⟩:=(s2.sub t1).1 ρ1 _ A1 k1;refine⟨rhoS w'.heap.size ρ1 y2.2,l2.symm,l1,?_,fun b hb nm h=>?_⟩
     ·have:=S1.under (ns:=M'.names) (fun c T hT=>⟨Ent.names_lk M' y2.1 c T hT,t2 c T hT⟩) ho;rw[hro] at this;exact this
     ·rw[A1 b _ (t1 _ _ (s1 _ _ (ZEi hb)))];exact x1 b hb nm h
    ·cases hr
   ·cases hr
  cases e with
  |exit id=>simp at h2
  |goto l=>simp at h2
  |normal=>
   simp only at h2;split at h2
   ·rename_i v0 hv;obtain⟨k2,ρ',f1,f2,f3,f4⟩:=fin v0 hv h2;exact⟨I'.df,_,k2,_,ρ',rfl,f1,f2,f3,f4⟩
   ·cases h2
  |ret=>
   simp only at h2;split at h2
   ·rename_i v0 hv;obtain⟨k2,ρ',f1,f2,f3,f4⟩:=fin v0 hv h2;exact⟨I'.df,_,k2,_,ρ',rfl,f1,f2,f3,f4⟩
   ·cases h2
 ·cases hF
end Go.Vx
namespace Go.Vx
open Go Go.RowKit
theorem ZFT{b:Nat}{l r:List (Nat×AV)}:lk b (l++r)=match lk b l with|some v=>some v|none=>lk b r:=ZCs b l r
def gSig(σ:Sg)(K:List Nat)(nx c:Nat):Nat:=
 match lkS c σ with
 |some (.nm b)=>cond (hasN c K) b (nx+c)
 |_=>nx+c
def mapN(f:Nat→Nat):List (Nat×AV)→List (Nat×AV)
 | []=>[]
 |p::l=>(f p.1,rn f p.2)::mapN f l
theorem ZDA{f:Nat→Nat}{b:Nat}{T:AV}:{l:List (Nat×AV)}→lk b (mapN f l)=some T→∃ c T1,lk c l=some T1∧b=f c∧T=rn f T1
 | [],h=>by simp[mapN,lk] at h
 |p::l,h=>by
  rw[mapN] at h;by_cases hb:f p.1=b
  ·rw[← hb,Zal] at h;exact⟨p.1,p.2,by rw[show p=(p.1,p.2) from rfl,Zal],hb.symm,(oI h).symm⟩
  ·rw[Zan hb] at h;obtain⟨c,T1,h1,h2,h3⟩:=ZDA (l:=l) h;by_cases hc:p.1=c
   ·exact(hb (by rw[h2,hc])).elim
   ·exact⟨c,T1,by rw[show p=(p.1,p.2) from rfl,Zan hc];exact h1,h2,h3⟩
theorem ZBu{ns:List Nat}{b:Nat}(hb:b ∉ ns):{l:List (Nat×AV)}→lk b (dropN ns l)=lk b l
 | []=>rfl
 |p::l=>by
  rw[dropN];cases hq:hasN p.1 ns with
  |true=>
   rw[cond_true,ZBu hb (l:=l),show p=(p.1,p.2) from rfl,Zan (fun e:p.1=b=>hb (by rw[← e];exact Zqr.1 hq))]
  |false=>
   rw[cond_false,show p=(p.1,p.2) from rfl];by_cases h:p.1=b
   ·rw[h,Zal,Zal]
   ·rw[Zan h,Zan h,ZBu hb (l:=l)]
def srcs(σ:Sg):List Nat→List Nat
 | []=>[]
 |c::l=>match lkS c σ with
  |some (.nm b)=>b::srcs σ l
  |_=>srcs σ l
theorem ZtY{σ:Sg}{c b:Nat}:{l:List Nat}→c∈l→lkS c σ=some (.nm b)→b∈srcs σ l
 | [],h,_=>by simp at h
 |d::l,h,hb=>by
  rw[srcs];rcases List.mem_cons.1 h with rfl|h
  ·rw[hb];simp
  ·split
   ·exact List.mem_cons_of_mem _ (ZtY h hb)
   ·exact ZtY h hb
theorem ZBv{σ:Sg}{b:Nat}:{l:List Nat}→b∈srcs σ l→∃ c∈l,lkS c σ=some (.nm b)
 | [],h=>by simp[srcs] at h
 |d::l,h=>by
  rw[srcs] at h;split at h
  ·rename_i b' hb';rcases List.mem_cons.1 h with rfl|h
   ·exact⟨d,by simp,hb'⟩
   ·obtain⟨c,h1,h2⟩:=ZBv h;exact⟨c,by simp[h1],h2⟩
  ·obtain⟨c,h1,h2⟩:=ZBv h;exact⟨c,by simp[h1],h2⟩
def Inl.ct(P:Program)(ro ro' nh:Nat){α β μ γ δ:Type}(A:Ag α)(R:Ent β)(M:Ent μ)(B:Pt γ)(M':Ent δ)(K:List Nat)(F:α×β×μ→Option (γ×δ)):Inl where
 run:=fun {X} f vs mem nx k=>match A.gS P vs [] with
  |some x1=>match M.gS P mem x1.2 with
   |some x3=>match R.gS P mem x3.2 with
    |some x2=>cond (ownOK ro ro' (R.names++M.names) x2.2&&(noItr mem&&(x2.2.all fun p=>Nat.ble 32 p.1&&Nat.blt p.1 nh)))
     (mo (F (x1.1,x2.1,x3.1)) f fun y=>k (rn (gSig x2.2 K nx) (B.mk y.1)) (mapN (gSig x2.2 K nx) (M'.mk y.2)++dropN (srcs x2.2 M.names) mem) (nx+nh)) f
    |none=>f
   |none=>f
  |none=>f
 par:=by
  intro X f vs mem nx k;split
  ·split
   ·split
    ·refine Zb8 _ ?_ rfl;rw[mo_mo]
     congr 1
    ·rfl
   ·rfl
  ·rfl
 foot:=fun vs mem _=>match A.gS P vs [] with
  |some x1=>match M.gS P mem x1.2 with
   |some x3=>match R.gS P mem x3.2 with
    |some x2=>some (srcs x2.2 (M.names++K))
    |none=>none
   |none=>none
  |none=>none
 keeps:=by
  intro vs mem nx v mem' nx' l h hl;split at hl
  ·rename_i x1 h1;split at hl
   ·rename_i x3 h3;split at hl
    ·rename_i x2 h2;simp only[h1,h3,h2] at h;obtain⟨-,h⟩:=Zac h;obtain⟨y,-,h⟩:=ZbW h;simp only[oE,pE] at h;obtain⟨-,rfl,rfl⟩:=h;obtain rfl:=oI hl;refine⟨Nat.le_add_right _ _,fun b hb hcl=>?_⟩;have hnot:=Zr0 hcl;rw[ZFT];have h0:lk b (mapN (gSig x2.2 K nx) (M'.mk y.2))=none:=by
      cases hq:lk b (mapN (gSig x2.2 K nx) (M'.mk y.2)) with
      |none=>rfl
      |some T=>
       exfalso;obtain⟨c,T1,-,e,-⟩:=ZDA hq;unfold gSig at e;split at e
       ·rename_i b' hb';cases hk:hasN c K with
        |true=>
         rw[hk,cond_true] at e;subst e;exact hnot (ZtY (List.mem_append_right _ (Zqr.1 hk)) hb')
        |false=>
         rw[hk,cond_false] at e;omega
       ·omega
     rw[h0];simp only;have hns:b ∉ srcs x2.2 M.names:=by
      intro hm;obtain⟨c,hc1,hc2⟩:=ZBv hm;exact hnot (ZtY (List.mem_append_left _ hc1) hc2)
     exact ZBu hns
    ·cases hl
   ·cases hl
  ·cases hl
theorem lkS_all{σ:Sg}{p:Nat×Src→Bool}(h:σ.all p=true){c:Nat}{s:Src}(hc:lkS c σ=some s):p (c,s)=true:=by
 induction σ with
 |nil=>simp[lkS] at hc
 |cons x l ih=>
  simp only[List.all_cons,bA] at h;rw[lkS] at hc;cases hq:Nat.beq x.1 c with
  |true=>
   rw[hq] at hc;rw[← Zaj hq,← oI hc];exact h.1
  |false=>rw[hq] at hc;exact ih h.2 hc
def Pt.nit{α:Type}:Pt α→Bool
 | .itr=>false
 | .lit u=>match u with
  | .itr _ _=>false
  |_=>true
 |_=>true
theorem Pt.nit_spec{α:Type}{p:Pt α}(h:p.nit=true)(x:α)(s:ByteArray)(q:Nat):p.mk x≠ .itr s q:=by
 cases p with
 |itr=>simp[Pt.nit] at h
 |lit u=>rintro rfl;simp[Pt.nit,Pt.mk] at h
 |_=>simp[Pt.mk]
def Ent.nit{α:Type}:Ent α→Bool
 | .nil=>true
 | .one _ p=>p.nit
 | .cons _ p r=>p.nit&&r.nit
theorem Ent.nit_spec{α:Type}:{e:Ent α}→e.nit=true→(x:α)→∀ c s q,lk c (e.mk x)≠some (.itr s q)
 | .nil,_,x,c,s,q=>by simp[Ent.mk,lk]
 | .one d p,h,x,c,s,q=>by
  intro hT;simp only[Ent.mk] at hT;by_cases hd:d=c
  ·subst hd;rw[Zal] at hT;exact Pt.nit_spec h x s q (oI hT)
  ·rw[Zan hd] at hT;simp[lk] at hT
 | .cons d p r,h,x,c,s,q=>by
  intro hT;simp only[Ent.nit,bA] at h;simp only[Ent.mk] at hT;by_cases hd:d=c
  ·subst hd;rw[Zal] at hT;exact Pt.nit_spec h.1 x.1 s q (oI hT)
  ·rw[Zan hd] at hT;exact Ent.nit_spec h.2 x.2 c s q hT
theorem ct_ok{P:Program}{cx:Cx}{w0:Base}{g:FuncId}{ro' nh:Nat}{α β μ γ δ:Type}{A:Ag α}{R:Ent β}{M:Ent μ}{B:Pt γ}{M':Ent δ}{K:List Nat}{F:α×β×μ→Option (γ×δ)}
  (hS:SoundIo P w0.g g ro' nh A R M B M' K F)
  (hc:(B.low nh&&M'.low nh&&(M'.names.all fun d=>Nat.blt d nh&&Nat.ble ro' d)&&(M.names.all fun d=>Nat.ble ro' d)&&(K.all fun d=>hasN d (R.names++M.names))&&(R.names.all fun d=>Nat.blt d ro')&&M'.nit)=true):
  InlOK P cx w0 g (Inl.ct P cx.ro ro' nh A R M B M' K F):=by
 simp only[bA] at hc;obtain⟨⟨⟨⟨⟨⟨c1,c2⟩,c3⟩,c4⟩,c5⟩,c6⟩,c7⟩:=hc;intro vs mem nx v mem' nx' h ρ w S G fr okv;simp only[Inl.ct] at h;split at h
 ·rename_i x1 hx1;split at h
  ·rename_i x3 hx3;split at h
   ·rename_i x2 hx2;obtain⟨ho,h⟩:=Zac h;simp only[bA] at ho;obtain⟨ho,hit,hdom⟩:=ho;obtain⟨y,hF,h⟩:=ZbW h;simp only[oE,pE] at h;obtain⟨rfl,rfl,rfl⟩:=h;generalize hσ:x2.2=σ at*
    obtain⟨a1,a2⟩:=Ag.gS_spec P w.heap.size A vs [] x1.2 x1.1 hx1;obtain⟨b1,b2⟩:=Ent.gS_spec (P:=P) w.heap.size M mem x1.2 x3.2 x3.1 hx3;obtain⟨d1,d2⟩:=Ent.gS_spec (P:=P) w.heap.size R mem x3.2 x2.2 x2.1 hx2;rw[hσ] at d1 d2;have Ar:=ZBt w.heap.size ρ σ;have hL:∀ c T,lk c (R.mk x2.1++M.mk x3.1)=some T→c∈R.names++M.names∧Met P w.heap.size mem c T σ:=by
     intro c T hT;rcases ZDz hT with h|⟨-,h⟩
     ·exact⟨by simp[Ent.names_lk R x2.1 c T h],d2 c T h⟩
     ·exact⟨by simp[Ent.names_lk M x3.1 c T h],(b2 c T h).sub d1⟩
    have S1:=S.under hL ho
    
    let ρc:=rhoS w.heap.size ρ σ
    have ρcK:∀ c nm,ρc c=some nm→(∃ b nm0,ρ b=some nm0∧nm.K.K=nm0.K.K)∨nm.K=nk:=by
     intro c nm h;simp only[ρc,rhoS] at h;split at h
     ·rename_i b hb;exact .inl ⟨b,nm,h,rfl⟩
     ·obtain rfl:=oI h;exact .inr rfl
     ·rename_i b p te n hb;obtain⟨nm0,k1,k2,-⟩:=ZIS h;exact .inl ⟨b,nm0,k1,k2⟩
     ·cases h
    let Ab:Nat→Prop:=fun k=>∃ c T nm b T0,lk c (R.mk x2.1++M.mk x3.1)=some T∧ro'≤c∧ρc c=some nm∧nm.non=false∧k=nm.blk∧lkS c σ=some (.nm b)∧ρ b=some nm∧lk b mem=some T0∧cx.ro≤b
    have mkAb:∀ c T nm,lk c (R.mk x2.1++M.mk x3.1)=some T→ro'≤c→ρc c=some nm→nm.non=false→Ab nm.blk:=by
     intro c T nm hT hr hn z;obtain⟨hcn,hm,-⟩:=hL c T hT;rcases hm with⟨b,T0,q1,q2,-⟩|⟨te,q,q1,-⟩
     ·exact⟨c,T,nm,b,T0,hT,hr,hn,z,rfl,q1,by rw[← Ar c _ q1];exact hn,q2,(Zmo ho hcn hr q1).1⟩
     ·have:=Ar c _ q1;rw[show rhoS w.heap.size ρ σ c=some nm from hn] at this;rw[oI this] at z;cases z
    have Aown:∀ k,Ab k→w0.own k:=by
     rintro k ⟨c,T,nm,b,T0,h1,h2,h3,h4,rfl,h6,h7,h8,h9⟩
     exact(S.own b T0 nm h8 h7 h9).1 h4
    have frzlt:∀ k o,Frz w0 ρ k o→k<w.heap.size:=by
     intro k o hf;rcases hf with hf|⟨b,nm,v,hb,hv⟩
     ·exact S.below.lt hf
     ·exact ZqV (S.ex.froz b nm hb k o v hv)
    let W:Base:=⟨w0.g,w,Ab,fun k o=>Frz w0 ρ k o,S.below.below,fun k hk=>Base.own_ge (Aown k hk),frzlt⟩
    have SW:Sim P W ro' ρc [] (R.mk x2.1++M.mk x3.1) #[] w:=by
     refine⟨S1.slot,S1.cell,fun c T nm hT hn hr=>⟨fun z=>.inr (mkAb c T nm hT hr hn z),(S1.own c T nm hT hn hr).2⟩,S1.apart,S1.rows,Kept.refl _,?_⟩;have noI:∀ c s p,lk c (R.mk x2.1++M.mk x3.1)≠some (.itr s p):=fun c s p h=>(hL c _ h).2.2 s p rfl
     refine⟨S1.ex.froz,S1.ex.fhs,fun c nm h k o v hk=>?_,fun c T nm hT hn hr z k o hf hk=>?_,S1.ex.nas,fun c s p h=>(noI c s p h).elim,fun c s p nm h=>(noI c s p h).elim,fun c c' s s' p p' nm nm' h=>(noI c s p h).elim⟩
     ·rcases ρcK c nm h with⟨b,nm0,h2,h3⟩|h2
      ·rw[h3] at hk;exact .inr (.inr ⟨b,nm0,v,h2,hk⟩)
      ·rw[h2] at hk;simp[nk] at hk
     ·obtain⟨hcn,hm,-⟩:=hL c T hT;rcases hm with⟨b,T0,q1,q2,-,-,q5⟩|⟨te,q,q1,-⟩
      ·rw[q5];refine S.ex.away b T0 nm q2 (by rw[← Ar c _ q1];exact hn) (Zmo ho hcn hr q1).1 z k o ?_ hk;rcases hf with hf|⟨c',nm',v,hc',hv⟩
       ·exact hf
       ·rcases ρcK c' nm' hc' with⟨b',nm0,h2,h3⟩|h2
        ·rw[h3] at hv;exact .inr ⟨b',nm0,v,h2,hv⟩
        ·rw[h2] at hv;simp[nk] at hv
      ·have:=Ar c _ q1;rw[show rhoS w.heap.size ρ σ c=some nm from hn] at this;rw[oI this] at z;cases z
    have dom:∀ c nm,ρc c=some nm→32≤c∧c<nh:=by
     intro c nm h;have:∃ s,lkS c σ=some s:=by
      simp only[ρc,rhoS] at h;split at h
      ·exact⟨_,by assumption⟩
      ·exact⟨_,by assumption⟩
      ·exact⟨_,by assumption⟩
      ·cases h
     obtain⟨s,hs⟩:=this;have:=lkS_all hdom hs;simp only[bA] at this;exact⟨Nat.le_of_ble_eq_true this.1,by simpa using this.2⟩
    have subA:SgSub x1.2 σ:=b1.trans d1;obtain⟨e1,-,e3⟩:=a2.1 ρ ρc (Ar.sub subA) okv;obtain⟨k1,k2⟩:=hS (x1.1,x2.1,x3.1) y hF W rfl ρc w SW dom e1;simp only at k1 k2;rw[e3] at k1 k2;refine⟨k1,k2.mono ?_⟩
    rintro e w' ⟨a,ρ1,rfl,rfl,ok1,SS,kp⟩
    have KK:=SS.below;have hWw:W.w=w:=rfl
    
    let ρ':Rho:=fun b=>if b<nx then ρ b else if b-nx<nh then ρ1 (b-nx) else none
    have lt:∀ b nm,ρ b=some nm→b<nx:=by
     intro b nm h;rcases Nat.lt_or_ge b nx with h'|h'
     ·exact h'
     ·rw[fr b h'] at h;cases h
    have xρ:Ext ρ ρ':=fun b nm h=>by simp only[ρ',lt b nm h,if_true];exact h
    let f:=gSig σ K nx
    have new:∀ c,c<nh→ρ' (nx+c)=ρ1 c:=fun c hcl=>by
     simp only[ρ',show ¬ nx+c<nx by omega,if_false,Nat.add_sub_cancel_left,hcl,if_true]
    
    have fc:∀ c,(∃ b T0 nm,f c=b∧c∈K∧lkS c σ=some (.nm b)∧lk b mem=some T0∧ρ b=some nm∧ρ1 c=some nm∧ρ' b=some nm)∨f c=nx+c:=by
     intro c;simp only[f,gSig];split
     ·rename_i b hb;cases hq:hasN c K with
      |false=>exact .inr rfl
      |true=>
       have hcK:=Zqr.1 hq;have hm:=Zqr.1 (List.all_eq_true.1 c5 c hcK);have:∃ T,lk c (R.mk x2.1++M.mk x3.1)=some T:=by
        rw[ZFT];rcases List.mem_append.1 hm with h|h
        ·obtain⟨T,hT⟩:=Ent.lk_names R x2.1 c h;exact⟨T,by rw[hT]⟩
        ·obtain⟨T,hT⟩:=Ent.lk_names M x3.1 c h;split
         ·exact⟨_,rfl⟩
         ·exact⟨T,hT⟩
       obtain⟨T,hT⟩:=this;obtain⟨-,hmt,-⟩:=hL c T hT;rcases hmt with⟨_,T0,q1,q2,-⟩|⟨te,q,q1,-⟩
       ·rw[hb] at q1;obtain⟨rfl⟩:=q1;obtain⟨nm,g1,-⟩:=S.cell b T0 q2;have:ρc c=some nm:=by rw[show ρc c=ρ b from Ar c _ hb];exact g1
        exact .inl ⟨b,T0,nm,rfl,hcK,hb,q2,g1,kp c hcK nm this,xρ b nm g1⟩
       ·rw[hb] at q1;cases q1
     ·exact .inr rfl
    have comp:Ext (Vx.cut ρ1 nh) (fun c=>ρ' (f c)):=by
     intro c nm h;unfold Vx.cut at h;split at h
     ·rename_i hcl;rcases fc c with⟨b,T0,nm',h1,-,-,-,-,h5,h6⟩|h1
      ·simp only[h1,h6];rw[← h5];exact h
      ·simp only[h1];rw[new c hcl];exact h
     ·cases h
    have E1:∀ u,nb nh u=true→OK P ρ1 u→OK P ρ' (rn f u)∧den P ρ' (rn f u)=den P ρ1 u:=by
     intro u h1 h2;have h3:=nb_ok P u h1 h2;obtain⟨q1,q2⟩:=Zcm P comp u h3;obtain⟨r1,r2⟩:=ZCn P ρ' f u;exact⟨r2.2 q2,r1.trans (q1.trans (Zcm P (ZBw ρ1 nh) u h3).1.symm)⟩
    have E1c:∀ u,nb nh u=true→OK P ρ1 u→cells P ρ' (rn f u)=cells P ρ1 u:=fun u h1 h2=>by unfold cells;rw[(E1 u h1 h2).2]
    obtain⟨v1,v2⟩:=E1 _ (Pt.low_nb B c1 y.1) ok1;have hM':∀ c T1,lk c (M'.mk y.2)=some T1→c<nh∧ro'≤c:=fun c T1 hT=>by
     have:=List.all_eq_true.1 c3 c (Ent.names_lk M' y.2 c T1 hT);simp only[bA] at this;exact⟨by simpa using this.1,Nat.le_of_ble_eq_true this.2⟩
    have live:∀ b T,lk b (mapN f (M'.mk y.2)++dropN (srcs σ M.names) mem)=some T→(∃ c T1,lk c (M'.mk y.2)=some T1∧b=f c∧T=rn f T1)∨(b ∉ srcs σ M.names∧lk b mem=some T):=by
     intro b T hT;rcases ZDz hT with h|⟨-,h⟩
     ·exact .inl (ZDA h)
     ·obtain⟨h1,h2⟩:=ZBr h;exact .inr ⟨h2,h1⟩
    have atc:∀ c nm,c<nh→ρ1 c=some nm→ρ' (f c)=some nm:=fun c nm hcl h=>comp c nm (by unfold Vx.cut;rw[if_pos hcl];exact h)
    have atc':∀ c nm T1,lk c (M'.mk y.2)=some T1→ρ' (f c)=some nm→ρ1 c=some nm:=by
     intro c nm T1 hT h;obtain⟨nm',g1,-⟩:=SS.cell c T1 hT;rw[atc c nm' (hM' c T1 hT).1 g1] at h;rw[← h];exact g1
    
    have noAb:∀ b T nm,b ∉ srcs σ M.names→lk b mem=some T→ρ b=some nm→nm.non=false→¬ Ab nm.blk:=by
     rintro b T nm hb hT hnm z ⟨c,T1,nm1,b1,T2,h1,h2,h3,h4,h5,h6,h7,h8,h9⟩
     have hcM:c∈M.names:=by
      rcases ZDz h1 with h|⟨-,h⟩
      ·have:=List.all_eq_true.1 c6 c (Ent.names_lk R x2.1 c T1 h);have:c<ro':=by simpa using this
       omega
      ·exact Ent.names_lk M x3.1 c T1 h
     have hne:b1≠b:=fun e=>hb (e▸ZtY hcM h6)
     exact S.apart b1 b T2 T nm1 nm h8 hT h7 hnm h9 hne h4 z h5.symm
    have same:∀ b T nm,b ∉ srcs σ M.names→lk b mem=some T→ρ b=some nm→nm.non=false→nm.blk<w.heap.size→w'.heap[nm.blk]? =w.heap[nm.blk]? :=
     fun b T nm hb hT hnm z hlt=>KK.block nm.blk hlt (noAb b T nm hb hT hnm z)
    have toρ:∀ b T nm,lk b mem=some T→ρ' b=some nm→ρ b=some nm:=by
     intro b T nm hT h;obtain⟨nm',h1,-⟩:=S.cell b T hT;rw[xρ b nm' h1] at h;rw[h1];exact h
    have liv:∀ b T nm,lk b mem=some T→ρ b=some nm→nm.non=false→nm.blk<w.heap.size:=by
     intro b T nm hT hnm z;obtain⟨nm',g1,-,-,g4,-⟩:=S.cell b T hT;rw[hnm] at g1;obtain rfl:=oI g1;rcases g4 with⟨-,h⟩|⟨h,-⟩
     ·exact h
     ·rw[h] at z;cases z
    have ownW:∀ c T1 nm,lk c (M'.mk y.2)=some T1→ρ1 c=some nm→nm.non=false→w.heap.size≤nm.blk∨Ab nm.blk:=fun c T1 nm hT hnm z=>(SS.own c T1 nm hT hnm (hM' c T1 hT).2).1 z
    have cross:∀ c T1 nm b T nm',lk c (M'.mk y.2)=some T1→ρ1 c=some nm→nm.non=false→b ∉ srcs σ M.names→lk b mem=some T→ρ b=some nm'→nm'.non=false→nm.blk≠nm'.blk:=by
     intro c T1 nm b T nm' hT hnm z hb hT' hnm' z' e;rcases ownW c T1 nm hT hnm z with h|h
     ·have:=liv b T nm' hT' hnm' z';omega
     ·rw[e] at h;exact noAb b T nm' hb hT' hnm' z' h
    
    have froz1:∀ c nm k o v,ρ1 c=some nm→nm.K.K k o=some v→(w.heap.size≤k∨Ab k)∨Frz w0 ρ k o:=fun c nm k o v h hk=>SS.ex.org c nm h k o v hk
    have cases':∀ b nm,ρ' b=some nm→ρ b=some nm∨∃ c,ρ1 c=some nm:=by
     intro b nm h;simp only[ρ'] at h;split at h
     ·exact .inl h
     ·split at h
      ·exact .inr ⟨_,h⟩
      ·cases h
    have noI:∀ b s p,lk b mem≠some (.itr s p):=fun b s p=>ZEf hit
    have noI':∀ b s p,lk b (mapN f (M'.mk y.2)++dropN (srcs σ M.names) mem)≠some (.itr s p):=by
     intro b s p h;rcases live b _ h with⟨c,T1,h1,-,h3⟩|⟨-,h⟩
     ·cases T1 with
      |itr s' p'=>exact Ent.nit_spec c7 y.2 c s' p' h1
      |_=>simp[rn] at h3
     ·exact noI b s p h
    refine⟨den P ρ1 (B.mk y.1),ρ',rfl,v2.symm,v1,⟨fun d v h=>by simp[lk] at h,?_,?_,?_,?_,?_,?_⟩,xρ,fun b hb=>?_⟩
    ·intro b T hT;rcases live b T hT with⟨c,T1,h,rfl,rfl⟩|⟨hb,h⟩
     ·obtain⟨nm,g1,g2,g3,g4,g5⟩:=SS.cell c T1 h;have hnb:=Ent.low_nb M' c2 y.2 c T1 h;have hce:=E1c T1 hnb g3;exact⟨nm,atc c nm (hM' c T1 h).1 g1,rn_hasN P f nm T1 g2,(E1 T1 hnb g3).1,by rw[hce];exact g4,fun j x hx=>g5 j x (by rw[← hce];exact hx)⟩
     ·obtain⟨nm,g1,g2,g3,g4,g5⟩:=S.cell b T h;have hce:=ZbX P xρ T g3;refine⟨nm,xρ b nm g1,g2,(Zcm P xρ T g3).2,by rw[hce];exact Liv.size g4 KK.size,fun j x hx=>?_⟩;rw[hce] at hx;rcases g4 with⟨z1,z2⟩|⟨-,z2⟩
      ·rw[World.cell?_of_block (same b T nm hb h g1 z1 z2)];exact g5 j x hx
      ·rw[z2] at hx;simp at hx
    ·intro b T nm hT hnm hro;rcases live b T hT with⟨c,T1,h,rfl,rfl⟩|⟨hb,h⟩
     ·have hnm:=atc' c nm T1 h hnm;obtain⟨g1,g2⟩:=SS.own c T1 nm h hnm (hM' c T1 h).2;obtain⟨nm',-,-,g3,-⟩:=SS.cell c T1 h;refine⟨fun z=>?_,fun j hj=>g2 j ?_⟩
      ·rcases g1 z with q|q
       ·exact .inl (Nat.le_trans S.below.size q)
       ·exact Aown _ q
      ·rw[E1c T1 (Ent.low_nb M' c2 y.2 c T1 h) g3] at hj;exact hj
     ·have hnm:=toρ b T nm h hnm;obtain⟨h1,h2⟩:=S.own b T nm h hnm hro;obtain⟨nm',g1,-,g3,g4,-⟩:=S.cell b T h;rw[hnm] at g1;obtain rfl:=oI g1;refine⟨h1,fun j hj=>?_⟩;rw[ZbX P xρ T g3] at hj;rcases g4 with⟨z1,z2⟩|⟨-,z2⟩
      ·rw[World.frozen?_of_block (same b T nm hb h hnm z1 z2)];exact h2 j hj
      ·rw[z2] at hj;simp at hj
    ·intro b b' T T' nm nm' hT hT' hnm hnm' hro hne z z';rcases live b T hT with⟨c,T1,h,rfl,rfl⟩|⟨hb,h⟩
     ·have hnm:=atc' c nm T1 h hnm;rcases live b' T' hT' with⟨c',T1',h',rfl,rfl⟩|⟨hb',h'⟩
      ·have hnm':=atc' c' nm' T1' h' hnm';exact SS.apart c c' T1 T1' nm nm' h h' hnm hnm' (hM' c T1 h).2 (fun e=>hne (by rw[e])) z z'
      ·exact cross c T1 nm b' T' nm' h hnm z hb' h' (toρ b' T' nm' h' hnm') z'
     ·have hnm:=toρ b T nm h hnm;rcases live b' T' hT' with⟨c',T1',h',rfl,rfl⟩|⟨hb',h'⟩
      ·have hnm':=atc' c' nm' T1' h' hnm';exact(cross c' T1' nm' b T nm h' hnm' z' hb h hnm z).symm
      ·exact S.apart b b' T T' nm nm' h h' hnm (toρ b' T' nm' h' hnm') hro hne z z'
    ·intro b T nm hT hnm hro hr;rcases live b T hT with⟨c,T1,h,rfl,rfl⟩|⟨hb,h⟩
     ·exact SS.rows c T1 nm h (atc' c nm T1 h hnm) (hM' c T1 h).2 hr
     ·have hnm:=toρ b T nm h hnm;cases hq:nm.non with
      |true=>exact .inl rfl
      |false=>
       rcases S.rows b T nm h hnm hro hr with z|z
       ·rw[hq] at z;cases z
       ·exact .inr (z.same (same b T nm hb h hnm hq z.lt))
    ·exact S.below.step KK.os KK.tape KK.output KK.size (fun k hk hno=>KK.block k hk fun hA=>hno (Aown k hA)) (fun k o v hf hv=>KK.froz k o v (.inl hf) hv)
    ·refine⟨fun b nm h k o v hk=>?_,fun b nm h=>?_,fun b nm h k o v hk=>?_,fun b T nm hT hnm hro z k o hf hk=>?_,fun b T nm hT hnm hro=>?_,fun b s p h=>(noI' b s p h).elim,fun b s p nm h=>(noI' b s p h).elim,fun b b' s s' p p' nm nm' h=>(noI' b s p h).elim⟩
     ·rcases cases' b nm h with h|⟨c,h⟩
      ·exact KK.froz k o v (.inr ⟨b,nm,v,h,hk⟩) (S.ex.froz b nm h k o v hk)
      ·exact SS.ex.froz c nm h k o v hk
     ·rcases cases' b nm h with h|⟨c,h⟩
      ·exact Nat.le_trans (S.ex.fhs b nm h) KK.size
      ·exact SS.ex.fhs c nm h
     ·rcases cases' b nm h with h|⟨c,h⟩
      ·exact S.ex.org b nm h k o v hk
      ·rcases froz1 c nm k o v h hk with(q|q)|q
       ·exact .inl (.inl (Nat.le_trans S.below.size q))
       ·exact .inl (Aown k q)
       ·rcases q with q|⟨b1,nm1,v1,q1,q2⟩
        ·exact .inr q
        ·exact S.ex.org b1 nm1 q1 k o v1 q2
     ·rcases live b T hT with⟨c,T1,h,rfl,rfl⟩|⟨hb,h⟩
      ·have hnm:=atc' c nm T1 h hnm;have e:isDc (rn f T1)=isDc T1:=by cases T1<;>rfl
       rw[e];refine SS.ex.away c T1 nm h hnm (hM' c T1 h).2 z k o ?_ hk;rcases hf with hf|⟨b',nm',v,hnm',hv⟩
       ·exact .inl (.inl hf)
       ·rcases cases' b' nm' hnm' with h'|⟨c',h'⟩
        ·exact .inl (.inr ⟨b',nm',v,h',hv⟩)
        ·exact .inr ⟨c',nm',v,h',hv⟩
      ·have hnm:=toρ b T nm h hnm;rcases hf with hf|⟨b',nm',v,hnm',hv⟩
       ·exact S.ex.away b T nm h hnm hro z k o (.inl hf) hk
       ·rcases cases' b' nm' hnm' with h'|⟨c',h'⟩
        ·exact S.ex.away b T nm h hnm hro z k o (.inr ⟨b',nm',v,h',hv⟩) hk
        ·rcases froz1 c' nm' k o v h' hv with(q|q)|q
         ·have:=liv b T nm h hnm z;omega
         ·rw[hk] at q;exact(noAb b T nm hb h hnm z q).elim
         ·exact S.ex.away b T nm h hnm hro z k o q hk
     ·rcases live b T hT with⟨c,T1,h,rfl,rfl⟩|⟨hb,h⟩
      ·exact SS.ex.nas c T1 nm h (atc' c nm T1 h hnm) (hM' c T1 h).2
      ·exact S.ex.nas b T nm h (toρ b T nm h hnm) hro
    ·have h1:¬ b<nx:=by omega
     have h2:¬ b-nx<nh:=by omega
     simp only[ρ',h1,h2,if_false]
   ·cases h
  ·cases h
 ·cases h
end Go.Vx
namespace Go.Vx
open Go Go.RowKit
theorem ZaL{P:Program}{w0:World}{gs:List Gv}{S:Nat}{g:FuncId}{ro' nh:Nat}{α β μ γ δ:Type}{A:Ag α}{R:Ent β}{M:Ent μ}{B:Pt γ}{M':Ent δ}{K:List Nat}{F:α×β×μ→Option (γ×δ)}
  (hS:SoundIo P w0 g ro' nh A R M B M' K F)
  (hc:(B.low nh&&M'.low nh&&(M'.names.all fun d=>Nat.blt d nh&&Nat.ble ro' d)&&(M.names.all fun d=>Nat.ble ro' d)&&(K.all fun d=>hasN d (R.names++M.names))&&(R.names.all fun d=>Nat.blt d ro')&&M'.nit)=true) {ro:Nat} (hr:ro=gs.length+S):
  OneOK P w0 gs S g (Inl.ct P ro ro' nh A R M B M' K F):=fun w hw cx h1 h2=>by
 subst hr;rw[← h1];exact ct_ok (by rw[hw];exact hS) hc
theorem Zfm{P:Program}{w0:World}{fn:Func}{cs:List (FuncId×Ct)}(hcs:∀ x∈cs,SoundAt P w0 x.1 x.2){gs:List Gv}{S:Nat}{is:List (FuncId×Inl)}{ls:List (Nat×Lf)}{n id:Nat}(his:AllOK P w0 gs S is){α β γ δ ε ζ:Type}{H:Fm α β}{O:Fm γ δ}{T:Fm ε ζ}{nx:Nat}{K:List Nat}
  {step:α×β→Option ((α×β) ⊕ ((γ×δ) ⊕ (ε×ζ)))} {cz:List Nat} (hok:(H.ok nx&&O.ok nx&&T.ok nx&&Nat.ble (gs.length+S) nx&&(H.sok P (gs.length+S)&&O.sok P (gs.length+S)&&T.sok P (gs.length+S))&&(K.all fun b=>Nat.blt b nx&&(notIn b (H.gsl.map (·.2.1))&&notIn b (O.gsl.map (·.2.1))&&notIn b (T.gsl.map (·.2.1)))))=true)
  (hstep:∀ v,exec P (cxIn fn cs gs S is) (fun i=>lkL i ls) n none (loopBody fn id) (H.st nx v) (fun e st=>rdEnd H O T nx id e st cz)=step v) (N:Nat)
  (hΛ:∀ w:Base,w.g=w0→∀ ρk,LoopsOKX P (cxIn fn cs gs S is) w (Kp K ρk) (fun i=>lkL i ls) (loopBody fn id)):
  ∀ w:Base,w.g=w0→∀ ρk,LoopOKX P (cxIn fn cs gs S is) w (Kp K ρk) id (.loop (loopBody fn id)) (loopCt H O T nx step N cz):=by
 intro w hw ρk;simp only[bA] at hok;obtain⟨⟨⟨⟨⟨h1,h2⟩,h3⟩,h4⟩,⟨s1,s2⟩,s3⟩,hk⟩:=hok;have h4:=Nat.le_of_ble_eq_true h4;refine ZEj (ZrZ cs fun x hx=>by rw[hw];exact hcs x hx) (Zw9 is (his w hw _ rfl rfl)) (hΛ w hw ρk) h1 h2 h3 s1 s2 s3 h4 (fun g v h=>ZBx gs 0 (gs.length+S) g v (by omega) h) (fun g v h=>ZDB gs 0 nx g v (by omega) h) hstep (fun b hb=>?_) N;have:=List.all_eq_true.1 hk b hb;simp only[bA] at this;exact⟨by simpa using this.1,Ze7 this.2.1.1,Ze7 this.2.1.2,Ze7 this.2.2⟩
theorem ZaI{P:Program}{w0:World}{g:FuncId}{fn:Func}{cs:List (FuncId×Ct)}(hcs:∀ x∈cs,SoundAt P w0 x.1 x.2){gs:List Gv}{S:Nat}(hgs:GlobOK P w0 gs){is:List (FuncId×Inl)}{ls:List (Nat×Lf)}{n:Nat}(his:AllOK P w0 gs S is){K:List Nat}(hfn:P.funcs[g]? =some fn)
  (hname:(fn.name== "runtime.NumGoroutine")=false) (hb:fn.body=some (bodyOf fn)) (hΛ:∀ w:Base,w.g=w0→∀ ρk,LoopsOKX P (cxIn fn cs gs S is) w (Kp K ρk) (fun i=>lkL i ls) (bodyOf fn))
  {α β μ γ δ:Type} {A:Ag α} {R:Ent β} {M:Ent μ} {B:Pt γ} {M':Ent δ} {F:α×β×μ→Option (γ×δ)} {ro nh:Nat} (hc:(Nat.ble gs.length 32&&Nat.ble 32 ro&&Nat.ble 32 nh&&Nat.beq (gs.length+S) ro)=true)
  (hrun:∀ x,runIo P (cxIn fn cs gs S is) (fun i=>lkL i ls) n fn (memAt gs 0) nh A R M B M' K x=F x):SoundIo P w0 g ro nh A R M B M' K F:=by
 simp only[bA] at hc;obtain⟨hc,hr⟩:=hc;exact io_run (cx:=cxIn fn cs gs S is) hgs rfl rfl (Zaj hr) (ZrZ cs hcs) (fun W hW=>Zw9 is (his W hW _ rfl rfl)) (fun W hW ρk c hcb=>by rw[hb] at hcb;obtain rfl:=oI hcb;exact hΛ W hW ρk) hfn hname (by rw[hb];rfl) (by simp only[bA];exact hc) hrun
abbrev IoRunIs(P:Program)(cs:List (FuncId×Ct))(gs:List Gv)(S:Nat)(is:List (FuncId×Inl))(ls:List (Nat×Lf))(fn:Func)(nh:Nat){α β μ γ δ:Type}(A:Ag α)(R:Ent β)(M:Ent μ)(B:Pt γ)(M':Ent δ)(K:List Nat)(F:α×β×μ→Option (γ×δ)):Prop:=
 ∀ x,runIo P (cxIn fn cs gs S is) (fun i=>lkL i ls) 100 fn (memAt gs 0) nh A R M B M' K x=F x
end Go.Vx
