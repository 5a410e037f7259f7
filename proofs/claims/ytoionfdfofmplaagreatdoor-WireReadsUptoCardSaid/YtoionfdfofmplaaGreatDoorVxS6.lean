import Derived.Test.YtoionfdfofmplaaGreatDoorVxR2
import Derived.WalkKit
import Derived.ProofKit
import Derived.OpenShut
import Derived.Carry
import Derived.SizedLaws
import Derived.JoinedCond
import Derived.LaidLaws
import Derived.Test.YtoionfdfofmplaaGreatDoorVxZ2
set_option autoImplicit false
set_option linter.unusedVariables false
set_option linter.unusedSimpArgs false
namespace Go.Vx
open Go Go.RowKit
variable {H:Type} {enc:TypeId×Value→H} {P:Program}
theorem ZmZ{W:World}{base:Nat}{sp:Nat→Bool}{held:Bool}{fuel:Nat}{e:TypeId}{k:IntKind}{cs:List Value}{x:DataW H×List MemPlace}(he:P.underlying e=some (.int k))
  (h:DataW.trod enc P W base sp held fuel e cs=some x):∃ n,cs=[.int k n]∧(k.min≤n∧n≤k.max)∧x.2=[]∧∀ W' base' sp' held',DataW.trod enc P W' base' sp' held' fuel e cs=some x:=by
 cases fuel with
 |zero=>simp[DataW.trod] at h
 |succ m=>
  unfold DataW.trod at h;rw[he] at h;split at h<;>first|(exfalso;simp_all;done)|skip
  rename_i k1 k' n hk;simp only[oE,TypeDesc.int.injEq] at hk;subst hk;split at h
  ·rename_i hh;obtain⟨rfl,hw⟩:=hh;obtain rfl:=oI h;have hw':=hw;simp only[Lit.wf,decide_eq_true_eq,bA] at hw';refine⟨n,rfl,hw',rfl,fun W' base' sp' held'=>?_⟩;unfold DataW.trod;rw[he];simp[hw]
  ·simp at h
theorem ZE7{W:World}{base:Nat}{sp:Nat→Bool}{held:Bool}{m:Nat}{t e:TypeId}{n:Nat}{cs:List Value}(hu:P.underlying t=some (.array n e)):
  DataW.trod enc P W base sp held (m+1) t cs=if cs.length=P.cellsOf t then ((List.range n).mapM fun i=>DataW.trod enc P W base sp held m e ((cs.drop (i*P.cellsOf e)).take (P.cellsOf e))).map fun xs=>(.agg (xs.map (·.1)),xs.flatMap (·.2)) else none:=by
 conv=>lhs;unfold DataW.trod
 rw[hu]
theorem ZAs{W:World}{base:Nat}{sp:Nat→Bool}{held:Bool}{t e:TypeId}{n fuel:Nat}{k:IntKind}{cs:List Value}{x:DataW H×List MemPlace}(hu:P.underlying t=some (.array n e))(he:P.underlying e=some (.int k))
  (hce:P.cellsOf e=1) (hct:P.cellsOf t=n) (hf:DataW.trod enc P W base sp held fuel t cs=some x):∃ l:List Int,cs=l.map (Value.int k)∧l.length=n∧∀ y∈l,k.min≤y∧y≤k.max:=by
 obtain⟨xs,m,rfl,hx,hl,hxl,hat⟩:=DataW.trod_array hu hf;simp only[hce,Nat.mul_one] at hat hl;rw[hct] at hl;have hc:∀ i (hi:i<n),∃ y,cs[i]? =some (.int k y)∧k.min≤y∧y≤k.max:=by
  intro i hi;have h1:=hat i hi;rw[List.getElem?_eq_getElem (show i<xs.length by omega)] at h1;obtain⟨y,h2,h3,-,-⟩:=ZmZ he h1;refine⟨y,?_,h3⟩;have h4:(cs.drop i).head?=some (.int k y):=by
   cases hd:cs.drop i with
   |nil=>rw[hd] at h2;simp at h2
   |cons a l=>rw[hd] at h2;simp at h2;simp[h2]
  rw[List.head?_drop] at h4;exact h4
 have key:∀ (l:List Value),(∀ i,i<l.length→∃ y,l[i]? =some (.int k y)∧k.min≤y∧y≤k.max)→∃ ys:List Int,l=ys.map (Value.int k)∧∀ y∈ys,k.min≤y∧y≤k.max:=by
  intro l
  induction l with
  |nil=>intro _;exact⟨[],rfl,by simp⟩
  |cons a l ih=>
   intro h;obtain⟨y,h1,h2⟩:=h 0 (by simp);obtain⟨ys,rfl,h3⟩:=ih (fun i hi=>by have:=h (i+1) (by simp;omega);simpa using this);simp at h1;refine⟨y::ys,by simp[h1],?_⟩;intro z hz;rcases List.mem_cons.1 hz with rfl|hz
   ·exact h2
   ·exact h3 z hz
 obtain⟨ys,hys,hr⟩:=key cs (fun i hi=>hc i (by omega));exact⟨ys,hys,by rw[hys] at hl;simpa using hl,hr⟩
def Indep(enc:TypeId×Value→H)(P:Program)(t:TypeId):Prop:=
 ∀ (W:World) (base:Nat) (sp:Nat→Bool) (held:Bool) (fuel:Nat) (cs:List Value) (x:DataW H×List MemPlace),DataW.trod enc P W base sp held fuel t cs=some x→x.2=[]∧∀ W' base' sp' held',DataW.trod enc P W' base' sp' held' fuel t cs=some x
theorem ZHF{e:TypeId}{k:IntKind}(he:P.underlying e=some (.int k)):Indep enc P e:=fun _ _ _ _ _ _ _ h=>by
 obtain⟨-,-,-,h1,h2⟩:=ZmZ he h;exact⟨h1,h2⟩
theorem Zyv{α β:Type}{f g:α→Option (β×List MemPlace)}:(l:List α)→{xs:List (β×List MemPlace)}→(∀ a∈l,∀ x,f a=some x→x.2=[]∧g a=some x)→l.mapM f=some xs→l.mapM g=some xs∧xs.flatMap (·.2)=[]
 | [],xs,_,h=>by
  simp at h;subst h;simp
 |a::l,xs,hfg,h=>by
  simp only[List.mapM_cons,Option.bind_eq_bind,Option.bind_eq_some_iff] at h;obtain⟨x,h1,ys,h2,h3⟩:=h;simp only[Option.pure_def,oE] at h3;subst h3;obtain⟨k1,k2⟩:=hfg a (by simp) x h1;obtain⟨j1,j2⟩:=Zyv l (fun b hb=>hfg b (by simp[hb])) h2;constructor
  ·simp[List.mapM_cons,k2,j1]
  ·simp only[List.flatMap_cons,k1,j2,List.append_nil]
theorem ind_arr{t e:TypeId}{n:Nat}(hu:P.underlying t=some (.array n e))(he:Indep enc P e):Indep enc P t:=by
 intro W base sp held fuel cs x h;cases fuel with
 |zero=>simp[DataW.trod] at h
 |succ m=>
  rw[ZE7 hu] at h;split at h
  ·rename_i hlen;obtain⟨ys,h1,h2⟩:=Option.map_eq_some_iff.1 h;have key:∀ W' base' sp' held',((List.range n).mapM fun i=>DataW.trod enc P W' base' sp' held' m e ((cs.drop (i*P.cellsOf e)).take (P.cellsOf e)))=some ys∧ys.flatMap (·.2)=[]:=fun W' base' sp' held'=>
    Zyv _ (fun a _ x hx=>by
     obtain⟨z1,z2⟩:=he _ _ _ _ _ _ _ hx;exact⟨z1,z2 W' base' sp' held'⟩) h1
   subst h2;refine⟨(key W base sp held).2,fun W' base' sp' held'=>?_⟩;rw[ZE7 hu,if_pos hlen,(key W' base' sp' held').1];rfl
  ·simp at h
theorem ZE8{W:World}{base:Nat}{sp:Nat→Bool}{held:Bool}{m:Nat}{t:TypeId}{fs:Array Field}{cs:List Value}(hu:P.underlying t=some (.struct fs)):
  DataW.trod enc P W base sp held (m+1) t cs=if cs.length=P.cellsOf t then (fs.toList.mapM fun f=>DataW.trod enc P W base sp held m f.type ((cs.drop f.offset).take (P.cellsOf f.type))).map fun xs=>(.agg (xs.map (·.1)),xs.flatMap (·.2)) else none:=by
 conv=>lhs;unfold DataW.trod
 rw[hu]
theorem ind_str{t:TypeId}{fs:Array Field}(hu:P.underlying t=some (.struct fs))(hf:∀ f∈fs.toList,Indep enc P f.type):Indep enc P t:=by
 intro W base sp held fuel cs x h;cases fuel with
 |zero=>simp[DataW.trod] at h
 |succ m=>
  rw[ZE8 hu] at h;split at h
  ·rename_i hlen;obtain⟨ys,h1,h2⟩:=Option.map_eq_some_iff.1 h;have key:∀ W' base' sp' held',(fs.toList.mapM fun f=>DataW.trod enc P W' base' sp' held' m f.type ((cs.drop f.offset).take (P.cellsOf f.type)))=some ys∧ys.flatMap (·.2)=[]:=fun W' base' sp' held'=>
    Zyv _ (fun a ha x hx=>by
     obtain⟨z1,z2⟩:=hf a ha _ _ _ _ _ _ _ hx;exact⟨z1,z2 W' base' sp' held'⟩) h1
   subst h2;refine⟨(key W base sp held).2,fun W' base' sp' held'=>?_⟩;rw[ZE8 hu,if_pos hlen,(key W' base' sp' held').1];rfl
  ·simp at h
mutual
def PtTy(P:Program):{α:Type}→Pt α→TypeId→Prop
 |_,.int k,t=>P.underlying t=some (.int k)
 |_,.ints k n,t=>∃ e,P.underlying t=some (.array n e)∧P.underlying e=some (.int k)∧P.cellsOf e=1∧P.cellsOf t=n
 |_,.agg e,t=>∃ fs,P.underlying t=some (.struct fs)∧AgTy P e fs.toList 0 (P.cellsOf t)
 |_,_,_=>False
def AgTy(P:Program):{α:Type}→Ag α→List Field→Nat→Nat→Prop
 |_,.nil,fl,o,s=>fl=[]∧o=s
 |_,.one p,fl,o,s=>∃ f,fl=[f]∧f.offset=o∧PtTy P p f.type∧o+P.cellsOf f.type=s
 |_,.cons p r,fl,o,s=>∃ f fl',fl=f::fl'∧f.offset=o∧PtTy P p f.type∧AgTy P r fl' (o+P.cellsOf f.type) s
end
mutual
theorem PtTy.ind{α:Type}:(p:Pt α)→(t:TypeId)→PtTy P p t→Indep enc P t
 | .int k,t,h=>by
  simp only[PtTy] at h;exact ZHF h
 | .ints k n,t,h=>by
  simp only[PtTy] at h;obtain⟨e,h1,h2,-⟩:=h;exact ind_arr h1 (ZHF h2)
 | .agg e,t,h=>by
  simp only[PtTy] at h;obtain⟨fs,h1,h2⟩:=h;exact ind_str h1 (AgTy.ind e fs.toList 0 _ h2)
 | .bool,_,h=>by simp[PtTy] at h
 | .lst _,_,h=>by simp[PtTy] at h
 | .slw _ _,_,h=>by simp[PtTy] at h
 | .gsw _ _,_,h=>by simp[PtTy] at h
 | .gpw _ _,_,h=>by simp[PtTy] at h
 | .lit _,_,h=>by simp[PtTy] at h
 | .tup _,_,h=>by simp[PtTy] at h
theorem AgTy.ind{α:Type}:(e:Ag α)→(fl:List Field)→(o s:Nat)→AgTy P e fl o s→∀ f∈fl,Indep enc P f.type
 | .nil,fl,o,s,h=>by
  simp only[AgTy] at h;obtain⟨rfl,-⟩:=h;simp
 | .one p,fl,o,s,h=>by
  simp only[AgTy] at h;obtain⟨f,rfl,-,h1,-⟩:=h;intro g hg;simp only[List.mem_singleton] at hg;subst hg;exact PtTy.ind p _ h1
 | .cons p r,fl,o,s,h=>by
  simp only[AgTy] at h;obtain⟨f,fl',rfl,-,h1,h2⟩:=h;intro g hg;rcases List.mem_cons.1 hg with rfl|hg
  ·exact PtTy.ind p _ h1
  ·exact AgTy.ind r fl' _ s h2 g hg
end
mutual
theorem PtTy.cells{W:World}{base:Nat}{sp:Nat→Bool}{held:Bool}{α:Type}:(p:Pt α)→(t:TypeId)→PtTy P p t→(fuel:Nat)→(cs:List Value)→(x:DataW H×List MemPlace)→DataW.trod enc P W base sp held fuel t cs=some x→
  ∃ y:α,cs=Vx.cells P (fun _=>none) (p.mk y)∧OK P (fun _=>none) (p.mk y)
 | .int k,t,h,fuel,cs,x,ht=>by
  simp only[PtTy] at h;obtain⟨n,rfl,h2,-⟩:=ZmZ h ht;exact⟨n,by simp[Pt.mk,Vx.cells,den,Value.cells],by simpa only[Pt.mk,OK] using h2⟩
 | .ints k n,t,h,fuel,cs,x,ht=>by
  simp only[PtTy] at h;obtain⟨e,h1,h2,h3,h4⟩:=h;obtain⟨l,rfl,k1,k2⟩:=ZAs h1 h2 h3 h4 ht;exact⟨l,by simp only[Pt.mk];rw[ZaZ],by simpa only[Pt.mk,OK] using ⟨k1,k2⟩⟩
 | .agg e,t,h,fuel,cs,x,ht=>by
  simp only[PtTy] at h;obtain⟨fs,h1,h2⟩:=h;obtain⟨xs,m,-,-,hl,hxl,hat⟩:=DataW.trod_struct h1 ht;obtain⟨y,k1,k2⟩:=AgTy.cells (W:=W) (base:=base) (sp:=sp) (held:=held) e fs.toList 0 _ h2 m cs xs hl (by rw[hxl];simp) (fun i f hf=>hat i f (by simpa using hf));exact⟨y,by simp only[Pt.mk];rw[Zcs,← k1,List.drop_zero],by simpa only[Pt.mk,OK] using k2⟩
 | .bool,_,h,_,_,_,_=>by simp[PtTy] at h
 | .lst _,_,h,_,_,_,_=>by simp[PtTy] at h
 | .slw _ _,_,h,_,_,_,_=>by simp[PtTy] at h
 | .gsw _ _,_,h,_,_,_,_=>by simp[PtTy] at h
 | .gpw _ _,_,h,_,_,_,_=>by simp[PtTy] at h
 | .lit _,_,h,_,_,_,_=>by simp[PtTy] at h
 | .tup _,_,h,_,_,_,_=>by simp[PtTy] at h
theorem AgTy.cells{W:World}{base:Nat}{sp:Nat→Bool}{held:Bool}{α:Type}:(e:Ag α)→(fl:List Field)→(o s:Nat)→AgTy P e fl o s→(m:Nat)→(cs:List Value)→(xs:List (DataW H×List MemPlace))→cs.length=s→xs.length=fl.length→
  (∀ (i:Nat) (f:Field),fl[i]? =some f→DataW.trod enc P W base sp held m f.type ((cs.drop f.offset).take (P.cellsOf f.type))=xs[i]?)→∃ y:α,cs.drop o=denC P (fun _=>none) (e.mk y)∧OKL P (fun _=>none) (e.mk y)
 | .nil,fl,o,s,h,m,cs,xs,hl,hx,hat=>by
  simp only[AgTy] at h;obtain⟨rfl,rfl⟩:=h;exact⟨(),by simp[Ag.mk,denC,← hl],by simp[Ag.mk,OKL]⟩
 | .one p,fl,o,s,h,m,cs,xs,hl,hx,hat=>by
  simp only[AgTy] at h;obtain⟨f,rfl,rfl,h1,h2⟩:=h;have h0:=hat 0 f rfl
  match xs,hx with
  | [x0],_=>
   obtain⟨y,k1,k2⟩:=PtTy.cells p f.type h1 m _ x0 h0;refine⟨y,?_,by simp only[Ag.mk,OKL];exact⟨k2,trivial⟩⟩;rw[List.take_of_length_le (by rw[List.length_drop];omega)] at k1;rw[k1];simp[Ag.mk,denC,Vx.cells]
 | .cons p r,fl,o,s,h,m,cs,xs,hl,hx,hat=>by
  simp only[AgTy] at h;obtain⟨f,fl',rfl,rfl,h1,h2⟩:=h;have h0:=hat 0 f rfl
  match xs,hx with
  |x0::xs',hx=>
   obtain⟨y,k1,k2⟩:=PtTy.cells p f.type h1 m _ x0 h0;obtain⟨z,j1,j2⟩:=AgTy.cells (W:=W) (base:=base) (sp:=sp) (held:=held) r fl' _ s h2 m cs xs' hl (by simpa using hx) (fun i g hg=>by
    have:=hat (i+1) g (by simpa using hg);simpa using this)
   refine⟨(y,z),?_,by simp only[Ag.mk,OKL];exact⟨k2,j2⟩⟩;have:cs.drop f.offset=(cs.drop f.offset).take (P.cellsOf f.type)++(cs.drop f.offset).drop (P.cellsOf f.type):=(List.take_append_drop _ _).symm;rw[this,k1,List.drop_drop,j1];simp[Ag.mk,denC,Vx.cells]
end
end Go.Vx
namespace Go.Vx
open Go Go.RowKit
variable {H:Type} {enc:TypeId×Value→H} {P:Program}
theorem ZEe{W:World}{base:Nat}{sp:Nat→Bool}{held:Bool}{fuel:Nat}{k:IntKind}{t:TypeId}{cs:List Value}{x:DataW H×List MemPlace}(hf:fitInt P k t=true)
  (h:DataW.trod enc P W base sp held fuel t cs=some x):∃ y:Int,cs=[.int k y]∧k.min≤y∧y≤k.max:=by
 obtain⟨n,h1,h2,-⟩:=ZmZ (Zmr hf).1 h;exact⟨n,h1,h2⟩
theorem ZIQ{α:Type}{l:List α}{o n:Nat}(h:o+n=l.length):(l.drop o).take n=l.drop o:=List.take_of_length_le (by rw[List.length_drop];omega)
theorem Tc.trodB{W:World}{base:Nat}{sp:Nat→Bool}{held:Bool}:(c:Tc)→
  (∀ t,(c.fitB P).1 t=true→∀ (fuel:Nat) (cs:List Value) (x:DataW H×List MemPlace),DataW.trod enc P W base sp held fuel t cs=some x→∃ y,cs=c.cs y∧c.ok y)∧
  (∀ fl o s,(c.fitB P).2.1 fl o s=true→∀ (m:Nat) (cs:List Value) (xs:List (DataW H×List MemPlace)),cs.length=s→xs.length=fl.length→
   (∀ (i:Nat) (f:Field),fl[i]? =some f→DataW.trod enc P W base sp held m f.type ((cs.drop f.offset).take (P.cellsOf f.type))=xs[i]?)→∃ y,cs.drop o=c.cs y∧c.ok y)∧
  (∀ n e,(c.fitB P).2.2 n e=true→∀ (m:Nat) (cs:List Value),cs.length=n*P.cellsOf e→
   (∀ i,i<n→∃ x,DataW.trod enc P W base sp held m e ((cs.drop (i*P.cellsOf e)).take (P.cellsOf e))=some x)→∃ y,cs=c.cs y∧c.ok y):=by
 have oneF':∀ (c:Tc) (g:TypeId→Bool),(∀ t,g t=true→∀ (fuel:Nat) (cs:List Value) (x:DataW H×List MemPlace),DataW.trod enc P W base sp held fuel t cs=some x→∃ y,cs=c.cs y∧c.ok y)→
   ∀ fl o s,oneF P g fl o s=true→∀ (m:Nat) (cs:List Value) (xs:List (DataW H×List MemPlace)),cs.length=s→xs.length=fl.length→
   (∀ (i:Nat) (f:Field),fl[i]? =some f→DataW.trod enc P W base sp held m f.type ((cs.drop f.offset).take (P.cellsOf f.type))=xs[i]?)→∃ y,cs.drop o=c.cs y∧c.ok y:=by
  intro c g hg fl o s h m cs xs hl hx hat;unfold oneF at h;split at h
  ·cases h
  ·rename_i f r;split at h
   ·simp only[bA] at h;obtain⟨⟨h1,h2⟩,h3⟩:=h;have h1:=Zaj h1;have h3:=Zaj h3;have h0:=hat 0 f rfl
    match xs,hx with
    | [x0],_=>
     obtain⟨y,k1,k2⟩:=hg _ h2 m _ x0 h0;refine⟨y,?_,k2⟩;rw[h1,ZIQ (by omega)] at k1;exact k1
   ·cases h
 have oneN':∀ (c:Tc) (g:TypeId→Bool),(∀ t,g t=true→∀ (fuel:Nat) (cs:List Value) (x:DataW H×List MemPlace),DataW.trod enc P W base sp held fuel t cs=some x→∃ y,cs=c.cs y∧c.ok y)→
   ∀ n e,oneN g n e=true→∀ (m:Nat) (cs:List Value),cs.length=n*P.cellsOf e→
   (∀ i,i<n→∃ x,DataW.trod enc P W base sp held m e ((cs.drop (i*P.cellsOf e)).take (P.cellsOf e))=some x)→∃ y,cs=c.cs y∧c.ok y:=by
  intro c g hg n e h m cs hl hat;simp only[oneN,bA] at h;have h1:=Zaj h.1;subst h1;obtain⟨x,hx⟩:=hat 0 (by omega);rw[Nat.zero_mul,List.drop_zero,List.take_of_length_le (by omega)] at hx;exact hg _ h.2 m _ x hx
 intro c
 induction c with
 |int k=>
  have key:∀ t,fitInt P k t=true→∀ (fuel:Nat) (cs:List Value) (x:DataW H×List MemPlace),DataW.trod enc P W base sp held fuel t cs=some x→∃ y:Int,cs=(Tc.int k).cs y∧(Tc.int k).ok y:=fun t h fuel cs x hx=>ZEe h hx
  exact⟨key,oneF' (.int k) _ key,oneN' (.int k) _ key⟩
 |bool=>
  have key:∀ t,fitBool P t=true→∀ (fuel:Nat) (cs:List Value) (x:DataW H×List MemPlace),DataW.trod enc P W base sp held fuel t cs=some x→∃ y:Bool,cs=Tc.bool.cs y∧Tc.bool.ok y:=by
   intro t h fuel cs x hx;simp only[fitBool,bA] at h;have h:=h.1;split at h
   ·rename_i hu;obtain⟨y,rfl,-⟩:=DataW.trod_bool hu hx;exact⟨y,rfl,trivial⟩
   ·cases h
  exact⟨key,oneF' .bool _ key,oneN' .bool _ key⟩
 |ints k n=>
  have key:∀ t,fitInts P k n t=true→∀ (fuel:Nat) (cs:List Value) (x:DataW H×List MemPlace),DataW.trod enc P W base sp held fuel t cs=some x→∃ y:List Int,cs=(Tc.ints k n).cs y∧(Tc.ints k n).ok y:=by
   intro t h fuel cs x hx;unfold fitInts at h;split at h
   ·rename_i m e hu;simp only[bA] at h;obtain⟨g1,g2⟩:=Zmr h.1.2;rw[← Zaj h.1.1] at hu;obtain⟨l,k1,k2,k3⟩:=ZAs hu g1 g2 (Zaj h.2) hx;exact⟨l,k1,k2,k3⟩
   ·cases h
  exact⟨key,oneF' (.ints k n) _ key,oneN' (.ints k n) _ key⟩
 |nil=>
  refine⟨fun t h=>by simp[Tc.fitB] at h,fun fl o s h m cs xs hl hx hat=>?_,fun n e h m cs hl hat=>?_⟩
  ·cases fl with
   |nil=>
    have:=Zaj h;exact⟨(),by rw[List.drop_eq_nil_of_le (by omega)];rfl,trivial⟩
   |cons=>simp[Tc.fitB] at h
  ·have:=Zaj h;subst this;rw[Nat.zero_mul] at hl;exact⟨(),List.eq_nil_of_length_eq_zero hl,trivial⟩
 |cons a b iha ihb=>
  refine⟨fun t h=>by simp[Tc.fitB] at h,fun fl o s h m cs xs hl hx hat=>?_,fun n e h m cs hl hat=>?_⟩
  ·cases fl with
   |nil=>simp[Tc.fitB] at h
   |cons f fl=>
    simp only[Tc.fitB,bA] at h;obtain⟨⟨h1,h2⟩,h3⟩:=h;have h1:=Zaj h1;have h0:=hat 0 f rfl
    match xs,hx with
    |x0::xs',hx=>
     obtain⟨y,k1,k2⟩:=iha.1 _ h2 m _ x0 h0;obtain⟨z,j1,j2⟩:=ihb.2.1 fl _ s h3 m cs xs' hl (by simpa using hx) (fun i g hg=>by
      have:=hat (i+1) g (by simpa using hg);simpa using this)
     refine⟨(y,z),?_,k2,j2⟩;have e:cs.drop o=(cs.drop o).take (P.cellsOf f.type)++(cs.drop o).drop (P.cellsOf f.type):=(List.take_append_drop _ _).symm;rw[h1] at k1;rw[e,k1,List.drop_drop,j1];rfl
  ·cases n with
   |zero=>simp[Tc.fitB] at h
   |succ n=>
    simp only[Tc.fitB,bA] at h;obtain⟨x,hx⟩:=hat 0 (by omega);rw[Nat.zero_mul,List.drop_zero] at hx;obtain⟨y,k1,k2⟩:=iha.1 _ h.1 m _ x hx;obtain⟨z,j1,j2⟩:=ihb.2.2 n e h.2 m (cs.drop (P.cellsOf e)) (by rw[List.length_drop,hl,Nat.succ_mul];omega) (fun i hi=>by
     obtain⟨x,hx⟩:=hat (i+1) (by omega);refine⟨x,?_⟩;rw[List.drop_drop,show P.cellsOf e+i*P.cellsOf e=(i+1)*P.cellsOf e by rw[Nat.succ_mul,Nat.add_comm]];exact hx)
    refine⟨(y,z),?_,k2,j2⟩;have e':cs=cs.take (P.cellsOf e)++cs.drop (P.cellsOf e):=(List.take_append_drop _ _).symm;rw[e',k1,j1];rfl
 |agg l ih=>
  have key:∀ t,fitAgg P (l.fitB P).2.1 (l.fitB P).2.2 t=true→∀ (fuel:Nat) (cs:List Value) (x:DataW H×List MemPlace),DataW.trod enc P W base sp held fuel t cs=some x→∃ y:l.T,cs=(Tc.agg l).cs y∧(Tc.agg l).ok y:=by
   intro t h fuel cs x hx;unfold fitAgg at h;split at h
   ·rename_i fs hu;obtain⟨xs,m,-,-,hl,hxl,hat⟩:=DataW.trod_struct hu hx;obtain⟨y,k1,k2⟩:=ih.2.1 _ _ _ h m cs xs hl (by rw[hxl];simp) (fun i f hf=>hat i f (by simpa using hf));rw[List.drop_zero] at k1;exact⟨y,k1,k2⟩
   ·rename_i n e hu;simp only[bA] at h;obtain⟨xs,m,-,-,hl,hxl,hat⟩:=DataW.trod_array hu hx;rw[Zaj h.2] at hl;refine ih.2.2 n e h.1 m cs hl fun i hi=>?_
    have hix:i<xs.length:=by omega
    exact⟨xs[i],by rw[hat i hi,List.getElem?_eq_getElem hix]⟩
   ·cases h
  exact⟨key,oneF' (.agg l) _ key,oneN' (.agg l) _ key⟩
theorem ZAt{W:World}{base:Nat}{a:Addr}{n:Nat}{cs:List Value}(h:W.cells? base a n=some cs):cs.length=n∧∀ j x,cs[j]? =some x→W.cell? (a.add j)=some x:=by
 unfold World.cells? at h;split at h
 ·refine⟨by simpa using mapM_some_length h,fun j x hx=>?_⟩;have hj:j<n:=by
   have:=mapM_some_length h;rw[List.length_range] at this;rcases Nat.lt_or_ge j cs.length with h|h
   ·omega
   ·rw[List.getElem?_eq_none h] at hx;cases hx
  have:=mapM_some_get h j j (by simp[hj]);rw[hx] at this;exact this
 ·cases h
theorem ZFb{f:Func}{s:ChangeSpec}{apart fresh handsOn:Bool}{W W':World}{args:Array Value}{v:Value}{ds gs:List (DataW H)}{pa pv:List MemPlace}{before:List MemPlace}
  (hW:DataW.Whole enc P f.params.toList s.vars apart W args.toList ds gs before)
  (hres:∀ (b:Nat) (sp:Nat→Bool) (hd:Bool),DataW.TrodAll enc P W' b sp hd f.resultTypes.toList (v.resultList f.resultTypes.size) (s.fn H (ds++gs)).results [])
  (hargs:DataW.TrodAll enc P W' 0 (fun b=>decide (b<W.heap.size)) true f.params.toList args.toList (s.fn H (ds++gs)).args pa)
  (hvars:DataW.TrodVars enc P W' (fun b=>decide (b<W.heap.size)) s.vars (s.fn H (ds++gs)).vars pv)
  (hb:Below W.heap.size W W'):s.post enc P f apart fresh handsOn false W args v W':=
 ⟨ds,gs,before,[],pa,pv,hW,hres _ _ _,hargs,hvars,hb.frame _,fun h=>by simp at h⟩
end Go.Vx
namespace Go.Vx
open Go Go.RowKit
variable {H:Type} {enc:TypeId×Value→H}
theorem ZnZ{a:Assume}{C:Checked}{os:Os}{f:FuncId}{fn:Func}{s:OpenSpec}{k:(H:Type)→List (DataW H)→Bool}(hk:s.cond=some k){F:Stop.Interp}{conds:List PathCond}{apart fresh handsOn again:Bool}{X:World→Array Value→Prop}
  (hX:∀ (w w':World) (args:Array Value),w.heap=w'.heap→X w args→X w' args)
  (own:ownKnob C.prog.godebug=none) (started:os.Started) (noInit:C.prog.inits.idxOf? f=none) (hfn:C.prog.funcs[f]? =some fn)
  (witness:∃ (w:World) (tape:Tape) (i:Input),w.os=os∧(w.forCall tape i).Shaped C.prog∧i.vars=[]∧Input.okWide C.prog (w.forCall tape i) .any w.heap.size f i∧
   ((s.pre enc C.prog fn conds apart (w.forCall tape i).memory i.args∧X (w.forCall tape i).memory i.args)∧sizedMet enc C.prog fn s apart (w.forCall tape i).memory i.args)∧a.holds C.prog (lone (Frame.enter C.prog f i.args .normal) [] (w.forCall tape i)))
  (contract:∀ (W:World) (base:Nat) (args:Array Value) (ds gs:List (DataW H)) (before:List MemPlace),
   (∀ (j:Nat) t v,fn.params[j]? =some t→args[j]? =some v→Value.okWide C.prog W .any base t v)→
   DataW.Whole enc C.prog fn.params.toList s.vars apart W args.toList ds gs before→
   conds.all (PathCond.test C.prog ⟨fn.params.toList,ds,s.bare.plain.varTypes C.prog,gs⟩)=true→k H (ds++gs)=true→X W args→
   a.holds C.prog (lone (Frame.enter C.prog f args .normal) [] W)→
   Calls C.prog f args W fun e W'=>∃ v,e= .returned v∧(s.at F).post enc C.prog fn apart fresh handsOn again W args v W'):
  ReturnsInHanded a C os f .any (fun w args=>(s.pre enc C.prog fn conds apart w args∧X w args)∧sizedMet enc C.prog fn s apart w args) ((s.at F).post enc C.prog fn apart fresh handsOn again):=by
 refine returnsInHanded_of_calls own started noInit witness ?_;intro w tape i _ _ _ hok hpre hholds;obtain⟨_,_,_,fn',hfn',_,_,_,_,hval⟩:=hok;have e:fn'=fn:=oI (hfn'.symm.trans hfn);subst e;obtain⟨⟨h1,hx⟩,hz⟩:=hpre;obtain⟨ds,gs,before,hw,hc,hkk⟩:=(OpenSpec.pre_some hk conds apart _ _).1 h1;have hw':=DataW.Whole.of_heap (w':=w.forCall tape i) (by rfl) hw;refine(contract (w.forCall tape i) w.heap.size i.args ds gs before hval hw' hc hkk (hX _ _ _ (by rfl) hx) hholds).mono fun e W' ⟨v,he,hp⟩=>?_
 subst he;exact ChangeSpec.post_blind hp
def condB(k:(H:Type)→List (DataW H)→Bool)(enc:TypeId×Value→H)(P:Program)(f:Func)(s:OpenSpec)(conds:List PathCond)(apart:Bool)(w:World)(args:Array Value)(fuel:Nat):Bool:=
 (P.platform== "linux/amd64/v1")&&match DataW.whole enc P w f.params.toList s.vars apart args.toList fuel with
 |some x=>conds.all (PathCond.test P ⟨f.params.toList,x.1,s.bare.plain.varTypes P,x.2.1⟩)&&k H (x.1++x.2.1)&&(DataW.weightsEach P (f.params.toList++s.bare.plain.varTypes P) (x.1++x.2.1)).all (· ≤reachBytes)
 |none=>false
theorem ZCa{C:Checked}{os:Os}{f:FuncId}{fn:Func}{s:OpenSpec}{k:(H:Type)→List (DataW H)→Bool}(hk:s.cond=some k){conds:List PathCond}{apart:Bool}{X:World→Array Value→Prop}(modest:Bool)(w0:World)(args:Array Value)(fuel:Nat)(hos:w0.os=os)
  (hsh:(w0.forCall (fun _ _=>0) ⟨#[],args,[]⟩).Shaped C.prog)
  (hok:Input.okWideB C.prog (w0.forCall (fun _ _=>0) ⟨#[],args,[]⟩) f ⟨#[],args,[]⟩=true)
  (hb:condB k enc C.prog fn s conds apart (w0.forCall (fun _ _=>0) ⟨#[],args,[]⟩).memory args fuel=true)
  (hx:X (w0.forCall (fun _ _=>0) ⟨#[],args,[]⟩).memory args):
  ∃ (w:World) (tape:Tape) (i:Input),w.os=os∧(w.forCall tape i).Shaped C.prog∧i.vars=[]∧Input.okWide C.prog (w.forCall tape i) .any w.heap.size f i∧
   ((s.pre enc C.prog fn conds apart (w.forCall tape i).memory i.args∧X (w.forCall tape i).memory i.args)∧sizedMet enc C.prog fn s apart (w.forCall tape i).memory i.args)∧({modest:=modest}:Assume).holds C.prog (lone (Frame.enter C.prog f i.args .normal) [] (w.forCall tape i)):=by
 unfold condB at hb;rw[bA] at hb;obtain⟨hp,hb⟩:=hb;split at hb
 ·rename_i x hx';simp only[bA] at hb;obtain⟨⟨b1,b2⟩,b3⟩:=hb;exact⟨w0,fun _ _=>0,⟨#[],args,[]⟩,hos,hsh,(Input.okWide_of_okWideB (base:=0) hok).1,(Input.okWide_of_okWideB hok).2,
   ⟨⟨(OpenSpec.pre_some hk conds apart _ _).2 ⟨x.1,x.2.1,x.2.2,DataW.Whole_of_whole hx',b1,b2⟩,hx⟩,by simpa using hp,x.1,x.2.1,x.2.2,DataW.Whole_of_whole hx',b3⟩,by
   simp only[Assume.holds];exact⟨by simp,by simp,fun _=>Modest.zero,by simp,by simp⟩⟩
 ·cases hb
end Go.Vx
namespace Go.Vx
open Go Go.RowKit
variable {H:Type} {enc:TypeId×Value→H} {P:Program}
theorem SliceAt.ints{W:World}{v:Value}{e:TypeId}{k:IntKind}{l:List Int}(hu:P.underlying e=some (.int k))(hc:P.cellsOf e=1)(h:SliceAt P W v (.vec (.int k) l) e):SliceAt P W v (.ints k l.length l) e:=by
 obtain⟨nm,h1,h2,h3,h4,h5,h6,h7,h8,h9,h10⟩:=h;have ec:cells P (fun _=>none) (.ints k l.length l)=cells P (fun _=>none) (.vec (.int k) l):=by
  rw[ZcD];simp only[cells,den,Value.cells];have:∀ l:List Int,l.map (Value.int k)=List.flatMap (Tc.int k).cs l:=by
   intro l
   induction l with
   |nil=>rfl
   |cons a l ih=>rw[List.flatMap_cons,List.map_cons,ih];rfl
  simp[this]
 refine⟨nm,h1,h2,h3,h4,h5,h6,h7,?_,?_,?_⟩
 ·simp only[HasN,h2,if_true] at h8 ⊢;rw[h3];exact⟨h8.1,hu,hc⟩
 ·rw[ec];exact h9
 ·rw[ec];exact h10
end Go.Vx
namespace Go.Vx
open Go Go.RowKit
variable {H:Type} {enc:TypeId×Value→H} {P:Program}
def Kof(W:World)(n:Nat:=0)(na:Option Addr:=none):Fz:=⟨fun k o=>W.cell? ⟨k,o,none⟩,W.heap.size,n,0,na⟩
def isKof(W:World)(K:Fz):Prop:=∃ n a,K=Kof W n a
structure Bulk (H:Type) where
 B:DataW H→Nat
 A:List (DataW H)→Nat
 pos:∀ d,1≤B d
 cons:∀ d r,B d+A r≤A (d::r)
 slice:∀ e s,A e+1≤B (.slice e s)
 agg:∀ p,A p+1≤B (.agg p)
def Dc.wt:(d:Dc)→d.T→Nat
 | .tc _,_=>0
 | .row d _,x=>x.length+(x.map d.wt).sum
 | .nil,_=>0
 | .cons a b,x=>a.wt x.1+b.wt x.2
 | .agg l,x=>l.wt x
def Dc.pos(P:Program):Dc→Bool
 | .tc _=>true
 | .row d te=>Nat.blt 0 (P.cellsOf te)&&d.pos P
 | .nil=>true
 | .cons a b=>a.pos P&&b.pos P
 | .agg l=>l.pos P
theorem ZFM{g:List Field→Nat→Nat→Bool}{t:TypeId}(h:fitAgg P g (fun _ _=>false) t=true):∃ fs,P.underlying t=some (.struct fs)∧g fs.toList 0 (P.cellsOf t)=true:=by
 unfold fitAgg at h;split at h
 ·rename_i fs hu;exact⟨fs,hu,h⟩
 ·simp at h
 ·cases h
theorem ZDv(β:Bulk H){T:Type}{wt:T→Nat}{Q:Nat→T→Prop}:∀ (es:List (DataW H×List MemPlace)) (i0:Nat),(∀ (i:Nat) x,es[i]? =some x→∃ y,Q (i0+i) y∧wt y+1≤β.B x.1)→
  ∃ l:List T,l.length=es.length∧(∀ (i:Nat) y,l[i]? =some y→Q (i0+i) y)∧l.length+(l.map wt).sum≤β.A (es.map (·.1))
 | [],i0,_=>⟨[],rfl,fun i y h=>by simp at h,Nat.zero_le _⟩
 |e::es,i0,h=>by
  obtain⟨y,h1,h2⟩:=h 0 e rfl;obtain⟨l,k1,k2,k3⟩:=ZDv β es (i0+1) fun i x hx=>by
   obtain⟨y,h1,h2⟩:=h (i+1) x (by simpa using hx);exact⟨y,by rw[show i0+1+i=i0+(i+1) by omega];exact h1,h2⟩
  refine⟨y::l,by simp[k1],fun i z hz=>?_,?_⟩
  ·cases i with
   |zero=>simp at hz;subst hz;exact h1
   |succ i=>
    have:=k2 i z (by simpa using hz);rw[show i0+(i+1)=i0+1+i by omega];exact this
  ·have:=β.cons e.1 (es.map (·.1));simp only[List.length_cons,List.map_cons,List.sum_cons] at this ⊢;omega
theorem ZE9(β:Bulk H){W:World}{base:Nat}{held:Bool}{d:Dc}
  (ih:∀ t,(d.fitB P).1 t=true→∀ (fuel:Nat) (cs:List Value) (x:DataW H×List MemPlace),DataW.trod enc P W base (fun _=>true) held fuel t cs=some x→∃ y:d.T,(∀ b o,(∀ j v,cs[j]? =some v→W.cell? ⟨b,o+j,none⟩=some v)→DRep P (Kof W) d b o y)∧d.wt y+1≤β.B x.1)
  {t te:TypeId} (hu:P.underlying t=some (.slice te)) (hf:(d.fitB P).1 te=true) (hp:0<P.cellsOf te) {fuel:Nat} {cs:List Value} {x:DataW H×List MemPlace} (h:DataW.trod enc P W base (fun _=>true) held fuel t cs=some x):
  ∃ (a:Option Addr) (c:Nat) (l:List d.T),cs=[.slice a l.length c]∧RepR P (Kof W) d te (a,c) l∧l.length+(l.map d.wt).sum+1≤β.B x.1:=by
 rcases DataW.trod_slice hu h with⟨hc,hx⟩|⟨a,len,cap,elems,rest,n,-,hc,hx,-,hlc,hcm,hel,hat,hsp,-⟩
 ·refine⟨none,0,[],hc,⟨⟨fun _=>rfl,fun ad h=>by cases h⟩,Nat.le_refl _,by show ((0:Nat):Int)≤9223372036854775807;decide,fun i y hy=>by simp at hy⟩,?_⟩;simp only[List.length_nil,List.map_nil,List.sum_nil,Nat.zero_add];exact β.pos _
 ·obtain⟨hrl,hrest⟩:=hsp rfl;have first:∀ cs',W.cells? base (a.add (0*P.cellsOf te)) (P.cellsOf te)=some cs'→a.spot=none∧a.block<W.heap.size:=by
   intro cs' hcs;obtain⟨h4,h5⟩:=ZAt hcs;have h0:0<cs'.length:=by omega
   have:=h5 0 cs'[0] (List.getElem?_eq_getElem h0);rw[Nat.zero_mul] at this;have e:(a.add 0).add 0=a:=rfl;rw[e] at this;refine⟨World.cell?_spot this,?_⟩;unfold World.cell? at this;rcases Nat.lt_or_ge a.block W.heap.size with h|h
   ·exact h
   ·rw[Array.getElem?_eq_none h] at this;simp at this
  have adr:0<cap→a.spot=none∧a.block<W.heap.size:=by
   intro hcap;rcases Nat.eq_zero_or_pos len with h0|h0
   ·have h1:=hrest 0 (by omega);have hr0:0<rest.length:=by omega
    rw[List.getElem?_eq_getElem hr0] at h1;obtain⟨cs',h2,-⟩:=Option.bind_eq_some_iff.1 h1;rw[h0] at h2;exact first cs' h2
   ·have h1:=hat 0 h0;rw[List.getElem?_eq_getElem (show 0<elems.length by omega)] at h1;obtain⟨cs',h2,-⟩:=Option.bind_eq_some_iff.1 h1;exact first cs' h2
  obtain⟨l,l1,l2,l3⟩:=ZDv β (wt:=d.wt) (Q:=fun i y=>∃ b' o',some a=some (⟨b',o',none⟩:Addr)∧DRep P (Kof W) d b' (o'+i*P.cellsOf te) y) elems 0 fun i x hi=>by
   have hil:i<elems.length:=(List.getElem?_eq_some_iff.1 hi).1;have h1:=hat i (by omega);rw[hi] at h1;obtain⟨cs',h2,h3⟩:=Option.bind_eq_some_iff.1 h1;obtain⟨h4,h5⟩:=ZAt h2;obtain⟨y,k1,k2⟩:=ih te hf n cs' x h3;obtain⟨g1,g2⟩:=adr (by omega);obtain⟨ab,ao,asp⟩:=a;simp only at g1;subst g1;refine⟨y,⟨ab,ao,rfl,k1 _ _ fun j v hv=>?_⟩,k2⟩;have:=h5 j v hv;rw[ZbG,ZbG] at this;rw[Nat.zero_add];exact this
  refine⟨some a,cap,l,by rw[hc,l1,hel],⟨⟨fun h=>absurd h (by simp),fun ad h hcap=>(oI h)▸adr hcap⟩,by simp only;omega,?_,fun i y hy=>?_⟩,?_⟩
  ·simp only;have e:maxLen=9223372036854775807:=by decide
   rw[e] at hcm;omega
  ·obtain⟨b',o',q1,q2⟩:=l2 i y hy;rw[Nat.zero_add] at q2;exact⟨b',o',q1,q2⟩
  ·have:=β.slice (elems.map (·.1)) (rest.map (·.1));rw[hx];simp only;omega
theorem Dc.trodB(β:Bulk H){W:World}{base:Nat}{held:Bool}:(d:Dc)→d.pos P=true→
  (∀ t,(d.fitB P).1 t=true→∀ (fuel:Nat) (cs:List Value) (x:DataW H×List MemPlace),DataW.trod enc P W base (fun _=>true) held fuel t cs=some x→∃ y:d.T,(∀ b o,(∀ j v,cs[j]? =some v→W.cell? ⟨b,o+j,none⟩=some v)→DRep P (Kof W) d b o y)∧d.wt y+1≤β.B x.1)∧
  (∀ fl o s,(d.fitB P).2 fl o s=true→∀ (m:Nat) (cs:List Value) (xs:List (DataW H×List MemPlace)),cs.length=s→xs.length=fl.length→
   (∀ (i:Nat) (f:Field),fl[i]? =some f→DataW.trod enc P W base (fun _=>true) held m f.type ((cs.drop f.offset).take (P.cellsOf f.type))=xs[i]?)→
   ∃ y:d.T,(∀ b o',(∀ j v,cs[j]? =some v→W.cell? ⟨b,o'+j,none⟩=some v)→DRep P (Kof W) d b (o'+o) y)∧d.wt y≤β.A (xs.map (·.1))):=by
 have piece:∀ {cs:List Value} {b o' o k:Nat},(∀ j v,cs[j]? =some v→W.cell? ⟨b,o'+j,none⟩=some v)→∀ j v,((cs.drop o).take k)[j]? =some v→W.cell? ⟨b,o'+o+j,none⟩=some v:=by
  intro cs b o' o k h j v hv;rw[List.getElem?_take] at hv;split at hv
  ·rw[List.getElem?_drop] at hv;have:=h _ v hv;rw[← Nat.add_assoc] at this;exact this
  ·cases hv
 have oneD:∀ (d:Dc) (g:TypeId→Bool),(∀ t,g t=true→∀ (fuel:Nat) (cs:List Value) (x:DataW H×List MemPlace),DataW.trod enc P W base (fun _=>true) held fuel t cs=some x→∃ y:d.T,(∀ b o,(∀ j v,cs[j]? =some v→W.cell? ⟨b,o+j,none⟩=some v)→DRep P (Kof W) d b o y)∧d.wt y+1≤β.B x.1)→
   ∀ fl o s,oneF P g fl o s=true→∀ (m:Nat) (cs:List Value) (xs:List (DataW H×List MemPlace)),cs.length=s→xs.length=fl.length→
   (∀ (i:Nat) (f:Field),fl[i]? =some f→DataW.trod enc P W base (fun _=>true) held m f.type ((cs.drop f.offset).take (P.cellsOf f.type))=xs[i]?)→
   ∃ y:d.T,(∀ b o',(∀ j v,cs[j]? =some v→W.cell? ⟨b,o'+j,none⟩=some v)→DRep P (Kof W) d b (o'+o) y)∧d.wt y≤β.A (xs.map (·.1)):=by
  intro d g hg fl o s h m cs xs hl hx hat;unfold oneF at h;split at h
  ·cases h
  ·rename_i f r;split at h
   ·simp only[bA] at h;obtain⟨⟨h1,h2⟩,h3⟩:=h;have h1:=Zaj h1;have h0:=hat 0 f rfl
    match xs,hx with
    | [x0],_=>
     obtain⟨y,k1,k2⟩:=hg _ h2 m _ x0 h0;refine⟨y,fun b o' hb=>?_,?_⟩
     ·rw[← h1];exact k1 b (o'+f.offset) (piece hb)
     ·have:=β.cons x0.1 [];simp only[List.map_cons,List.map_nil];omega
   ·cases h
 intro d
 induction d with
 |tc c=>
  intro _;have key:∀ t,c.fit P t=true→∀ (fuel:Nat) (cs:List Value) (x:DataW H×List MemPlace),DataW.trod enc P W base (fun _=>true) held fuel t cs=some x→∃ y:(Dc.tc c).T,(∀ b o,(∀ j v,cs[j]? =some v→W.cell? ⟨b,o+j,none⟩=some v)→DRep P (Kof W) (.tc c) b o y)∧(Dc.tc c).wt y+1≤β.B x.1:=by
   intro t h fuel cs x hx;obtain⟨y,rfl,k2⟩:=(Tc.trodB c).1 t h fuel cs x hx;exact⟨y,fun b o hb=>⟨k2,hb⟩,β.pos _⟩
  exact⟨key,oneD (.tc c) _ key⟩
 |row d te ih=>
  intro hp;simp only[Dc.pos,bA,Nat.blt_eq] at hp;have key:∀ t,((Dc.row d te).fitB P).1 t=true→∀ (fuel:Nat) (cs:List Value) (x:DataW H×List MemPlace),DataW.trod enc P W base (fun _=>true) held fuel t cs=some x→∃ y:(Dc.row d te).T,(∀ b o,(∀ j v,cs[j]? =some v→W.cell? ⟨b,o+j,none⟩=some v)→DRep P (Kof W) (.row d te) b o y)∧(Dc.row d te).wt y+1≤β.B x.1:=by
   intro t h fuel cs x hx;simp only[Dc.fitB,bA] at h;obtain⟨⟨h1,h2⟩,h3⟩:=h;split at h1
   ·rename_i e hu;have h1:=Zaj h1;subst h1;obtain⟨a,c,l,rfl,⟨k1,k2,k3,k4⟩,k5⟩:=ZE9 β (ih hp.2).1 hu h3 hp.1 hx;refine⟨l,fun b o hb=>⟨a,c,hb 0 _ rfl,k1,k2,k3,k4⟩,?_⟩;simp only[Dc.wt];exact k5
   ·cases h1
  exact⟨key,oneD (.row d te) _ key⟩
 |nil=>
  intro _;refine⟨fun t h=>by simp[Dc.fitB] at h,fun fl o s h m cs xs hl hx hat=>⟨(),fun _ _ _=>trivial,Nat.zero_le _⟩⟩
 |cons a b iha ihb=>
  intro hp;simp only[Dc.pos,bA] at hp;refine⟨fun t h=>by simp[Dc.fitB] at h,fun fl o s h m cs xs hl hx hat=>?_⟩;cases fl with
  |nil=>simp[Dc.fitB] at h
  |cons f fl=>
   simp only[Dc.fitB,bA] at h;obtain⟨⟨h1,h2⟩,h3⟩:=h;have h1:=Zaj h1;have h0:=hat 0 f rfl
   match xs,hx with
   |x0::xs',hx=>
    obtain⟨y,k1,k2⟩:=(iha hp.1).1 _ h2 m _ x0 h0;obtain⟨z,j1,j2⟩:=(ihb hp.2).2 fl _ s h3 m cs xs' hl (by simpa using hx) (fun i g hg=>by
     have:=hat (i+1) g (by simpa using hg);simpa using this)
    refine⟨(y,z),fun b0 o' hb=>⟨?_,?_⟩,?_⟩
    ·rw[← h1];exact k1 b0 (o'+f.offset) (piece hb)
    ·have hsz:a.sz=P.cellsOf f.type:=(Dc.fit_sz P a).1 f.type h2;have:=j1 b0 o' hb;rw[Nat.add_assoc,hsz];exact this
    ·have:=β.cons x0.1 (xs'.map (·.1));simp only[List.map_cons,Dc.wt];omega
 |agg l ih=>
  intro hp;simp only[Dc.pos] at hp;have key:∀ t,((Dc.agg l).fitB P).1 t=true→∀ (fuel:Nat) (cs:List Value) (x:DataW H×List MemPlace),DataW.trod enc P W base (fun _=>true) held fuel t cs=some x→∃ y:(Dc.agg l).T,(∀ b o,(∀ j v,cs[j]? =some v→W.cell? ⟨b,o+j,none⟩=some v)→DRep P (Kof W) (.agg l) b o y)∧(Dc.agg l).wt y+1≤β.B x.1:=by
   intro t h fuel cs x hx;obtain⟨fs,hu,h⟩:=ZFM (show fitAgg P (l.fitB P).2 (fun _ _=>false) t=true from h);obtain⟨xs,m,-,hxx,hl,hxl,hat⟩:=DataW.trod_struct hu hx;obtain⟨y,k1,k2⟩:=(ih hp).2 _ _ _ h m cs xs hl (by rw[hxl];simp) (fun i f hf=>hat i f (by simpa using hf));refine⟨y,fun b o hb=>by have:=k1 b o hb;rw[Nat.add_zero] at this;exact this,?_⟩;have:=β.agg (xs.map (·.1));rw[hxx];simp only[Dc.wt];omega
  exact⟨key,oneD (.agg l) _ key⟩
theorem repK{W:World}{n:Nat}{na:Option Addr}{d:Dc}{te:TypeId}{l:Option Addr×Nat}{x:List d.T}(h:RepR P (Kof W) d te l x):RepR P (Kof W n na) d te l x:=by
 have hle:(Kof W).le (Kof W n na):=⟨fun _ _ _ h=>h,Nat.le_refl _⟩;obtain⟨h1,h2,h3,h4⟩:=h;refine⟨h1.le hle,h2,h3,fun i y hy=>?_⟩;obtain⟨b,o,k1,k2⟩:=h4 i y hy;exact⟨b,o,k1,DRep.move hle d b _ b _ y k2 fun j v _ hv=>hv⟩
theorem io_at{W:World}{g:FuncId}{ro nh:Nat}{α β μ γ δ:Type}{A:Ag α}{R:Ent β}{M:Ent μ}{B:Pt γ}{M':Ent δ}{K:List Nat}{F:α×β×μ→Option (γ×δ)}(h:SoundIo P W g ro nh A R M B M' K F){fn:Func}(hfn:P.funcs[g]? =some fn)
  {x:α×β×μ} {y:γ×δ} (hF:F x=some y) (hm:R.mk x.2.1++M.mk x.2.2=[]) {ρ:Rho} (hρ:∀ b nm,ρ b=some nm→(32≤b∧b<nh)∧isKof W nm.K) (ok:OKL P ρ (A.mk x.1)) {vs:List Value} (hv:denT P ρ (A.mk x.1)=vs) {r:Value} (hr:∀ ρ',den P ρ' (B.mk y.1)=r):
  Calls P g vs.toArray W fun e w'=>e= .returned r∧Below W.heap.size W w':=by
 subst hv;have S:Sim P ⟨W,W,fun _=>False,fun k o=>∃ v,W.cell? ⟨k,o,none⟩=some v,Below.refl _ _,fun _ h=>h.elim,fun k o h=>ZqV h.choose_spec⟩ ro ρ [] (R.mk x.2.1++M.mk x.2.2) #[] W:=by
  rw[hm];refine⟨fun d v h=>by simp[lk] at h,fun b T h=>by simp[lk] at h,fun b T nm h=>by simp[lk] at h,fun b b' T T' nm nm' h=>by simp[lk] at h,fun b T nm h=>by simp[lk] at h,Kept.refl _,?_⟩;refine⟨fun b nm hb k o v hk=>?_,fun b nm hb=>?_,fun b nm hb k o v hk=>?_,fun b T nm h=>by simp[lk] at h,fun b T nm h=>by simp[lk] at h,fun b s p h=>by simp[lk] at h,fun b s p nm h=>by simp[lk] at h,fun b b' s s' p p' nm nm' h=>by simp[lk] at h⟩
  ·obtain⟨n,na,e⟩:=(hρ b nm hb).2;rw[e] at hk;exact hk
  ·obtain⟨n,na,e⟩:=(hρ b nm hb).2;rw[e];exact Nat.le_refl _
  ·obtain⟨n,na,e⟩:=(hρ b nm hb).2;rw[e] at hk;exact .inr ⟨v,hk⟩
 obtain⟨-,h1⟩:=h x y hF ⟨W,W,fun _=>False,fun k o=>∃ v,W.cell? ⟨k,o,none⟩=some v,Below.refl _ _,fun _ h=>h.elim,fun k o h=>ZqV h.choose_spec⟩ rfl ρ W S (fun b nm hb=>(hρ b nm hb).1) ok;refine h1.mono ?_
 rintro e w' ⟨a,ρ',rfl,rfl,-,S',-⟩
 exact⟨by rw[hr],S'.below.all fun _ h=>h⟩
end Go.Vx
namespace Go.Vx
open Go Go.RowKit
variable {H:Type} {enc:TypeId×Value→H} {P:Program}
mutual
def DpTy(P:Program):{α:Type}→Pt α→TypeId→Prop
 |_,.int k,t=>P.underlying t=some (.int k)
 |_,.ints k n,t=>∃ e,P.underlying t=some (.array n e)∧P.underlying e=some (.int k)∧P.cellsOf e=1∧P.cellsOf t=n
 |_,.dvw _ te d,t=>P.underlying t=some (.slice te)∧d.fit P te=true∧(Dc.row d te).pos P=true∧P.cellsOf t=1
 |_,.agg e,t=>(∃ fs,P.underlying t=some (.struct fs)∧DgTy P e (fs.toList.map fun f=>(f.offset,f.type)) 0 (P.cellsOf t))∨
   ∃ n te,P.underlying t=some (.array n te)∧DgTy P e ((List.range n).map fun i=>(i*P.cellsOf te,te)) 0 (P.cellsOf t)
 |_,_,_=>False
def DgTy(P:Program):{α:Type}→Ag α→List (Nat×TypeId)→Nat→Nat→Prop
 |_,.nil,fl,o,s=>fl=[]∧o=s
 |_,.one p,fl,o,s=>∃ f,fl=[f]∧f.1=o∧DpTy P p f.2∧o+P.cellsOf f.2=s
 |_,.cons p r,fl,o,s=>∃ f fl',fl=f::fl'∧f.1=o∧DpTy P p f.2∧DgTy P r fl' (o+P.cellsOf f.2) s
end
mutual
def Pt.keys{α:Type}:Pt α→List Nat
 | .dvw b _ _=>[b]
 | .agg e=>e.keys
 |_=>[]
def Ag.keys{α:Type}:Ag α→List Nat
 | .nil=>[]
 | .one p=>p.keys
 | .cons p r=>p.keys++r.keys
end
mutual
def Pt.wt{α:Type}:Pt α→α→Nat
 | .dvw _ te d,x=>(Dc.row d te).wt x
 | .agg e,x=>e.wt x
 |_,_=>0
def Ag.wt{α:Type}:Ag α→α→Nat
 | .nil,_=>0
 | .one p,x=>p.wt x
 | .cons p r,x=>p.wt x.1+r.wt x.2
end
mutual
theorem DpTy.cells(β:Bulk H){W:World}{base:Nat}{held:Bool}{α:Type}:(p:Pt α)→(t:TypeId)→DpTy P p t→(fuel:Nat)→(cs:List Value)→(x:DataW H×List MemPlace)→DataW.trod enc P W base (fun _=>true) held fuel t cs=some x→
  ∃ (y:α) (ns:List (Nat×Nm)),ns.map (·.1)=p.keys∧(∀ a∈ns,isKof W a.2.K)∧(∀ ρ:Rho,(∀ a∈ns,ρ a.1=some a.2)→cs=Vx.cells P ρ (p.mk y)∧OK P ρ (p.mk y))∧p.wt y+1≤β.B x.1
 | .int k,t,h,fuel,cs,x,ht=>by
  simp only[DpTy] at h;obtain⟨n,rfl,h2,-⟩:=ZmZ h ht;exact⟨n,[],rfl,fun a h=>by simp at h,fun ρ _=>⟨by simp[Pt.mk,Vx.cells,den,Value.cells],by simpa only[Pt.mk,OK] using h2⟩,by simp only[Pt.wt,Nat.zero_add];exact β.pos _⟩
 | .ints k n,t,h,fuel,cs,x,ht=>by
  simp only[DpTy] at h;obtain⟨e,h1,h2,h3,h4⟩:=h;obtain⟨l,rfl,k1,k2⟩:=ZAs h1 h2 h3 h4 ht;exact⟨l,[],rfl,fun a h=>by simp at h,fun ρ _=>⟨by simp only[Pt.mk];rw[ZaZ],by simpa only[Pt.mk,OK] using ⟨k1,k2⟩⟩,by simp only[Pt.wt,Nat.zero_add];exact β.pos _⟩
 | .dvw b te d,t,h,fuel,cs,x,ht=>by
  simp only[DpTy] at h;obtain⟨hu,hf,hp,hc1⟩:=h;simp only[Dc.pos,bA,Nat.blt_eq] at hp;obtain⟨a,c,l,rfl,h2,h3⟩:=ZE9 β (Dc.trodB β d hp.2).1 hu hf hp.1 ht;have key:∃ nm:Nm,isKof W nm.K∧nm.K.fz=l.length∧nm.ty=te∧nmL nm=(a,c):=by
   rcases Nat.eq_zero_or_pos c with hc|hc
   ·subst hc;have hl0:l.length=0:=by have:=h2.2.1;simp only at this;omega
    exact⟨⟨0,0,0,te,true,0,true,Kof W l.length a⟩,⟨_,_,rfl⟩,rfl,rfl,rfl⟩
   ·rcases a with _|⟨ab,ao,asp⟩
    ·have:=h2.1.1 rfl;simp only at this;omega
    ·obtain rfl:asp=none:=(h2.1.2 _ rfl hc).1;exact⟨⟨ab,ao,l.length,te,true,c,false,Kof W l.length⟩,⟨_,_,rfl⟩,rfl,rfl,rfl⟩
  obtain⟨nm,hK,hz,hy,hL⟩:=key;refine⟨l,[(b,nm)],rfl,fun a h=>by simp only[List.mem_singleton] at h;subst h;exact hK,fun ρ hρ=>?_,?_⟩
  ·have hb:ρ b=some nm:=hρ (b,nm) (by simp);obtain⟨m,na,hk⟩:=hK;refine⟨?_,?_⟩
   ·simp only[Pt.mk,Vx.cells,den,hb];simp[dvV,dloc,hL,Value.cells]
   ·simp only[Pt.mk,OK];refine⟨nm,nmL nm,hb,rfl,hf,?_⟩;rw[hL,hk];exact⟨repK h2,fun _=>⟨by rw[← hk,hz],hy⟩⟩
  ·simp only[Pt.wt,Dc.wt];exact h3
 | .agg e,t,h,fuel,cs,x,ht=>by
  simp only[DpTy] at h;rcases h with⟨fs,h1,h2⟩|⟨n,te,h1,h2⟩
  ·obtain⟨xs,m,-,hx,hl,hxl,hat⟩:=DataW.trod_struct h1 ht;obtain⟨y,ns,k0,k1,k2,k3⟩:=DgTy.cells β (W:=W) (base:=base) (held:=held) e _ 0 _ h2 m cs xs hl (by rw[hxl];simp) (fun i f hf=>by
    rw[List.getElem?_map] at hf;obtain⟨g,hg,rfl⟩:=Option.map_eq_some_iff.1 hf;exact hat i g (by simpa using hg))
   refine⟨y,ns,by simpa only[Pt.keys] using k0,k1,fun ρ hρ=>?_,?_⟩
   ·obtain⟨j1,j2⟩:=k2 ρ hρ;exact⟨by simp only[Pt.mk];rw[Zcs,← j1,List.drop_zero],by simpa only[Pt.mk,OK] using j2⟩
   ·rw[hx];have:=β.agg (xs.map (·.1));simp only[Pt.wt];omega
  ·obtain⟨xs,m,-,hx,hl,hxl,hat⟩:=DataW.trod_array h1 ht;obtain⟨y,ns,k0,k1,k2,k3⟩:=DgTy.cells β (W:=W) (base:=base) (held:=held) e _ 0 _ h2 m cs xs hl (by rw[hxl];simp) (fun i f hf=>by
    rw[List.getElem?_map] at hf;obtain⟨g,hg,rfl⟩:=Option.map_eq_some_iff.1 hf;obtain⟨hi,hg⟩:=List.getElem?_eq_some_iff.1 hg;rw[List.getElem_range] at hg;subst hg;exact hat i (by simpa using hi))
   refine⟨y,ns,by simpa only[Pt.keys] using k0,k1,fun ρ hρ=>?_,?_⟩
   ·obtain⟨j1,j2⟩:=k2 ρ hρ;exact⟨by simp only[Pt.mk];rw[Zcs,← j1,List.drop_zero],by simpa only[Pt.mk,OK] using j2⟩
   ·rw[hx];have:=β.agg (xs.map (·.1));simp only[Pt.wt];omega
 | .bool,_,h,_,_,_,_=>by simp[DpTy] at h
 | .lst _,_,h,_,_,_,_=>by simp[DpTy] at h
 | .vec _,_,h,_,_,_,_=>by simp[DpTy] at h
 | .slw _ _,_,h,_,_,_,_=>by simp[DpTy] at h
 | .gsw _ _,_,h,_,_,_,_=>by simp[DpTy] at h
 | .gpw _ _,_,h,_,_,_,_=>by simp[DpTy] at h
 | .lit _,_,h,_,_,_,_=>by simp[DpTy] at h
 | .str,_,h,_,_,_,_=>by simp[DpTy] at h
 | .itr,_,h,_,_,_,_=>by simp[DpTy] at h
 | .tup _,_,h,_,_,_,_=>by simp[DpTy] at h
theorem DgTy.cells(β:Bulk H){W:World}{base:Nat}{held:Bool}{α:Type}:(e:Ag α)→(fl:List (Nat×TypeId))→(o s:Nat)→DgTy P e fl o s→(m:Nat)→(cs:List Value)→(xs:List (DataW H×List MemPlace))→cs.length=s→xs.length=fl.length→
  (∀ (i:Nat) (f:Nat×TypeId),fl[i]? =some f→DataW.trod enc P W base (fun _=>true) held m f.2 ((cs.drop f.1).take (P.cellsOf f.2))=xs[i]?)→
  ∃ (y:α) (ns:List (Nat×Nm)),ns.map (·.1)=e.keys∧(∀ a∈ns,isKof W a.2.K)∧(∀ ρ:Rho,(∀ a∈ns,ρ a.1=some a.2)→cs.drop o=denC P ρ (e.mk y)∧OKL P ρ (e.mk y))∧e.wt y≤β.A (xs.map (·.1))
 | .nil,fl,o,s,h,m,cs,xs,hl,hx,hat=>by
  simp only[DgTy] at h;obtain⟨rfl,rfl⟩:=h;exact⟨(),[],rfl,fun a h=>by simp at h,fun ρ _=>⟨by simp[Ag.mk,denC,← hl],by simp[Ag.mk,OKL]⟩,Nat.zero_le _⟩
 | .one p,fl,o,s,h,m,cs,xs,hl,hx,hat=>by
  simp only[DgTy] at h;obtain⟨f,rfl,rfl,h1,h2⟩:=h;have h0:=hat 0 f rfl
  match xs,hx with
  | [x0],_=>
   obtain⟨y,ns,k0,k1,k2,k3⟩:=DpTy.cells β p f.2 h1 m _ x0 h0;refine⟨y,ns,by simpa only[Ag.keys] using k0,k1,fun ρ hρ=>?_,?_⟩
   ·obtain⟨j1,j2⟩:=k2 ρ hρ;refine⟨?_,by simp only[Ag.mk,OKL];exact⟨j2,trivial⟩⟩;rw[List.take_of_length_le (by rw[List.length_drop];omega)] at j1;rw[j1];simp[Ag.mk,denC,Vx.cells]
   ·have:=β.cons x0.1 [];simp only[Ag.wt,List.map_cons,List.map_nil];omega
 | .cons p r,fl,o,s,h,m,cs,xs,hl,hx,hat=>by
  simp only[DgTy] at h;obtain⟨f,fl',rfl,rfl,h1,h2⟩:=h;have h0:=hat 0 f rfl
  match xs,hx with
  |x0::xs',hx=>
   obtain⟨y,ns,k0,k1,k2,k3⟩:=DpTy.cells β p f.2 h1 m _ x0 h0;obtain⟨z,ms,j0,j1,j2,j3⟩:=DgTy.cells β (W:=W) (base:=base) (held:=held) r fl' _ s h2 m cs xs' hl (by simpa using hx) (fun i g hg=>by
    have:=hat (i+1) g (by simpa using hg);simpa using this)
   refine⟨(y,z),ns++ms,by simp only[List.map_append,k0,j0,Ag.keys],fun a ha=>?_,fun ρ hρ=>?_,?_⟩
   ·rcases List.mem_append.1 ha with h|h
    ·exact k1 a h
    ·exact j1 a h
   ·obtain⟨i1,i2⟩:=k2 ρ fun a ha=>hρ a (List.mem_append_left _ ha)
    obtain⟨i3,i4⟩:=j2 ρ fun a ha=>hρ a (List.mem_append_right _ ha)
    refine⟨?_,by simp only[Ag.mk,OKL];exact⟨i2,i4⟩⟩;have:cs.drop f.1=(cs.drop f.1).take (P.cellsOf f.2)++(cs.drop f.1).drop (P.cellsOf f.2):=(List.take_append_drop _ _).symm;rw[this,i1,List.drop_drop,i3];simp[Ag.mk,denC,Vx.cells]
   ·have:=β.cons x0.1 (xs'.map (·.1));simp only[Ag.wt,List.map_cons];omega
end
def rhoOf:List (Nat×Nm)→Rho
 | [],_=>none
 |x::l,b=>if x.1=b then some x.2 else rhoOf l b
theorem Zzq:(l:List (Nat×Nm))→{b:Nat}→{nm:Nm}→rhoOf l b=some nm→(b,nm)∈l
 | [],b,nm,h=>by simp[rhoOf] at h
 |x::l,b,nm,h=>by
  simp only[rhoOf] at h;split at h
  ·rename_i e;obtain rfl:=oI h;subst e;exact List.mem_cons_self
  ·exact List.mem_cons_of_mem _ (Zzq l h)
theorem Zzp:(l:List (Nat×Nm))→(l.map (·.1)).Nodup→∀ a∈l,rhoOf l a.1=some a.2
 | [],_,a,h=>by simp at h
 |x::l,hn,a,h=>by
  simp only[List.map_cons,List.nodup_cons] at hn;simp only[rhoOf];rcases List.mem_cons.1 h with rfl|h
  ·rw[if_pos rfl]
  ·have:x.1≠a.1:=fun e=>hn.1 (e▸List.mem_map_of_mem h)
   rw[if_neg this];exact Zzp l hn.2 a h
def plainV:Value→Bool
 | .agg _=>false
 |_=>true
theorem ZAu{v:Value}(h:plainV v=true):v.cells.toList=[v]:=by
 cases v<;>simp[plainV] at h<;>rfl
theorem ZFN(β:Bulk H){W:World}{r:Reach}{b:Nat}{t:TypeId}{α:Type}{p:Pt α}{v:Value}{d:DataW H}{ps:List MemPlace}(ht:DpTy P p t)(hval:Value.okWide P W r b t v)(h:DataW.Trod enc P W 0 (fun _=>true) true t v d ps):
  ∃ (y:α) (ns:List (Nat×Nm)),ns.map (·.1)=p.keys∧(∀ a∈ns,isKof W a.2.K)∧(∀ ρ:Rho,(∀ a∈ns,ρ a.1=some a.2)→v=den P ρ (p.mk y)∧OK P ρ (p.mk y))∧p.wt y+1≤β.B d:=by
 obtain⟨fuel,hf⟩:=h;obtain⟨y,ns,k0,k1,k2,k3⟩:=DpTy.cells β p t ht fuel _ _ hf;refine⟨y,ns,k0,k1,fun ρ hρ=>?_,k3⟩;obtain⟨j1,j2⟩:=k2 ρ hρ;refine⟨?_,j2⟩;have sh:(∃ cs,v= .agg cs∧∃ cs',den P ρ (p.mk y)= .agg cs')∨(plainV v=true∧plainV (den P ρ (p.mk y))=true):=by
  cases p with
  |int k=>
   simp only[DpTy] at ht;obtain⟨l,h1⟩:=WideShapes.okWide_int ht hval;subst h1;exact .inr ⟨rfl,rfl⟩
  |dvw b te d=>
   simp only[DpTy] at ht;obtain⟨a0,len0,cap0,rfl⟩:=WideShapes.okWide_slice ht.1 hval;refine .inr ⟨rfl,?_⟩;simp only[Pt.mk,den];split
   ·rename_i nm _;simp only[dvV];cases dloc nm.K (nmL nm) []<;>rfl
   ·rfl
  |ints k n=>
   simp only[DpTy] at ht;obtain⟨e,h1,-⟩:=ht;unfold Value.okWide at hval;rw[h1] at hval;obtain⟨cs,rfl,-⟩:=hval;exact .inl ⟨cs,rfl,_,rfl⟩
  |agg e=>
   simp only[DpTy] at ht;rcases ht with⟨fs,h1,-⟩|⟨n,te,h1,-⟩
   ·unfold Value.okWide at hval;rw[h1] at hval;obtain⟨cs,rfl,-⟩:=hval;exact .inl ⟨cs,rfl,_,rfl⟩
   ·unfold Value.okWide at hval;rw[h1] at hval;obtain⟨cs,rfl,-⟩:=hval;exact .inl ⟨cs,rfl,_,rfl⟩
  |_=>simp[DpTy] at ht
 simp only[Vx.cells] at j1;rcases sh with⟨cs,rfl,cs',h2⟩|⟨h1,h2⟩
 ·rw[h2] at j1 ⊢;simp only[Value.cells] at j1;rw[Array.toList_inj.1 j1]
 ·rw[ZAu h1,ZAu h2] at j1;simpa using j1
theorem ZIR{K:Fz}{c:Tc}{te:TypeId}{l:Option Addr×Nat}{x:List c.T}(h:RepR P K (.tc c) te l x):∀ y∈x,c.ok y:=by
 intro y hy;obtain⟨i,hi,rfl⟩:=List.getElem_of_mem hy;obtain⟨b,o,-,k⟩:=h.2.2.2 i _ (List.getElem?_eq_getElem hi);exact k.1
end Go.Vx
