import Derived.Test.YtoionfdfofmplaaGreatDoorVxO4
import Derived.LoopN
import Derived.Scope
set_option autoImplicit false
set_option linter.unusedVariables false
set_option linter.unusedSimpArgs false
namespace Go.Vx
open Go Go.RowKit
def toExit:Ex→Exit
 | .normal=>.normal
 | .exit id=>.exit id
 | .ret=>.ret
 | .goto l=>.goto l
section
variable {P:Program} {a:Act} {w:World} {Q:Exit→Act→World→Prop}
theorem ZBz{c:Code}(h:c.wp P (fun e a w=>match e with
  | .goto l=>∃ rest,findLabel c l=some rest∧rest.wp P (Exit.noGoto Q) a w
  |e=>Q e a w) a w):(Code.scope c).wp P Q a w:=by
 intro b k cs;obtain⟨e,a₁,w₁,hq,harr⟩:=h b (.inScope c::k) cs;cases e with
 |normal=>exact⟨.normal,a₁,w₁,hq,.head step_scope (Steps.trans harr (.one step_inScope))⟩
 |exit id=>exact⟨.exit id,a₁,w₁,hq,fun k' hk=>.head step_scope (harr k' (by simp[exitTo,hk]))⟩
 |goto l=>
  obtain⟨rest,hf,hr⟩:=hq;have h1:=harr (.code rest:: .inScope c::k) (by simp[gotoIn,hf]);obtain⟨e,a₂,w₂,hq,harr2⟩:=hr b (.inScope c::k) cs;cases e with
  |normal=>exact⟨.normal,a₂,w₂,hq,.head step_scope (h1.trans (Steps.trans harr2 (.one step_inScope)))⟩
  |exit id=>exact⟨.exit id,a₂,w₂,hq,fun k' hk=>.head step_scope (h1.trans (harr2 k' (by simp[exitTo,hk])))⟩
  |goto l=>exact hq.elim
  |ret=>exact⟨_,a₂,w₂,hq,.of_steps (.one step_scope) (.of_steps h1 harr2)⟩
  |panic ch=>exact⟨_,a₂,w₂,hq,.of_steps (.one step_scope) (.of_steps h1 harr2)⟩
  |outgrown=>exact⟨.outgrown,a₂,w₂,hq,Arrives.of_steps (b:=b) (k:=k) (cs:=cs) (e:=.outgrown) (a:=a₂) (w:=w₂) (.one step_scope) (Arrives.of_steps (b:=b) (k:=k) (cs:=cs) (e:=.outgrown) (a:=a₂) (w:=w₂) h1 harr2)⟩
 |ret=>exact⟨_,a₁,w₁,hq,.of_steps (.one step_scope) harr⟩
 |panic ch=>exact⟨_,a₁,w₁,hq,.of_steps (.one step_scope) harr⟩
 |outgrown=>exact⟨.outgrown,a₁,w₁,hq,Arrives.of_steps (b:=b) (k:=k) (cs:=cs) (e:=.outgrown) (a:=a₁) (w:=w₁) (.one step_scope) harr⟩
end
structure In (P:Program) (cx:Cx) (w0:Base) (ρ:Rho) (st:St) (a:Act) (w:World):Prop where
 sim:Sim P w0 cx.ro ρ st.tm st.mem a.tmps w
 fresh:∀ b,st.nx≤b→ρ b=none
 nt:a.tmps.size=cx.nt
 gl:GL P ρ cx.gl
 df:a.defers=[]
def Post(P:Program)(cx:Cx)(w0:Base)(e:Ex)(st:St):Exit→Act→World→Prop:=fun ex a w=>toExit e=ex∧∃ ρ,In P cx w0 ρ st a w
def PostX(P:Program)(cx:Cx)(w0:Base)(X:Rho→Prop)(e:Ex)(st:St):Exit→Act→World→Prop:=fun ex a w=>toExit e=ex∧∃ ρ,X ρ∧In P cx w0 ρ st a w
def Kp(K:List Nat)(ρk ρ:Rho):Prop:=∀ b∈K,∀ nm,ρk b=some nm→ρ b=some nm
theorem Kp.ext{K:List Nat}{ρk ρ ρ':Rho}(h:Kp K ρk ρ)(e:Ext ρ ρ'):Kp K ρk ρ':=fun b hb nm hn=>e b nm (h b hb nm hn)
theorem Kp.same{K:List Nat}{ρk ρ ρ':Rho}(h:Kp K ρk ρ)(e:∀ b∈K,ρ' b=ρ b):Kp K ρk ρ':=fun b hb nm hn=>(e b hb).trans (h b hb nm hn)
def LoopOKX(P:Program)(cx:Cx)(w0:Base)(X:Rho→Prop)(id:Nat)(body:Code)(L:Lf):Prop:=
 ∀ st e st',(L st).run none some=some (e,st')→∀ ρ a w,X ρ→In P cx w0 ρ st a w→(Code.block id body).wp P (PostX P cx w0 X e st') a w
abbrev LoopOK(P:Program)(cx:Cx)(w0:Base)(id:Nat)(body:Code)(L:Lf):Prop:=LoopOKX P cx w0 (fun _=>True) id body L
def LoopsOKX(P:Program)(cx:Cx)(w0:Base)(X:Rho→Prop)(Λ:Nat→Option Lf):Code→Prop
 | .seq a b=>LoopsOKX P cx w0 X Λ a∧LoopsOKX P cx w0 X Λ b
 | .cond _ a b=>LoopsOKX P cx w0 X Λ a∧LoopsOKX P cx w0 X Λ b
 | .block id body=>match Λ id with
  |some L=>LoopOKX P cx w0 X id body L
  |none=>LoopsOKX P cx w0 X Λ body
 | .loop body=>LoopsOKX P cx w0 X Λ body
 | .scope body=>LoopsOKX P cx w0 X Λ body
 |_=>True
abbrev LoopsOK(P:Program)(cx:Cx)(w0:Base)(Λ:Nat→Option Lf)(c:Code):Prop:=LoopsOKX P cx w0 (fun _=>True) Λ c
theorem ZiE{P:Program}{cx:Cx}{w:Base}{X:Rho→Prop}:(c:Code)→LoopsOKX P cx w X (fun _=>none) c
 | .seq a b=>⟨ZiE a,ZiE b⟩
 | .cond _ a b=>⟨ZiE a,ZiE b⟩
 | .block _ b=>by simp only[LoopsOKX];exact ZiE b
 | .loop b=>by simp only[LoopsOKX];exact ZiE b
 | .scope b=>by simp only[LoopsOKX];exact ZiE b
 | .skip=>trivial
 | .region _ _ _=>trivial
 | .rangeFunc _ _ _ _=>trivial
 | .exit _=>trivial
 | .label _=>trivial
 | .goto _=>trivial
 | .ret=>trivial
 | .refuse _=>trivial
def InlOK(P:Program)(cx:Cx)(w0:Base)(g:FuncId)(I:Inl):Prop:=
 ∀ (vs:List AV) (mem:List (Nat×AV)) (nx:Nat) (v:AV) (mem':List (Nat×AV)) (nx':Nat),I.run none vs mem nx (fun v m n=>some (v,m,n))=some (v,mem',nx')→
  ∀ ρ w,Sim P w0 cx.ro ρ [] mem #[] w→GL P ρ cx.gl→(∀ b,nx≤b→ρ b=none)→OKL P ρ vs→
   (callFunc g (denT P ρ vs).toArray).run P w= .ok (.enter g (denT P ρ vs).toArray) w∧
   Calls P g (denT P ρ vs).toArray w fun e w'=>∃ a ρ',e= .returned a∧a=den P ρ' v∧OK P ρ' v∧Sim P w0 cx.ro ρ' [] mem' #[] w'∧Ext ρ ρ'∧(∀ b,nx'≤b→ρ' b=none)
theorem ZFX{P:Program}{t:TypeId}{name:String}{f:FuncId}(h:methF P t name=some f)(n:Nat)(v:Value)(w:World):(method (n+1) t v name).run P w= .ok (f,v) w:=by
 unfold methF at h;split at h
 ·rename_i fs hu;split at h
  ·rename_i i hi;split at h
   ·rename_i m hm;split at h
    ·rename_i hp hf;obtain rfl:=oI h;unfold method;simp[typeInfo,hi,hm,hp,hf,follow,receiverAt,run_underlying hu,Place.get]
    ·cases h
   ·cases h
  ·cases h
 ·cases h
theorem ZFY{P:Program}{cx:Cx}{w0:Base}{o:Oper}{st:St}{I:Inl}{vs:List AV}(h:inlAt P cx o st=some (I,vs)){ρ:Rho}{a:Act}{w:World}(S:Sim P w0 cx.ro ρ st.tm st.mem a.tmps w)(hgl:GL P ρ cx.gl):
  ∃ g,cx.inl g=some I∧OKL P ρ vs∧((callFunc g (denT P ρ vs).toArray).run P w= .ok (.enter g (denT P ρ vs).toArray) w→(execOp a.eval o).run P w= .ok (.enter g (denT P ρ vs).toArray) w):=by
 unfold inlAt at h;split at h
 case h_2=>cases h
 rename_i c ho;split at h
 ·rename_i fo hcal;split at h
  case h_2=>cases h
  rename_i g caps hf;split at h
  case h_2=>cases h
  rename_i I' hI;split at h
  case h_2=>cases h
  rename_i vs0 hvs;simp only[oE,pE] at h;obtain⟨rfl,rfl⟩:=h;obtain⟨h1,hoc⟩:=Zay S hgl hf;simp only[den] at h1;simp only[OK] at hoc;obtain⟨h2,h30⟩:=ZeB S hgl hvs;have hap:∀ l:List AV,OKL P ρ l→denT P ρ (l++caps)=denT P ρ l++denT P ρ caps∧OKL P ρ (l++caps):=by
   intro l
   induction l with
   |nil=>intro _;exact⟨rfl,hoc⟩
   |cons x l ih=>
    intro h;obtain⟨e1,e2⟩:=ih h.2;exact⟨by simp only[List.cons_append,denT];rw[e1],⟨h.1,e2⟩⟩
  obtain⟨hap1,h3⟩:=hap vs0 h30;have hargs:c.args.map a.eval=(denT P ρ vs0).toArray:=by
   rw[← Array.toArray_toList (xs:=c.args.map a.eval),Array.toList_map,h2]
  have hall:(denT P ρ vs0).toArray++(denT P ρ caps).toArray=(denT P ρ (vs0++caps)).toArray:=by rw[hap1,List.append_toArray]
  refine⟨g,hI,h3,fun hcf=>?_⟩;simp only[execOp,ho,resolve,hcal,h1,Deferred.ofValue,invoke,hargs,Sem.run_bind,Sem.run_pure,Result.andThen_ok];simp[hall,hcf]
 ·rename_i x name hcal;split at h
  case h_2=>cases h
  rename_i t v hx;split at h
  case h_2=>cases h
  rename_i g hm;split at h
  case h_2=>cases h
  rename_i I' hI;split at h
  case h_2=>cases h
  rename_i vs0 hvs;simp only[oE,pE] at h;obtain⟨rfl,rfl⟩:=h;obtain⟨h1,hoc⟩:=Zay S hgl hx;simp only[den] at h1;simp only[OK] at hoc;obtain⟨h2,h3⟩:=ZeB S hgl hvs;have hargs:c.args.map a.eval=(denT P ρ vs0).toArray:=by
   rw[← Array.toArray_toList (xs:=c.args.map a.eval),Array.toList_map,h2]
  refine⟨g,hI,⟨hoc,h3⟩,fun hcf=>?_⟩;have hmr:=ZFX hm (P.types.size+99) (den P ρ v) w;have hM:P.types.size+99+1=P.types.size+Made.depth:=rfl;rw[hM] at hmr;simp only[denT] at hcf ⊢;simp[execOp,ho,resolve,hcal,h1,invoke,hargs,callMethod,run_program,hmr,hcf]
 ·cases h
theorem ZIT{P:Program}{cx:Cx}{w0:Base}(hI:∀ g I,cx.inl g=some I→InlOK P cx w0 g I){all:Array Oper}{Q:Exit→Act→World→Prop}{i:Nat}{o:Oper}(hi:all[i]? =some o)
  {ρ:Rho} {st:St} {a:Act} {w:World} (hnt:a.tmps.size=cx.nt) (S:Sim P w0 cx.ro ρ st.tm st.mem a.tmps w) (hgl:GL P ρ cx.gl) {nx:Nat} (hfr:∀ b,nx≤b→ρ b=none)
  {I:Inl} {vs:List AV} (hat:inlAt P cx o st=some (I,vs)) (hd:dOK cx.nt o.dst=true) (hw:Region.wanted o (yielded all a.tmps)=true) {v:AV} {mem':List (Nat×AV)} {nx':Nat} (hr:I.run none vs st.mem nx (fun v m n=>some (v,m,n))=some (v,mem',nx')) {K:Act→World→Prop}
  (hK:∀ ρ' a' w',Sim P w0 cx.ro ρ' (st.put o.dst v).tm mem' a'.tmps w'→a'.defers=a.defers→a'.tmps.size=cx.nt→Ext ρ ρ'→(∀ b,nx'≤b→ρ' b=none)→K a' w'):wpOp P all Q i K a w:=by
 obtain⟨g,hg,h3,hexec⟩:=ZFY hat S hgl;have hd':=ZEl hd;rw[← hnt] at hd';have S0:Sim P w0 cx.ro ρ [] st.mem #[] w:=⟨fun d v h=>by simp[lk] at h,S.cell,S.own,S.apart,S.rows,S.below,S.ex⟩;obtain⟨hcf,hcalls⟩:=hI g I hg vs st.mem nx v mem' nx' hr ρ w S0 hgl hfr h3;have hrun:=hexec hcf;unfold wpOp;rw[hi];simp only[hw,if_true];left;unfold Oper.wp;rw[hrun,Oper.upon_enter];refine hcalls.mono ?_
 rintro e' w' ⟨a',ρ',rfl,rfl,hv,S',hE,hfr'⟩
 refine hK ρ' _ w' ⟨?_,S'.cell,S'.own,S'.apart,S'.rows,S'.below,S'.ex⟩ (Zr1 _ _ _) (by rw[Zui,hnt]) hE hfr';rw[ZsV];exact Zms S.slot hE hd' rfl hv
theorem ZCv{P:Program}{cx:Cx}{acc:Nat→Nat→Bool}{all:Array Oper}:(l:List (Nat×Oper))→{st s:St}→runOps P cx acc all none l st some=some s→s.nx=st.nx
 | [],st,s,h=>by simp only[runOps,oE] at h;rw[h]
 |(i,o)::l,st,s,h=>by
  rw[Zit] at h;obtain⟨s1,h1,h2⟩:=Option.bind_eq_some_iff.1 h;rw[ZCv l h2,ZzF h1]
theorem Sim.drew{P:Program}{w0:Base}{ro:Nat}{ρ:Rho}{tm mem:List (Nat×AV)}{tmps:Array Value}{w:World}(S:Sim P w0 ro ρ tm mem tmps w):Sim P w0 ro ρ tm mem tmps {w with drawn:=w.drawn+1}:=
 ⟨S.slot,S.cell,S.own,S.apart,S.rows,⟨S.below.os,S.below.tape,S.below.output,S.below.size,S.below.block,S.below.froz⟩,S.ex.cast rfl⟩
theorem w_op{P:Program}{cx:Cx}{w0:Base}{all:Array Oper}{Q:Exit→Act→World→Prop}{i:Nat}{o:Oper}(hi:all[i]? =some o)
  {ρ:Rho} {st:St} {a:Act} {w:World} (hnt:a.tmps.size=cx.nt) (S:Sim P w0 cx.ro ρ st.tm st.mem a.tmps w) (hgl:GL P ρ cx.gl) {nx:Nat} (hfr:∀ b,nx≤b→ρ b=none)
  {I:Inl} (hW:OpW P cx w0 o st I) (hd:dOK cx.nt o.dst=true) (hw:Region.wanted o (yielded all a.tmps)=true) {v:AV} {mem':List (Nat×AV)} {nx':Nat} (hr:I.run none [] st.mem nx (fun v m n=>some (v,m,n))=some (v,mem',nx')) {K:Act→World→Prop}
  (hK:∀ ρ' a' w',Sim P w0 cx.ro ρ' (st.put o.dst v).tm mem' a'.tmps w'→a'.defers=a.defers→a'.tmps.size=cx.nt→Ext ρ ρ'→(∀ b,nx'≤b→ρ' b=none)→K a' w'):wpOp P all Q i K a w:=by
 have hd':=ZEl hd;rw[← hnt] at hd';obtain⟨w',ρ',hrun,hv,S',hE,hfr'⟩:=hW nx v mem' nx' hr ρ a w S hgl hfr;unfold wpOp;rw[hi];simp only[hw,if_true];left;refine Zo7 hrun ?_;refine hK ρ' _ w' ⟨?_,S'.cell,S'.own,S'.apart,S'.rows,S'.below,S'.ex⟩ (Zr1 _ _ _) (by rw[Zui,hnt]) hE hfr';rw[ZsV];exact Zms S.slot hE hd' rfl hv
theorem Zsu{P:Program}{cx:Cx}{w0:Base}{all:Array Oper}{Q:Exit→Act→World→Prop}{i:Nat}{o:Oper}(hi:all[i]? =some o)
  {ρ:Rho} {st s:St} {a:Act} {w:World} (hnt:a.tmps.size=cx.nt) (S:Sim P w0 cx.ro ρ st.tm st.mem a.tmps w) (hgl:GL P ρ cx.gl) (hfr:∀ b,st.nx+all.size≤b→ρ b=none)
  {I:Inl} {vs:List AV} (hact:∀ {v:AV} {mem':List (Nat×AV)} {nx':Nat},Region.wanted o (yielded all a.tmps)=true→I.run none vs st.mem (st.nx+all.size) (fun v m n=>some (v,m,n))=some (v,mem',nx')→∀ {K:Act→World→Prop},(∀ ρ' a' w',Sim P w0 cx.ro ρ' (st.put o.dst v).tm mem' a'.tmps w'→a'.defers=a.defers→a'.tmps.size=cx.nt→Ext ρ ρ'→(∀ b,nx'≤b→ρ' b=none)→K a' w')→wpOp P all Q i K a w)
  (hd:dOK cx.nt o.dst=true) (h:stepI all none o I vs st some=some s) {K:Act→World→Prop}
  (hK:∀ ρ' a' w',Sim P w0 cx.ro ρ' s.tm s.mem a'.tmps w'→a'.defers=a.defers→a'.tmps.size=cx.nt→Ext ρ ρ'→(∀ b,s.nx+all.size≤b→ρ' b=none)→(∀ k,ρ (st.nx+k)=none→ρ' (s.nx+k)=none)→K a' w'):wpOp P all Q i K a w:=by
 have gslot:∀ {d:Nat} {v:AV},lk d st.tm=some v→a.tmps[d]? =some (den P ρ v):=by
  intro d v hv;obtain⟨h1,h2,-⟩:=S.slot d v hv;rw[← h2,Array.getD_eq_getD_getElem?,Array.getElem?_eq_getElem h1];rfl
 have act:∀ (st':St),Alike st st'→Region.wanted o (yielded all a.tmps)=true→(I.run none vs st.mem (st.nx+all.size) fun v mem nx=>some ({st'.put o.dst v with mem:=mem,nx:=nx}:St))=some s→wpOp P all Q i K a w:=by
  intro st' ha hw hr;rw[I.par] at hr;obtain⟨⟨v,mem',nx'⟩,h1,h2⟩:=ZbW hr;simp only[oE] at h2;subst h2;refine hact hw h1 (fun ρ1 a1 w1 S1 hd1 hs1 he1 hf1=>?_);refine hK ρ1 a1 w1 ⟨fun d v hv=>S1.slot d v ?_,S1.cell,S1.own,S1.apart,S1.rows,S1.below,S1.ex⟩ hd1 hs1 he1 (fun b hb=>hf1 b (by simp only at hb;omega)) (fun k _=>hf1 _ (Nat.le_add_right _ _));rw[(ZmV ha o.dst _).tm d];exact hv
 have skip:∀ (st':St),Alike st st'→Region.wanted o (yielded all a.tmps)=false→st'.put o.dst (.tup [])=s→wpOp P all Q i K a w:=by
  intro st' ha hw hs;subst hs;have hd':=ZEl hd;rw[← hnt] at hd';unfold wpOp;rw[hi];simp only[hw,Bool.false_eq_true,if_false];refine hK ρ _ w (Sim.alike (s:=st.put o.dst (.tup [])) ?_ (ZmV ha _ _)) (Zr1 _ _ _) (by rw[Zui,hnt]) (Ext.refl ρ) (fun b hb=>hfr b (by rw[ZsW,← ha.nx] at hb;exact hb)) (fun k hk=>by rw[ZsW,← ha.nx];exact hk);refine⟨?_,?_,?_,?_,?_,S.below,by rw[Zea];exact S.ex⟩
  ·rw[ZsV];exact Zms S.slot (Ext.refl ρ) hd' (by simp[den,denT,undef]) (by simp[OK,OKL])
  ·rw[Zea];exact S.cell
  ·rw[Zea];exact S.own
  ·rw[Zea];exact S.apart
  ·rw[Zea];exact S.rows
 unfold stepI at h;split at h
 ·rename_i hg;exact act st (Alike.refl st) (by simp[Region.wanted,hg]) h
 ·rename_i j want hg;split at h
  ·simp at h
  ·rename_i d hj;have hj':(all[j]?.bind fun x=>x.dst)=some d:=hj;split at h
   ·rename_i b hb;split at h
    ·cases b
     ·rw[cond_false] at h;exact skip _ (Zdg hb) (by simp[Region.wanted,hg,yielded,hj',gslot hb,den]) (oI h)
     ·rw[cond_true] at h;exact act _ (Zdg hb) (by simp[Region.wanted,hg,yielded,hj',gslot hb,den]) h
    ·cases b
     ·rw[cond_false] at h;exact act _ (Zdg hb) (by simp[Region.wanted,hg,yielded,hj',gslot hb,den]) h
     ·rw[cond_true] at h;exact skip _ (Zdg hb) (by simp[Region.wanted,hg,yielded,hj',gslot hb,den]) (oI h)
   ·rename_i hb;exact skip _ (Alike.refl st) (by simp[Region.wanted,hg,yielded,hj',gslot hb,den,denT]) (oI h)
   ·simp at h
theorem Zuj{P:Program}{cx:Cx}{w0:Base}(hΓ:∀ g C,cx.Γ g=some C→SoundAt P w0.g g C)(hI:∀ g I,cx.inl g=some I→InlOK P cx w0 g I){all:Array Oper}{Q:Exit→Act→World→Prop}:
  (l:List (Nat×Oper))→(∀ p∈l,all[p.1]? =some p.2)→(l.map Prod.fst).Nodup→{ρ:Rho}→{st s:St}→{a:Act}→{w:World}→a.tmps.size=cx.nt→Sim P w0 cx.ro ρ st.tm st.mem a.tmps w→GL P ρ cx.gl→
  (∀ p∈l,ρ (st.nx+p.1)=none)→(∀ b,st.nx+all.size≤b→ρ b=none)→runI P cx all none l st some=some s→
  (∀ ρ' a' w',Sim P w0 cx.ro ρ' s.tm s.mem a'.tmps w'→a'.defers=a.defers→a'.tmps.size=cx.nt→Ext ρ ρ'→(∀ b,s.nx+all.size≤b→ρ' b=none)→Q .normal a' w')→
  wpOps P all Q (l.map Prod.fst) a w
 | [],_,_,ρ,st,s,a,w,hnt,S,_,_,hf,h,hK=>by
  simp only[runI,oE] at h;subst h;exact hK ρ a w S rfl hnt (Ext.refl ρ) hf
 |(i,o)::l,hl,hnd,ρ,st,s,a,w,hnt,S,hgl,hm,hf,h,hK=>by
  simp only[List.map_cons,List.nodup_cons] at hnd;rw[List.map_cons,wpOps_cons];have hio:all[i]? =some o:=hl (i,o) (by simp);have hisz:i<all.size:=by
   rcases Nat.lt_or_ge i all.size with h|h
   ·exact h
   ·simp[Array.getElem?_eq_none h] at hio
  unfold runI at h;split at h
  ·rename_i J vs hat;obtain⟨hd,h⟩:=Zac h;rw[Zlq] at h;obtain⟨s1,h1,h2⟩:=ZbW h;refine Zsu hio hnt S hgl hf (fun {_ _ _} hw hr {K} hK=>ZIT hI hio hnt S hgl hf hat hd hw hr hK) hd h1 (fun ρ1 a1 w1 S1 hd1 hs1 he1 hf1 hk1=>?_);refine Zuj hΓ hI l (fun p hp=>hl p (by simp[hp])) hnd.2 hs1 S1 (hgl.ext he1) (fun p hp=>hk1 _ (hm p (by simp[hp]))) (fun b hb=>hf1 b hb) h2 (fun ρ2 a2 w2 S2 hd2 hs2 he2 hf2=>?_);exact hK ρ2 a2 w2 S2 (hd2.trans hd1) hs2 (he1.trans he2) hf2
  split at h
  ·rename_i J hat;obtain⟨hd,h⟩:=Zac h;rw[Zlq] at h;obtain⟨s1,h1,h2⟩:=ZbW h;refine Zsu hio hnt S hgl hf (fun {_ _ _} hw hr {K} hK=>w_op hio hnt S hgl hf (ZIU hat) hd hw hr hK) hd h1 (fun ρ1 a1 w1 S1 hd1 hs1 he1 hf1 hk1=>?_);refine Zuj hΓ hI l (fun p hp=>hl p (by simp[hp])) hnd.2 hs1 S1 (hgl.ext he1) (fun p hp=>hk1 _ (hm p (by simp[hp]))) (fun b hb=>hf1 b hb) h2 (fun ρ2 a2 w2 S2 hd2 hs2 he2 hf2=>?_);exact hK ρ2 a2 w2 S2 (hd2.trans hd1) hs2 (he1.trans he2) hf2
  ·rw[Zeh] at h;obtain⟨s1,h1,h2⟩:=ZbW h;have hnx:s1.nx=st.nx:=ZzF h1;refine Zx6 hΓ hio hnt S hgl (hm (i,o) (by simp)) h1 (fun ρ1 a1 w1 S1 hd1 hs1 he1 hr1=>?_);refine Zuj hΓ hI l (fun p hp=>hl p (by simp[hp])) hnd.2 hs1 S1 (hgl.ext he1) (fun p hp=>?_) (fun b hb=>?_) h2 (fun ρ2 a2 w2 S2 hd2 hs2 he2 hf2=>?_)
   ·rw[hnx,hr1]
    ·exact hm p (by simp[hp])
    ·intro hh;have:p.1=i:=by omega
     exact hnd.1 (this▸List.mem_map_of_mem hp)
   ·rw[hr1 b (by rw[hnx] at hb;omega)];exact hf b (by rw[hnx] at hb;exact hb)
   ·exact hK ρ2 a2 w2 S2 (hd2.trans hd1) hs2 (he1.trans he2) hf2
theorem PostX.post{P:Program}{cx:Cx}{w0:Base}{X:Rho→Prop}{e:Ex}{st:St}{ex:Exit}{a:Act}{w:World}(h:PostX P cx w0 X e st ex a w):Post P cx w0 e st ex a w:=⟨h.1,h.2.choose,h.2.choose_spec.2⟩
theorem ZCw{P:Program}{cx:Cx}{w0:Base}(hΓ:∀ g C,cx.Γ g=some C→SoundAt P w0.g g C)(hI:∀ g I,cx.inl g=some I→InlOK P cx w0 g I){X:Rho→Prop}(hX:∀ ρ ρ',X ρ→Ext ρ ρ'→X ρ'){id:Nat}{ops:Array Oper}{st s:St}{ρ:Rho}{a:Act}{w:World}(x:X ρ)(I:In P cx w0 ρ st a w)
  (h:runI P cx ops none (numbered 0 ops.toList) st some=some s):(Code.region id ops false).wp P (PostX P cx w0 X .normal {s with nx:=s.nx+ops.size}) a w:=by
 refine wp_region ?_;have hl:(numbered 0 ops.toList).map Prod.fst=List.range ops.size:=by rw[Zf4];simp[List.range_eq_range']
 rw[← hl];refine Zuj hΓ hI _ (Ziu ops) (by rw[hl];exact List.nodup_range) I.nt I.sim I.gl (fun p _=>I.fresh _ (by omega)) (fun b hb=>I.fresh b (by omega)) h (fun ρ' a' w' S' hd hs he hr=>?_);exact⟨rfl,ρ',hX _ _ x he,S',hr,hs,I.gl.ext he,hd.trans I.df⟩
theorem ZCx{P:Program}{cx:Cx}{w0:Base}(hΓ:∀ g C,cx.Γ g=some C→SoundAt P w0.g g C)(hI:∀ g I,cx.inl g=some I→InlOK P cx w0 g I){ops:Array Oper}(hE:edgesOK (numbered 0 ops.toList)=true){os:List (Option Nat)}{nx:Nat}(hL:looseQA P ops os nx (masks ops.toList []) (numbered 0 ops.toList) []=true)
  {Q:Exit→Act→World→Prop} {s:St}:(fuel:Nat)→(listed:Array Bool)→listed.size=ops.size→
  (∀ i,listed.getD i false=true→∀ b,((masks ops.toList []).getD i 0).testBit b=true→listed.getD b false=true)→(todo ops listed).length=fuel→
  {ρ:Rho}→{st:St}→{a:Act}→{w:World}→nx≤st.nx→a.tmps.size=cx.nt→Sim P w0 cx.ro ρ st.tm st.mem a.tmps w→GL P ρ cx.gl→(∀ p∈todo ops listed,ρ (st.nx+p.1)=none)→(∀ b,st.nx+ops.size≤b→ρ b=none)→
  (∃ s',runD P cx os (masks ops.toList []) ops none (todo ops listed) st some=some s'∧Same s s')→
  (∀ ρ' a' w',Sim P w0 cx.ro ρ' s.tm s.mem a'.tmps w'→a'.defers=a.defers→a'.tmps.size=cx.nt→Ext ρ ρ'→(∀ b,s.nx+ops.size≤b→ρ' b=none)→Q .normal a' w')→
  wpAny P .any ops Q fuel listed a w
 |fuel,listed,hsz,hcl,hfu,ρ,st,a,w,hnx,hnt,S,hgl,hm,hf,⟨s',hrun,hal⟩,hK=>by
  have hsort:(todo ops listed).Pairwise fun a b=>a.1<b.1:=(Zo8 ops.toList 0).filter _
  have hmem:∀ p∈todo ops listed,ops[p.1]? =some p.2∧listed.getD p.1 true=false:=by
   intro p hp;obtain⟨h1,h2⟩:=List.mem_filter.1 hp;exact⟨Ziu ops p h1,by simpa using h2⟩
  cases fuel with
  |zero=>
   have hnil:todo ops listed=[]:=List.eq_nil_of_length_eq_zero hfu;rw[hnil] at hrun;simp only[runD,oE] at hrun;subst hrun;refine⟨?_,hK ρ a w (S.alike hal.symm.alike) rfl hnt (Ext.refl ρ) (fun b hb=>hf b (by have:=hal.nx;omega))⟩;unfold Region.ready;rw[List.filter_eq_nil_iff];intro i hi;have hlt:=List.mem_range.1 hi;have hnot:(i,ops[i]) ∉ todo ops listed:=by rw[hnil];simp
   have hin:(i,ops[i])∈numbered 0 ops.toList:=by
    have:(numbered 0 ops.toList).map Prod.fst=List.range' 0 ops.toList.length:=Zf4 _ _;have hmem':i∈(numbered 0 ops.toList).map Prod.fst:=by rw[this];simp[List.mem_range'];exact hlt
    obtain⟨p,hp,hpi⟩:=List.mem_map.1 hmem';have h2:=Ziu ops p hp;rw[hpi,Array.getElem?_eq_getElem hlt] at h2;have:p=(i,ops[i]):=by
     obtain⟨p1,p2⟩:=p;simp only at hpi h2;subst hpi;rw[oI h2]
    rw[← this];exact hp
   have:¬ (!listed.getD i true)=true:=fun hh=>hnot (List.mem_filter.2 ⟨hin,hh⟩)
   simp only[Bool.not_eq_true',Bool.not_eq_false] at this;rw[this];simp
  |succ fuel=>
   have hinn:∀ i,i<ops.size→(i,ops[i]?)=(i,ops[i]?):=fun _ _=>rfl
   have hin:∀ i (hlt:i<ops.size),(i,ops[i])∈numbered 0 ops.toList:=by
    intro i hlt;have:(numbered 0 ops.toList).map Prod.fst=List.range' 0 ops.toList.length:=Zf4 _ _;have hmem':i∈(numbered 0 ops.toList).map Prod.fst:=by rw[this];simp[List.mem_range'];exact hlt
    obtain⟨p,hp,hpi⟩:=List.mem_map.1 hmem';have h2:=Ziu ops p hp;rw[hpi,Array.getElem?_eq_getElem hlt] at h2;have:p=(i,ops[i]):=by
     obtain⟨p1,p2⟩:=p;simp only at hpi h2;subst hpi;rw[oI h2]
    rw[← this];exact hp
   have hget:∀ i,i<ops.size→listed.getD i true=listed.getD i false:=by
    intro i hi;simp[Array.getD_eq_getD_getElem?,Array.getElem?_eq_getElem (show i<listed.size by omega)]
   refine⟨fun hr=>?_,fun i hi=>?_⟩
   ·
    exfalso;cases ht:todo ops listed with
    |nil=>rw[ht] at hfu;simp at hfu
    |cons p rest=>
     have hp:p∈todo ops listed:=by rw[ht];simp
     obtain⟨h1,h2⟩:=hmem p hp;have hlt:p.1<ops.size:=by
      rcases Nat.lt_or_ge p.1 ops.size with h|h
      ·exact h
      ·simp[Array.getElem?_eq_none h] at h1
     have:p.1∈Region.ready .any ops listed:=by
      unfold Region.ready;refine List.mem_filter.2 ⟨List.mem_range.2 hlt,?_⟩;rw[h2,h1];simp only[Bool.not_false,Option.map_some,Option.getD_some,Bool.true_and];rw[Array.all_eq_true_iff_forall_mem];intro e he;cases hbn:Region.binds .any e
      ·rfl
      have hlow:=ZDC hE h1 e (by simpa using he) hbn;have hon:e.on<ops.size:=by omega
      have hls:listed.getD e.on true=true:=by
       cases hq:listed.getD e.on true
       ·exfalso;have hmem2:(e.on,ops[e.on])∈todo ops listed:=List.mem_filter.2 ⟨hin e.on hon,by simp[hq]⟩;rw[ht] at hmem2;rcases List.mem_cons.1 hmem2 with h|h
        ·rw[← h] at hlow;simp only at hlow;omega
        ·rw[ht] at hsort;have:=(List.pairwise_cons.1 hsort).1 _ h;simp only at this;omega
       ·rfl
      rw[← hget e.on hon,hls];simp
     rw[hr] at this;simp at this
   ·obtain⟨hi1,hi2⟩:=List.mem_filter.1 hi;have hlt:=List.mem_range.1 hi1;simp only[bA,Bool.not_eq_true'] at hi2;obtain⟨hnl,hrd⟩:=hi2;rw[Array.getElem?_eq_getElem hlt] at hrd;simp only[Option.map_some,Option.getD_some] at hrd;have hx:(i,ops[i])∈todo ops listed:=List.mem_filter.2 ⟨hin i hlt,by simp[hnl]⟩;obtain⟨A,B,hAB⟩:=List.append_of_mem hx
    
    have hpre:∀ b,((masks ops.toList []).getD i 0).testBit b=true→listed.getD b false=true:=by
     intro b hb;obtain⟨e,he,hbn,hlt',h⟩:=ZzG hE (Array.getElem?_eq_getElem hlt) hb;rw[Array.all_eq_true_iff_forall_mem] at hrd;have h1:=hrd e (by simpa using he);rw[hbn] at h1;simp only[Bool.not_true,Bool.false_or] at h1;rcases h with h|h
     ·rw[← h];exact h1
     ·exact hcl e.on h1 b h
    have hsort':=hsort;rw[hAB] at hsort';have hAlt:∀ a∈A,a.1<i:=fun a ha=>(List.pairwise_append.1 hsort').2.2 a ha (i,ops[i]) (by simp)
    have hBgt:∀ b∈B,i<b.1:=fun b hb=>(List.pairwise_cons.1 (List.pairwise_append.1 hsort').2.1).1 b hb
    have hloose:(todo ops listed).Pairwise (fun a b=>((masks ops.toList []).getD b.1 0).testBit a.1=true∨(quietP P ops os nx a b=true∨quietP P ops os nx b a=true)):=(ZyF hL).1.filter _;rw[hAB] at hloose;have hA:∀ a∈A,a∈numbered 0 ops.toList∧(quietP P ops os nx a (i,ops[i])=true∨quietP P ops os nx (i,ops[i]) a=true)∧((masks ops.toList []).getD a.1 0).testBit i=false∧((masks ops.toList []).getD i 0).testBit a.1=false:=by
     intro a ha;have hal:=hAlt a ha;have ham:a∈todo ops listed:=by rw[hAB];simp[ha]
     obtain⟨ha1,ha2⟩:=hmem a ham;have hno:((masks ops.toList []).getD i 0).testBit a.1=false:=by
      cases hq:((masks ops.toList []).getD i 0).testBit a.1
      ·rfl
      ·have:=hpre a.1 hq;rw[← hget a.1 (by omega),ha2] at this;simp at this
     have hno':((masks ops.toList []).getD a.1 0).testBit i=false:=by
      cases hq:((masks ops.toList []).getD a.1 0).testBit i
      ·rfl
      ·have:=ZFZ hE hq (by omega);omega
     refine⟨(List.mem_filter.1 ham).1,?_,hno',hno⟩;rcases(List.pairwise_append.1 hloose).2.2 a ha (i,ops[i]) (by simp) with h|h
     ·simp only at h;rw[hno] at h;simp at h
     ·exact h
    rw[hAB] at hrun;obtain⟨t,ht1,ht2⟩:=ZAQ (i,ops[i]) (hin i hlt) A B hA hnx hrun;rw[Zo9] at ht1;obtain⟨s1,k1,k2⟩:=Option.bind_eq_some_iff.1 ht1;have hnx1:nx≤s1.nx:=Nat.le_trans hnx (ZEm k1);have htodo:todo ops (listed.setIfInBounds i true)=A++B:=by
     have h1:todo ops (listed.setIfInBounds i true)=(todo ops listed).filter fun p=> !Nat.beq p.1 i:=by
      unfold todo;rw[List.filter_filter];refine List.filter_congr fun p hp=>?_
      by_cases hpi:p.1=i
      ·simp[hpi,Array.getD_eq_getD_getElem?,show i<listed.size by omega]
      ·have hq:Nat.beq p.1 i=false:=by
        cases hq:Nat.beq p.1 i
        ·rfl
        ·exact absurd (Zaj hq) hpi
       have hne:i≠p.1:=fun h=>hpi h.symm
       simp[hq,Array.getD_eq_getD_getElem?,hne]
     have hbe:∀ k,k≠i→Nat.beq k i=false:=fun k hk=>by
      cases hq:Nat.beq k i
      ·rfl
      ·exact absurd (Zaj hq) hk
     rw[h1,hAB,List.filter_append,List.filter_cons];have e1:A.filter (fun p=> !Nat.beq p.1 i)=A:=List.filter_eq_self.2 fun p hp=>by
      have:=hAlt p hp;rw[hbe p.1 (by omega)];rfl
     have e2:B.filter (fun p=> !Nat.beq p.1 i)=B:=List.filter_eq_self.2 fun p hp=>by
      have:=hBgt p hp;rw[hbe p.1 (by omega)];rfl
     rw[e1,e2];simp
    have hmemAB:∀ p∈A++B,p∈todo ops listed∧p.1≠i:=by
     intro p hp;rcases List.mem_append.1 hp with h|h
     ·exact⟨by rw[hAB];simp[h],by have:=hAlt p h;omega⟩
     ·exact⟨by rw[hAB];simp[h],by have:=hBgt p h;omega⟩
    have fin:∀ ρ1 a1 w1,Sim P w0 cx.ro ρ1 s1.tm s1.mem a1.tmps w1→a1.defers=a.defers→a1.tmps.size=cx.nt→Ext ρ ρ1→(∀ p∈A++B,ρ1 (s1.nx+p.1)=none)→(∀ b,s1.nx+ops.size≤b→ρ1 b=none)→wpAny P .any ops Q fuel (listed.setIfInBounds i true) a1 w1:=by
     intro ρ1 a1 w1 S1 hd1 hs1 he1 hm1 hf1;refine ZCx hΓ hI hE hL fuel (listed.setIfInBounds i true) (by simp[hsz]) ?_ ?_ hnx1 hs1 S1 (hgl.ext he1) (by rw[htodo];exact hm1) hf1 ⟨t,by rw[htodo];exact k2,hal.trans ht2⟩ ?_
     ·intro j hj b hb;have up:∀ b,listed.getD b false=true→(listed.setIfInBounds i true).getD b false=true:=by
       intro b hb;by_cases hbi:i=b
       ·subst hbi;simp[Array.getD_eq_getD_getElem?,show i<listed.size by omega]
       ·rw[← hb];simp[Array.getD_eq_getD_getElem?,hbi]
      by_cases hji:i=j
      ·subst hji;exact up b (hpre b hb)
      ·refine up b (hcl j ?_ b hb);rw[← hj];simp[Array.getD_eq_getD_getElem?,hji]
     ·rw[htodo];rw[hAB] at hfu;simp at hfu ⊢;omega
     ·intro ρ2 a2 w2 S2 hd2 hs2 he2 hf2;exact hK ρ2 a2 w2 S2 (hd2.trans hd1) hs2 (he1.trans he2) hf2
    have hio:ops[i]? =some ops[i]:=Array.getElem?_eq_getElem hlt;unfold stepD at k1;split at k1
    ·rename_i I vs hat;split at k1
     ·rename_i l hl;obtain⟨hc,k1⟩:=Zac k1;simp only[bA] at hc;have hat0:atD P cx ops[i] st=some (I,vs):=by
       unfold atG at hat;split at hat
       ·rename_i r hr;cases hsk:skips ops ops[i] st with
        |true=>rw[hsk] at hat;cases hat
        |false=>rw[hsk,cond_false] at hat;rw[hr,hat]
       ·cases hat
      replace hat:=hat0;unfold atD at hat;split at hat
      ·rename_i r hat';obtain rfl:=oI hat;refine Zsu hio hnt S hgl hf (fun {_ _ _} hw hr {K} hK=>ZIT hI hio hnt S hgl hf hat' hc.1 hw hr hK) hc.1 k1 (fun ρ1 a1 w1 S1 hd1 hs1 he1 hf1 hk1=>?_);exact fin ρ1 a1 w1 S1 hd1 hs1 he1 (fun p hp=>hk1 _ (hm p (hmemAB p hp).1)) hf1
      ·split at hat
       ·rename_i J hat';obtain⟨rfl,rfl⟩:=Prod.mk.inj (oI hat);refine Zsu hio hnt S hgl hf (fun {_ _ _} hw hr {K} hK=>w_op hio hnt S hgl hf (ZIU hat') hc.1 hw hr hK) hc.1 k1 (fun ρ1 a1 w1 S1 hd1 hs1 he1 hf1 hk1=>?_);exact fin ρ1 a1 w1 S1 hd1 hs1 he1 (fun p hp=>hk1 _ (hm p (hmemAB p hp).1)) hf1
       ·cases hat
     ·cases k1
    ·have hnxe:s1.nx=st.nx:=ZzF (p:=(i,ops[i])) k1;refine Zx6 hΓ hio hnt S hgl (hm (i,ops[i]) hx) k1 (fun ρ1 a1 w1 S1 hd1 hs1 he1 hr1=>?_);refine fin ρ1 a1 w1 S1 hd1 hs1 he1 (fun p hp=>?_) (fun b hb=>?_)
     ·rw[hnxe,hr1 _ (by have:=(hmemAB p hp).2;omega)];exact hm p (hmemAB p hp).1
     ·rw[hnxe] at hb;rw[hr1 b (by omega)];exact hf b hb
theorem ZCy{P:Program}{cx:Cx}{w0:Base}(hΓ:∀ g C,cx.Γ g=some C→SoundAt P w0.g g C)(hI:∀ g I,cx.inl g=some I→InlOK P cx w0 g I){X:Rho→Prop}(hX:∀ ρ ρ',X ρ→Ext ρ ρ'→X ρ'){id:Nat}{ops:Array Oper}{st s:St}(hd:(P.follows .mixedOrders&&drawQ P ops (owns st.nx st.tm st.mem ops.toList) st.nx)=true){ρ:Rho}{a:Act}{w:World}(x:X ρ)(I:In P cx w0 ρ st a w)
  (h:runD P cx (owns st.nx st.tm st.mem ops.toList) (masks ops.toList []) ops none (numbered 0 ops.toList) st some=some s):(Code.region id ops true).wp P (PostX P cx w0 X .normal {s with nx:=s.nx+ops.size}) a w:=by
 refine wp_region_draw fun t=>?_
 simp only[drawQ,bA] at hd;obtain⟨hmx,hE,hL⟩:=hd;have htodo:todo ops (Array.replicate ops.size false)=numbered 0 ops.toList:=by
  unfold todo;refine List.filter_eq_self.2 fun p hp=>?_
  have h1:=(ZkQ ops.toList 0 p hp).2;have:p.1<ops.size:=by
   rcases Nat.lt_or_ge p.1 ops.toList.length with h|h
   ·simpa using h
   ·simp[List.getElem?_eq_none h] at h1
  simp[Array.getD_eq_getD_getElem?,this]
 simp only[Region.schedule,hmx,Bool.true_or,if_true];refine wpAny_sound ops.size t _ a _ ?_;refine ZCx hΓ hI hE hL (s:=s) ops.size _ (by simp) ?_ ?_ (Nat.le_refl _) I.nt I.sim.drew I.gl (fun p _=>I.fresh _ (by omega)) (fun b hb=>I.fresh b (by omega)) ⟨s,by rw[htodo];exact h,Same.refl s⟩ ?_
 ·intro i hi;simp[Array.getD_eq_getD_getElem?] at hi;rcases Nat.lt_or_ge i ops.size with h|h
  ·simp[h] at hi
  ·simp[Array.getElem?_eq_none (show (Array.replicate ops.size false).size≤i by simpa using h)] at hi
 ·rw[htodo];have:=congrArg List.length (Zf4 ops.toList 0);simpa using this
 ·intro ρ' a' w' S' hd hs he hr;exact⟨rfl,ρ',hX _ _ x he,S',fun b hb=>hr b hb,hs,I.gl.ext he,hd.trans I.df⟩
theorem ZDD{P:Program}{cx:Cx}{w0:Base}(hΓ:∀ g C,cx.Γ g=some C→SoundAt P w0.g g C){X:Rho→Prop}(hX:∀ ρ ρ',X ρ→Ext ρ ρ'→X ρ'){id:Nat}{ops:Array Oper}{st s:St}(hd:(P.follows .mixedOrders&&drawOK ops (owns st.nx st.tm st.mem ops.toList))=true){ρ:Rho}{a:Act}{w:World}(x:X ρ)(I:In P cx w0 ρ st a w)
  (h:runOps P cx (accD st.nx (masks ops.toList []) (owns st.nx st.tm st.mem ops.toList)) ops none (numbered 0 ops.toList) st some=some s):(Code.region id ops true).wp P (PostX P cx w0 X .normal {s with nx:=s.nx+ops.size}) a w:=by
 refine wp_region_draw fun t=>?_
 simp only[drawOK,bA] at hd;obtain⟨hmx,hE,hL⟩:=hd;have htodo:todo ops (Array.replicate ops.size false)=numbered 0 ops.toList:=by
  unfold todo;refine List.filter_eq_self.2 fun p hp=>?_
  have h1:=(ZkQ ops.toList 0 p hp).2;have:p.1<ops.size:=by
   rcases Nat.lt_or_ge p.1 ops.toList.length with h|h
   ·simpa using h
   ·simp[List.getElem?_eq_none h] at h1
  simp[Array.getD_eq_getD_getElem?,this]
 have hnx:=ZCv _ h;simp only[Region.schedule,hmx,Bool.true_or,if_true];refine wpAny_sound ops.size t _ a _ ?_;refine ZEn hΓ hE hL (nx:=st.nx) (s:=s) ops.size _ (by simp) ?_ ?_ rfl I.nt I.sim.drew I.gl (fun p _=>I.fresh _ (by omega)) ⟨s,by rw[htodo];exact h,Alike.refl s⟩ ?_
 ·intro i hi;simp[Array.getD_eq_getD_getElem?] at hi;rcases Nat.lt_or_ge i ops.size with h|h
  ·simp[h] at hi
  ·simp[Array.getElem?_eq_none (show (Array.replicate ops.size false).size≤i by simpa using h)] at hi
 ·rw[htodo];have:=congrArg List.length (Zf4 ops.toList 0);simpa using this
 ·intro ρ' a' w' S' hd hs he hr;refine⟨rfl,ρ',hX _ _ x he,S',fun b hb=>?_,hs,I.gl.ext he,hd.trans I.df⟩;simp only at hb;rw[hr b (fun p hp hh=>by
   rw[htodo] at hp;have:=(ZkQ ops.toList 0 p hp).2;rcases Nat.lt_or_ge p.1 ops.toList.length with h1|h1
   ·simp at h1;omega
   ·simp[List.getElem?_eq_none h1] at this)]
  exact I.fresh b (by omega)
theorem ZgQ{R:Type}(P:Program)(cx:Cx)(Λ:Nat→Option Lf)(n:Nat)(c:Code)(f:R)(st:St)(K:Ex→St→R):
  exec P cx Λ n f c st K=mo (exec P cx Λ n none c st fun e s=>some (e,s)) f fun r=>K r.1 r.2:=ZHK P cx Λ n c f st K
theorem ZAR{R:Type}(P:Program)(cx:Cx)(Λ:Nat→Option Lf)(n:Nat)(c:Code)(l:Nat)(f:R)(st:St)(K:Ex→St→R):
  execL P cx Λ n f c l st K=mo (execL P cx Λ n none c l st fun e s=>some (e,s)) f fun r=>K r.1 r.2:=(ZCz P cx Λ n c).2 l f st K
theorem ZDE{P:Program}{cx:Cx}{w0:Base}(hΓ:∀ g C,cx.Γ g=some C→SoundAt P w0.g g C)(hI:∀ g I,cx.inl g=some I→InlOK P cx w0 g I){X:Rho→Prop}(hX:∀ ρ ρ',X ρ→Ext ρ ρ'→X ρ'){Λ:Nat→Option Lf}(n:Nat)(c:Code)(hΛ:LoopsOKX P cx w0 X Λ c):(∀ (st:St) (e:Ex) (st':St),
  exec P cx Λ n none c st (fun e s=>some (e,s))=some (e,st')→∀ ρ a w,X ρ→In P cx w0 ρ st a w→c.wp P (PostX P cx w0 X e st') a w)∧
  ∀ (l:Nat) (rest:Code) (st:St) (e:Ex) (st':St),findLabel c l=some rest→execL P cx Λ n none c l st (fun e s=>some (e,s))=some (e,st')→∀ ρ a w,X ρ→In P cx w0 ρ st a w→rest.wp P (PostX P cx w0 X e st') a w:=by
 induction c with
 |skip=>
  refine⟨?_,fun l rest st e st' hl=>by simp[findLabel] at hl⟩;intro st e st' h ρ a w x I;simp only[ZF0,oE,pE] at h;obtain⟨rfl,rfl⟩:=h;exact wp_skip ⟨rfl,ρ,x,I⟩
 |region id ops draw=>
  refine⟨?_,fun l rest st e st' hl=>by simp[findLabel] at hl⟩;intro st e st' h ρ a w x I;rw[ZzH] at h;cases draw with
  |false=>
   rw[cond_false,Zuk] at h;obtain⟨s,h1,h2⟩:=ZbW h;simp only[oE,pE] at h2;obtain⟨rfl,rfl⟩:=h2;exact ZCw hΓ hI hX x I h1
  |true=>
   rw[cond_true] at h;cases hh:hasInl cx ops with
   |true=>
    rw[hh,cond_true] at h;obtain⟨hd,h⟩:=Zac h;rw[Zxc] at h;obtain⟨s,h1,h2⟩:=ZbW h;simp only[oE,pE] at h2;obtain⟨rfl,rfl⟩:=h2;exact ZCy hΓ hI hX hd x I h1
   |false=>
    rw[hh,cond_false] at h;obtain⟨hd,h⟩:=Zac h;rw[Zeh] at h;obtain⟨s,h1,h2⟩:=ZbW h;simp only[oE,pE] at h2;obtain⟨rfl,rfl⟩:=h2;exact ZDD hΓ hX hd x I h1
 |seq y z ihx ihy=>
  simp only[LoopsOKX] at hΛ;refine⟨?_,?_⟩
  ·intro st e st' h ρ a w x I;rw[ZEo,ZgQ] at h;obtain⟨⟨e1,s1⟩,h1,h2⟩:=ZbW h;refine wp_seq (wp_mono ((ihx hΛ.1).1 st e1 s1 h1 ρ a w x I) ?_)
   rintro ex a1 w1 ⟨rfl,ρ1,x1,I1⟩
   cases e1 with
   |normal=>exact(ihy hΛ.2).1 s1 e st' h2 ρ1 a1 w1 x1 I1
   |exit id=>
    simp only[oE,pE] at h2;obtain⟨rfl,rfl⟩:=h2;exact⟨rfl,ρ1,x1,I1⟩
   |ret=>
    simp only[oE,pE] at h2;obtain⟨rfl,rfl⟩:=h2;exact⟨rfl,ρ1,x1,I1⟩
   |goto l=>
    simp only[oE,pE] at h2;obtain⟨rfl,rfl⟩:=h2;exact⟨rfl,ρ1,x1,I1⟩
  ·intro l rest st e st' hl h ρ a w x I;simp only[findLabel] at hl;cases hr:findLabel y l with
   |none=>rw[hr] at hl;rw[ZzI,hr] at h;exact(ihy hΛ.2).2 l rest st e st' hl h ρ a w x I
   |some r=>
    rw[hr] at hl;obtain rfl:=oI hl;rw[ZzI,hr] at h;simp only at h;rw[ZAR] at h;obtain⟨⟨e1,s1⟩,h1,h2⟩:=ZbW h;refine wp_seq (wp_mono ((ihx hΛ.1).2 l r st e1 s1 hr h1 ρ a w x I) ?_)
    rintro ex a1 w1 ⟨rfl,ρ1,x1,I1⟩
    cases e1 with
    |normal=>exact(ihy hΛ.2).1 s1 e st' h2 ρ1 a1 w1 x1 I1
    |exit id=>
     simp only[oE,pE] at h2;obtain⟨rfl,rfl⟩:=h2;exact⟨rfl,ρ1,x1,I1⟩
    |ret=>
     simp only[oE,pE] at h2;obtain⟨rfl,rfl⟩:=h2;exact⟨rfl,ρ1,x1,I1⟩
    |goto l=>
     simp only[oE,pE] at h2;obtain⟨rfl,rfl⟩:=h2;exact⟨rfl,ρ1,x1,I1⟩
 |cond c y z ihx ihy=>
  refine⟨?_,fun l rest st e st' hl=>by simp[findLabel] at hl⟩;intro st e st' h ρ a w x I;simp only[LoopsOKX] at hΛ;rw[ZCA] at h;split at h
  ·rename_i t ht;obtain⟨h1,-⟩:=Zay I.sim I.gl ht;refine wp_cond (t:=t) (by rw[h1];simp[den]) ?_;split at h
   ·rename_i d;have hal:Alike st (st.know d t):=Zdg ht;have I':In P cx w0 ρ (st.know d t) a w:=⟨I.sim.alike hal,I.fresh,I.nt,I.gl,I.df⟩;cases t with
    |true=>exact(ihx hΛ.1).1 _ e st' h ρ a w x I'
    |false=>exact(ihy hΛ.2).1 _ e st' h ρ a w x I'
   ·cases t with
    |true=>exact(ihx hΛ.1).1 st e st' h ρ a w x I
    |false=>exact(ihy hΛ.2).1 st e st' h ρ a w x I
  ·simp at h
 |block id y ih=>
  refine⟨?_,fun l rest st e st' hl=>by simp[findLabel] at hl⟩;intro st e st' h ρ a w x I;simp only[LoopsOKX] at hΛ;rw[ZAS] at h;cases hL:Λ id with
  |some L=>
   rw[hL] at h hΛ;simp only at h hΛ;rw[Res.run_par] at h;obtain⟨⟨e1,s1⟩,h1,h2⟩:=ZbW h;simp only[oE,pE] at h2;obtain⟨rfl,rfl⟩:=h2;exact hΛ st e1 s1 h1 ρ a w x I
  |none=>
   rw[hL] at h hΛ;simp only at h hΛ;rw[ZgQ] at h;obtain⟨⟨e1,s1⟩,h1,h2⟩:=ZbW h;refine wp_block (wp_mono ((ih hΛ).1 st e1 s1 h1 ρ a w x I) ?_)
   rintro ex a1 w1 ⟨rfl,ρ1,x1,I1⟩
   cases e1 with
   |normal=>
    simp only[oE,pE] at h2;obtain⟨rfl,rfl⟩:=h2;exact⟨rfl,ρ1,x1,I1⟩
   |exit j=>
    simp only at h2;simp only[toExit,Exit.inBlock];cases hq:Nat.beq j id with
    |true=>
     rw[hq] at h2;simp only[cond_true,oE,pE] at h2;obtain⟨rfl,rfl⟩:=h2;rw[if_pos (Zaj hq)];exact⟨rfl,ρ1,x1,I1⟩
    |false=>
     rw[hq] at h2;simp only[cond_false,oE,pE] at h2;obtain⟨rfl,rfl⟩:=h2;rw[if_neg (fun hh=>by rw[hh] at hq;simp at hq)];exact⟨rfl,ρ1,x1,I1⟩
   |ret=>
    simp only[oE,pE] at h2;obtain⟨rfl,rfl⟩:=h2;exact⟨rfl,ρ1,x1,I1⟩
   |goto l=>
    simp only[oE,pE] at h2;obtain⟨rfl,rfl⟩:=h2;exact⟨rfl,ρ1,x1,I1⟩
 |loop y ih=>
  refine⟨?_,fun l rest st e st' hl=>by simp[findLabel] at hl⟩;intro st e st' h ρ a w x I;simp only[LoopsOKX] at hΛ;rw[ZCB] at h;refine wp_loop_rounds n ?_;have key:∀ (k:Nat) (st:St) (ρ:Rho) (a:Act) (w:World),X ρ→In P cx w0 ρ st a w→iterK (exec P cx Λ n none y) none k st (fun e s=>some (e,s))=some (e,st')→Code.rounds P y (PostX P cx w0 X e st') k a w:=by
   intro k
   induction k with
   |zero=>intro st ρ a w x I h;simp[iterK] at h
   |succ k ihk=>
    intro st ρ a w x I h;rw[rounds_succ];unfold iterK at h;rw[ZgQ] at h;obtain⟨⟨e1,s1⟩,h1,h2⟩:=ZbW h;refine wp_mono ((ih hΛ).1 st e1 s1 h1 ρ a w x I) ?_
    rintro ex a1 w1 ⟨rfl,ρ1,x1,I1⟩
    cases e1 with
    |normal=>exact ihk s1 ρ1 a1 w1 x1 I1 h2
    |exit id=>
     simp only[oE,pE] at h2;obtain⟨rfl,rfl⟩:=h2;exact⟨rfl,ρ1,x1,I1⟩
    |ret=>
     simp only[oE,pE] at h2;obtain⟨rfl,rfl⟩:=h2;exact⟨rfl,ρ1,x1,I1⟩
    |goto l=>
     simp only[oE,pE] at h2;obtain⟨rfl,rfl⟩:=h2;exact⟨rfl,ρ1,x1,I1⟩
  exact key n st ρ a w x I h
 |rangeFunc=>
  refine⟨?_,fun l rest st e st' hl=>by simp[findLabel] at hl⟩;intro st e st' h;simp[exec,execB] at h
 |exit id=>
  refine⟨?_,fun l rest st e st' hl=>by simp[findLabel] at hl⟩;intro st e st' h ρ a w x I;simp only[ZF1,oE,pE] at h;obtain⟨rfl,rfl⟩:=h;exact wp_exit ⟨rfl,ρ,x,I⟩
 |scope y ih=>
  refine⟨?_,fun l rest st e st' hl=>by simp[findLabel] at hl⟩;intro st e st' h ρ a w x I;simp only[LoopsOKX] at hΛ;rw[ZAT,ZgQ] at h;obtain⟨⟨e1,s1⟩,h1,h2⟩:=ZbW h;refine ZBz (wp_mono ((ih hΛ).1 st e1 s1 h1 ρ a w x I) ?_)
  rintro ex a1 w1 ⟨rfl,ρ1,x1,I1⟩
  cases e1 with
  |goto l=>
   simp only at h2;split at h2
   ·rename_i rest hl;rw[ZAR] at h2;obtain⟨⟨e2,s2⟩,h3,h4⟩:=ZbW h2;refine⟨rest,hl,wp_mono ((ih hΛ).2 l rest s1 e2 s2 hl h3 ρ1 a1 w1 x1 I1) ?_⟩
    rintro ex a2 w2 ⟨rfl,ρ2,x2,I2⟩
    cases e2 with
    |goto l=>simp at h4
    |_=>
     simp only[oE,pE] at h4;obtain⟨rfl,rfl⟩:=h4;exact⟨rfl,ρ2,x2,I2⟩
   ·simp at h2
  |_=>
   simp only[oE,pE] at h2;obtain⟨rfl,rfl⟩:=h2;exact⟨rfl,ρ1,x1,I1⟩
 |label l=>
  refine⟨?_,?_⟩
  ·intro st e st' h ρ a w x I;simp only[ZFi,oE,pE] at h;obtain⟨rfl,rfl⟩:=h;exact wp_label ⟨rfl,ρ,x,I⟩
  ·intro l' rest st e st' hl h ρ a w x I;simp only[ZDF,oE,pE] at h;obtain⟨rfl,rfl⟩:=h;simp only[findLabel] at hl;split at hl
   ·obtain rfl:=oI hl;exact wp_skip ⟨rfl,ρ,x,I⟩
   ·cases hl
 |goto l=>
  refine⟨?_,fun l rest st e st' hl=>by simp[findLabel] at hl⟩;intro st e st' h ρ a w x I;simp only[ZF2,oE,pE] at h;obtain⟨rfl,rfl⟩:=h;exact wp_goto ⟨rfl,ρ,x,I⟩
 |ret=>
  refine⟨?_,fun l rest st e st' hl=>by simp[findLabel] at hl⟩;intro st e st' h ρ a w x I;simp only[ZHL,oE,pE] at h;obtain⟨rfl,rfl⟩:=h;exact wp_ret ⟨rfl,ρ,x,I⟩
 |refuse=>
  refine⟨?_,fun l rest st e st' hl=>by simp[findLabel] at hl⟩;intro st e st' h;simp[exec,execB] at h
theorem Zss{P:Program}{cx:Cx}{w0:Base}(hΓ:∀ g C,cx.Γ g=some C→SoundAt P w0.g g C)(hI:∀ g I,cx.inl g=some I→InlOK P cx w0 g I){X:Rho→Prop}(hX:∀ ρ ρ',X ρ→Ext ρ ρ'→X ρ'){Λ:Nat→Option Lf}(n:Nat)(c:Code)(hΛ:LoopsOKX P cx w0 X Λ c):∀ (st:St) (e:Ex) (st':St),
  exec P cx Λ n none c st (fun e s=>some (e,s))=some (e,st')→∀ ρ a w,X ρ→In P cx w0 ρ st a w→c.wp P (PostX P cx w0 X e st') a w:=(ZDE hΓ hI hX n c hΛ).1
theorem ZFj{P:Program}{cx:Cx}{w0:Base}(hΓ:∀ g C,cx.Γ g=some C→SoundAt P w0.g g C)(hI:∀ g I,cx.inl g=some I→InlOK P cx w0 g I){Λ:Nat→Option Lf}(n:Nat)(c:Code)(hΛ:LoopsOK P cx w0 Λ c)(st:St)(e:Ex)(st':St)
  (h:exec P cx Λ n none c st (fun e s=>some (e,s))=some (e,st')) (ρ:Rho) (a:Act) (w:World) (I:In P cx w0 ρ st a w):c.wp P (Post P cx w0 e st') a w:=
 wp_mono (Zss hΓ hI (X:=fun _=>True) (fun _ _ h _=>h) n c hΛ st e st' h ρ a w trivial I) fun _ _ _ h=>h.post
def rdV(tmps:Array Value):ResultVar→Sem Value
 | .tmp t=>pure (tmps.getD t undef)
 | .cell a t=>do loadVar t (← asAddr (tmps.getD a undef))
theorem ZF3{P:Program}{cx:Cx}{w0:Base}{ρ:Rho}{st:St}{a:Act}{w:World}(I:In P cx w0 ρ st a w){r:ResultVar}{v:AV}(hv:resV st r=some v):OK P ρ v∧(rdV a.tmps r).run P w= .ok (den P ρ v) w:=by
 unfold resV at hv;cases r with
 |tmp t=>
  obtain⟨k1,k2,k3⟩:=I.sim.slot t v hv;exact⟨k3,by simp only[rdV,Sem.run_pure,k2]⟩
 |cell c t=>
  simp only at hv;split at hv
  ·rename_i b p t' hc;replace hv:=Zac hv;obtain⟨ht,hv⟩:=hv;have ht:=Zaj ht;subst ht;split at hv
   ·rename_i T hT;obtain⟨-,k2,k3⟩:=I.sim.slot c _ hc;obtain⟨nm,of,as,bs,-,k4,k5,k6,-,-,-,-,k7,-⟩:=ZF4 I.sim k3 hT hv;refine⟨k6,?_⟩;have:=Zqt (P:=P) (w:=w) k5 k6 nm.blk (nm.off+of) (fun j y hy=>by rw[Nat.add_assoc,← Nat.add_assoc];exact k7 j y hy);simp only[rdV,Sem.run_bind,k2,k4,asAddr,Sem.run_pure,Result.andThen_ok,this]
   ·simp at hv
  ·simp at hv
theorem ZAU{P:Program}{cx:Cx}{w0:Base}{ρ:Rho}{st:St}{a:Act}{w:World}(I:In P cx w0 ρ st a w):(l:List ResultVar)→(vs:List AV)→resL st l=some vs→
  OKL P ρ vs∧(l.mapM (rdV a.tmps)).run P w= .ok (denT P ρ vs) w
 | [],vs,h=>by
  simp only[resL,oE] at h;subst h;simp[OKL,denT]
 |r::l,vs,h=>by
  simp only[resL] at h;split at h
  ·rename_i v hv;split at h
   ·rename_i q hq;simp only[oE] at h;subst h;obtain⟨h1,h2⟩:=ZAU I l q hq;have key:=ZF3 I hv;refine⟨by simp[OKL,key.1,h1],?_⟩;rw[List.mapM_cons];simp only[Sem.run_bind,key.2,Result.andThen_ok,h2,Sem.run_pure,denT]
   ·simp at h
  ·simp at h
theorem Zst{P:Program}{cx:Cx}{w0:Base}{ρ:Rho}{st:St}{a:Act}{w:World}(I:In P cx w0 ρ st a w){fn:Func}{v:AV}(h:results' fn st=some v):
  OK P ρ v∧(results fn a.tmps).run P w= .ok (den P ρ v) w:=by
 unfold results' at h;have main:∀ vs,resL st fn.results.toList=some vs→(results fn a.tmps).run P w= .ok (if h:(denT P ρ vs).toArray.size=1 then (denT P ρ vs).toArray[0] else .tuple (denT P ρ vs).toArray) w∧OKL P ρ vs:=by
  intro vs hvs;obtain⟨h1,h2⟩:=ZAU I _ _ hvs;refine⟨?_,h1⟩;have e:results fn a.tmps=(do let vs ← fn.results.mapM (rdV a.tmps);pure (if h:vs.size=1 then vs[0] else .tuple vs)):=by
   unfold results
   congr 1
  rw[e,Sem.run_bind,Array.mapM_eq_mapM_toList,Sem.run_map,h2];rfl
 split at h
 ·rename_i u hu;simp only[oE] at h;subst h;obtain⟨h1,h2⟩:=main _ hu;simp only[OKL,and_true] at h2;exact⟨h2,by rw[h1];simp[denT]⟩
 ·rename_i l hno hl;simp only[oE] at h;subst h;obtain⟨h1,h2⟩:=main _ hl;refine⟨by simpa only[OK] using h2,?_⟩;rw[h1];have hlen:∀ (l:List AV),(denT P ρ l).length=l.length:=by
   intro l
   induction l with
   |nil=>simp[denT]
   |cons x l ih=>simp[denT,ih]
  rw[dif_neg]
  ·simp[den]
  ·simp only[List.size_toArray,hlen];intro hh
   match l,hh with
   | [x],_=>exact hno x rfl
 ·simp at h
structure Gv where
 g:Nat
 ty:TypeId
 T:AV
def glAt:List Gv→Nat→Nat→Option AV
 | [],_,_=>none
 |v::l,k,g=>cond (Nat.beq v.g g) (some (.ptr k [] v.ty)) (glAt l (k+1) g)
def memAt:List Gv→Nat→List (Nat×AV)
 | [],_=>[]
 |v::l,k=>(k,v.T)::memAt l (k+1)
def rhoAt:List Gv→Nat→Rho
 | [],_,_=>none
 |v::l,k,b=>if b=k then some ⟨v.g,0,1,v.ty,false,1,false,nk⟩ else rhoAt l (k+1) b
def GlobOK(P:Program)(w:World)(gs:List Gv):Prop:=
 ∀ v∈gs,Has P v.T v.ty∧OK P (fun _=>none) v.T∧v.g<w.heap.size∧∀ j x,(cells P (fun _=>none) v.T)[j]? =some x→w.cell? ⟨v.g,j,none⟩=some x
theorem Zx3:(gs:List Gv)→(k b:Nat)→(b<k∨k+gs.length≤b)→rhoAt gs k b=none
 | [],_,_,_=>rfl
 |v::l,k,b,h=>by
  simp only[List.length_cons] at h;rw[rhoAt,if_neg (by omega)];exact Zx3 l (k+1) b (by omega)
theorem Zmp:(gs:List Gv)→(k b:Nat)→(T:AV)→lk b (memAt gs k)=some T→k≤b∧b<k+gs.length∧∃ v∈gs,v.T=T∧rhoAt gs k b=some ⟨v.g,0,1,v.ty,false,1,false,nk⟩
 | [],_,_,_,h=>by simp[memAt,lk] at h
 |v::l,k,b,T,h=>by
  rw[memAt] at h;by_cases hb:k=b
  ·subst hb;rw[Zal] at h;exact⟨Nat.le_refl _,by simp,v,by simp,oI h,by simp[rhoAt]⟩
  ·rw[Zan hb] at h;obtain⟨h1,h2,u,h3,h4,h5⟩:=Zmp l (k+1) b T h;exact⟨by omega,by simp;omega,u,by simp[h3],h4,by rw[rhoAt,if_neg (by omega),h5]⟩
theorem ZzC(P:Program):(gs:List Gv)→(k g:Nat)→(u:AV)→glAt gs k g=some u→∃ b v,v∈gs∧u= .ptr b [] v.ty∧v.g=g∧k≤b∧rhoAt gs k b=some ⟨v.g,0,1,v.ty,false,1,false,nk⟩
 | [],_,_,_,h=>by simp[glAt] at h
 |v::l,k,g,u,h=>by
  rw[glAt] at h;cases hq:Nat.beq v.g g with
  |true=>
   rw[hq] at h;simp only[cond_true,oE] at h;exact⟨k,v,by simp,h.symm,Zaj hq,Nat.le_refl _,by simp[rhoAt]⟩
  |false=>
   rw[hq] at h;simp only[cond_false] at h;obtain⟨b,x,h1,h2,h3,h4,h5⟩:=ZzC P l (k+1) g u h;exact⟨b,x,by simp[h1],h2,h3,by omega,by rw[rhoAt,if_neg (by omega),h5]⟩
theorem Zsq(P:Program)(ρ:Rho):(l:List AV)→(denT P ρ l).length=l.length
 | []=>by simp[denT]
 |x::l=>by simp[denT,Zsq P ρ l]
theorem Zsr:(l:List AV)→(k d:Nat)→(v:AV)→lk d (numbered k l)=some v→k≤d∧l[d-k]? =some v
 | [],_,_,_,h=>by simp[numbered,lk] at h
 |x::l,k,d,v,h=>by
  rw[numbered] at h;by_cases hd:k=d
  ·subst hd;rw[Zal] at h;simpa using h
  ·rw[Zan hd] at h;obtain⟨h1,h2⟩:=Zsr l (k+1) d v h;refine⟨by omega,?_⟩;rw[show d-k=(d-(k+1))+1 by omega,List.getElem?_cons_succ];exact h2
def unc:Nat→List AV→List AV×List (Nat×AV)
 |_,[]=>([],[])
 |k,v::r=>match v with
  | .tup [T,.clo te []]=>(.gs k (rowN T) te::(unc (k+1) r).1,(k,T)::(unc (k+1) r).2)
  |v=>(v::(unc k r).1,(unc k r).2)
theorem ZCs(d:Nat):(l l':List (Nat×AV))→lk d (l++l')=match lk d l with|some v=>some v|none=>lk d l'
 | [],l'=>by simp[lk]
 |x::l,l'=>by
  obtain⟨e,v⟩:=x;by_cases h:e=d
  ·subst h;simp only[List.cons_append];rw[Zal,Zal]
  ·simp only[List.cons_append];rw[Zan h,Zan h,ZCs d l l']
def RowAt(P:Program)(w:World)(ρ:Rho)(b:Nat)(T:AV):Prop:=
 ∃ nm,ρ b=some nm∧HasN P nm T∧OK P (fun _=>none) T∧Liv nm w (cells P (fun _=>none) T)∧∀ j x,(cells P (fun _=>none) T)[j]? =some x→w.cell? ⟨nm.blk,nm.off+j,none⟩=some x
theorem ZF5{P:Program}{nm nm':Nm}{T:AV}(h:HasN P nm T)(h1:nm'.row=nm.row)(h2:nm'.cap=nm.cap)(h3:nm'.ty=nm.ty)(h4:nm'.non=nm.non)(h5:nm'.K.fc=0∧nm'.K.fz=0):HasN P nm' T:=by
 unfold HasN at h ⊢;rw[h1,h2,h3,h4,h5.1,h5.2];split
 ·rename_i hr;rw[if_pos hr] at h;cases T<;>simp only at h ⊢ <;>first|exact h|exact⟨h.1,by simp⟩
 ·rename_i hr;rw[if_neg hr] at h;exact h
def nkA(K:Fz):Prop:=∃ a,K={nk with na:=a}
theorem nkA_K{K:Fz}(h:nkA K){k o:Nat}{v:Value}(hk:K.K k o=some v):False:=by
 obtain⟨a,rfl⟩:=h;simp[nk] at hk
theorem ZF6{P:Program}{w:World}:(vs:List AV)→(k:Nat)→(as:List Value)→ArgsAt P w as vs→OKL P (fun _=>none) vs→
  ∃ ρs:Rho,(∀ b nm,ρs b=some nm→k≤b∧b<k+(unc k vs).2.length∧nkA nm.K)∧as=denT P ρs (unc k vs).1∧OKL P ρs (unc k vs).1∧∀ b T,lk b (unc k vs).2=some T→(k≤b∧b<k+(unc k vs).2.length)∧RowAt P w ρs b T
 | [],k,as,h,_=>by
  cases as with
  |nil=>exact⟨fun _=>none,fun b nm h=>by simp at h,by simp[unc,denT],by simp[unc,OKL],fun b T h=>by simp[unc,lk] at h⟩
  |cons a as=>simp[ArgsAt] at h
 |v::r,k,as,h,ok=>by
  cases as with
  |nil=>simp[ArgsAt] at h
  |cons a as=>
   simp only[ArgsAt] at h;simp only[OKL] at ok;obtain⟨ha,hr⟩:=h;by_cases hv:∃ T te,v= .tup [T,.clo te []]
   ·obtain⟨T,te,rfl⟩:=hv;obtain⟨ρs,h1,h2,h3,h4⟩:=ZF6 r (k+1) as hr ok.2;have ha':SliceAt P w a T te:=ha;obtain⟨nm00,e0,w1,w2,w3,w4,w5,w6,n0,s0,c0⟩:=ha'
    let nm0:Nm:={nm00 with K:={nk with na:=nm00.K.na}}
    have okT:OK P (fun _=>none) T:=by have:=ok.1;simp only[OK,OKL] at this;exact this.1
    have hk:ρs k=none:=by
     cases hq:ρs k with
     |none=>rfl
     |some nm=>have:=h1 k nm hq;omega
    have ex:=ZzJ hk nm0;obtain⟨-,d1,d2⟩:=Zqs P ex _ h3;have self:upd ρs k nm0 k=some nm0:=by simp[upd]
    have e1:unc k (.tup [T,.clo te []]::r)=(.gs k (rowN T) te::(unc (k+1) r).1,(k,T)::(unc (k+1) r).2):=rfl;rw[e1];refine⟨upd ρs k nm0,?_,?_,?_,?_⟩
    ·intro b nm hb;simp only[List.length_cons];unfold upd at hb;split at hb
     ·obtain rfl:=oI hb;exact⟨by omega,by omega,_,rfl⟩
     ·have:=h1 b nm hb;exact⟨by omega,by omega,this.2.2⟩
    ·simp only[denT];rw[d1,← h2,e0];simp[den,self];rfl
    ·simp only[OKL];refine⟨?_,d2⟩;simp only[OK];exact⟨nm0,self,w1,w2,w3.symm,w4,w5,w6⟩
    ·intro b U hb;by_cases hbk:k=b
     ·subst hbk;rw[Zal] at hb;obtain rfl:=oI hb;exact⟨by simp only[List.length_cons];omega,_,self,ZF5 n0 rfl rfl rfl rfl ⟨rfl,rfl⟩,okT,s0,c0⟩
     ·rw[Zan hbk] at hb;obtain⟨g1,nm,g2,g3⟩:=h4 b U hb;exact⟨by simp only[List.length_cons];omega,nm,ex b nm g2,g3⟩
   ·have e1:unc k (v::r)=(v::(unc k r).1,(unc k r).2):=by
     rw[unc];exact fun T te e=>hv ⟨T,te,e⟩
    have ha':a=den P (fun _=>none) v:=by
     unfold ArgAt at ha;split at ha
     ·exact absurd ⟨_,_,rfl⟩ hv
     ·exact ha
    obtain⟨ρs,h1,h2,h3,h4⟩:=ZF6 r k as hr ok.2;rw[e1];obtain⟨g1,g2⟩:=Zcm P (Ext.empty ρs) v ok.1;refine⟨ρs,h1,?_,?_,h4⟩
    ·simp only[denT];rw[g1,← h2,ha']
    ·simp only[OKL];exact⟨g2,h3⟩
theorem ZzK{P:Program}{cx:Cx}{w0:Base}{ρ:Rho}{st:St}{a:Act}{w:World}(I:In P cx w0 ρ st a w)(hA:∀ k,¬ w0.A k){t:TypeId}{v u:AV}(h:resC1 P cx.ro (fun b=>lk b st.mem) t v=some u)(ok:OK P ρ v):
  (u=v∧isClo u=false∧den P ρ v=den P (fun _=>none) v∧OK P (fun _=>none) v)∨∃ T te,u= .tup [T,.clo te []]∧RowR P w0.w w (den P ρ v) T te:=by
 have plain:cond (pl v&& !(isClo v)) (some v) none=some u→(u=v∧isClo u=false∧den P ρ v=den P (fun _=>none) v∧OK P (fun _=>none) v):=by
  intro h;obtain⟨hc,h⟩:=Zac h;obtain rfl:=oI h;simp only[bA,Bool.not_eq_true'] at hc;have k:=pl_ok P v hc.1 ok;exact⟨rfl,hc.2,(Zcm P (Ext.empty ρ) v k).1,k⟩
 have S:=I.sim;cases v with
 |gs b n te=>
  right;simp only[resC1] at h;obtain⟨hro,h⟩:=Zac h;have hro:=Nat.le_of_ble_eq_true hro;split at h
  ·rename_i T hT;replace h:=Zac h;obtain⟨c4,h⟩:=h;obtain rfl:=oI h;obtain⟨nm,hb,hN,okT,hs,hcell⟩:=S.cell b T hT;simp only[OK] at ok;obtain⟨nm',hb',hr,ht',hn',hle,hnon,hmax⟩:=ok;rw[hb] at hb';obtain rfl:=oI hb';have hrow:nm.cap=rowN T:=by
    have hN':=hN;simp only[HasN,hr,if_true] at hN';cases T<;>simp only at hN'<;>first|exact hN'.1.symm|exact hN'.elim|(simp[pl] at c4;done)
   have k5:=pl_ok P T c4 okT;have k4:cells P (fun _=>none) T=cells P ρ T:=(ZbX P (Ext.empty ρ) T k5).symm;refine⟨T,te,rfl,{nm with K:=nk,blk:=bif nm.non then w0.w.heap.size else nm.blk},?_,hr,ht',hrow,by simp only;omega,fun hq=>⟨by have:=hnon hq;omega,?_⟩,hmax,ZF5 hN rfl rfl rfl rfl ⟨rfl,rfl⟩,k5,(by cases hq:nm.non with|true=>exact Nat.le_refl _|false=>exact((S.own b T nm hT hb hro).1 hq).resolve_right (hA _)),⟨rfl,(fun s p e=>by rw[e] at c4;simp[pl] at c4),(by cases T<;>first|rfl|simp[pl] at c4)⟩,fun hq=>⟨?_,fun j x hx=>?_⟩⟩
   ·simp only[den,hb];rw[hn',hrow];cases hq:nm.non<;>simp[gsV,hq,S.ex.nas b T nm hT hb hro]
   ·rw[k4];rcases hs with⟨z,-⟩|⟨-,z⟩
    ·rw[hq] at z;cases z
    ·exact z
   ·have hq:nm.non=false:=hq;rcases S.rows b T nm hT hb hro hr with z|z
    ·rw[hq] at z;cases z
    ·simp only[hq,cond_false];exact z
   ·have hq:nm.non=false:=hq;rw[k4] at hx;simp only[hq,cond_false];exact hcell j x hx
  ·simp at h
 |nils=>
  right;simp only[resC1] at h;split at h
  ·rename_i e he;split at h
   ·rename_i k hk;obtain rfl:=oI h;unfold intTy at hk;split at hk
    ·rename_i k' hk';replace hk:=Zac hk;obtain⟨hc,hk⟩:=hk;obtain rfl:=oI hk;have hcn:cells P (fun _=>none) (.ints k' 0 [])=[]:=by rw[ZaZ];rfl
     refine⟨_,_,rfl,⟨w0.w.heap.size,0,0,e,true,0,true,nk⟩,by simp[den,gsV],rfl,rfl,rfl,Nat.le_refl _,fun _=>⟨rfl,hcn⟩,by show ((0:Nat):Int)≤9223372036854775807;decide,?_,by simp[OK],Nat.le_refl _,⟨rfl,(fun _ _ e=>by cases e),rfl⟩,fun h=>by cases h⟩;simp only[HasN,if_true];exact⟨trivial,hk',Zaj hc⟩
    ·simp at hk
   ·split at h
    ·rename_i c hc;obtain rfl:=oI h;have hcn:cells P (fun _=>none) (.vec c [])=[]:=by rw[ZcD];rfl
     refine⟨_,_,rfl,⟨w0.w.heap.size,0,0,e,true,0,true,nk⟩,by simp[den,gsV],rfl,rfl,rfl,Nat.le_refl _,fun _=>⟨rfl,hcn⟩,by show ((0:Nat):Int)≤9223372036854775807;decide,?_,by simp[OK],Nat.le_refl _,⟨rfl,(fun _ _ e=>by cases e),rfl⟩,fun h=>by cases h⟩;simp only[HasN,if_true];exact⟨rfl,Zx7 hc⟩
    ·simp at h
  ·simp at h
 |_=>simp only[resC1] at h;exact .inl (plain h)
theorem ZFk{P:Program}{cx:Cx}{w0:Base}{ρ:Rho}{st:St}{a:Act}{w:World}(I:In P cx w0 ρ st a w)(hA:∀ k,¬ w0.A k){ts:List TypeId}{v u:AV}(h:resC P cx.ro (fun b=>lk b st.mem) ts v=some u)(ok:OK P ρ v):ResAt P w0.w w (den P ρ v) u:=by
 have simple:∀ u:AV,isClo u=false→(∀ l,u≠ .tup l)→den P ρ v=den P (fun _=>none) u→OK P (fun _=>none) u→ResAt P w0.w w (den P ρ v) u:=by
  intro u _ hu hd ho;unfold ResAt;split
  ·exact absurd rfl (hu _)
  ·exact absurd rfl (hu _)
  ·exact⟨hd,ho⟩
 have noTup:∀ u:AV,isClo u=false→∀ l,u≠ .tup l:=by
  intro u hu l hl;subst hl;simp[isClo] at hu
 unfold resC at h;split at h
 ·rename_i x y;split at h
  ·rename_i t t2;replace h:=Zac h;obtain⟨hc,h⟩:=h;simp only[bA,Bool.not_eq_true'] at hc;split at h
   ·rename_i u0 hu0;obtain rfl:=oI h;simp only[OK,OKL] at ok;obtain⟨okx,oky,-⟩:=ok;have ky:=pl_ok P y hc.1 oky;have dy:=(Zcm P (Ext.empty ρ) y ky).1;rcases ZzK I hA hu0 okx with⟨rfl,hcl,dx,kx⟩|⟨T,te,rfl,hR⟩
    ·have hx:=noTup _ hcl;unfold ResAt;split
     ·rename_i heq;simp only[AV.tup.injEq,List.cons.injEq] at heq;exact absurd heq.1 (hx _)
     ·rename_i heq;simp only[AV.tup.injEq,List.cons.injEq] at heq;rw[heq.2.1] at hc;simp[isClo] at hc
     ·refine⟨?_,by simp only[OK,OKL];exact⟨kx,ky,trivial⟩⟩;simp only[den,denT,dx,dy]
    ·refine⟨den P ρ x,?_,hR,ky⟩;simp[den,denT,dy]
   ·simp at h
  ·simp at h
 ·rename_i l hno;replace h:=Zac h;obtain⟨hc,h⟩:=h;obtain rfl:=oI h;simp only[OK] at ok;have k:=ZCC P l hc ok;have d:=(Zqs P (Ext.empty ρ) l k).2.1;unfold ResAt;split
  ·rename_i heq;simp only[AV.tup.injEq] at heq;exact(hno _ _ heq).elim
  ·rename_i heq;simp only[AV.tup.injEq] at heq;exact(hno _ _ heq).elim
  ·exact⟨by simp only[den,d],by simpa only[OK] using k⟩
 ·split at h
  ·rename_i t;rcases ZzK I hA h ok with⟨rfl,hcl,dx,kx⟩|⟨T,te,rfl,hR⟩
   ·exact simple _ hcl (noTup _ hcl) dx kx
   ·have hT:∀ l,T≠ .tup l:=by
     intro l hl;obtain⟨nm,-,w1,-,-,-,-,-,hN,-⟩:=hR;rw[hl] at hN;simp only[HasN,w1,if_true] at hN
    unfold ResAt;split
    ·rename_i heq;simp only[AV.tup.injEq,List.cons.injEq] at heq;exact absurd heq.1 (hT _)
    ·rename_i heq;simp only[AV.tup.injEq,List.cons.injEq,AV.clo.injEq,and_true] at heq;obtain⟨rfl,rfl⟩:=heq;exact hR
    ·rename_i n2;exact(n2 _ _ rfl).elim
  ·simp at h
noncomputable def runCt(P:Program)(Γ:FuncId→Option Ct)(gs:List Gv)(S:Nat)(Λ:Nat→Option Lf)(n:Nat)(fn:Func)(inl:FuncId→Option Inl:=fun _=>none):Ct:=fun vs=>
 cond (Nat.beq (unc gs.length vs).2.length S&&plL vs) (match run P Γ (glAt gs 0) (gs.length+S) (memAt gs 0++(unc gs.length vs).2) Λ n fn (unc gs.length vs).1 none some inl with
 |some v=>.ok v
 |none=>.fail) .fail
theorem ZAP{P:Program}{w0:World}{Γ:FuncId→Option Ct}(hΓ:∀ g C,Γ g=some C→SoundAt P w0 g C){gs:List Gv}(hgs:GlobOK P w0 gs){S:Nat}{Λ:Nat→Option Lf}{inl:FuncId→Option Inl}(n:Nat){g:FuncId}{fn:Func}(hfn:P.funcs[g]? =some fn)
  (hname:(fn.name== "runtime.NumGoroutine")=false)
  (hΛ:∀ c,fn.body=some c→∀ B:Base,B.g=w0→LoopsOK P {Γ:=Γ,gl:=glAt gs 0,ro:=gs.length+S,nt:=fn.ntmps,inl:=inl} B Λ c) (hI:∀ B:Base,B.g=w0→∀ g I,inl g=some I→InlOK P {Γ:=Γ,gl:=glAt gs 0,ro:=gs.length+S,nt:=fn.ntmps,inl:=inl} B g I) (hb:fn.body.isNone=false) {us:List AV} {um:List (Nat×AV)} {ρs:Rho} {w:World} {v':AV} (hw:Below w0.heap.size w0 w) (r1:∀ b nm,ρs b=some nm→gs.length≤b∧b<gs.length+S∧nkA nm.K) (r3:OKL P ρs us)
  (r4:∀ b T,lk b um=some T→(gs.length≤b∧b<gs.length+S)∧RowAt P w ρs b T) (hum:∀ b T,lk b um=some T→pl T=true)
  (hrun:run P Γ (glAt gs 0) (gs.length+S) (memAt gs 0++um) Λ n fn us none some inl=some v'):Meets P g (denT P ρs us).toArray v' w:=by
 unfold run at hrun;split at hrun
 ·rename_i c hc;obtain⟨hle,hrun⟩:=Zac hrun;rw[ZgQ] at hrun;obtain⟨⟨e,st'⟩,h1,h2⟩:=ZbW hrun;have h2':toExit e= .normal∨toExit e= .ret:=by
   cases e with
   |normal=>exact .inl rfl
   |ret=>exact .inr rfl
   |exit id=>simp at h2
   |goto l=>simp at h2
  have h3:∃ v,results' fn st'=some v∧resC P (gs.length+S) (fun b=>lk b st'.mem) fn.resultTypes.toList v=some v':=by
   cases e with
   |exit id=>simp at h2
   |goto l=>simp at h2
   |_=>
    simp only at h2;split at h2
    ·rename_i v hv;split at h2
     ·rename_i u hu;obtain rfl:=oI h2;exact⟨v,hv,hu⟩
     ·simp at h2
    ·simp at h2
  obtain⟨v,hv,hres⟩:=h3;have ex1:Ext (rhoAt gs 0) (fun b=>if b<gs.length then rhoAt gs 0 b else ρs b):=fun b nm hb=>by
   have:b<gs.length:=by
    rcases Nat.lt_or_ge b gs.length with h|h
    ·exact h
    ·rw[Zx3 gs 0 b (by omega)] at hb;simp at hb
   simp only[this,if_true];exact hb
  have ex2:Ext ρs (fun b=>if b<gs.length then rhoAt gs 0 b else ρs b):=fun b nm hb=>by
   have:=(r1 b nm hb).1;simp only[show ¬ b<gs.length by omega,if_false];exact hb
  
  have start:In P {Γ:=Γ,gl:=glAt gs 0,ro:=gs.length+S,nt:=fn.ntmps,inl:=inl} (Base.of w0 w hw) (fun b=>if b<gs.length then rhoAt gs 0 b else ρs b) {tm:=numbered 0 us,mem:=memAt gs 0++um,nx:=gs.length+S}
    {tmps:=(denT P ρs us).toArray++Array.replicate (fn.ntmps-(denT P ρs us).toArray.size) undef,defers:=[]} w:=by
   have hlen:(denT P ρs us).length=us.length:=Zsq P _ us;have hle':us.length≤fn.ntmps:=Nat.le_of_ble_eq_true hle;obtain⟨-,hdT,hokT⟩:=Zqs P ex2 us r3;have live:∀ b T,lk b (memAt gs 0++um)=some T→b<gs.length+S∧RowAt P w (fun b=>if b<gs.length then rhoAt gs 0 b else ρs b) b T:=by
    intro b T hT;rw[ZCs] at hT;split at hT
    ·rename_i T' hT';obtain rfl:=oI hT;obtain⟨-,h2,v,h3,rfl,h5⟩:=Zmp gs 0 b T' hT';obtain⟨k1,k2,k3,k4⟩:=hgs v h3;refine⟨by omega,_,ex1 b _ h5,by simpa [HasN] using k1,k2,.inl ⟨rfl,Nat.lt_of_lt_of_le k3 hw.size⟩,fun j x hx=>?_⟩;have:=k4 j x hx;simp only[Nat.zero_add];rw[Zx5 hw k3];exact this
    ·obtain⟨g1,nm,g2,g3⟩:=r4 b T hT;exact⟨by omega,nm,ex2 b nm g2,g3⟩
   refine⟨⟨?_,?_,?_,?_,?_,Kept.refl _,?_⟩,?_,?_,?_,rfl⟩
   ·intro d v hd;obtain⟨-,h2⟩:=Zsr us 0 d v hd;simp only[Nat.sub_zero] at h2;have hdl:d<us.length:=by
     rcases Nat.lt_or_ge d us.length with h|h
     ·exact h
     ·simp[List.getElem?_eq_none h] at h2
    refine⟨by simp[hlen];omega,?_,Zx4 hokT h2⟩;have h3:=Zxb (P:=P) (ρ:=fun b=>if b<gs.length then rhoAt gs 0 b else ρs b) h2;rw[hdT] at h3;simp only[Array.getD_eq_getD_getElem?];rw[Array.getElem?_append_left (by simp[hlen];omega)];simp[h3]
   ·intro b T hT;obtain⟨-,nm,g1,g2,g3,g4,g5⟩:=live b T hT;obtain⟨e1,e2⟩:=Zcm P (Ext.empty (fun b=>if b<gs.length then rhoAt gs 0 b else ρs b)) T g3;refine⟨nm,g1,g2,e2,by rw[ZbX P (Ext.empty (fun b=>if b<gs.length then rhoAt gs 0 b else ρs b)) T g3];exact g4,fun j x hx=>?_⟩;rw[ZbX P (Ext.empty (fun b=>if b<gs.length then rhoAt gs 0 b else ρs b)) T g3] at hx;exact g5 j x hx
   ·intro b T nm hT hnm hro;have:=(live b T hT).1;simp only at hro;omega
   ·intro b b' T T' nm nm' hT hT' _ _ hro;have:=(live b T hT).1;simp only at hro;omega
   ·intro b T nm hT _ hro;have:=(live b T hT).1;simp only at hro;omega
   ·have allK:∀ b nm,(if b<gs.length then rhoAt gs 0 b else ρs b)=some nm→nkA nm.K:=by
     intro b nm hb;split at hb
     ·have key:∀ (gs:List Gv) (k b:Nat) (nm:Nm),rhoAt gs k b=some nm→nm.K=nk:=by
       intro gs
       induction gs with
       |nil=>intro k b nm h;simp[rhoAt] at h
       |cons v l ih=>
        intro k b nm h;rw[rhoAt] at h;split at h
        ·obtain rfl:=oI h;rfl
        ·exact ih _ _ _ h
      exact⟨none,key gs 0 b nm hb⟩
     ·exact(r1 b nm hb).2.2
    have noI:∀ b s p,lk b (memAt gs 0++um)≠some (.itr s p):=by
     intro b s p hT;have hT0:=hT;rw[ZCs] at hT;split at hT
     ·rename_i T' hT';obtain rfl:=oI hT;obtain⟨-,h2,v,h3,h4,h5⟩:=Zmp gs 0 b _ hT';obtain⟨k1,-⟩:=hgs v h3;rw[h4] at k1;simp[Has] at k1
     ·have:=hum b _ hT;simp[pl] at this
    exact⟨fun b nm hb k o v hk=>(nkA_K (allK b nm hb) hk).elim,fun b nm hb=>by obtain⟨a,e⟩:=allK b nm hb;rw[e];exact Nat.zero_le _,fun b nm hb k o v hk=>(nkA_K (allK b nm hb) hk).elim,fun b T nm _ _ _ _ k o hf _=>(by
     rcases hf with hf|⟨b',nm',v,hb',hk⟩
     ·exact hf.elim
     ·exact(nkA_K (allK b' nm' hb') hk).elim),(fun b T nm hT hnm hr=>by
      have:=(live b T hT).1;simp only at hr;omega),
     fun b s p h=>absurd h (noI b s p),fun b s p nm h=>absurd h (noI b s p),fun b b' s s' p p' nm nm' h=>absurd h (noI b s p)⟩
   ·intro b hb;simp only at hb;simp only[show ¬ b<gs.length by omega,if_false];cases hq:ρs b with
    |none=>rfl
    |some nm=>have:=r1 b nm hq;omega
   ·simp[hlen];omega
   ·intro g u hu;obtain⟨b,v,h1,rfl,h3,-,h5⟩:=ZzC P gs 0 g u hu;have hp:pathN P ⟨v.g,0,1,v.ty,false,1,false,nk⟩ []=some (0,v.ty):=by simp[pathN,pathT]
    have h6:=ex1 b _ h5;rw[Zhs h6 hp];refine⟨by rw[h3],?_⟩;simp only[OK];exact⟨_,_,h6,hp⟩
  have walk:c.wp P (Post P {Γ:=Γ,gl:=glAt gs 0,ro:=gs.length+S,nt:=fn.ntmps,inl:=inl} (Base.of w0 w hw) e st')
    {tmps:=(denT P ρs us).toArray++Array.replicate (fn.ntmps-(denT P ρs us).toArray.size) undef,defers:=[]} w:=
   ZFj (fun g C hC=>hΓ g C hC) (hI _ rfl) n c (hΛ c hc _ rfl) _ e st' h1 _ _ w start
  refine .inl ⟨ZqU hfn hb hname _ w,calls_of_wp hfn hc (wp_mono walk ?_)⟩
  rintro ex a' w' ⟨rfl,ρ',I'⟩
  obtain⟨k1,k2⟩:=Zst I' hv;have hR:=ZFk I' (fun _ h=>h) hres k1;rcases h2' with h|h<;>rw[h]<;>exact⟨I'.df,_,k2,_,rfl,hR,I'.sim.below.all fun _ h=>h⟩
 ·simp at hrun
theorem ZFW{P:Program}{w0:World}{Γ:FuncId→Option Ct}(hΓ:∀ g C,Γ g=some C→SoundAt P w0 g C){gs:List Gv}(hgs:GlobOK P w0 gs){S:Nat}{Λ:Nat→Option Lf}{inl:FuncId→Option Inl}(n:Nat){g:FuncId}{fn:Func}(hfn:P.funcs[g]? =some fn)
  (hname:(fn.name== "runtime.NumGoroutine")=false)
  (hΛ:∀ c,fn.body=some c→∀ B:Base,B.g=w0→LoopsOK P {Γ:=Γ,gl:=glAt gs 0,ro:=gs.length+S,nt:=fn.ntmps,inl:=inl} B Λ c) (hI:∀ B:Base,B.g=w0→∀ g I,inl g=some I→InlOK P {Γ:=Γ,gl:=glAt gs 0,ro:=gs.length+S,nt:=fn.ntmps,inl:=inl} B g I) (hb:fn.body.isNone=false):SoundAt P w0 g (runCt P Γ gs S Λ n fn inl):=by
 intro vs v h ok w hw as has;unfold runCt at h;cases hS:Nat.beq (unc gs.length vs).2.length S&&plL vs with
 |false=>rw[hS] at h;simp[Res.run] at h
 |true=>
 rw[hS,cond_true] at h;simp only[bA] at hS;obtain⟨hS,hpl⟩:=hS;have hS:=Zaj hS;split at h
 ·rename_i v' hrun;simp only[Res.run,oE] at h;subst h;obtain⟨ρs,r1,r2,r3,r4⟩:=ZF6 vs gs.length as has ok;have hum:∀ b T,lk b (unc gs.length vs).2=some T→pl T=true:=by
   have key:∀ (vs:List AV) (k:Nat),plL vs=true→∀ b T,lk b (unc k vs).2=some T→pl T=true:=by
    intro vs
    induction vs with
    |nil=>intro k _ b T h;simp[unc,lk] at h
    |cons v r ih=>
     intro k hp b T h;simp only[plL,bA] at hp;unfold unc at h;split at h
     ·rename_i T0 te;by_cases hb:k=b
      ·subst hb;rw[Zal] at h;rw[← oI h];have:=hp.1;simp only[pl,plL,bA] at this;exact this.1
      ·rw[Zan hb] at h;exact ih _ hp.2 b T h
     ·exact ih _ hp.2 b T h
   exact key vs gs.length hpl
  rw[r2];exact ZAP hΓ hgs n hfn hname hΛ hI hb hw (by rw[← hS];exact r1) r3 (by rw[← hS];exact r4) hum hrun
 ·simp[Res.run] at h
noncomputable def Inl.of(P:Program)(cx:Cx)(n:Nat)(fn:Func):Inl where
 run:=fun {R} f vs mem nx k=>match fn.body with
  |some c=>cond (Nat.ble vs.length fn.ntmps) (exec P {cx with nt:=fn.ntmps} (fun _=>none) n f c {tm:=numbered 0 vs,mem:=mem,nx:=nx} fun e st=>match e with
   | .exit _=>f
   | .goto _=>f
   |_=>match results' fn st with
    |some v=>k v st.mem st.nx
    |none=>f) f
  |none=>f
 par:=by
  intro R f vs mem nx k;split
  ·refine Zb8 _ ?_ rfl;rw[ZgQ,ZgQ (R:=Option (AV×List (Nat×AV)×Nat)),mo_mo]
   congr 1
   funext r
   obtain⟨e,s⟩:=r;cases e with
   |exit=>rfl
   |goto=>rfl
   |_=>
    simp only;split<;>rfl
  ·rfl
theorem inl_ok{P:Program}{cx cx0:Cx}{w0:Base}(hΓ:∀ g C,cx.Γ g=some C→SoundAt P w0.g g C)(n:Nat){g:FuncId}{fn:Func}(hI:∀ g I,cx.inl g=some I→InlOK P {cx with nt:=fn.ntmps} w0 g I)(hfn:P.funcs[g]? =some fn)
  (hname:(fn.name== "runtime.NumGoroutine")=false) (hb:fn.body.isNone=false) (hro:cx0.ro=cx.ro) (hg:cx0.gl=cx.gl):InlOK P cx0 w0 g (Inl.of P cx n fn):=by
 intro vs mem nx v mem' nx' h ρ w S hgl hfr ok;refine⟨ZqU hfn hb hname _ w,?_⟩;simp only[Inl.of] at h;split at h
 ·rename_i c hc;obtain⟨hle,h⟩:=Zac h;rw[ZgQ] at h;obtain⟨⟨e,st'⟩,h1,h2⟩:=ZbW h;have hle':vs.length≤fn.ntmps:=Nat.le_of_ble_eq_true hle;have hlen:(denT P ρ vs).length=vs.length:=Zsq P _ vs;have start:In P {cx with nt:=fn.ntmps} w0 ρ {tm:=numbered 0 vs,mem:=mem,nx:=nx} {tmps:=(denT P ρ vs).toArray++Array.replicate (fn.ntmps-(denT P ρ vs).toArray.size) undef,defers:=[]} w:=by
   refine⟨⟨?_,S.cell,by rw[hro] at S;exact S.own,by rw[hro] at S;exact S.apart,by rw[hro] at S;exact S.rows,S.below,by rw[hro] at S;exact S.ex⟩,hfr,?_,by rw[hg] at hgl;exact hgl,rfl⟩
   ·intro d v hd;obtain⟨-,h2⟩:=Zsr vs 0 d v hd;simp only[Nat.sub_zero] at h2;have hdl:d<vs.length:=by
     rcases Nat.lt_or_ge d vs.length with h|h
     ·exact h
     ·simp[List.getElem?_eq_none h] at h2
    refine⟨by simp[hlen];omega,?_,Zx4 ok h2⟩;have h3:=Zxb (P:=P) (ρ:=ρ) h2;simp only[Array.getD_eq_getD_getElem?];rw[Array.getElem?_append_left (by simp[hlen];omega)];simp[h3]
   ·simp[hlen];omega
  have walk:=Zss (cx:={cx with nt:=fn.ntmps}) hΓ hI (X:=Ext ρ) (fun _ _ h1 h2=>h1.trans h2) n c (ZiE c) _ e st' h1 ρ _ w (Ext.refl ρ) start;refine calls_of_wp hfn hc (wp_mono walk ?_)
  rintro ex a' w' ⟨rfl,ρ',x',I'⟩
  have fin:∀ v0,results' fn st'=some v0→OK P ρ' v0∧(results fn a'.tmps).run P w'= .ok (den P ρ' v0) w'∧Sim P w0 cx0.ro ρ' [] st'.mem #[] w':=fun v0 hv=>by
   obtain⟨k1,k2⟩:=Zst I' hv;exact⟨k1,k2,⟨fun d v h=>by simp[lk] at h,I'.sim.cell,by rw[hro];exact I'.sim.own,by rw[hro];exact I'.sim.apart,by rw[hro];exact I'.sim.rows,I'.sim.below,by rw[hro];exact I'.sim.ex⟩⟩
  cases e with
  |exit id=>simp at h2
  |goto l=>simp at h2
  |normal=>
   simp only at h2;split at h2
   ·rename_i v0 hv;have hh:=h2;simp only[oE,pE] at hh;obtain⟨rfl,rfl,rfl⟩:=hh;obtain⟨k1,k2,SS⟩:=fin v0 hv;exact⟨I'.df,_,k2,_,ρ',rfl,rfl,k1,SS,x',I'.fresh⟩
   ·simp at h2
  |ret=>
   simp only at h2;split at h2
   ·rename_i v0 hv;have hh:=h2;simp only[oE,pE] at hh;obtain⟨rfl,rfl,rfl⟩:=hh;obtain⟨k1,k2,SS⟩:=fin v0 hv;exact⟨I'.df,_,k2,_,ρ',rfl,rfl,k1,SS,x',I'.fresh⟩
   ·simp at h2
 ·simp at h
end Go.Vx
namespace Go.Vx
open Go Go.RowKit
def notIn(b:Nat):List Nat→Bool
 | []=>true
 |x::l=> !Nat.beq x b&&notIn b l
theorem Ze7{b:Nat}:{l:List Nat}→notIn b l=true→b ∉ l
 | [],_=>by simp
 |x::l,h=>by
  simp only[notIn,bA,Bool.not_eq_true'] at h;intro hb;rcases List.mem_cons.1 hb with rfl|hb
  ·have:=h.1;simp at this
  ·exact Ze7 h.2 hb
theorem ZnX{m b:Nat}:{dm:List Nat}→(∀ x∈dm,m≤x)→b<m→notIn b dm=true
 | [],_,_=>rfl
 |x::l,h,hb=>by
  simp only[notIn,bA,Bool.not_eq_true'];refine⟨?_,ZnX (fun y hy=>h y (by simp[hy])) hb⟩;cases hq:Nat.beq x b with
  |false=>rfl
  |true=>have:=Zaj hq;have:=h x (by simp);omega
mutual
def nb0(m:Nat):AV→Bool
 | .ptr b _ _=>Nat.blt b m
 | .sl b _ _ _ _ _=>Nat.blt b m
 | .gs b _ _=>Nat.blt b m
 | .gp b _ _ _ _ _=>Nat.blt b m
 | .dv b _ _ _ _=>Nat.blt b m
 | .dq b _ _ _ _ _=>Nat.blt b m
 | .itp b=>Nat.blt b m
 | .pa b _ _ _ _=>Nat.blt b m
 | .clo _ l=>nb0L m l
 | .ifc _ v=>nb0 m v
 | .agg l=>nb0L m l
 | .rows _ _=>false
 | .tup l=>nb0L m l
 |_=>true
def nb0L(m:Nat):List AV→Bool
 | []=>true
 |v::l=>nb0 m v&&nb0L m l
end
mutual
def off(dm:List Nat):AV→Bool
 | .ptr b _ _=>notIn b dm
 | .sl b _ _ _ _ _=>notIn b dm
 | .gs b _ _=>notIn b dm
 | .gp b _ _ _ _ _=>notIn b dm
 | .dv b _ _ _ _=>notIn b dm
 | .dq b _ _ _ _ _=>notIn b dm
 | .itp b=>notIn b dm
 | .pa b _ _ _ _=>notIn b dm
 | .clo _ l=>offL dm l
 | .ifc _ v=>off dm v
 | .agg l=>offL dm l
 | .rows _ _=>false
 | .tup l=>offL dm l
 |_=>true
def offL(dm:List Nat):List AV→Bool
 | []=>true
 |v::l=>off dm v&&offL dm l
end
def hide(ρ:Rho)(dm:List Nat):Rho:=fun b=>if b∈dm then none else ρ b
theorem ZHM(ρ:Rho)(dm:List Nat):Ext (hide ρ dm) ρ:=fun b nm h=>by
 unfold hide at h;split at h
 ·simp at h
 ·exact h
mutual
theorem ZF7(P:Program){ρ:Rho}{dm:List Nat}:(v:AV)→off dm v=true→OK P ρ v→OK P (hide ρ dm) v
 | .int _ _,_,ok=>by simpa [OK] using ok
 | .bool _,_,_=>by simp[OK]
 | .str _,_,ok=>by simpa [OK] using ok
 | .ptr b p t,h,ok=>by
  simp only[off] at h;simp only[OK] at ok ⊢;obtain⟨nm,o,h1,h2⟩:=ok;exact⟨nm,o,by unfold hide;rw[if_neg (Ze7 h)];exact h1,h2⟩
 | .nilp,_,_=>by simp[OK]
 | .sl b _ _ _ _ _,h,ok=>by
  simp only[off] at h;simp only[OK] at ok ⊢;obtain⟨nm,o,n,h1,h2⟩:=ok;exact⟨nm,o,n,by unfold hide;rw[if_neg (Ze7 h)];exact h1,h2⟩
 | .nils,_,_=>by simp[OK]
 | .pa b _ _ _ _,h,ok=>by
  simp only[off] at h;simp only[OK] at ok ⊢;obtain⟨nm,o,n,h1,h2⟩:=ok;exact⟨nm,o,n,by unfold hide;rw[if_neg (Ze7 h)];exact h1,h2⟩
 | .gs b _ _,h,ok=>by
  simp only[off] at h;simp only[OK] at ok ⊢;obtain⟨nm,h1,h2⟩:=ok;exact⟨nm,by unfold hide;rw[if_neg (Ze7 h)];exact h1,h2⟩
 | .clo _ l,h,ok=>by simp only[off] at h;simp only[OK] at ok ⊢;exact ZBA P l h ok
 | .nilfn,_,_=>by simp[OK]
 | .nilif,_,_=>by simp[OK]
 | .ifc _ v,h,ok=>by simp only[off] at h;simp only[OK] at ok ⊢;exact ZF7 P v h ok
 | .ints _ _ _,_,ok=>by simpa [OK] using ok
 | .agg l,h,ok=>by simp only[off] at h;simp only[OK] at ok ⊢;exact ZBA P l h ok
 | .rows _ _,h,_=>by simp[off] at h
 | .tup l,h,ok=>by simp only[off] at h;simp only[OK] at ok ⊢;exact ZBA P l h ok
 | .vec _ _,_,ok=>by simpa [OK] using ok
 | .gp b _ _ _ _ _,h,ok=>by
  simp only[off] at h;simp only[OK] at ok ⊢;obtain⟨nm,h1,h2⟩:=ok;exact⟨nm,by unfold hide;rw[if_neg (Ze7 h)];exact h1,h2⟩
 | .dv b _ _ _ _,h,ok=>by
  simp only[off] at h;simp only[OK] at ok ⊢;obtain⟨nm,l,h1,h2⟩:=ok;exact⟨nm,l,by unfold hide;rw[if_neg (Ze7 h)];exact h1,h2⟩
 | .dq b _ _ _ _ _,h,ok=>by
  simp only[off] at h;simp only[OK] at ok ⊢;obtain⟨nm,b',o',c,h1,h2⟩:=ok;exact⟨nm,b',o',c,by unfold hide;rw[if_neg (Ze7 h)];exact h1,h2⟩
 | .dc _ _,_,_=>by simp[OK]
 | .itr _ _,_,ok=>by simpa [OK] using ok
 | .itp b,h,ok=>by
  simp only[off] at h;simp only[OK] at ok ⊢;obtain⟨nm,h1⟩:=ok;exact⟨nm,by unfold hide;rw[if_neg (Ze7 h)];exact h1⟩
theorem ZBA(P:Program){ρ:Rho}{dm:List Nat}:(l:List AV)→offL dm l=true→OKL P ρ l→OKL P (hide ρ dm) l
 | [],_,_=>by simp[OKL]
 |v::l,h,ok=>by
  simp only[offL,bA] at h;simp only[OKL] at ok ⊢;exact⟨ZF7 P v h.1 ok.1,ZBA P l h.2 ok.2⟩
end
theorem ZBB(P:Program){ρ ρ':Rho}{dm:List Nat}{v:AV}(h:off dm v=true)(ok:OK P ρ v)(he:∀ b,b ∉ dm→ρ' b=ρ b):den P ρ' v=den P ρ v∧OK P ρ' v:=by
 have h0:=ZF7 P v h ok;have e':Ext (hide ρ dm) ρ':=fun b nm hb=>by
  unfold hide at hb;split at hb
  ·simp at hb
  ·rename_i hn;rw[he b hn];exact hb
 obtain⟨a1,-⟩:=Zcm P (ZHM ρ dm) v h0;obtain⟨b1,b2⟩:=Zcm P e' v h0;exact⟨b1.trans a1.symm,b2⟩
theorem ZF8(P:Program){ρ ρ':Rho}{dm:List Nat}{v:AV}(h:off dm v=true)(ok:OK P ρ v)(he:∀ b,b ∉ dm→ρ' b=ρ b):cells P ρ' v=cells P ρ v:=by
 unfold cells;rw[(ZBB P h ok he).1]
mutual
theorem ZFU{m:Nat}{dm:List Nat}(hd:∀ x∈dm,m≤x):(v:AV)→nb0 m v=true→off dm v=true
 | .int _ _,_=>rfl
 | .bool _,_=>rfl
 | .str _,_=>rfl
 | .ptr b _ _,h=>by simp only[nb0] at h;exact ZnX hd (by simpa using h)
 | .nilp,_=>rfl
 | .sl b _ _ _ _ _,h=>by simp only[nb0] at h;exact ZnX hd (by simpa using h)
 | .nils,_=>rfl
 | .pa b _ _ _ _,h=>by simp only[nb0] at h;exact ZnX hd (by simpa using h)
 | .gs b _ _,h=>by simp only[nb0] at h;exact ZnX hd (by simpa using h)
 | .clo _ l,h=>by simp only[nb0] at h;simp only[off];exact ZBC hd l h
 | .nilfn,_=>rfl
 | .nilif,_=>rfl
 | .ifc _ v,h=>by simp only[nb0] at h;simp only[off];exact ZFU hd v h
 | .ints _ _ _,_=>rfl
 | .agg l,h=>by simp only[nb0] at h;simp only[off];exact ZBC hd l h
 | .rows _ _,h=>by simp[nb0] at h
 | .tup l,h=>by simp only[nb0] at h;simp only[off];exact ZBC hd l h
 | .vec _ _,_=>rfl
 | .gp b _ _ _ _ _,h=>by simp only[nb0] at h;exact ZnX hd (by simpa using h)
 | .dv b _ _ _ _,h=>by simp only[nb0] at h;exact ZnX hd (by simpa using h)
 | .dq b _ _ _ _ _,h=>by simp only[nb0] at h;exact ZnX hd (by simpa using h)
 | .dc _ _,_=>rfl
 | .itr _ _,_=>rfl
 | .itp b,h=>by simp only[nb0] at h;exact ZnX hd (by simpa using h)
theorem ZBC{m:Nat}{dm:List Nat}(hd:∀ x∈dm,m≤x):(l:List AV)→nb0L m l=true→offL dm l=true
 | [],_=>rfl
 |v::l,h=>by
  simp only[nb0L,bA] at h;simp only[offL,bA];exact⟨ZFU hd v h.1,ZBC hd l h.2⟩
end
inductive Rk where
 |int (k:IntKind)
 |code (c:Tc)
 |tok (d:Dc)
def Rk.T:Rk→AV
 | .int k=>.ints k 0 []
 | .code c=>.vec c []
 | .tok d=>.dc d []
def Rk.ok(P:Program)(t:TypeId):Rk→Bool
 | .int k=>(match P.underlying t with|some (.int k')=>kEq k k'|_=>false)&&Nat.beq (P.cellsOf t) 1
 | .code c=>c.fit P t
 | .tok d=>d.fit P t
theorem Rk.T_spec(P:Program)(ρ:Rho)(q:Rk):OK P ρ q.T∧cells P ρ q.T=[]:=by
 cases q with
 |int k=>exact⟨by simp[Rk.T,OK],by rw[Rk.T,ZaZ];rfl⟩
 |code c=>exact⟨by simp[Rk.T,OK],by rw[Rk.T,ZcD];rfl⟩
 |tok d=>exact⟨by simp[Rk.T,OK],by simp[Rk.T,cells,den,Value.cells]⟩
theorem Rk.has{P:Program}{t:TypeId}{q:Rk}(h:q.ok P t=true)(hs:Nat):HasN P ⟨hs,0,0,t,true,0,true,nk⟩ q.T:=by
 cases q with
 |int k=>
  simp only[Rk.ok,bA] at h;simp only[Rk.T,HasN,if_true];refine⟨trivial,?_,Zaj h.2⟩;have h3:=h.1;split at h3
  ·rename_i k' hk';rw[hk',ZmU h3]
  ·cases h3
 |code c=>
  simp only[Rk.T,HasN,if_true];exact⟨rfl,h⟩
 |tok d=>
  simp only[Rk.T,HasN,if_true];exact⟨trivial,by simp[nk]⟩
def RenV(P:Program)(ρ ρ':Rho)(dm:List Nat)(hs:Nat)(v v':AV):Prop:=
 (v'=v∧off dm v=true)∨(∃ b c n t,v'= .gs b n t∧v= .gs c n t∧ρ' b=ρ c)∨(∃ b t,v'= .gs b 0 t∧v= .nils∧ρ' b=some ⟨hs,0,0,t,true,0,true,nk⟩)∨
  (∃ b c t d x,v'= .dv b [] t d x∧v= .dv c [] t d x∧ρ' b=ρ c)∨(∃ b t d,v'= .dv b [] t d []∧v= .nils∧d.fit P t=true∧ρ' b=some ⟨hs,0,0,t,true,0,true,nk⟩)
theorem RenV.spec{P:Program}{ρ ρ':Rho}{dm:List Nat}{hs:Nat}{v v':AV}(h:RenV P ρ ρ' dm hs v v')(ok:OK P ρ v)(he:∀ b,b ∉ dm→ρ' b=ρ b):den P ρ' v'=den P ρ v∧OK P ρ' v'∧∀ t,Has P v t→Has P v' t:=by
 rcases h with⟨rfl,ho⟩|⟨b,c,n,t,rfl,rfl,e⟩|⟨b,t,rfl,rfl,e⟩|⟨b,c,t,d,x,rfl,rfl,e⟩|⟨b,t,d,rfl,rfl,hf,e⟩
 ·obtain⟨k1,k2⟩:=ZBB P ho ok he;exact⟨k1,k2,fun _ h=>h⟩
 ·simp only[OK] at ok ⊢;obtain⟨nm,q1,q2⟩:=ok;exact⟨by simp[den,e,q1],⟨nm,by rw[e];exact q1,q2⟩,fun _ h=>by simpa only[Has] using h⟩
 ·refine⟨by simp[den,e,gsV],?_,fun _ h=>by simpa only[Has] using h⟩;simp only[OK];exact⟨_,e,rfl,rfl,rfl,Nat.le_refl _,fun _=>trivial,by show ((0:Nat):Int)≤9223372036854775807;decide⟩
 ·simp only[OK] at ok ⊢;obtain⟨nm,l,q1,q2⟩:=ok;exact⟨by simp[den,e,q1],⟨nm,l,by rw[e];exact q1,q2⟩,fun _ h=>by simpa only[Has] using h⟩
 ·refine⟨by simp[den,e,dvV,dloc,nmL],?_,fun _ h=>by simpa only[Has] using h⟩;simp only[OK];exact⟨_,(none,0),e,rfl,hf,⟨⟨fun _=>rfl,fun ad h=>by cases h⟩,Nat.le_refl _,by decide,fun i y hy=>by simp at hy⟩,fun _=>⟨rfl,rfl⟩⟩
theorem RenV.itr{P:Program}{ρ ρ':Rho}{dm:List Nat}{hs:Nat}{v v':AV}(h:RenV P ρ ρ' dm hs v v'):v'=v∨((∀ s p,v'≠ .itr s p)∧isDc v'=isDc v):=by
 rcases h with⟨rfl,ho⟩|⟨b,c,n,t,rfl,rfl,e⟩|⟨b,t,rfl,rfl,e⟩|⟨b,c,t,d,x,rfl,rfl,e⟩|⟨b,t,d,rfl,rfl,hf,e⟩
 ·exact .inl rfl
 all_goals exact .inr ⟨fun _ _ e=>(by cases e),rfl⟩
theorem RenV.row{P:Program}{ρ ρ':Rho}{dm:List Nat}{hs:Nat}{v v':AV}(h:RenV P ρ ρ' dm hs v v'){nm:Nm}(hn:HasN P nm v):HasN P nm v':=by
 unfold HasN at hn ⊢;split
 ·rename_i hr;rw[if_pos hr] at hn;rcases h with⟨rfl,ho⟩|⟨b,c,n,t,rfl,rfl,e⟩|⟨b,t,rfl,rfl,e⟩|⟨b,c,t,d,x,rfl,rfl,e⟩|⟨b,t,d,rfl,rfl,hf,e⟩
  ·exact hn
  all_goals exact hn.elim
 ·rename_i hr;rw[if_neg hr] at hn;rcases h with⟨rfl,ho⟩|⟨b,c,n,t,rfl,rfl,e⟩|⟨b,t,rfl,rfl,e⟩|⟨b,c,t,d,x,rfl,rfl,e⟩|⟨b,t,d,rfl,rfl,hf,e⟩
  ·exact hn
  all_goals simpa only[Has] using hn
def RenT(P:Program)(ρ ρ':Rho)(dm:List Nat)(T T':AV):Prop:=
 (OK P ρ T→(∀ b,b ∉ dm→ρ' b=ρ b)→cells P ρ' T'=cells P ρ T∧OK P ρ' T'∧∀ nm,HasN P nm T→HasN P nm T')∧(T'=T∨((∀ s p,T'≠ .itr s p)∧isDc T'=isDc T))
theorem RenT.spec{P:Program}{ρ ρ':Rho}{dm:List Nat}{T T':AV}(h:RenT P ρ ρ' dm T T')(ok:OK P ρ T)(he:∀ b,b ∉ dm→ρ' b=ρ b):cells P ρ' T'=cells P ρ T∧OK P ρ' T'∧∀ nm,HasN P nm T→HasN P nm T':=h.1 ok he
structure Renamed (P:Program) (ro:Nat) (ρ ρ':Rho) (dm:List Nat) (st st':St) (hs:Nat) (src:Nat→Option Nat):Prop where
 same:∀ b,b ∉ dm→ρ' b=ρ b
 slot:∀ d v',lk d st'.tm=some v'→∃ v,lk d st.tm=some v∧RenV P ρ ρ' dm hs v v'
 mem:∀ b T,lk b st'.mem=some T→(∃ c T0,src b=some c∧lk c st.mem=some T0∧ρ' b=ρ c∧RenT P ρ ρ' dm T0 T∧(ro≤b→ro≤c))∨
  (src b=none∧∃ t q,T=Rk.T q∧ρ' b=some ⟨hs,0,0,t,true,0,true,nk⟩∧q.ok P t=true)
 inj:∀ b b' T T' c,lk b st'.mem=some T→lk b' st'.mem=some T'→src b=some c→src b'=some c→b=b'
 nx:st'.nx=st.nx
 low:∀ b∈dm,b<st.nx
 val:∀ b nm,ρ' b=some nm→(∃ c,ρ c=some nm)∨nm.K=nk
theorem In.renamed{P:Program}{cx:Cx}{w0:Base}{ρ ρ':Rho}{dm:List Nat}{st st':St}{a:Act}{w:World}{src:Nat→Option Nat}(I:In P cx w0 ρ st a w)(R:Renamed P cx.ro ρ ρ' dm st st' w.heap.size src)
  (hgl:∀ g v,cx.gl g=some v→off dm v=true):In P cx w0 ρ' st' a w:=by
 have S:=I.sim;have E1:Exs w0 cx.ro ρ' st'.mem w:=by
  refine S.ex.ren (src:=src) R.val (fun b T hT=>?_) R.inj;rcases R.mem b T hT with⟨c,T0,h0,h1,h2,h3,h4⟩|⟨-,t,q,rfl,h2,-⟩
  ·exact .inl ⟨c,T0,h0,h1,h2,h4,h3.2⟩
  ·exact .inr ⟨fun s p e=>by(cases q<;>cases e),_,h2,rfl,rfl⟩
 refine⟨⟨?_,?_,?_,?_,?_,S.below,E1⟩,?_,I.nt,?_,I.df⟩
 ·intro d v' hd;obtain⟨v,hv,h⟩:=R.slot d v' hd;obtain⟨h1,h2,h3⟩:=S.slot d v hv;refine⟨h1,?_⟩;obtain⟨k1,k2,-⟩:=h.spec h3 R.same;exact⟨by rw[h2,k1],k2⟩
 ·intro b T hT;rcases R.mem b T hT with⟨c,T0,-,h1,h2,h3,-⟩|⟨-,t,q,rfl,h2,h3⟩
  ·obtain⟨nm,q1,q2,q3,q4,q5⟩:=S.cell c T0 h1;obtain⟨hc,k2,kh⟩:=h3.spec q3 R.same;exact⟨nm,by rw[h2];exact q1,kh _ q2,k2,by rw[hc];exact q4,fun j x hx=>q5 j x (by rw[← hc];exact hx)⟩
  ·have hq:=Rk.T_spec P ρ' q;exact⟨_,h2,Rk.has h3 _,hq.1,.inr ⟨rfl,hq.2⟩,fun j x hx=>by rw[hq.2] at hx;simp at hx⟩
 ·intro b T nm hT hnm hro;rcases R.mem b T hT with⟨c,T0,-,h1,h2,h3,h4⟩|⟨-,t,q,rfl,h2,-⟩
  ·rw[h2] at hnm;obtain⟨q1,q2⟩:=S.own c T0 nm h1 hnm (h4 hro);obtain⟨nm',g1,-,g3,-⟩:=S.cell c T0 h1;exact⟨q1,fun j hj=>q2 j (by rw[(h3.spec g3 R.same).1] at hj;exact hj)⟩
  ·rw[h2] at hnm;obtain rfl:=oI hnm;exact⟨fun _=>.inl S.below.size,fun j hj=>by rw[(Rk.T_spec P ρ' q).2] at hj;simp at hj⟩
 ·intro b b' T T' nm nm' hT hT' hnm hnm' hro hne z1 z2;rcases R.mem b T hT with⟨c,T0,s1,h1,h2,h3,h4⟩|⟨-,t,q,rfl,h2,-⟩
  ·rcases R.mem b' T' hT' with⟨c',T0',s1',h1',h2',-,-⟩|⟨-,t,q,rfl,h2',-⟩
   ·rw[h2] at hnm;rw[h2'] at hnm';refine S.apart c c' T0 T0' nm nm' h1 h1' hnm hnm' (h4 hro) (fun hcc=>?_) z1 z2;subst hcc;exact hne (R.inj b b' T T' c hT hT' s1 s1')
   ·rw[h2'] at hnm';obtain rfl:=oI hnm';cases z2
  ·rw[h2] at hnm;obtain rfl:=oI hnm;cases z1
 ·intro b T nm hT hnm hro hr;rcases R.mem b T hT with⟨c,T0,-,h1,h2,h3,h4⟩|⟨-,t,q,rfl,h2,-⟩
  ·rw[h2] at hnm;exact S.rows c T0 nm h1 hnm (h4 hro) hr
  ·rw[h2] at hnm;obtain rfl:=oI hnm;exact .inl rfl
 ·intro b hb;rw[R.nx] at hb;have hn:b ∉ dm:=fun h=>by have:=R.low b h;omega
  rw[R.same b hn];exact I.fresh b hb
 ·intro g v hg;obtain⟨h1,h2⟩:=I.gl g v hg;obtain⟨k1,k2⟩:=ZBB P (hgl g v hg) h2 R.same;exact⟨by rw[k1];exact h1,k2⟩
abbrev Gl:=List (Nat×Nat×TypeId)
def Gl.byD:Gl→Nat→Option (Nat×TypeId)
 | [],_=>none
 |x::l,e=>cond (Nat.beq x.1 e) (some x.2) (Gl.byD l e)
def Gl.byB:Gl→Nat→Option (Nat×TypeId)
 | [],_=>none
 |x::l,b=>cond (Nat.beq x.2.1 b) (some (x.1,x.2.2)) (Gl.byB l b)
mutual
def leafs:AV→List AV
 | .agg l=>leafsL l
 |v=>[v]
def leafsL:List AV→List AV
 | []=>[]
 |v::l=>leafs v++leafsL l
end
def posV(tm mem:List (Nat×AV))(e:Nat):Option AV:=
 cond (Nat.blt e 1048576) (lk e tm) (match lk ((e-1048576)/64) mem with
  |some T=>(leafs T)[(e-1048576)%64]?
  |_=>none)
def srcN(l:Gl)(tm mem:List (Nat×AV))(b:Nat):Option Nat:=
 match Gl.byB l b with
 |some (d,_)=>match posV tm mem d with
  |some (.gs c _ _)=>some c
  |some (.dv c [] _ _ _)=>some c
  |_=>none
 |none=>some b
def renV(l:Gl)(tm mem:List (Nat×AV))(dm:List Nat)(kd:Nat→Option Rk)(e:Nat)(v:AV):Option AV:=
 match Gl.byD l e with
 |some (b,te)=>match v with
  | .gs c n t=>match srcN l tm mem b with
   |some c'=>cond (Nat.beq c c'&&Nat.beq t te) (some (.gs b n t)) none
   |none=>none
  | .dv c p t d x=>match p with
   | []=>match srcN l tm mem b with
    |some c'=>cond (Nat.beq c c'&&Nat.beq t te) (some (.dv b [] t d x)) none
    |none=>none
   |_::_=>none
  | .nils=>match srcN l tm mem b,Gl.byB l b with
   |none,some (_,t)=>match kd b with
    |some (.tok d)=>some (.dv b [] t d [])
    |_=>some (.gs b 0 t)
   |_,_=>none
  |_=>none
 |none=>cond (off dm v) (some v) none
mutual
def renA(l:Gl)(tm mem:List (Nat×AV))(dm:List Nat)(kd:Nat→Option Rk):Nat→AV→Option (AV×Nat)
 |e,.agg fs=>match renAs l tm mem dm kd e fs with
  |some r=>some (.agg r.1,r.2)
  |none=>none
 |e,v=>match renV l tm mem dm kd e v with
  |some v'=>some (v',e+1)
  |none=>none
def renAs(l:Gl)(tm mem:List (Nat×AV))(dm:List Nat)(kd:Nat→Option Rk):Nat→List AV→Option (List AV×Nat)
 |e,[]=>some ([],e)
 |e,v::r=>match renA l tm mem dm kd e v with
  |some q=>match renAs l tm mem dm kd q.2 r with
   |some r'=>some (q.1::r'.1,r'.2)
   |none=>none
  |none=>none
end
def tmR(l:Gl)(tm mem:List (Nat×AV))(dm:List Nat)(kd:Nat→Option Rk)(e:Nat):Option AV:=
 match lk e tm with
 |some v=>renV l tm mem dm kd e v
 |none=>none
def Gl.hasF:Gl→Nat→Bool
 | [],_=>false
 |x::l,c=>(Nat.ble 1048576 x.1&&Nat.beq ((x.1-1048576)/64) c)||Gl.hasF l c
def renT(l:Gl)(tm mem:List (Nat×AV))(dm:List Nat)(kd:Nat→Option Rk)(c:Nat)(T:AV):Option AV:=
 cond (l.hasF c) (match renA l tm mem dm kd (1048576+64*c) T with
  |some r=>some r.1
  |none=>none) (cond (off dm T) (some T) none)
def memR(l:Gl)(tm mem:List (Nat×AV))(dm:List Nat)(kd:Nat→Option Rk)(b:Nat):Option AV:=
 match srcN l tm mem b with
 |some c=>match lk c mem with
  |some T=>renT l tm mem dm kd c T
  |none=>none
 |none=>match kd b with
  |some k=>some k.T
  |none=>none
def pick(f:Nat→Option AV):List Nat→List (Nat×AV)
 | []=>[]
 |e::l=>match f e with
  |some v=>(e,v)::pick f l
  |none=>pick f l
theorem Zx8{f:Nat→Option AV}{d:Nat}{v:AV}:{l:List Nat}→lk d (pick f l)=some v→f d=some v∧d∈l
 | [],h=>by simp[pick,lk] at h
 |e::l,h=>by
  rw[pick] at h;split at h
  ·rename_i u hu;by_cases he:e=d
   ·subst he;rw[Zal] at h;exact⟨by rw[hu];exact h,by simp⟩
   ·rw[Zan he] at h;obtain⟨h1,h2⟩:=Zx8 h;exact⟨h1,by simp[h2]⟩
  ·obtain⟨h1,h2⟩:=Zx8 h;exact⟨h1,by simp[h2]⟩
def noTwo(f:Nat→Option Nat):List Nat→Bool
 | []=>true
 |b::l=>(match f b with
  |some c=>l.all fun b'=>Nat.beq b b'||(match f b' with|some c'=> !Nat.beq c c'|none=>true)
  |none=>true)&&noTwo f l
theorem ZAV{f:Nat→Option Nat}:{l:List Nat}→noTwo f l=true→∀ b b' c,b∈l→b'∈l→f b=some c→f b'=some c→b=b'
 | [],_,b,_,_,hb,_,_,_=>by simp at hb
 |x::l,h,b,b',c,hb,hb',h1,h2=>by
  simp only[noTwo,bA] at h;obtain⟨ha,hl⟩:=h;have key:∀ y,y∈l→f x=some c→f y=some c→x=y:=by
   intro y hy hx hyc;rw[hx] at ha;simp only[List.all_eq_true,Bool.or_eq_true] at ha;rcases ha y hy with h|h
   ·exact Zaj h
   ·rw[hyc] at h;simp at h
  rcases List.mem_cons.1 hb with e|hb2
  ·rcases List.mem_cons.1 hb' with e'|hb2'
   ·rw[e,e']
   ·rw[e] at h1 ⊢;exact key b' hb2' h1 h2
  ·rcases List.mem_cons.1 hb' with e'|hb2'
   ·rw[e'] at h2 ⊢;exact(key b hb2 h2 h1).symm
   ·exact ZAV hl b b' c hb2 hb2' h1 h2
theorem ZBD{l:Gl}{b:Nat}{x:Nat×TypeId}(h:Gl.byB l b=some x):b∈l.map (·.2.1)∧(x.1,b,x.2)∈l:=by
 induction l with
 |nil=>simp[Gl.byB] at h
 |cons y l ih=>
  rw[Gl.byB] at h;cases hq:Nat.beq y.2.1 b with
  |true=>
   rw[hq] at h;simp only[cond_true,oE] at h;subst h;have:=Zaj hq;subst this;exact⟨by simp,by simp⟩
  |false=>
   rw[hq] at h;obtain⟨h1,h2⟩:=ih h;exact⟨by simp only[List.map_cons,List.mem_cons];exact .inr h1,by simp[h2]⟩
theorem renLeaf{P:Program}{ρ ρ':Rho}{l:Gl}{tm mem:List (Nat×AV)}{dm:List Nat}{kd:Nat→Option Rk}{hs:Nat}(ren:∀ {e:Nat} {v v':AV},renV l tm mem dm kd e v=some v'→RenV P ρ ρ' dm hs v v')(he:∀ b,b ∉ dm→ρ' b=ρ b)
  {T:AV} {e e':Nat} {T':AV} (h:(match renV l tm mem dm kd e T with|some v'=>some (v',e+1)|none=>none)=some (T',e')) (ok:OK P ρ T):den P ρ' T'=den P ρ T∧OK P ρ' T'∧(∀ t,Has P T t→Has P T' t)∧∀ nm,HasN P nm T→HasN P nm T':=by
 split at h
 ·rename_i v' hv;simp only[oE,pE] at h;obtain⟨rfl,rfl⟩:=h;obtain⟨k1,k2,k3⟩:=(ren hv).spec ok he;exact⟨k1,k2,k3,fun nm hn=>(ren hv).row hn⟩
 ·cases h
mutual
theorem ZEp{P:Program}{ρ ρ':Rho}{l:Gl}{tm mem:List (Nat×AV)}{dm:List Nat}{kd:Nat→Option Rk}{hs:Nat}(ren:∀ {e:Nat} {v v':AV},renV l tm mem dm kd e v=some v'→RenV P ρ ρ' dm hs v v')(he:∀ b,b ∉ dm→ρ' b=ρ b):
  (T:AV)→(e e':Nat)→(T':AV)→renA l tm mem dm kd e T=some (T',e')→OK P ρ T→den P ρ' T'=den P ρ T∧OK P ρ' T'∧(∀ t,Has P T t→Has P T' t)∧∀ nm,HasN P nm T→HasN P nm T'
 | .agg fs,e,e',T',h,ok=>by
  simp only[renA] at h;split at h
  ·rename_i r hr;simp only[oE,pE] at h;obtain⟨rfl,rfl⟩:=h;simp only[OK] at ok;obtain⟨k1,k2,k3,k4,k5⟩:=ZCD ren he fs e _ r.1 hr ok;have hT:∀ t,Has P (.agg fs) t→Has P (.agg r.1) t:=by
    intro t hh;simp only[Has] at hh ⊢;rcases hh with⟨f,h1,h2⟩|⟨n,e,h1,h2,h3,h4⟩
    ·exact .inl ⟨f,h1,k3 _ _ _ h2⟩
    ·exact .inr ⟨n,e,h1,by rw[k5];exact h2,k4 _ h3,h4⟩
   refine⟨by simp only[den,k1],by simpa only[OK] using k2,hT,fun nm hn=>?_⟩;unfold HasN at hn ⊢;split at hn
   ·rename_i hr2;rw[if_pos hr2];simp only at hn ⊢;exact⟨by rw[k5];exact hn.1,k4 _ hn.2⟩
   ·rename_i hr2;rw[if_neg hr2];exact hT _ hn
  ·cases h
 | .int _ _,e,e',T',h,ok=>renLeaf ren he (by simpa only[renA] using h) ok
 | .bool _,e,e',T',h,ok=>renLeaf ren he (by simpa only[renA] using h) ok
 | .str _,e,e',T',h,ok=>renLeaf ren he (by simpa only[renA] using h) ok
 | .ptr _ _ _,e,e',T',h,ok=>renLeaf ren he (by simpa only[renA] using h) ok
 | .nilp,e,e',T',h,ok=>renLeaf ren he (by simpa only[renA] using h) ok
 | .sl _ _ _ _ _ _,e,e',T',h,ok=>renLeaf ren he (by simpa only[renA] using h) ok
 | .pa _ _ _ _ _,e,e',T',h,ok=>renLeaf ren he (by simpa only[renA] using h) ok
 | .nils,e,e',T',h,ok=>renLeaf ren he (by simpa only[renA] using h) ok
 | .gs _ _ _,e,e',T',h,ok=>renLeaf ren he (by simpa only[renA] using h) ok
 | .clo _ _,e,e',T',h,ok=>renLeaf ren he (by simpa only[renA] using h) ok
 | .nilfn,e,e',T',h,ok=>renLeaf ren he (by simpa only[renA] using h) ok
 | .nilif,e,e',T',h,ok=>renLeaf ren he (by simpa only[renA] using h) ok
 | .ifc _ _,e,e',T',h,ok=>renLeaf ren he (by simpa only[renA] using h) ok
 | .ints _ _ _,e,e',T',h,ok=>renLeaf ren he (by simpa only[renA] using h) ok
 | .rows _ _,e,e',T',h,ok=>renLeaf ren he (by simpa only[renA] using h) ok
 | .tup _,e,e',T',h,ok=>renLeaf ren he (by simpa only[renA] using h) ok
 | .vec _ _,e,e',T',h,ok=>renLeaf ren he (by simpa only[renA] using h) ok
 | .gp _ _ _ _ _ _,e,e',T',h,ok=>renLeaf ren he (by simpa only[renA] using h) ok
 | .dv _ _ _ _ _,e,e',T',h,ok=>renLeaf ren he (by simpa only[renA] using h) ok
 | .dq _ _ _ _ _ _,e,e',T',h,ok=>renLeaf ren he (by simpa only[renA] using h) ok
 | .dc _ _,e,e',T',h,ok=>renLeaf ren he (by simpa only[renA] using h) ok
 | .itr _ _,e,e',T',h,ok=>renLeaf ren he (by simpa only[renA] using h) ok
 | .itp _,e,e',T',h,ok=>renLeaf ren he (by simpa only[renA] using h) ok
theorem ZCD{P:Program}{ρ ρ':Rho}{l:Gl}{tm mem:List (Nat×AV)}{dm:List Nat}{kd:Nat→Option Rk}{hs:Nat}(ren:∀ {e:Nat} {v v':AV},renV l tm mem dm kd e v=some v'→RenV P ρ ρ' dm hs v v')(he:∀ b,b ∉ dm→ρ' b=ρ b):
  (fs:List AV)→(e e':Nat)→(fs':List AV)→renAs l tm mem dm kd e fs=some (fs',e')→OKL P ρ fs→denC P ρ' fs'=denC P ρ fs∧OKL P ρ' fs'∧(∀ f o s,HasF P fs f o s→HasF P fs' f o s)∧(∀ t,HasA P fs t→HasA P fs' t)∧fs'.length=fs.length
 | [],e,e',fs',h,ok=>by
  simp only[renAs,oE,pE] at h;obtain⟨rfl,rfl⟩:=h;exact⟨rfl,trivial,fun _ _ _ h=>h,fun _ h=>h,rfl⟩
 |v::r,e,e',fs',h,ok=>by
  simp only[renAs] at h;split at h
  ·rename_i q hq;split at h
   ·rename_i r' hr;simp only[oE,pE] at h;obtain⟨rfl,rfl⟩:=h;simp only[OKL] at ok ⊢;obtain⟨h1,h2,h3,-⟩:=ZEp ren he v e _ q.1 hq ok.1;obtain⟨k1,k2,k3,k4,k5⟩:=ZCD ren he r _ _ r'.1 hr ok.2;refine⟨by simp only[denC,h1,k1],⟨h2,k2⟩,fun f o s hh=>?_,fun t hh=>?_,by simp[k5]⟩
    ·cases f with
     |nil=>simp[HasF] at hh
     |cons f fs=>simp only[HasF] at hh ⊢;exact⟨hh.1,h3 _ hh.2.1,k3 _ _ _ hh.2.2⟩
    ·simp only[HasA] at hh ⊢;exact⟨h3 _ hh.1,k4 _ hh.2⟩
   ·cases h
  ·cases h
end
theorem ZF9{P:Program}{ρ ρ':Rho}{l:Gl}{tm mem:List (Nat×AV)}{dm:List Nat}{kd:Nat→Option Rk}{hs:Nat}(ren:∀ {e:Nat} {v v':AV},renV l tm mem dm kd e v=some v'→RenV P ρ ρ' dm hs v v')
  (T:AV) (e:Nat) (r:AV×Nat) (h:renA l tm mem dm kd e T=some r):RenT P ρ ρ' dm T r.1:=by
 refine⟨fun ok he=>?_,?_⟩
 ·obtain⟨h1,h2,-,h4⟩:=ZEp ren he T e r.2 r.1 h ok;exact⟨by unfold cells;rw[h1],h2,h4⟩
 ·have leaf:∀ {v:AV},(match renV l tm mem dm kd e v with|some v'=>some (v',e+1)|none=>none)=some r→r.1=v∨((∀ s p,r.1≠ .itr s p)∧isDc r.1=isDc v):=by
   intro v h;split at h
   ·rename_i v' hv;obtain rfl:=oI h;exact(ren hv).itr
   ·cases h
  cases T<;>simp only[renA] at h<;>try exact leaf h
  split at h
  ·obtain rfl:=oI h;exact .inr ⟨fun _ _ e=>(by cases e),rfl⟩
  ·cases h
def normS(l:Gl)(ds bs:List Nat)(kd:Nat→Option Rk)(nx:Nat)(st:St):Option St:=
 match l with
 | []=>some st
 |l=>cond (noTwo (srcN l st.tm st.mem) bs&&l.all fun x=>Nat.blt x.2.1 st.nx&&(match srcN l st.tm st.mem x.2.1 with|some c=>Nat.beq c x.2.1||Nat.ble nx c|none=>true))
   (some {tm:=pick (tmR l st.tm st.mem (l.map (·.2.1)) kd) ds,mem:=pick (memR l st.tm st.mem (l.map (·.2.1)) kd) bs,nx:=st.nx}) none
def tyOK(P:Program)(l:Gl)(kd:Nat→Option Rk):Bool:=
 l.all fun x=>match kd x.2.1 with
  |some k=>k.ok P x.2.2
  |none=>true
theorem In.norm{P:Program}{cx:Cx}{w0:Base}{ρ:Rho}{st st':St}{a:Act}{w:World}(I:In P cx w0 ρ st a w){l:Gl}{ds bs:List Nat}{kd:Nat→Option Rk}{nx:Nat}(h:normS l ds bs kd nx st=some st')
  (hty:tyOK P l kd=true) (hro:cx.ro≤nx) (hdm:∀ x∈l,cx.ro≤x.2.1) (hgl:∀ g v,cx.gl g=some v→off (l.map (·.2.1)) v=true):∃ ρ',In P cx w0 ρ' st' a w∧∀ b,b ∉ l.map (·.2.1)→ρ' b=ρ b:=by
 unfold normS at h;split at h
 ·simp only[oE] at h;subst h;exact⟨ρ,I,fun _ _=>rfl⟩
 ·obtain⟨hc,h⟩:=Zac h;simp only[oE] at h;subst h;simp only[bA] at hc;obtain⟨hc1,hc2⟩:=hc;have hc3:=List.all_eq_true.1 hc2
  let ρ':Rho:=fun b=>match Gl.byB l b with
   |some (_,t)=>(match srcN l st.tm st.mem b with
    |some c=>ρ c
    |none=>some ⟨w.heap.size,0,0,t,true,0,true,nk⟩)
   |none=>ρ b
  have same:∀ b,b ∉ l.map (·.2.1)→ρ' b=ρ b:=by
   intro b hb;show (match Gl.byB l b with|some (_,t)=>_|none=>ρ b)=ρ b;cases hq:Gl.byB l b with
   |none=>rfl
   |some x=>exact absurd (ZBD hq).1 hb
  have rsrc:∀ b c,srcN l st.tm st.mem b=some c→ρ' b=ρ c:=by
   intro b c hs;show (match Gl.byB l b with|some (_,t)=>_|none=>ρ b)=ρ c;cases hq:Gl.byB l b with
   |none=>
    unfold srcN at hs;rw[hq] at hs;simp only[oE] at hs;rw[hs]
   |some x=>simp only[hs]
  have val:∀ b nm,ρ' b=some nm→(∃ c,ρ c=some nm)∨nm.K=nk:=by
   intro b nm hb;have hb:(match Gl.byB l b with|some (_,t)=>(match srcN l st.tm st.mem b with|some c=>ρ c|none=>some (⟨w.heap.size,0,0,t,true,0,true,nk⟩:Nm))|none=>ρ b)=some nm:=hb;split at hb
   ·split at hb
    ·exact .inl ⟨_,hb⟩
    ·exact .inr (by rw[← oI hb])
   ·exact .inl ⟨_,hb⟩
  have tyb:∀ b d' t k,Gl.byB l b=some (d',t)→kd b=some k→k.ok P t=true:=by
   intro b d' t k hb hk;have h2:=List.all_eq_true.1 hty _ (ZBD hb).2;simpa only[hk] using h2
  have ren:∀ {e:Nat} {v v':AV},renV l st.tm st.mem (l.map (·.2.1)) kd e v=some v'→RenV P ρ ρ' (l.map (·.2.1)) w.heap.size v v':=by
   intro e v v' h1;unfold renV at h1;split at h1
   ·rename_i b te hb;split at h1
    ·rename_i c n t;split at h1
     ·rename_i c' hs;obtain⟨hcc,h1⟩:=Zac h1;simp only[bA] at hcc;simp only[oE] at h1;subst h1;have:=Zaj hcc.1;subst this;exact .inr (.inl ⟨b,_,n,t,rfl,rfl,rsrc b _ hs⟩)
     ·simp at h1
    ·rename_i c p t d x;split at h1
     ·split at h1
      ·rename_i c' hs;obtain⟨hcc,h1⟩:=Zac h1;simp only[bA] at hcc;simp only[oE] at h1;subst h1;have:=Zaj hcc.1;subst this;exact .inr (.inr (.inr (.inl ⟨b,_,t,d,x,rfl,rfl,rsrc b _ hs⟩)))
      ·simp at h1
     ·simp at h1
    ·split at h1
     ·rename_i d' t hs hbb;have hρ:ρ' b=some ⟨w.heap.size,0,0,t,true,0,true,nk⟩:=by
       show (match Gl.byB l b with|some (_,t)=>_|none=>ρ b)=_;rw[hbb];simp only[hs]
      split at h1
      ·rename_i d hkd;simp only[oE] at h1;subst h1;exact .inr (.inr (.inr (.inr ⟨b,t,d,rfl,rfl,tyb b _ t _ hbb hkd,hρ⟩)))
      ·simp only[oE] at h1;subst h1;exact .inr (.inr (.inl ⟨b,_,rfl,rfl,hρ⟩))
     ·simp at h1
    ·simp at h1
   ·obtain⟨ho,h1⟩:=Zac h1;simp only[oE] at h1;subst h1;exact .inl ⟨rfl,ho⟩
  have renTs:∀ {c:Nat} {T T':AV},renT l st.tm st.mem (l.map (·.2.1)) kd c T=some T'→RenT P ρ ρ' (l.map (·.2.1)) T T':=by
   intro c T T' h1;unfold renT at h1;cases hf:l.hasF c with
   |true=>
    rw[hf,cond_true] at h1;split at h1
    ·rename_i r hr;simp only[oE] at h1;subst h1;exact ZF9 ren T _ _ hr
    ·simp at h1
   |false=>
    rw[hf,cond_false] at h1;obtain⟨ho,h1⟩:=Zac h1;simp only[oE] at h1;subst h1;exact⟨fun ok he=>⟨ZF8 P ho ok he,(ZBB P ho ok he).2,fun _ h=>h⟩,.inl rfl⟩
  refine⟨ρ',I.renamed (src:=srcN l st.tm st.mem) (dm:=l.map (·.2.1)) ⟨same,?_,?_,?_,rfl,?_,val⟩ hgl,same⟩
  ·intro d v' hd;obtain⟨h1,-⟩:=Zx8 hd;unfold tmR at h1;split at h1
   ·rename_i v hv;exact⟨v,hv,ren h1⟩
   ·simp at h1
  ·intro b T hT;obtain⟨h1,-⟩:=Zx8 hT;unfold memR at h1;split at h1
   ·rename_i c hs;split at h1
    ·rename_i T' hT';refine .inl ⟨c,T',hs,hT',rsrc b c hs,renTs h1,fun hb=>?_⟩;cases hq:Gl.byB l b with
     |none=>
      unfold srcN at hs;rw[hq] at hs;simp only[oE] at hs;omega
     |some x=>
      have:=hc3 _ (ZBD hq).2;simp only[bA] at this;have h2:=this.2;rw[hs] at h2;simp only[Bool.or_eq_true] at h2;rcases h2 with h2|h2
      ·rw[Zaj h2];exact hb
      ·have:=Nat.le_of_ble_eq_true h2;omega
    ·simp at h1
   ·rename_i hs;split at h1
    ·rename_i k hk;simp only[oE] at h1;subst h1;cases hq:Gl.byB l b with
     |none=>unfold srcN at hs;rw[hq] at hs;simp at hs
     |some x=>
      have h2:=List.all_eq_true.1 hty _ (ZBD hq).2;simp only[hk] at h2;refine .inr ⟨hs,x.2,k,rfl,?_,h2⟩;show (match Gl.byB l b with|some (_,t)=>_|none=>ρ b)=_;rw[hq];simp only[hs]
    ·simp at h1
  ·intro b b' T T' c hT hT' h1 h2;exact ZAV hc1 b b' c (Zx8 hT).2 (Zx8 hT').2 h1 h2
  ·intro b hb;obtain⟨x,hx,rfl⟩:=List.mem_map.1 hb;have:=hc3 x hx;simp only[bA] at this;simpa using this.1
end Go.Vx
namespace Go.Vx
open Go Go.RowKit
def hasN:Nat→List Nat→Bool
 |_,[]=>false
 |b,c::l=>cond (Nat.beq b c) true (hasN b l)
theorem Zqr{b:Nat}:{l:List Nat}→hasN b l=true↔b∈l
 | []=>by simp[hasN]
 |c::l=>by
  rw[hasN];cases hq:Nat.beq b c with
  |true=>simp[Zaj hq]
  |false=>
   have:b≠c:=fun h=>by rw[h] at hq;simp at hq
   rw[cond_false,Zqr];simp[this]
def toGpF(cs:List Nat):AV→AV
 | .gs b n t=>cond (hasN b cs) (.gp b 0 n t false 0) (.gs b n t)
 |v=>v
def toGpL(cs:List Nat):List AV→List AV
 | []=>[]
 |v::l=>toGpF cs v::toGpL cs l
def toGp(cs:List Nat):AV→AV
 | .agg l=>.agg (toGpL cs l)
 |v=>v
def gpAll(cs:List Nat):List (Nat×AV)→List (Nat×AV)
 | []=>[]
 |p::l=>(p.1,toGp cs p.2)::gpAll cs l
theorem Zmt{cs:List Nat}{b:Nat}{T:AV}:{l:List (Nat×AV)}→lk b (gpAll cs l)=some T→∃ T0,lk b l=some T0∧T=toGp cs T0
 | [],h=>by simp[gpAll,lk] at h
 |p::l,h=>by
  rw[gpAll] at h;by_cases hb:p.1=b
  ·subst hb;rw[Zal] at h;exact⟨p.2,by rw[show p=(p.1,p.2) from rfl,Zal],(oI h).symm⟩
  ·rw[Zan hb] at h;obtain⟨T0,h1,h2⟩:=Zmt h;exact⟨T0,by rw[show p=(p.1,p.2) from rfl,Zan hb];exact h1,h2⟩
theorem ZEh(P:Program){ρ:Rho}(cs:List Nat)(v:AV)(ok:OK P ρ v):OK P ρ (toGpF cs v)∧den P ρ (toGpF cs v)=den P ρ v:=by
 cases v with
 |gs b n t=>
  simp only[toGpF];cases hasN b cs with
  |false=>exact⟨ok,rfl⟩
  |true=>
   rw[cond_true];simp only[OK] at ok ⊢;obtain⟨nm,h1,h2,h3,h4,h5,h6,h7⟩:=ok;refine⟨⟨nm,h1,fun h=>(by cases h),h2,h3,by omega,by omega,fun h=>by have:=h6 h;omega,h7⟩,?_⟩;simp only[den,h1,gpV,gsV];cases hq:nm.non with
   |true=>rfl
   |false=>
    simp only[cond_false,Nat.zero_mul,Nat.sub_zero];by_cases ht:nm.tot=0<;>simp[ht,Addr.add]
 |_=>exact⟨ok,rfl⟩
theorem ZEq(P:Program){ρ:Rho}(cs:List Nat):(l:List AV)→OKL P ρ l→OKL P ρ (toGpL cs l)∧denC P ρ (toGpL cs l)=denC P ρ l
 | [],_=>⟨trivial,rfl⟩
 |v::l,ok=>by
  simp only[OKL] at ok;obtain⟨h1,h2⟩:=ZEh P cs v ok.1;obtain⟨h3,h4⟩:=ZEq P cs l ok.2;refine⟨⟨h1,h3⟩,?_⟩;simp only[toGpL,ZcE,h4];unfold cells;rw[h2]
theorem ZGa(P:Program){ρ:Rho}(cs:List Nat)(v:AV)(ok:OK P ρ v):OK P ρ (toGp cs v)∧den P ρ (toGp cs v)=den P ρ v:=by
 cases v with
 |agg l=>
  simp only[toGp,OK] at ok ⊢;obtain⟨h1,h2⟩:=ZEq P cs l ok;exact⟨h1,by simp only[den,h2]⟩
 |_=>exact⟨ok,rfl⟩
theorem ZCE(P:Program)(cs:List Nat)(v:AV)(t:TypeId)(h:Has P v t):Has P (toGpF cs v) t:=by
 cases v with
 |gs b n te=>
  simp only[toGpF];cases hasN b cs with
  |false=>exact h
  |true=>simpa only[cond_true,Has] using h
 |_=>exact h
theorem ZzL(cs:List Nat):(l:List AV)→(toGpL cs l).length=l.length
 | []=>rfl
 |v::l=>by simp[toGpL,ZzL cs l]
theorem Zx9(P:Program)(cs:List Nat)(e:TypeId):(l:List AV)→HasA P l e→HasA P (toGpL cs l) e
 | [],h=>by simp[toGpL,HasA]
 |v::l,h=>by
  simp only[HasA] at h;simp only[toGpL,HasA];exact⟨ZCE P cs v e h.1,Zx9 P cs e l h.2⟩
theorem ZAW(P:Program)(cs:List Nat):(l:List AV)→(fs:List Field)→(o s:Nat)→HasF P l fs o s→HasF P (toGpL cs l) fs o s
 | [],fs,o,s,h=>by simpa [toGpL] using h
 |v::l,[],o,s,h=>by simp[HasF] at h
 |v::l,f::fs,o,s,h=>by
  simp only[HasF] at h;simp only[toGpL,HasF];exact⟨h.1,ZCE P cs v f.type h.2.1,ZAW P cs l fs _ s h.2.2⟩
theorem ZGb(P:Program)(cs:List Nat)(nm:Nm)(v:AV)(h:HasN P nm v):HasN P nm (toGp cs v):=by
 cases v with
 |agg l=>
  simp only[HasN,toGp] at h ⊢;split
  ·rename_i hr;rw[if_pos hr] at h;exact⟨by rw[ZzL];exact h.1,Zx9 P cs _ l h.2⟩
  ·rename_i hr;rw[if_neg hr] at h;simp only[Has] at h ⊢;rcases h with⟨fs,h1,h2⟩|⟨n,e,h1,h2,h3,h4⟩
   ·exact .inl ⟨fs,h1,ZAW P cs l _ _ _ h2⟩
   ·exact .inr ⟨n,e,h1,by rw[ZzL];exact h2,Zx9 P cs _ l h3,h4⟩
 |_=>exact h
theorem Sim.gp{P:Program}{w0:Base}{ro:Nat}{ρ:Rho}{tm mem:List (Nat×AV)}{tmps:Array Value}{w:World}(S:Sim P w0 ro ρ tm mem tmps w)(cs:List Nat):Sim P w0 ro ρ tm (gpAll cs mem) tmps w:=by
 have hit:∀ {b:Nat} {s:ByteArray} {p:Nat},lk b (gpAll cs mem)=some (.itr s p)→lk b mem=some (.itr s p):=by
  intro b s p h;obtain⟨T0,h1,h2⟩:=Zmt h;cases T0<;>simp only[toGp] at h2<;>first|(cases h2;done)|(rw[h2];exact h1)
 have hc:∀ T0,OK P ρ T0→cells P ρ (toGp cs T0)=cells P ρ T0:=fun T0 ok=>by unfold cells;rw[(ZGa P cs T0 ok).2]
 refine⟨S.slot,?_,?_,?_,?_,S.below,?_⟩
 ·intro b T hT;obtain⟨T0,h1,rfl⟩:=Zmt hT;obtain⟨nm,g1,g2,g3,g4,g5⟩:=S.cell b T0 h1;exact⟨nm,g1,ZGb P cs nm T0 g2,(ZGa P cs T0 g3).1,by rw[hc T0 g3];exact g4,fun j x hx=>g5 j x (by rw[← hc T0 g3];exact hx)⟩
 ·intro b T nm hT hnm hro;obtain⟨T0,h1,rfl⟩:=Zmt hT;obtain⟨nm',g1,-,g3,-⟩:=S.cell b T0 h1;obtain⟨k1,k2⟩:=S.own b T0 nm h1 hnm hro;exact⟨k1,fun j hj=>k2 j (by rw[hc T0 g3] at hj;exact hj)⟩
 ·intro b b' T T' nm nm' hT hT';obtain⟨T0,h1,-⟩:=Zmt hT;obtain⟨T0',h1',-⟩:=Zmt hT';exact S.apart b b' T0 T0' nm nm' h1 h1'
 ·intro b T nm hT;obtain⟨T0,h1,-⟩:=Zmt hT;exact S.rows b T0 nm h1
 ·refine⟨S.ex.froz,S.ex.fhs,S.ex.org,?_,?_,fun b s p h=>S.ex.its b s p (hit h),?_,fun b b' s s' p p' nm nm' h h'=>S.ex.itd b b' s s' p p' nm nm' (hit h) (hit h')⟩
  ·intro b T nm hT;obtain⟨T0,h1,rfl⟩:=Zmt hT;have e:isDc (toGp cs T0)=isDc T0:=by cases T0<;>rfl
   rw[e];exact S.ex.away b T0 nm h1
  ·intro b T nm hT;obtain⟨T0,h1,-⟩:=Zmt hT;exact S.ex.nas b T0 nm h1
  ·intro b s p nm h hnm b' T nm' hT;obtain⟨T0,h1,-⟩:=Zmt hT;exact S.ex.ita b s p nm (hit h) hnm b' T0 nm' h1
def St.gp(cs:List Nat)(st:St):St:=
 match cs with
 | []=>st
 |cs=>{st with mem:=gpAll cs st.mem}
theorem In.gp{P:Program}{cx:Cx}{w0:Base}{ρ:Rho}{st:St}{a:Act}{w:World}(I:In P cx w0 ρ st a w)(cs:List Nat):In P cx w0 ρ (st.gp cs) a w:=by
 cases cs with
 |nil=>exact I
 |cons c cs=>exact⟨I.sim.gp (c::cs),I.fresh,I.nt,I.gl,I.df⟩
end Go.Vx
