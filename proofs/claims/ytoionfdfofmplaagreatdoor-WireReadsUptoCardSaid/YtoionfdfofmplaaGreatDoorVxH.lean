import Derived.Test.YtoionfdfofmplaaGreatDoorVxD
import Derived.Maps.AppendAt
import Derived.Laws.Tables
import Derived.ChangeKeysEq
set_option autoImplicit false
set_option linter.unusedVariables false
set_option linter.unusedSimpArgs false
namespace Go.Vx
open Go Go.RowKit
def SliceAt(P:Program)(w:World)(a:Value)(T:AV)(te:TypeId):Prop:=
 ∃ nm:Nm,a=gsV nm (rowN T)∧nm.row=true∧nm.ty=te∧nm.cap=rowN T∧rowN T≤nm.tot∧(nm.non=true→rowN T=0)∧(nm.tot:Int)≤9223372036854775807∧HasN P nm T∧
  ((nm.non=false∧nm.blk<w.heap.size)∨(nm.non=true∧cells P (fun _=>none) T=[]))∧∀ j x,(cells P (fun _=>none) T)[j]? =some x→w.cell? ⟨nm.blk,nm.off+j,none⟩=some x
def ArgAt(P:Program)(w:World)(a:Value):AV→Prop
 | .tup [T,.clo te []]=>SliceAt P w a T te
 |v=>a=den P (fun _=>none) v
def ArgsAt(P:Program)(w:World):List Value→List AV→Prop
 | [],[]=>True
 |a::as,v::vs=>ArgAt P w a v∧ArgsAt P w as vs
 |_,_=>False
def noRow:List AV→Bool
 | []=>true
 | .tup _::_=>false
 |_::l=>noRow l
theorem ZzE{P:Program}{w:World}:(vs:List AV)→(as:List Value)→noRow vs=true→ArgsAt P w as vs→as=denT P (fun _=>none) vs
 | [],as,_,h=>by cases as<;>simp[denT,ArgsAt] at h ⊢
 |v::l,as,h,ha=>by
  cases as with
  |nil=>simp[ArgsAt] at ha
  |cons a as=>
   simp only[denT,ArgsAt] at ha ⊢;cases v<;>simp only[noRow] at h<;>first
    |(rw[← ZzE l as h ha.2];exact congrArg (· ::as) ha.1)
    |simp at h
def isDc:AV→Bool
 | .dc _ _=>true
 |_=>false
def RowB(P:Program)(nm:Nm)(w:World):Prop:=
 nm.off=0∧nm.cap≤nm.tot∧nm.tot≤maxLen∧∃ cur,w.heap[nm.blk]? =some (.cells cur nm.ty (0,0))∧cur.size=nm.tot*P.cellsOf nm.ty
theorem RowB.same{P:Program}{nm:Nm}{w w':World}(h:RowB P nm w)(hb:w'.heap[nm.blk]? =w.heap[nm.blk]?):RowB P nm w':=by
 obtain⟨h1,h2,h3,cur,h4,h5⟩:=h;exact⟨h1,h2,h3,cur,by rw[hb];exact h4,h5⟩
theorem RowB.lt{P:Program}{nm:Nm}{w:World}(h:RowB P nm w):nm.blk<w.heap.size:=by
 obtain⟨-,-,-,cur,h4,-⟩:=h;exact(Array.getElem?_eq_some_iff.1 h4).1
def RowR(P:Program)(w w':World)(a:Value)(T:AV)(te:TypeId):Prop:=
 ∃ nm:Nm,a=gsV nm (rowN T)∧nm.row=true∧nm.ty=te∧nm.cap=rowN T∧rowN T≤nm.tot∧(nm.non=true→rowN T=0∧cells P (fun _=>none) T=[])∧(nm.tot:Int)≤9223372036854775807∧HasN P nm T∧OK P (fun _=>none) T∧w.heap.size≤nm.blk∧(nm.K=nk∧(∀ s p,T≠ .itr s p)∧isDc T=false)∧
  (nm.non=false→RowB P nm w'∧∀ j x,(cells P (fun _=>none) T)[j]? =some x→w'.cell? ⟨nm.blk,nm.off+j,none⟩=some x)
def ResAt(P:Program)(w w':World)(a:Value):AV→Prop
 | .tup [.tup [T,.clo te []],y]=>∃ b,a= .tuple #[b,den P (fun _=>none) y]∧RowR P w w' b T te∧OK P (fun _=>none) y
 | .tup [T,.clo te []]=>RowR P w w' a T te
 |v=>a=den P (fun _=>none) v∧OK P (fun _=>none) v
def Meets(P:Program)(g:FuncId)(args:Array Value)(v:AV)(w:World):Prop:=
 ((callFunc g args).run P w= .ok (.enter g args) w∧Calls P g args w fun e w'=>∃ a,e= .returned a∧ResAt P w w' a v∧Below w.heap.size w w')∨∃ a,(callFunc g args).run P w= .ok (.value a) w∧ResAt P w w a v
def SoundAt(P:Program)(w0:World)(g:FuncId)(C:Ct):Prop:=
 ∀ (vs:List AV) (v:AV),(C vs).run none some=some v→OKL P (fun _=>none) vs→
  ∀ w:World,Below w0.heap.size w0 w→∀ as:List Value,ArgsAt P w as vs→Meets P g as.toArray v w
theorem SoundAt.later{P:Program}{w0 w1:World}{g:FuncId}{C:Ct}(h:SoundAt P w0 g C)(hb:Below w0.heap.size w0 w1):SoundAt P w1 g C:=
 fun vs v hv ok w hw=>h vs v hv ok w (hb.trans (hw.mono hb.size))
theorem SoundAt.weaken{P:Program}{w0:World}{g:FuncId}{C C':Ct}(h:SoundAt P w0 g C)(hc:∀ vs v,OKL P (fun _=>none) vs→(C' vs).run none some=some v→(C vs).run none some=some v):SoundAt P w0 g C':=
 fun vs v hv ok=>h vs v (hc vs v ok hv) ok
theorem ZqU{P:Program}{g:FuncId}{fn:Func}(hfn:P.funcs[g]? =some fn)(hbody:fn.body.isNone=false)(hname:(fn.name== "runtime.NumGoroutine")=false)(args:Array Value)(w:World):
  (callFunc g args).run P w= .ok (.enter g args) w:=by
 simp only[callFunc,Sem.run_bind,run_program,Result.andThen_ok,hfn];rw[if_neg (by rw[hname];decide),if_neg (by rw[hbody];decide)];rfl
structure Base where
 g:World
 w:World
 A:Nat→Prop
 F:Nat→Nat→Prop
 low:Below g.heap.size g w
 hA:∀ k,A k→g.heap.size≤k
 hF:∀ k o,F k o→k<w.heap.size
def Base.own(B:Base)(k:Nat):Prop:=B.w.heap.size≤k∨B.A k
def Base.of(w0 w:World)(h:Below w0.heap.size w0 w):Base:=⟨w0,w,fun _=>False,fun _ _=>False,h,fun _ h=>h.elim,fun _ _ h=>h.elim⟩
theorem Base.own_ge{B:Base}{k:Nat}(h:B.own k):B.g.heap.size≤k:=by
 rcases h with h|h
 ·exact Nat.le_trans B.low.size h
 ·exact B.hA k h
theorem ZqV{w:World}{k o:Nat}{v:Value}(h:w.cell? ⟨k,o,none⟩=some v):k<w.heap.size:=by
 rcases Nat.lt_or_ge k w.heap.size with h1|h1
 ·exact h1
 ·simp only[World.cell?,Array.getElem?_eq_none h1] at h;simp at h
structure Kept (B:Base) (w:World):Prop where
 os:w.os=B.w.os
 tape:w.tape=B.w.tape
 output:w.output=B.w.output
 size:B.w.heap.size≤w.heap.size
 block:∀ k,k<B.w.heap.size→¬ B.A k→w.heap[k]? =B.w.heap[k]?
 froz:∀ k o v,B.F k o→B.w.cell? ⟨k,o,none⟩=some v→w.cell? ⟨k,o,none⟩=some v
theorem Kept.refl(B:Base):Kept B B.w:=⟨rfl,rfl,rfl,Nat.le_refl _,fun _ _ _=>rfl,fun _ _ _ _ h=>h⟩
theorem Kept.trans{B:Base}{w w':World}(h:Kept B w)(k:Below w.heap.size w w'):Kept B w':=
 ⟨k.os.trans h.os,k.tape.trans h.tape,k.output.trans h.output,Nat.le_trans h.size k.size,fun i hi hn=>(k.block i (Nat.lt_of_lt_of_le hi h.size)).trans (h.block i hi hn),fun i o v hf hv=>by
  have h1:=h.froz i o v hf hv;rw[World.cell?_of_block (k.block i (ZqV h1))];exact h1⟩
theorem Kept.step{B:Base}{w w':World}(h:Kept B w)(h1:w'.os=w.os)(h2:w'.tape=w.tape)(h3:w'.output=w.output)(h4:w.heap.size≤w'.heap.size)(h5:∀ k,k<w.heap.size→¬ B.own k→w'.heap[k]? =w.heap[k]?)
  (h6:∀ k o v,B.F k o→w.cell? ⟨k,o,none⟩=some v→w'.cell? ⟨k,o,none⟩=some v):Kept B w':=
 ⟨h1.trans h.os,h2.trans h.tape,h3.trans h.output,Nat.le_trans h.size h4,fun k hk hn=>(h5 k (Nat.lt_of_lt_of_le hk h.size) (fun ho=>ho.elim (fun h=>by omega) hn)).trans (h.block k hk hn),fun k o v hf hv=>h6 k o v hf (h.froz k o v hf hv)⟩
theorem Kept.below{B:Base}{w:World}(h:Kept B w):Below B.g.heap.size B.g w:=
 ⟨h.os.trans B.low.os,h.tape.trans B.low.tape,h.output.trans B.low.output,Nat.le_trans B.low.size h.size,fun k hk=>(h.block k (Nat.lt_of_lt_of_le hk B.low.size) (fun ha=>by have:=B.hA k ha;omega)).trans (B.low.block k hk)⟩
theorem Kept.all{B:Base}{w:World}(h:Kept B w)(hA:∀ k,¬ B.A k):Below B.w.heap.size B.w w:=⟨h.os,h.tape,h.output,h.size,fun k hk=>h.block k hk (hA k)⟩
theorem Kept.lt{B:Base}{w:World}(h:Kept B w){k o:Nat}(hf:B.F k o):k<w.heap.size:=Nat.lt_of_lt_of_le (B.hF k o hf) h.size
def Frz(w0:Base)(ρ:Rho)(k o:Nat):Prop:=w0.F k o∨∃ b nm v,ρ b=some nm∧nm.K.K k o=some v
structure Exs (w0:Base) (ro:Nat) (ρ:Rho) (mem:List (Nat×AV)) (w:World):Prop where
 froz:∀ b nm,ρ b=some nm→∀ k o v,nm.K.K k o=some v→w.cell? ⟨k,o,none⟩=some v
 fhs:∀ b nm,ρ b=some nm→nm.K.hs≤w.heap.size
 org:∀ b nm,ρ b=some nm→∀ k o v,nm.K.K k o=some v→w0.own k∨w0.F k o
 away:∀ b T nm,lk b mem=some T→ρ b=some nm→ro≤b→nm.non=false→∀ k o,Frz w0 ρ k o→k=nm.blk→isDc T=true∧o<nm.K.fc
 nas:∀ b T nm,lk b mem=some T→ρ b=some nm→ro≤b→nm.K.na=none
 its:∀ b s p,lk b mem=some (.itr s p)→∃ nm,ρ b=some nm∧w.heap[nm.blk]? =some (.stringIter s p)∧w0.own nm.blk
 ita:∀ b s p nm,lk b mem=some (.itr s p)→ρ b=some nm→∀ b' T nm',lk b' mem=some T→ρ b'=some nm'→ro≤b'→nm'.non=false→nm.blk≠nm'.blk
 itd:∀ b b' s s' p p' nm nm',lk b mem=some (.itr s p)→lk b' mem=some (.itr s' p')→ρ b=some nm→ρ b'=some nm'→b≠b'→nm.blk≠nm'.blk
theorem Exs.ren{w0:Base}{ro:Nat}{ρ ρ':Rho}{mem mem':List (Nat×AV)}{w:World}(E:Exs w0 ro ρ mem w){src:Nat→Option Nat}(hv:∀ b nm,ρ' b=some nm→(∃ c,ρ c=some nm)∨nm.K=nk)
  (hm:∀ b T,lk b mem'=some T→(∃ c T0,src b=some c∧lk c mem=some T0∧ρ' b=ρ c∧(ro≤b→ro≤c)∧(T=T0∨((∀ s p,T≠ .itr s p)∧isDc T=isDc T0)))∨((∀ s p,T≠ .itr s p)∧∃ nm,ρ' b=some nm∧nm.non=true∧nm.K=nk))
  (hi:∀ b b' T T' c,lk b mem'=some T→lk b' mem'=some T'→src b=some c→src b'=some c→b=b'):Exs w0 ro ρ' mem' w:=by
 have itr:∀ b s p,lk b mem'=some (.itr s p)→∃ c,src b=some c∧lk c mem=some (.itr s p)∧ρ' b=ρ c:=by
  intro b s p h;rcases hm b _ h with⟨c,T0,h0,h1,h2,-,h3⟩|⟨h1,-⟩
  ·rcases h3 with rfl|⟨h3,-⟩
   ·exact⟨c,h0,h1,h2⟩
   ·exact absurd rfl (h3 s p)
  ·exact absurd rfl (h1 s p)
 have row:∀ b T nm,lk b mem'=some T→ρ' b=some nm→ro≤b→nm.non=false→∃ c T0,lk c mem=some T0∧ρ c=some nm∧ro≤c∧isDc T=isDc T0:=by
  intro b T nm h hb hr hn;rcases hm b T h with⟨c,T0,-,h1,h2,h3,h4⟩|⟨-,nm',h1,h2,-⟩
  ·exact⟨c,T0,h1,by rw[← h2];exact hb,h3 hr,h4.elim (fun e=>by rw[e]) (·.2)⟩
  ·rw[hb] at h1;obtain rfl:=oI h1;rw[hn] at h2;cases h2
 refine⟨?_,?_,?_,?_,?_,?_,?_,?_⟩
 ·intro b nm hb k o v hk;rcases hv b nm hb with⟨c,hc⟩|h
  ·exact E.froz c nm hc k o v hk
  ·rw[h] at hk;simp[nk] at hk
 ·intro b nm hb;rcases hv b nm hb with⟨c,hc⟩|h
  ·exact E.fhs c nm hc
  ·rw[h];exact Nat.zero_le _
 ·intro b nm hb k o v hk;rcases hv b nm hb with⟨c,hc⟩|h
  ·exact E.org c nm hc k o v hk
  ·rw[h] at hk;simp[nk] at hk
 ·intro b T nm hT hb hr hn k o hf hk;obtain⟨c,T0,h1,h2,h3,h4⟩:=row b T nm hT hb hr hn;rw[h4];refine E.away c T0 nm h1 h2 h3 hn k o ?_ hk;rcases hf with hf|⟨b',nm',v,hb',hv'⟩
  ·exact .inl hf
  ·rcases hv b' nm' hb' with⟨c',hc'⟩|h
   ·exact .inr ⟨c',nm',v,hc',hv'⟩
   ·rw[h] at hv';simp[nk] at hv'
 ·intro b T nm hT hb hr;rcases hm b T hT with⟨c,T0,-,h1,h2,h3,-⟩|⟨-,nm',h1,-,h3⟩
  ·exact E.nas c T0 nm h1 (by rw[← h2];exact hb) (h3 hr)
  ·rw[hb] at h1;rw[oI h1,h3];rfl
 ·intro b s p h;obtain⟨c,-,h1,h2⟩:=itr b s p h;obtain⟨nm,g1,g2⟩:=E.its c s p h1;exact⟨nm,by rw[h2];exact g1,g2⟩
 ·intro b s p nm h hb b' T nm' hT hb' hr hn;obtain⟨c,-,h1,h2⟩:=itr b s p h;obtain⟨c',T0,k1,k2,k3,-⟩:=row b' T nm' hT hb' hr hn;exact E.ita c s p nm h1 (by rw[← h2];exact hb) c' T0 nm' k1 k2 k3 hn
 ·intro b b' s s' p p' nm nm' h h' hb hb' hne;obtain⟨c,h0,h1,h2⟩:=itr b s p h;obtain⟨c',k0,k1,k2⟩:=itr b' s' p' h';exact E.itd c c' s s' p p' nm nm' h1 k1 (by rw[← h2];exact hb) (by rw[← k2];exact hb') (fun e=>hne (hi b b' _ _ c h h' h0 (by rw[e];exact k0)))
theorem Exs.sub{w0:Base}{ro:Nat}{ρ:Rho}{mem mem':List (Nat×AV)}{w:World}(E:Exs w0 ro ρ mem w)(h:∀ b T,lk b mem'=some T→lk b mem=some T):Exs w0 ro ρ mem' w:=
 E.ren (src:=some) (fun b _ hb=>.inl ⟨b,hb⟩) (fun b T hT=>.inl ⟨b,T,rfl,h b T hT,rfl,id,.inl rfl⟩) (fun b b' _ _ c _ _ h1 h2=>by rw[oI h1,oI h2])
theorem Exs.cast{w0:Base}{ro:Nat}{ρ:Rho}{mem:List (Nat×AV)}{w w':World}(E:Exs w0 ro ρ mem w)(h:w'.heap=w.heap):Exs w0 ro ρ mem w':=
 ⟨fun b nm hb k o v hk=>by rw[World.cell?_of_block (w:=w) (by rw[h])];exact E.froz b nm hb k o v hk,fun b nm hb=>by rw[h];exact E.fhs b nm hb,E.org,E.away,E.nas,fun b s p hb=>by rw[h];exact E.its b s p hb,E.ita,E.itd⟩
structure Sim (P:Program) (w0:Base) (ro:Nat) (ρ:Rho) (tm mem:List (Nat×AV)) (tmps:Array Value) (w:World):Prop where
 slot:∀ d v,lk d tm=some v→d<tmps.size∧tmps.getD d undef=den P ρ v∧OK P ρ v
 cell:∀ b T,lk b mem=some T→∃ nm,ρ b=some nm∧HasN P nm T∧OK P ρ T∧((nm.non=false∧nm.blk<w.heap.size)∨(nm.non=true∧cells P ρ T=[]))∧(∀ j x,(cells P ρ T)[j]? =some x→w.cell? ⟨nm.blk,nm.off+j,none⟩=some x)
 own:∀ b T nm,lk b mem=some T→ρ b=some nm→ro≤b→(nm.non=false→w0.own nm.blk)∧(∀ j,j<(cells P ρ T).length→w.frozen? ⟨nm.blk,nm.off+j,none⟩=false)
 apart:∀ b b' T T' nm nm',lk b mem=some T→lk b' mem=some T'→ρ b=some nm→ρ b'=some nm'→ro≤b→b≠b'→nm.non=false→nm'.non=false→nm.blk≠nm'.blk
 rows:∀ b T nm,lk b mem=some T→ρ b=some nm→ro≤b→nm.row=true→nm.non=true∨RowB P nm w
 below:Kept w0 w
 ex:Exs w0 ro ρ mem w
def GL(P:Program)(ρ:Rho)(gl:Nat→Option AV):Prop:=∀ g v,gl g=some v→den P ρ v= .pointer (some ⟨g,0,none⟩)∧OK P ρ v
theorem GL.ext{P:Program}{ρ ρ':Rho}{gl:Nat→Option AV}(h:GL P ρ gl)(e:Ext ρ ρ'):GL P ρ' gl:=fun g v hg=>by
 obtain⟨a,b⟩:=h g v hg;obtain⟨c,d⟩:=Zcm P e v b;exact⟨c.trans a,d⟩
def upd(ρ:Rho)(m:Nat)(nm:Nm):Rho:=fun b=>if b=m then some nm else ρ b
theorem ZzJ{ρ:Rho}{m:Nat}(h:ρ m=none)(nm:Nm):Ext ρ (upd ρ m nm):=fun b n hb=>by
 unfold upd;split
 ·rename_i e;subst e;rw[h] at hb;simp at hb
 ·exact hb
inductive After (P:Program) (ro:Nat) (ρ:Rho) (mem:List (Nat×AV)) (w:World) (m:Nat):Eff→Value→Rho→World→Prop
 |val (u:AV) (w':World):OK P ρ u→Below w.heap.size w w'→After P ro ρ mem w m (.val u) (den P ρ u) ρ w'
 |new (ty:TypeId) (row:Bool) (cap:Nat) (T:AV) (g:Nat→AV):row=false→HasN P ⟨w.heap.size,0,cap,ty,row,cap,false,nk⟩ T→OK P ρ T→OK P (upd ρ m ⟨w.heap.size,0,cap,ty,row,cap,false,nk⟩) (g m)→
   After P ro ρ mem w m (.new ty row cap T g) (den P (upd ρ m ⟨w.heap.size,0,cap,ty,row,cap,false,nk⟩) (g m)) (upd ρ m ⟨w.heap.size,0,cap,ty,row,cap,false,nk⟩) (w.alloc (.cells (cells P ρ T).toArray ty))
 |upd (b:Nat) (T T0:AV) (nm:Nm) (as old bs xs:List Value):ro≤b→ρ b=some nm→lk b mem=some T0→((∀ s p,T≠ .itr s p)∧isDc T0=false∧isDc T=false)→HasN P nm T→OK P ρ T→cells P ρ T0=as++(old++bs)→cells P ρ T=as++(xs++bs)→xs.length=old.length→
   After P ro ρ mem w m (.upd b T) undef ρ (w.setCells nm.blk (nm.off+as.length) xs)
 |grow (b:Option Nat) (T:AV) (g:Nat→AV) (nm:Nm) (w':World):HasN P nm T→OK P ρ T→OK P (upd ρ m nm) (g m)→nm.row=true→(nm.K=nk∧(∀ s p,T≠ .itr s p)∧isDc T=false)→(nm.non=true→cells P ρ T=[])→
   (nm.non=false→RowB P nm w'∧∀ j x,(cells P ρ T)[j]? =some x→w'.cell? ⟨nm.blk,nm.off+j,none⟩=some x)→
   (w.heap.size≤nm.blk∨∃ b0 nm0 T0,b=some b0∧ρ b0=some nm0∧lk b0 mem=some T0∧ro≤b0∧nm0.non=false∧nm.blk=nm0.blk)→
   (w'.os=w.os∧w'.tape=w.tape∧w'.output=w.output∧w.heap.size≤w'.heap.size)→
   (∀ k,k<w.heap.size→(∀ b0 nm0,b=some b0→ρ b0=some nm0→nm0.non=false→k≠nm0.blk)→w'.heap[k]? =w.heap[k]?)→
   (∀ b0,b=some b0→ro≤b0∧∃ T0,lk b0 mem=some T0∧isDc T0=false)→
   After P ro ρ mem w m (.grow b T g) (den P (upd ρ m nm) (g m)) (upd ρ m nm) w'
 |growF (b:Option Nat) (d0:Dc) (g:Nat→AV) (nm:Nm) (w':World):OK P (upd ρ m nm) (g m)→nm.row=true→nm.cap=0→nm.K.fc=nm.K.fz*P.cellsOf nm.ty→nm.K.na=none→(nm.non=false→RowB P nm w')→
   (nm.non=true∨w.heap.size≤nm.blk∨∃ b0 nm0 T0,b=some b0∧ρ b0=some nm0∧lk b0 mem=some T0∧ro≤b0∧nm0.non=false∧nm.blk=nm0.blk)→
   (w'.os=w.os∧w'.tape=w.tape∧w'.output=w.output∧w.heap.size≤w'.heap.size)→
   (∀ k,k<w.heap.size→(∀ b0 nm0,b=some b0→ρ b0=some nm0→nm0.non=false→k≠nm0.blk)→w'.heap[k]? =w.heap[k]?)→
   (∀ b0,b=some b0→ro≤b0∧∃ T0,lk b0 mem=some T0∧isDc T0=true)→
   (∀ b0 nm0,b=some b0→ρ b0=some nm0→nm0.non=false→(nm.non=false→nm.blk=nm0.blk→nm0.K.fc≤nm.K.fc)∧∀ o v,o<nm0.K.fc→w.cell? ⟨nm0.blk,o,none⟩=some v→w'.cell? ⟨nm0.blk,o,none⟩=some v)→
   nm.K.hs≤w'.heap.size→(∀ k o v,nm.K.K k o=some v→w'.cell? ⟨k,o,none⟩=some v∧((∃ b1 nm1 v1,ρ b1=some nm1∧nm1.K.K k o=some v1)∨(nm.non=false∧k=nm.blk∧o<nm.K.fc)))→
   After P ro ρ mem w m (.grow b (.dc d0 []) g) (den P (upd ρ m nm) (g m)) (upd ρ m nm) w'
theorem ZBO(k:IntKind)(n:Int):k.min≤k.wrap n∧k.wrap n≤k.max:=by
 cases k<;>simp[IntKind.min,IntKind.max,IntKind.wrap,IntKind.signed,IntKind.bits]<;>(try split)<;>omega
theorem Zz3(P:Program)(ρ:Rho)(c:Value)(v:AV)(h:ofV c=some v):den P ρ v=c∧OK P ρ v:=by
 unfold ofV at h;split at h
 ·rename_i k n;cases hr:inR k n<;>rw[hr] at h<;>simp at h;subst h;exact⟨rfl,by simpa [OK,inR] using hr⟩
 ·simp at h;subst h;exact⟨by simp[den],by simp[OK]⟩
 ·rename_i s;cases hr:inR .i64 s.size<;>rw[hr] at h<;>simp at h;subst h;refine⟨by simp[den],?_⟩;simp only[inR,decide_eq_true_eq] at hr;exact hr.2
 all_goals (simp at h;try (subst h;exact⟨by simp[den],by simp[OK]⟩))
theorem Zay{P:Program}{w0:Base}{ro:Nat}{ρ:Rho}{tm mem:List (Nat×AV)}{a:Act}{w:World}(S:Sim P w0 ro ρ tm mem a.tmps w)
  {gl:Nat→Option AV} (hgl:GL P ρ gl) {x:Operand} {v:AV} (h:evO gl tm x=some v):a.eval x=den P ρ v∧OK P ρ v:=by
 cases x with
 |tmp t=>exact(S.slot t v h).2
 |const c=>
  obtain⟨h1,h2⟩:=Zz3 P ρ c v h;exact⟨h1.symm,h2⟩
 |global g=>
  obtain⟨h1,h2⟩:=hgl g v h;exact⟨h1.symm,h2⟩
 |func f=>
  simp only[evO,oE] at h;subst h;exact⟨by simp[Act.eval,den,denT],by simp[OK,OKL]⟩
theorem Zyh{P:Program}{t:TypeId}{d:TypeDesc}(h:P.underlying t=some d):∃ i,P.info? t=some i∧P.cellsOf t=i.size:=by
 unfold Program.underlying at h;cases hi:P.info? t with
 |none=>rw[hi] at h;simp at h
 |some i=>exact⟨i,rfl,by simp[Program.cellsOf,hi]⟩
theorem Zpe{P:Program}{t:TypeId}{d:TypeDesc}(h:P.underlying t=some d)(w:World):(sizeOf t).run P w= .ok (P.cellsOf t) w:=by
 obtain⟨i,h1,h2⟩:=Zyh h;simp[sizeOf,typeInfo,h1,h2]
def wideD:TypeDesc→Bool
 | .struct _=>true
 | .array _ _=>true
 |_=>false
theorem Zyg{P:Program}{t:TypeId}{d:TypeDesc}(h:P.underlying t=some d)(w:World):(isAgg t).run P w= .ok (wideD d) w:=by
 unfold isAgg;rw[Sem.run_bind,run_underlying h];cases d<;>simp[wideD]
theorem ZiF{P:Program}{v:AV}{t:TypeId}(h:Has P v t):∃ d,P.underlying t=some d∧wideD d=wide v:=by
 cases v<;>simp only[Has] at h
 case ints k n l=>obtain⟨e,h,-⟩:=h;exact⟨_,h,rfl⟩
 case agg l=>rcases h with⟨fs,h,-⟩|⟨n,e,h,-⟩<;>exact⟨_,h,rfl⟩
 case rows n f=>obtain⟨e,h,-⟩:=h;exact⟨_,h,rfl⟩
 all_goals first
  |(obtain⟨⟨e',h⟩,-⟩:=h;exact⟨_,h,rfl⟩)
  |(obtain⟨⟨a,b,c,h⟩,-⟩:=h;exact⟨_,h,rfl⟩)
  |(obtain⟨h,-⟩:=h;exact⟨_,h,rfl⟩)
theorem Zuq(P:Program)(ρ:Rho)(v:AV)(h:wide v=true):den P ρ v= .agg (cells P ρ v).toArray:=by
 cases v<;>simp[wide] at h<;>simp[cells,den,Value.cells]
theorem ZA2(P:Program)(ρ:Rho)(v:AV)(t:TypeId)(hv:Has P v t)(h:wide v=false):cells P ρ v=[den P ρ v]:=by
 cases v<;>simp[wide] at h<;>try (simp[cells,den,Value.cells];done)
 all_goals try (simp only[Has] at hv)
 case ptr b _ _=>cases hb:ρ b<;>simp[cells,den,Value.cells,hb]
 case sl b _ _ _ _ _=>cases hb:ρ b<;>simp[cells,den,Value.cells,hb]
 case pa b _ _ _ _=>cases hb:ρ b<;>simp[cells,den,Value.cells,hb]
 case gs b _ _=>
  cases hb:ρ b with
  |none=>simp[cells,den,Value.cells,hb]
  |some nm=>cases hn:nm.non<;>simp[cells,den,gsV,Value.cells,hb,hn]
 case gp b _ _ _ _ _=>
  cases hb:ρ b with
  |none=>simp[cells,den,Value.cells,hb]
  |some nm=>cases hn:nm.non<;>simp[cells,den,gpV,Value.cells,hb,hn]
 case dv b p _ _ _=>
  cases hb:ρ b with
  |none=>simp[cells,den,Value.cells,hb]
  |some nm=>cases hn:dloc nm.K (nmL nm) p<;>simp[cells,den,dvV,Value.cells,hb,hn]
 case dq b p _ _ _ _=>
  cases hb:ρ b with
  |none=>simp[cells,den,Value.cells,hb]
  |some nm=>cases hn:dloc nm.K (nmL nm) p<;>simp[cells,den,dqV,Value.cells,hb,hn]
theorem ZbG(b o j:Nat):(⟨b,o,none⟩:Addr).add j=⟨b,o+j,none⟩:=by unfold Addr.add;split<;>simp_all
theorem Zqt{P:Program}{ρ:Rho}{w:World}{v:AV}{t:TypeId}(hv:Has P v t)(ok:OK P ρ v)(b o:Nat)
  (hc:∀ j x,(cells P ρ v)[j]? =some x→w.cell? ⟨b,o+j,none⟩=some x):(loadVar t ⟨b,o,none⟩).run P w= .ok (den P ρ v) w:=by
 obtain⟨d,hd,hw⟩:=ZiF hv;unfold loadVar;rw[Sem.run_bind,Zyg hd,hw];cases hwv:wide v with
 |true=>
  have h1:=run_loadCells_list (P:=P) w ⟨b,o,none⟩ (cells P ρ v) (fun j x hx=>by rw[ZbG];exact hc j x hx);rw[ZcG P ρ v t hv ok] at h1;simp[Zpe hd,h1,Zuq P ρ v hwv]
 |false=>
  have h1:=ZA2 P ρ v t hv hwv;have h2:=hc 0 (den P ρ v) (by simp[h1]);simp only[Nat.add_zero] at h2;simp[h2]
theorem ZBP{P:Program}{ρ:Rho}{w:World}{v:AV}{t:TypeId}(hv:Has P v t)(ok:OK P ρ v)(b o:Nat)
  (hc:∀ j,j<(cells P ρ v).length→(w.cell? ⟨b,o+j,none⟩).isSome=true) (hf:∀ j,j<(cells P ρ v).length→w.frozen? ⟨b,o+j,none⟩=false):
  (storeVar t ⟨b,o,none⟩ (den P ρ v)).run P w= .ok () (w.setCells b o (cells P ρ v)):=by
 obtain⟨d,hd,-⟩:=ZiF hv;have hl:=ZcG P ρ v t hv ok;have hl':(den P ρ v).cells.size=P.cellsOf t:=by rw[← hl];simp[cells]
 unfold storeVar;rw[Sem.run_bind,Zpe hd];have h1:=run_storeCells_cells (P:=P) b o (cells P ρ v) 0 w (by simpa using hc) (by simpa using hf) (Zt0 P ρ v t hv);simp only[Nat.add_zero] at h1;have h2:(storeCells ⟨b,o,none⟩ (den P ρ v).cells.toList).run P w= .ok () (w.setCells b o (cells P ρ v)):=h1;simp[hl',h2]
theorem Zr5(P:Program):(p:List Nat)→(t:TypeId)→(o:Nat)→(e:TypeId)→pathT P t p=some (o,e)→(i o':Nat)→(u:TypeId)→stepT P e i=some (o',u)→
  pathT P t (p++[i])=some (o+o',u)
 | [],t,o,e,h,i,o',u,hs=>by
  simp only[pathT,oE,pE] at h;obtain⟨rfl,rfl⟩:=h;simp[pathT,hs]
 |j::p,t,o,e,h,i,o',u,hs=>by
  simp only[pathT] at h;split at h
  ·rename_i o1 e1 h1;split at h
   ·rename_i o2 e2 h2;simp only[oE,pE] at h;obtain⟨rfl,rfl⟩:=h;simp[pathT,h1,Zr5 P p e1 o2 e2 h2 i o' u hs,Nat.add_assoc]
   ·simp at h
  ·simp at h
theorem ZA3{P:Program}{nm:Nm}{p:List Nat}{o:Nat}{e:TypeId}(h:pathN P nm p=some (o,e)){i o':Nat}{u:TypeId}(hs:stepT P e i=some (o',u)):
  pathN P nm (p++[i])=some (o+o',u):=by
 unfold pathN at h ⊢;split
 ·rename_i hr;rw[if_pos hr] at h;cases p with
  |nil=>simp at h
  |cons j q=>
   simp only at h;simp only[List.cons_append];split at h
   ·rename_i hj;rw[if_pos hj];split at h
    ·rename_i o1 u1 h1;simp only[oE,pE] at h;obtain⟨rfl,rfl⟩:=h;simp[Zr5 P q nm.ty o1 u1 h1 i o' u hs,Nat.add_assoc]
    ·simp at h
   ·simp at h
 ·rename_i hr;rw[if_neg hr] at h;exact Zr5 P p nm.ty o e h i o' u hs
theorem Zxm{P:Program}{t e:TypeId}{n i:Nat}(h:P.underlying t=some (.array n e))(hi:i<n):stepT P t i=some (i*P.cellsOf e,e):=by
 simp[stepT,h,hi]
theorem ZGB{P:Program}{nm:Nm}{p:List Nat}{o n:Nat}{e:TypeId}(h:baseN P nm p=some (o,n,e)){i:Nat}(hi:i<n):
  pathN P nm (p++[i])=some (o+i*P.cellsOf e,e):=by
 unfold baseN at h;unfold pathN;split
 ·rename_i hr;rw[if_pos hr] at h;cases p with
  |nil=>
   simp only[oE,pE] at h;obtain⟨rfl,rfl,rfl⟩:=h;simp[hi,pathT]
  |cons j q=>
   simp only at h;simp only[List.cons_append];split at h
   ·rename_i hj;rw[if_pos hj];split at h
    ·rename_i o1 u1 h1;split at h
     ·rename_i n' e' hu;simp only[oE,pE] at h;obtain⟨rfl,rfl,rfl⟩:=h;simp[Zr5 P q nm.ty o1 u1 h1 i _ _ (Zxm hu hi),Nat.add_assoc]
     ·simp at h
    ·simp at h
   ·simp at h
 ·rename_i hr;rw[if_neg hr] at h;split at h
  ·rename_i o1 u1 h1;split at h
   ·rename_i n' e' hu;simp only[oE,pE] at h;obtain⟨rfl,rfl,rfl⟩:=h;exact Zr5 P p nm.ty o1 u1 h1 i _ _ (Zxm hu hi)
   ·simp at h
  ·simp at h
theorem ZC0{P:Program}{nm:Nm}{p:List Nat}{o n:Nat}{t e:TypeId}(h:pathN P nm p=some (o,t))(hu:P.underlying t=some (.array n e)):
  baseN P nm p=some (o,n,e):=by
 unfold pathN at h;unfold baseN;split
 ·rename_i hr;rw[if_pos hr] at h;cases p with
  |nil=>simp at h
  |cons j q=>
   simp only at h ⊢;split at h
   ·rename_i hj;rw[if_pos hj];split at h
    ·rename_i o1 u1 h1;simp only[oE,pE] at h;obtain⟨rfl,rfl⟩:=h;simp[hu]
    ·simp at h
   ·simp at h
 ·rename_i hr;rw[if_neg hr] at h;simp[h,hu]
theorem Zhs{P:Program}{ρ:Rho}{b:Nat}{p:List Nat}{t:TypeId}{nm:Nm}{o:Nat}(hb:ρ b=some nm)(hp:pathN P nm p=some (o,t)):
  den P ρ (.ptr b p t)= .pointer (some ⟨nm.blk,nm.off+o,none⟩):=by simp[den,hb,hp]
theorem Zqv{P:Program}{ρ:Rho}{b:Nat}{p:List Nat}{t:TypeId}{nm:Nm}{o n off len cap:Nat}(hb:ρ b=some nm)(hp:baseN P nm p=some (o,n,t)):
  den P ρ (.sl b p off len cap t)= .slice (some ⟨nm.blk,nm.off+(o+off*P.cellsOf t),none⟩) len cap:=by simp[den,hb,hp]
theorem ZGC{P:Program}{ρ:Rho}{b:Nat}{p:List Nat}{t:TypeId}{nm:Nm}{o m off n:Nat}(hb:ρ b=some nm)(hp:baseN P nm p=some (o,m,t)):
  den P ρ (.pa b p off n t)= .pointer (some ⟨nm.blk,nm.off+(o+off*P.cellsOf t),none⟩):=by simp[den,hb,hp]
end Go.Vx
namespace Go.Vx
open Go Go.RowKit
theorem ZmU{a b:IntKind}(h:kEq a b=true):a=b:=by
 have h:=Zaj h
 revert h
 cases a<;>cases b<;>simp[kix]
theorem Zac{α:Type}{b:Bool}{x:Option α}{r:α}(h:cond b x none=some r):b=true∧x=some r:=by cases b<;>simp_all
theorem Zya{α:Type}{b:Bool}{x:Option α}{r:α}(h:cond b none x=some r):b=false∧x=some r:=by cases b<;>simp_all
theorem ZbW{α β:Type}{x:Option α}{k:α→Option β}{r:β}(h:mo x none k=some r):∃ a,x=some a∧k a=some r:=by
 cases x with
 |none=>simp[mo] at h
 |some a=>exact⟨a,rfl,h⟩
theorem Zx4{P:Program}{ρ:Rho}:{l:List AV}→OKL P ρ l→{i:Nat}→{v:AV}→l[i]? =some v→OK P ρ v
 | [],_,_,_,h=>by simp at h
 |u::l,ok,0,v,h=>by simp only[OKL] at ok;simp at h;subst h;exact ok.1
 |u::l,ok,i+1,v,h=>by simp only[OKL] at ok;exact Zx4 ok.2 (by simpa using h)
theorem Zxb{P:Program}{ρ:Rho}:{l:List AV}→{i:Nat}→{v:AV}→l[i]? =some v→(denT P ρ l)[i]? =some (den P ρ v)
 | [],_,_,h=>by simp at h
 |u::l,0,v,h=>by simp at h;subst h;simp[denT]
 |u::l,i+1,v,h=>by simp[denT];exact Zxb (by simpa using h)
section
variable {P:Program} {w0:Base} {ro:Nat} {ρ:Rho} {tm mem:List (Nat×AV)} {a:Act} {w:World} (S:Sim P w0 ro ρ tm mem a.tmps w)
 {gl:Nat→Option AV} (hgl:GL P ρ gl)
include S hgl
theorem ZeB:{l:List Operand}→{vs:List AV}→evL (evO gl tm) l=some vs→l.map a.eval=denT P ρ vs∧OKL P ρ vs
 | [],vs,h=>by simp only[evL,oE] at h;subst h;simp[denT,OKL]
 |x::l,vs,h=>by
  simp only[evL] at h;split at h
  ·rename_i v hv;split at h
   ·rename_i r hr;simp only[oE] at h;subst h;obtain⟨h1,h2⟩:=Zay S hgl hv;obtain⟨h3,h4⟩:=ZeB hr;exact⟨by simp[denT,h1,h3],by simp[OKL,h2,h4]⟩
   ·simp at h
  ·simp at h
theorem ZC5:{l:List (Nat×Operand)}→{vs:List (Nat×AV)}→evP (evO gl tm) l=some vs→l.map (fun x=>(x.1,a.eval x.2))=vs.map (fun x=>(x.1,den P ρ x.2))∧∀ x∈vs,OK P ρ x.2
 | [],vs,h=>by simp only[evP,oE] at h;subst h;simp
 |(i,x)::l,vs,h=>by
  simp only[evP] at h;split at h
  ·rename_i v hv;split at h
   ·rename_i r hr;simp only[oE] at h;subst h;obtain⟨h1,h2⟩:=Zay S hgl hv;obtain⟨h3,h4⟩:=ZC5 hr;refine⟨by simp[h1,h3],fun y hy=>?_⟩;rcases List.mem_cons.1 hy with rfl|hy
    ·exact h2
    ·exact h4 y hy
   ·simp at h
  ·simp at h
end
theorem Zz4(P:Program)(ρ:Rho)(k:IntKind):(n:Nat)→(cs:List Value)→(r:List Int×List Value)→takeI k n cs=some r→
  cs=r.1.map (Value.int k)++r.2∧r.1.length=n∧∀ x∈r.1,k.min≤x∧x≤k.max
 |0,cs,r,h=>by simp only[takeI,oE] at h;subst h;simp
 |n+1,[],r,h=>by simp[takeI] at h
 |n+1,c::cs,r,h=>by
  cases c with
  |int k' x=>
   rw[takeI] at h;replace h:=Zac h;obtain⟨hb,h⟩:=h;simp only[bA] at hb;have hk:=ZmU hb.1;subst hk;split at h
   ·rename_i q hq;simp only[oE] at h;subst h;obtain⟨a,b,c⟩:=Zz4 P ρ k n cs q hq;refine⟨by simp[← a],by simp[b],fun y hy=>?_⟩;rcases List.mem_cons.1 hy with rfl|hy
    ·simpa [inR] using hb.2
    ·exact c y hy
   ·simp at h
  |_=>simp[takeI] at h
theorem ZC6(P:Program)(ρ:Rho)(p:List Value→Option (AV×List Value))(hp:∀ cs r,p cs=some r→cs=cells P ρ r.1++r.2∧OK P ρ r.1):
  (n:Nat)→(cs:List Value)→(q:List AV×List Value)→goN p n cs=some q→cs=denC P ρ q.1++q.2∧OKL P ρ q.1
 |0,cs,q,h=>by simp only[goN,oE] at h;subst h;simp[denC,OKL]
 |n+1,cs,q,h=>by
  simp only[goN] at h;split at h
  ·rename_i r hr;split at h
   ·rename_i q' hq;simp only[oE] at h;subst h;obtain⟨h1,h2⟩:=hp cs r hr;obtain⟨h3,h4⟩:=ZC6 P ρ p hp n r.2 q' hq;exact⟨by rw[ZcE,List.append_assoc,← h3];exact h1,by simp[OKL,h2,h4]⟩
   ·simp at h
  ·simp at h
theorem ZC7(P:Program)(ρ:Rho)(p:TypeId→List Value→Option (AV×List Value))(hp:∀ t cs r,p t cs=some r→cs=cells P ρ r.1++r.2∧OK P ρ r.1):
  (fs:List Field)→(cs:List Value)→(q:List AV×List Value)→goF p fs cs=some q→cs=denC P ρ q.1++q.2∧OKL P ρ q.1
 | [],cs,q,h=>by simp only[goF,oE] at h;subst h;simp[denC,OKL]
 |f::fs,cs,q,h=>by
  simp only[goF] at h;split at h
  ·rename_i r hr;split at h
   ·rename_i q' hq;simp only[oE] at h;subst h;obtain⟨h1,h2⟩:=hp _ cs r hr;obtain⟨h3,h4⟩:=ZC7 P ρ p hp fs r.2 q' hq;exact⟨by rw[ZcE,List.append_assoc,← h3];exact h1,by simp[OKL,h2,h4]⟩
   ·simp at h
  ·simp at h
theorem ZGD(P:Program)(ρ:Rho)(c:Value)(v:AV)(h:ofV c=some v):cells P ρ v=[c]:=by
 obtain⟨h1,-⟩:=Zz3 P ρ c v h;unfold cells;rw[h1];unfold ofV at h;split at h<;>simp[Value.cells]<;>simp at h
theorem ZvZ(P:Program)(ρ:Rho):(d:Nat)→(t:TypeId)→(cs:List Value)→(r:AV×List Value)→parse P d t cs=some r→cs=cells P ρ r.1++r.2∧OK P ρ r.1
 |0,_,_,_,h=>by simp[parse] at h
 |d+1,t,cs,r,h=>by
  unfold parse at h;split at h
  ·split at h
   ·split at h
    ·rename_i q hq;simp only[oE] at h;subst h;obtain⟨a,b,c⟩:=Zz4 P ρ _ _ _ _ hq;exact⟨by rw[ZaZ];exact a,by simp only[OK];exact⟨b,c⟩⟩
    ·simp at h
   ·split at h
    ·rename_i q hq;simp only[oE] at h;subst h;obtain⟨a,b⟩:=ZC6 P ρ _ (ZvZ P ρ d _) _ _ _ hq;exact⟨by rw[Zcs];exact a,by simp only[OK];exact b⟩
    ·simp at h
  ·split at h
   ·rename_i q hq;simp only[oE] at h;subst h;obtain⟨a,b⟩:=ZC7 P ρ _ (ZvZ P ρ d) _ _ _ hq;exact⟨by rw[Zcs];exact a,by simp only[OK];exact b⟩
   ·simp at h
  ·split at h
   ·split at h
    ·rename_i v hv;simp only[oE] at h;subst h;exact⟨by rw[ZGD P ρ _ _ hv];rfl,(Zz3 P ρ _ _ hv).2⟩
    ·simp at h
   ·simp at h
theorem Zup{P:Program}{t:TypeId}{z:AV}(h:zeroAV P t=some z)(ρ:Rho):
  ∃ i v,P.info? t=some i∧i.zero=some v∧(∀ w:World,(zeroValue t).run P w= .ok v w)∧v.cells.toList=cells P ρ z∧Has P z t∧OK P ρ z:=by
 unfold zeroAV at h;split at h
 ·rename_i i hi;split at h
  ·rename_i v hv;split at h
   ·rename_i r hr;split at h
    ·rename_i hr2;replace h:=Zac h;obtain⟨hc,h⟩:=h;simp only[oE] at h;subst h;obtain⟨a,b⟩:=ZvZ P ρ _ _ _ _ hr;rw[hr2,List.append_nil] at a;exact⟨i,v,hi,hv,fun w=>by simp[zeroValue,typeInfo,hi,hv],a,ZcF P _ _ hc,b⟩
    ·simp at h
   ·simp at h
  ·simp at h
 ·simp at h
theorem Zo7{P:Program}{next:Act→World→Prop}{Q:Exit→Act→World→Prop}{o:Oper}{a:Act}{w w':World}{v:Value}
  (h:(execOp a.eval o).run P w= .ok (.value v) w') (hn:next (a.put o.dst v) w'):o.wp P a w next Q:=by
 unfold Oper.wp;rw[h];exact hn
theorem ZH7{P:Program}{next:Act→World→Prop}{Q:Exit→Act→World→Prop}{o:Oper}{a:Act}{w w':World}
  (h:(execOp a.eval o).run P w= .ok .skip w') (hn:next (a.put o.dst undef) w'):o.wp P a w next Q:=by
 unfold Oper.wp;rw[h];exact hn
end Go.Vx
namespace Go.Vx
open Go Go.RowKit
theorem ZH8:(xs:List Value)→(as old bs:List Value)→xs.length=old.length→(k:Nat)→
  (xs.zipIdx k).foldl (fun(cs:Array Value) (p:Value×Nat)=>cs.setIfInBounds (as.length-k+p.2) p.1) (as++(old++bs)).toArray=(as++(xs++bs)).toArray∨k>as.length
 |xs,as,old,bs,h,k=>by
  rcases Nat.lt_or_ge as.length k with hk|hk
  ·exact .inr hk
  ·left
   induction xs generalizing as old k with
   |nil=>cases old with
    |nil=>rfl
    |cons=>simp at h
   |cons x xs ih=>cases old with
    |nil=>simp at h
    |cons y old=>
     simp only[List.zipIdx_cons,List.foldl_cons];have e:(as++(y::old++bs)).toArray.setIfInBounds (as.length-k+k) x=((as++[x])++(old++bs)).toArray:=by
      rw[show as.length-k+k=as.length by omega];simp
     rw[e];have:=ih (as++[x]) old (by simpa using h) (k+1) (by simp;omega);rw[show (as++[x]).length-(k+1)=as.length-k by simp] at this;rw[this];simp
theorem ZH9(as old bs xs:List Value)(h:xs.length=old.length)(v:Value)(hv:v.cells.toList=xs):
  v.cells.zipIdx.foldl (fun(cs:Array Value) (p:Value×Nat)=>cs.setIfInBounds (as.length+p.2) p.1) (as++(old++bs)).toArray=(as++(xs++bs)).toArray:=by
 have:=ZH8 xs as old bs h 0;rcases this with this|this
 ·rw[← this,← Array.foldl_toList];simp[hv]
 ·omega
theorem ZA4(P:Program)(ρ:Rho)(t:TypeId)(place:Nat→Option (Nat×Nat))(hplace:∀ i o e,stepT P t i=some (o,e)→place i=some (o,P.cellsOf e)):
  (vs:List (Nat×AV))→(z v:AV)→Has P z t→OK P ρ z→(∀ x∈vs,OK P ρ x.2)→fillAV P t z vs=some v→
  Instr.fill place (cells P ρ z).toArray (vs.map fun x=>(x.1,den P ρ x.2))=some (cells P ρ v).toArray∧Has P v t∧OK P ρ v
 | [],z,v,hz,oz,_,h=>by
  simp only[fillAV,oE] at h;subst h;exact⟨rfl,hz,oz⟩
 |(i,x)::vs,z,v,hz,oz,ho,h=>by
  simp only[fillAV] at h;split at h
  ·rename_i o e hs;replace h:=Zac h;obtain⟨hc,h⟩:=h;split at h
   ·rename_i z' hz';have hx:=ZcF P x e hc;have ox:=ho (i,x) (by simp);obtain⟨u,as,bs,h1,h2,h3,h4,h5,h6⟩:=Zxn P ρ z t hz oz i o e hs;obtain⟨k1,k2,k3⟩:=h6 x z' hx ox hz';have lx:=ZcG P ρ x e hx ox;have lu:=ZcG P ρ u e h2 h3;have hsz:(den P ρ x).cells.size=P.cellsOf e:=by rw[← lx];simp[cells]
    have ih:=ZA4 P ρ t place hplace vs z' v k1 k2 (fun y hy=>ho y (by simp[hy])) h;refine⟨?_,ih.2⟩;simp only[List.map_cons,Instr.fill,hplace i o e hs];have g1:¬ ((den P ρ x).cells.size≠P.cellsOf e||o+(den P ρ x).cells.size>(cells P ρ z).toArray.size)=true:=by
     simp[hsz,h4,h5.symm,lu]
    rw[if_neg g1];have:=ZH9 as (cells P ρ u) bs (cells P ρ x) (by rw[lx,lu]) (den P ρ x) rfl;rw[h5,← h4,← k3] at this;rw[this];exact ih.1
   ·simp at h
  ·simp at h
theorem ZA5{P:Program}:(l:List AV)→(fs:List Field)→(o s:Nat)→HasF P l fs o s→fs.mapM (fun f=>(P.info? f.type).map fun i=>(f.offset,i.size))=some (fs.map fun f=>(f.offset,P.cellsOf f.type))
 | [],[],_,_,_=>by simp
 |v::l,f::fs,o,s,h=>by
  simp only[HasF] at h;obtain⟨d,hd,-⟩:=ZiF h.2.1;obtain⟨i,hi,hs⟩:=Zyh hd;simp[List.mapM_cons,hi,ZA5 l fs _ _ h.2.2,hs]
 | [],_::_,_,_,h=>by simp[HasF] at h
 |_::_,[],_,_,h=>by simp[HasF] at h
theorem ZGE{P:Program}{l:List AV}{e:TypeId}(h:HasA P l e)(hl:0<l.length):∃ i,P.info? e=some i∧P.cellsOf e=i.size:=by
 cases l with
 |nil=>simp at hl
 |cons v l=>
  simp only[HasA] at h;obtain⟨d,hd,-⟩:=ZiF h.1;exact Zyh hd
theorem ZDP{P:Program}(ρ:Rho){t:TypeId}{z v:AV}{vs:List (Nat×AV)}(hz:zeroAV P t=some z)(hw0:wide z=true)(hn:0<P.cellsOf t)(ho:∀ x∈vs,OK P ρ x.2)(hf:fillAV P t z vs=some v)(w:World):
  (Instr.build t (vs.map fun x=>(x.1,den P ρ x.2)).toArray).run P w= .ok (den P ρ v) w∧Has P v t∧OK P ρ v:=by
 obtain⟨i,zv,hi,hzv,-,hzc,hz1,oz⟩:=Zup hz ρ;have hcz:zv.cells=(cells P ρ z).toArray:=by rw[← hzc]
 have hlen:=ZcG P ρ z t hz1 oz;have main:∀ place,(∀ i o e,stepT P t i=some (o,e)→place i=some (o,P.cellsOf e))→
   Instr.fill place zv.cells (vs.map fun x=>(x.1,den P ρ x.2))=some (cells P ρ v).toArray∧Has P v t∧OK P ρ v:=by
  intro place hp;rw[hcz];exact ZA4 P ρ t place hp vs z v hz1 oz ho hf
 have fin:P.built t (vs.map fun x=>(x.1,den P ρ x.2)).toArray.toList=some (cells P ρ v).toArray→wide v=true→(Instr.build t (vs.map fun x=>(x.1,den P ρ x.2)).toArray).run P w= .ok (den P ρ v) w:=by
  intro hb hw;rw[run_build w t _ _ hb,Zuq P ρ v hw]
 obtain⟨d,hd,hw⟩:=ZiF hz1;have key:∀ d',P.underlying t=some d'→d'=d:=fun d' h=>by rw[hd] at h;simpa using h.symm
 cases z with
 |ints k n l=>
  have hz2:=hz1;simp only[Has] at hz2;obtain⟨e,hu,hk,h1,h2⟩:=hz2;obtain⟨ie,hie,hse⟩:=Zyh hk;obtain⟨m1,m2,m3⟩:=main (fun i=>some (i*ie.size,ie.size)) (fun i o e' hs=>by
   simp only[stepT,hu] at hs;split at hs
   ·simp only[oE,pE] at hs;obtain⟨rfl,rfl⟩:=hs;simp[hse]
   ·simp at hs)
  obtain⟨d2,hd2,hw2⟩:=ZiF m2;exact⟨fin (by simp[Program.built,hi,hu,hzv,hie,m1]) (by rw[← hw2,key d2 hd2,hw];rfl),m2,m3⟩
 |agg l=>
  have hz2:=hz1;simp only[Has] at hz2;rcases hz2 with⟨fs,hu,hF⟩|⟨n,e,hu,hl,hA,hs⟩
  ·have hinf:=ZA5 l fs.toList 0 _ hF;obtain⟨m1,m2,m3⟩:=main ((fs.toList.map fun f=>(f.offset,P.cellsOf f.type)).toArray[·]?) (fun i o e' hs=>by
    simp only[stepT,hu] at hs;split at hs
    ·rename_i f hfi;simp only[oE,pE] at hs;obtain⟨rfl,rfl⟩:=hs;simp[hfi]
    ·simp at hs)
   obtain⟨d2,hd2,hw2⟩:=ZiF m2;refine⟨fin ?_ (by rw[← hw2,key d2 hd2,hw];rfl),m2,m3⟩;simp only[Program.built,hi,hu,hzv,hinf];exact m1
  ·have hl0:0<l.length:=by
    rcases Nat.eq_zero_or_pos l.length with h0|h0
    ·rw[hs,← hl,h0] at hn;simp at hn
    ·exact h0
   obtain⟨ie,hie,hse⟩:=ZGE hA hl0;obtain⟨m1,m2,m3⟩:=main (fun i=>some (i*ie.size,ie.size)) (fun i o e' hs=>by
    simp only[stepT,hu] at hs;split at hs
    ·simp only[oE,pE] at hs;obtain⟨rfl,rfl⟩:=hs;simp[hse]
    ·simp at hs)
   obtain⟨d2,hd2,hw2⟩:=ZiF m2;exact⟨fin (by simp[Program.built,hi,hu,hzv,hie,m1]) (by rw[← hw2,key d2 hd2,hw];rfl),m2,m3⟩
 |rows n f=>
  have hz2:=hz1;simp only[Has] at hz2;obtain⟨e,hu,hA,hs⟩:=hz2;obtain⟨d0,hd0,-⟩:=ZiF (hA 0);obtain⟨ie,hie,hse⟩:=Zyh hd0;obtain⟨m1,m2,m3⟩:=main (fun i=>some (i*ie.size,ie.size)) (fun i o e' hs=>by
   simp only[stepT,hu] at hs;split at hs
   ·simp only[oE,pE] at hs;obtain⟨rfl,rfl⟩:=hs;simp[hse]
   ·simp at hs)
  obtain⟨d2,hd2,hw2⟩:=ZiF m2;exact⟨fin (by simp[Program.built,hi,hu,hzv,hie,m1]) (by rw[← hw2,key d2 hd2,hw];rfl),m2,m3⟩
 |_=>simp[wide] at hw0
theorem ZIa{v x v':AV}{i:Nat}(h:put1 v i x=some v'):∀ s p,v'≠ .itr s p:=by
 intro s p e;subst e;cases v<;>simp only[put1] at h
 case ints=>cases x<;>simp only[put1] at h<;>first|(split at h<;>simp at h;done)|simp at h
 case vec=>split at h<;>simp at h
 all_goals simp at h
theorem ZIb{T v T':AV}{p:List Nat}(h:setP T p v=some T')(hv:∀ s p,v≠ .itr s p):∀ s p,T'≠ .itr s p:=by
 cases p with
 |nil=>simp only[setP,oE] at h;rw[← h];exact hv
 |cons i q=>
  simp only[setP] at h;split at h
  ·split at h
   ·exact ZIa h
   ·simp at h
  ·simp at h
theorem put1_dc{v x v':AV}{i:Nat}(h:put1 v i x=some v'):isDc v=false∧isDc v'=false:=by
 cases v<;>simp only[put1] at h
 case ints=>cases x<;>simp only[put1] at h<;>first|(split at h<;>first|(obtain rfl:=oI h;exact⟨rfl,rfl⟩)|(simp at h;done))|simp at h
 case vec=>split at h<;>first|(obtain rfl:=oI h;exact⟨rfl,rfl⟩)|simp at h
 case agg=>obtain rfl:=oI h;exact⟨rfl,rfl⟩
 case rows=>obtain rfl:=oI h;exact⟨rfl,rfl⟩
 all_goals simp at h
theorem setP_dc{P:Program}{nm:Nm}{T v T':AV}{p:List Nat}{r:Nat×TypeId}(h:setP T p v=some T')(hp:pathN P nm p=some r)(hN:HasN P nm T)(hv:isDc v=false):isDc T=false∧isDc T'=false:=by
 cases p with
 |nil=>
  simp only[setP,oE] at h;subst h;refine⟨?_,hv⟩;cases T with
  |dc d x=>
   unfold pathN at hp;by_cases hr:nm.row=true
   ·rw[if_pos hr] at hp;simp at hp
   ·simp only[HasN,hr] at hN;simp[Has] at hN
  |_=>rfl
 |cons i q=>
  simp only[setP] at h;split at h
  ·split at h
   ·exact put1_dc h
   ·simp at h
  ·simp at h
section
variable {P:Program} {w0:Base} {ro:Nat} {ρ:Rho} {tm mem:List (Nat×AV)} {a:Act} {w:World} (S:Sim P w0 ro ρ tm mem a.tmps w)
 {gl:Nat→Option AV} (hgl:GL P ρ gl)
include S
theorem ZF4{b:Nat}{p:List Nat}{t:TypeId}{T v:AV}(ok:OK P ρ (.ptr b p t))(hT:lk b mem=some T)(hg:getP T p=some v):
  ∃ nm o as bs,ρ b=some nm∧den P ρ (.ptr b p t)= .pointer (some ⟨nm.blk,nm.off+o,none⟩)∧Has P v t∧OK P ρ v∧HasN P nm T∧OK P ρ T∧cells P ρ T=as++(cells P ρ v++bs)∧as.length=o∧
   (∀ j x,(cells P ρ v)[j]? =some x→w.cell? ⟨nm.blk,nm.off+o+j,none⟩=some x)∧
   ∀ x T',Has P x t→OK P ρ x→setP T p x=some T'→HasN P nm T'∧OK P ρ T'∧cells P ρ T'=as++(cells P ρ x++bs):=by
 simp only[OK] at ok;obtain⟨nm,o,hb,hp⟩:=ok;obtain⟨nm',hb',hN,oT,-,hc⟩:=S.cell b T hT;rw[hb] at hb';obtain rfl:=oI hb';obtain⟨u,as,bs,h1,h2,h3,h4,h5,h6⟩:=Zxl P ρ nm p T hN oT o t hp;rw[hg] at h1;obtain rfl:=oI h1;refine⟨nm,o,as,bs,hb,Zhs hb hp,h2,h3,hN,oT,h4,h5,fun j x hx=>?_,h6⟩;rw[Nat.add_assoc];refine hc _ x ?_;rw[h4,← h5];exact LiesAt.append as (cells P ρ v) bs j x hx
theorem Zxg{b:Nat}{p:List Nat}{T:AV}{nm:Nm}{o n m:Nat}{te:TypeId}{q:IntKind}{l:List Int}(hl:lk b mem=some T)(hb:ρ b=some nm)(hbase:baseN P nm p=some (o,n,te))(hg:getP T p=some (.ints q m l)):
  m=n∧l.length=n∧(∀ x∈l,q.min≤x∧x≤q.max)∧P.underlying te=some (.int q)∧P.cellsOf te=1∧LiesAt (cells P ρ T) o (cells P ρ (.ints q m l)):=by
 obtain⟨nm',hb',hN,okT,hs,hcell⟩:=S.cell b T hl;rw[hb] at hb';obtain rfl:=oI hb';have inner:∀ u,pathN P nm p=some (o,u)→P.underlying u=some (.array n te)→m=n∧l.length=n∧(∀ x∈l,q.min≤x∧x≤q.max)∧P.underlying te=some (.int q)∧P.cellsOf te=1∧LiesAt (cells P ρ T) o (cells P ρ (.ints q m l)):=by
  intro u hp hu;obtain⟨x,as,bs,h1,h2,h3,h4,h5,-⟩:=Zxl P ρ nm p T hN okT o u hp;rw[hg] at h1;obtain rfl:=oI h1;simp only[Has] at h2;simp only[OK] at h3;obtain⟨e,g1,g2,g3,g4⟩:=h2;rw[hu] at g1;simp only[oE,TypeDesc.array.injEq] at g1;obtain⟨rfl,rfl⟩:=g1;refine⟨rfl,h3.1,h3.2,g2,g3,?_⟩;rw[h4,← h5];exact LiesAt.append as _ bs
 unfold baseN at hbase;by_cases hr:nm.row=true
 ·rw[if_pos hr] at hbase;cases p with
  |nil=>
   simp only[oE,pE] at hbase;obtain⟨rfl,rfl,rfl⟩:=hbase;simp only[getP,oE] at hg;subst hg;simp only[HasN,hr,if_true] at hN;simp only[OK] at okT;obtain⟨rfl,k1,k2⟩:=hN;exact⟨rfl,okT.1,okT.2,k1,k2,fun j x hx=>by rw[Nat.zero_add];exact hx⟩
  |cons i q'=>
   simp only at hbase;split at hbase
   ·rename_i hi;split at hbase
    ·rename_i o1 u1 hq;split at hbase
     ·rename_i n1 e1 hu1;simp only[oE,pE] at hbase;obtain⟨rfl,rfl,rfl⟩:=hbase;exact inner u1 (by unfold pathN;rw[if_pos hr];simp[hi,hq]) hu1
     ·simp at hbase
    ·simp at hbase
   ·simp at hbase
 ·rw[if_neg hr] at hbase;split at hbase
  ·rename_i o1 u1 hq;split at hbase
   ·rename_i n1 e1 hu1;simp only[oE,pE] at hbase;obtain⟨rfl,rfl,rfl⟩:=hbase;exact inner u1 (by unfold pathN;rw[if_neg hr];exact hq) hu1
   ·simp at hbase
  ·simp at hbase
variable {Γ:FuncId→Option Ct} {get:Nat→Option AV} (hget:∀ b T,get b=some T→lk b mem=some T) {m:Nat}
 {o:Oper} {e:Eff} {next:Act→World→Prop} {Q:Exit→Act→World→Prop} (hn:∀ v ρ' w',After P ro ρ mem w m e v ρ' w'→next (a.put o.dst v) w')
include hn
omit S in
theorem Zbf{u:AV}(he:e= .val u)(ok:OK P ρ u)(hr:(execOp a.eval o).run P w= .ok (.value (den P ρ u)) w):o.wp P a w next Q:=by
 subst he;exact Zo7 hr (hn _ _ _ (.val u w ok (Below.refl _ _)))
include hgl
theorem ZIV{x:Operand}{v:AV}(ho:o.op= .move x∨o.op= .assign x)(hx:evO gl tm x=some v)(he:e= .val v):o.wp P a w next Q:=by
 obtain⟨h1,h2⟩:=Zay S hgl hx;refine Zbf hn he h2 ?_;rcases ho with ho|ho<;>simp[execOp,ho,h1]
theorem s_pick{c x y:Operand}{b:Bool}{v u:AV}(ho:o.op= .pick c x y)(hc:evO gl tm c=some (.bool b))(hx:evO gl tm x=some v)(hy:evO gl tm y=some u)(he:e= .val (cond b v u)):o.wp P a w next Q:=by
 obtain⟨h1,-⟩:=Zay S hgl hc;obtain⟨h3,h4⟩:=Zay S hgl hx;obtain⟨h5,h6⟩:=Zay S hgl hy;refine Zbf hn he (by cases b<;>simpa) ?_;cases b<;>simp[execOp,ho,h1,h3,h5,den,asBool]
omit S hgl in
theorem s_alloc{t:TypeId}{z:AV}(ho:o.op= .alloc t)(hz:zeroAV P t=some z)(he:e= .new t false 1 z fun b=>.ptr b [] t):o.wp P a w next Q:=by
 obtain⟨i,v,-,-,h1,h2,h3,h4⟩:=Zup hz ρ;have hcz:v.cells=(cells P ρ z).toArray:=by rw[← h2]
 have hb:upd ρ m ⟨w.heap.size,0,1,t,false,1,false,nk⟩ m=some ⟨w.heap.size,0,1,t,false,1,false,nk⟩:=by simp[upd]
 have hp:pathN P ⟨w.heap.size,0,1,t,false,1,false,nk⟩ []=some (0,t):=by simp[pathN,pathT]
 subst he;refine Zo7 (v:=den P (upd ρ m ⟨w.heap.size,0,1,t,false,1,false,nk⟩) (.ptr m [] t)) (w':=w.alloc (.cells (cells P ρ z).toArray t)) ?_
  (hn _ _ _ (.new t false 1 z _ rfl (by simpa [HasN] using h3) h4 (by simp only[OK];exact⟨_,_,hb,hp⟩)))
 rw[Zhs hb hp];simp[execOp,ho,Instr.alloc,h1,newVar,newRow,hcz]
theorem s_box{t:TypeId}{x:Operand}{v:AV}(ho:o.op= .box t x)(hx:evO gl tm x=some v)(hc:chk P v t=true)(he:e= .new t false 1 v fun b=>.ptr b [] t):o.wp P a w next Q:=by
 obtain⟨h1,h2⟩:=Zay S hgl hx;have hcz:(den P ρ v).cells=(cells P ρ v).toArray:=by simp[cells]
 have hb:upd ρ m ⟨w.heap.size,0,1,t,false,1,false,nk⟩ m=some ⟨w.heap.size,0,1,t,false,1,false,nk⟩:=by simp[upd]
 have hp:pathN P ⟨w.heap.size,0,1,t,false,1,false,nk⟩ []=some (0,t):=by simp[pathN,pathT]
 subst he;refine Zo7 (v:=den P (upd ρ m ⟨w.heap.size,0,1,t,false,1,false,nk⟩) (.ptr m [] t)) (w':=w.alloc (.cells (cells P ρ v).toArray t)) ?_
  (hn _ _ _ (.new t false 1 v _ rfl (by simpa [HasN] using ZcF P v t hc) h2 (by simp only[OK];exact⟨_,_,hb,hp⟩)))
 rw[Zhs hb hp];simp[execOp,ho,Instr.box,h1,newVar,newRow,hcz]
theorem s_build{t:TypeId}{ps:Array (Nat×Operand)}{z v:AV}{vs:List (Nat×AV)}(ho:o.op= .build t ps)(hz:zeroAV P t=some z)(hv:evP (evO gl tm) ps.toList=some vs)(hw:wide z=true)(hnn:0<P.cellsOf t)
  (hf:fillAV P t z vs=some v) (he:e= .val v):o.wp P a w next Q:=by
 obtain⟨h1,h2⟩:=ZC5 S hgl hv;obtain⟨k1,-,k3⟩:=ZDP ρ hz hw hnn h2 hf w;refine Zbf hn he k3 ?_;have hps:ps.map (fun x=>(x.1,a.eval x.2))=(vs.map fun x=>(x.1,den P ρ x.2)).toArray:=by rw[← h1,← Array.toList_map,Array.toArray_toList]
 simp only[execOp,ho];rw[show (ps.map fun(i,x)=>(i,a.eval x))=ps.map (fun x=>(x.1,a.eval x.2)) from rfl,hps];simp[k1]
include hget in
theorem s_load{t:TypeId}{x:Operand}{b:Nat}{p:List Nat}{T v:AV}(ho:o.op= .load t x)(hx:evO gl tm x=some (.ptr b p t))(hT:get b=some T)(hg:getP T p=some v)(he:e= .val v):o.wp P a w next Q:=by
 obtain⟨h1,h2⟩:=Zay S hgl hx;obtain⟨nm,of,as,bs,-,h4,h5,h6,-,-,-,-,h7,-⟩:=ZF4 S h2 (hget b T hT) hg;refine Zbf hn he h6 ?_;have:=Zqt (P:=P) (w:=w) h5 h6 nm.blk (nm.off+of) (fun j y hy=>by rw[Nat.add_assoc,← Nat.add_assoc];exact h7 j y hy);simp[execOp,ho,Instr.loadAt,h1,h4,Instr.sureAddr,this]
include hget in
theorem s_loadA{t te:TypeId}{x:Operand}{b off n:Nat}{p:List Nat}{T:AV}{q:IntKind}{m:Nat}{l:List Int}(ho:o.op= .load t x)(hx:evO gl tm x=some (.pa b p off n te))(ht:P.underlying t=some (.array n te))(hc:P.cellsOf t=n)
  (hT:get b=some T) (hg:getP T p=some (.ints q m l)) (he:e= .val (.ints q n ((l.drop off).take n))):o.wp P a w next Q:=by
 obtain⟨h1,h2⟩:=Zay S hgl hx;simp only[OK] at h2;obtain⟨nm,o1,m1,hb,hbase,hoff⟩:=h2;obtain⟨rfl,k1,k2,k3,k4,k5⟩:=Zxg S (hget b T hT) hb hbase hg;obtain⟨nm',hb',-,-,-,hcell⟩:=S.cell b T (hget b T hT);rw[hb] at hb';obtain rfl:=oI hb';have hv:Has P (.ints q n ((l.drop off).take n)) t:=⟨te,ht,k3,k4,hc⟩;have ho':OK P ρ (.ints q n ((l.drop off).take n)):=by
  simp only[OK];exact⟨by simp;omega,fun x hx=>k2 x (List.mem_of_mem_drop (List.mem_of_mem_take hx))⟩
 refine Zbf hn he ho' ?_;rw[ZGC hb hbase] at h1;have:=Zqt (P:=P) (w:=w) hv ho' nm.blk (nm.off+(o1+off*P.cellsOf te)) (fun j y hy=>by
  rw[ZaZ] at hy k5;have hy':(l.map (Value.int q))[off+j]? =some y:=by
   rw[List.getElem?_map] at hy ⊢;have hj:j<n:=by
    refine Nat.lt_of_not_le fun h=>?_
    rw[List.getElem?_eq_none (by simp;omega)] at hy;simp at hy
   rw[List.getElem?_take_of_lt hj,List.getElem?_drop] at hy;exact hy
  have:=hcell _ _ (k5 _ _ hy');rw[k4,Nat.mul_one]
  rwa [show nm.off+(o1+off)+j=nm.off+(o1+(off+j)) by omega])
 simp[execOp,ho,Instr.loadAt,h1,Instr.sureAddr,this,den]
theorem s_arr{t te:TypeId}{x:Operand}{b off len cap n:Nat}{p:List Nat}(ho:o.op= .sliceToArrayPointer t x)(hx:evO gl tm x=some (.sl b p off len cap te))(ht:P.underlying t=some (.array n te))(hle:n≤len)(he:e= .val (.pa b p off n te)):o.wp P a w next Q:=by
 obtain⟨h1,h2⟩:=Zay S hgl hx;simp only[OK] at h2;obtain⟨nm,o1,m1,hb,hbase,hoff,hlc,-⟩:=h2;rw[Zqv hb hbase] at h1;refine Zbf hn he ?_ ?_
 ·simp only[OK];exact⟨nm,o1,m1,hb,hbase,by omega⟩
 ·rw[ZGC hb hbase];have:¬ len<n:=by omega
  simp[execOp,ho,Instr.arrayAt,h1,run_underlying ht,this]
theorem s_arrG{t te:TypeId}{x:Operand}{b lo len n z:Nat}{nn:Bool}(ho:o.op= .sliceToArrayPointer t x)(hx:evO gl tm x=some (.gp b lo len te nn z))(ht:P.underlying t=some (.array n te))(hle:n≤len)(h0:0<n)(he:e= .val (.pa b [] lo n te)):o.wp P a w next Q:=by
 obtain⟨h1,h2⟩:=Zay S hgl hx;simp only[OK] at h2;obtain⟨nm,hb,-,hrow,hty,hlo,hct,hnon,-⟩:=h2;have hnn:nm.non=false:=by
  cases hq:nm.non with
  |false=>rfl
  |true=>have:=hnon hq;omega
 have hne:¬ nm.tot=lo:=by omega
 have hbase:baseN P nm []=some (0,nm.cap,te):=by simp[baseN,hrow,hty]
 have hv:den P ρ (.gp b lo len te nn z)= .slice (some ⟨nm.blk,nm.off+lo*P.cellsOf te,none⟩) len (nm.tot-lo):=by
  simp[den,hb,gpV,hnn,hne,ZbG]
 rw[hv] at h1;refine Zbf hn he ?_ ?_
 ·simp only[OK];exact⟨nm,0,nm.cap,hb,hbase,by omega⟩
 ·rw[ZGC hb hbase,Nat.zero_add];have:¬ len<n:=by omega
  simp[execOp,ho,Instr.arrayAt,h1,run_underlying ht,this]
include hget in
theorem s_store{t:TypeId}{x y:Operand}{b:Nat}{p:List Nat}{T T' v:AV}(ho:o.op= .store t x y)(hx:evO gl tm x=some (.ptr b p t))(hy:evO gl tm y=some v)(hro:ro≤b)(hc:chk P v t=true)
  (hT:get b=some T) (hs:setP T p v=some T') (he:e= .upd b T'):o.wp P a w next Q:=by
 obtain⟨h1,h2⟩:=Zay S hgl hx;obtain⟨h3,h4⟩:=Zay S hgl hy;have hT':=hget b T hT;have hv:=ZcF P v t hc;have hgex:∃ u,getP T p=some u:=by
  simp only[OK] at h2;obtain⟨nm,of,hb,hp⟩:=h2;obtain⟨nm',hb',hN,oT,-⟩:=S.cell b T hT';rw[hb] at hb';obtain rfl:=oI hb';obtain⟨u,as,bs,q1,-⟩:=Zxl P ρ nm p T hN oT of t hp;exact⟨u,q1⟩
 obtain⟨u,hu⟩:=hgex;obtain⟨nm,of,as,bs,hb,k4,k5,k6,kN,kT,k7,k8,k9,k10⟩:=ZF4 S h2 hT' hu;obtain⟨j1,j2,j3⟩:=k10 v T' hv h4 hs;have lv:=ZcG P ρ v t hv h4;have lu:=ZcG P ρ u t k5 k6;subst he;obtain⟨-,hfz⟩:=S.own b T nm hT' hb hro;refine ZH7 (w':=w.setCells nm.blk (nm.off+as.length) (cells P ρ v)) ?_ (hn _ _ _ (.upd b T' T nm as (cells P ρ u) bs (cells P ρ v) hro hb hT' ⟨ZIb hs fun s p e=>by rw[e] at hv;simp[Has] at hv,by
  simp only[OK] at h2;obtain⟨nm',o',e1,e2⟩:=h2;rw[hb] at e1;obtain rfl:=oI e1;exact setP_dc hs e2 kN (by cases v<;>first|rfl|simp[Has] at hv)⟩ j1 j2 k7 j3 (by rw[lv,lu])))
 have hrun:=ZBP (P:=P) (w:=w) hv h4 nm.blk (nm.off+of) (fun j hj=>by
  have hj':j<(cells P ρ u).length:=by omega
  rw[k9 j _ (List.getElem?_eq_getElem hj')];rfl) (fun j hj=>by
  have:=hfz (of+j) (by rw[k7];simp;omega)
  rwa [← Nat.add_assoc] at this)
 rw[k8];simp[execOp,ho,Instr.storeAt,h1,h3,k4,Instr.sureAddr,hrun]
end
end Go.Vx
namespace Go.Vx
open Go Go.RowKit
theorem ZbF{P:Program}{t:TypeId}(h:0<P.cellsOf t)(w:World):(sizeOf t).run P w= .ok (P.cellsOf t) w:=by
 unfold Program.cellsOf at h ⊢;cases hi:P.info? t with
 |none=>rw[hi] at h;simp at h
 |some i=>simp[sizeOf,typeInfo,hi]
theorem Zt1{P:Program}{ρ:Rho}{v:AV}{t:TypeId}(hv:Has P v t)(ok:OK P ρ v)(as bs:List Value)(w:World):
  (part t (as++(cells P ρ v++bs)).toArray as.length).run P w= .ok (den P ρ v) w:=by
 obtain⟨d,hd,hw⟩:=ZiF hv;unfold part;rw[Sem.run_bind,Zyg hd,hw];cases hwv:wide v with
 |true=>
  have hl:=ZcG P ρ v t hv ok;have:(as++(cells P ρ v++bs)).toArray.extract as.length (as.length+P.cellsOf t)=(cells P ρ v).toArray:=by
   rw[← hl];apply Array.ext';simp
  simp only[if_true,Result.andThen_ok,Sem.run_bind,Zpe hd,this,Zuq P ρ v hwv,Sem.run_pure]
 |false=>
  have h1:=ZA2 P ρ v t hv hwv;simp[h1]
theorem ZDQ(k:IntKind)(a b:Int)(h1:k.min≤a)(h2:a≤k.max):k.min≤a.tmod b∧a.tmod b≤k.max:=by
 have hmin:k.min≤0:=by cases k<;>simp[IntKind.min,IntKind.signed,IntKind.bits]
 have hmax:0≤k.max:=by cases k<;>simp[IntKind.max,IntKind.signed,IntKind.bits]
 have e0:(a.tmod b).natAbs≤a.natAbs:=by rw[Int.natAbs_tmod];exact Nat.mod_le _ _
 rcases Int.le_total 0 a with h|h
 ·have e1:=Int.tmod_nonneg b h;omega
 ·have e1:=Int.tmod_nonneg b (show 0≤ -a by omega);rw[Int.neg_tmod] at e1;omega
theorem shr_bd(k:IntKind)(a:Int)(n:Nat)(h1:k.min≤a)(h2:a≤k.max):k.min≤a.fdiv (2^n)∧a.fdiv (2^n)≤k.max:=by
 have hmin:k.min≤0:=by cases k<;>simp[IntKind.min,IntKind.signed,IntKind.bits]
 have hmax:0≤k.max:=by cases k<;>simp[IntKind.max,IntKind.signed,IntKind.bits]
 have hp:(0:Int)<2^n:=Int.pow_pos (by decide);rw[Int.fdiv_eq_ediv_of_nonneg _ (Int.le_of_lt hp)];generalize hq:(2:Int)^n=q at*
 have hq1:1≤q:=by omega
 rcases Int.le_total 0 a with h|h
 ·have e1:0≤a/q:=Int.ediv_nonneg h (by omega);have e2:a/q≤a:=Int.ediv_le_self _ h;omega
 ·have e1:a/q≤0:=by
   have:=Int.ediv_le_ediv (c:=q) hp h;simpa using this
  have e2:a≤a/q:=by
   have h3:(-a)≥0:=by omega
   have:=Int.le_ediv_of_mul_le hp (a:=a) (b:=a) (by
    have:=Int.mul_le_mul_of_nonneg_left hq1 h3;have e: -a*1= -a:=by simp
    have e': -a*q= -(a*q):=Int.neg_mul a q;omega)
   exact this
  omega
theorem ibin_bd(op:BinOp)(k:IntKind)(a b:Int)(h1:k.min≤a)(h2:a≤k.max):k.min≤ibin op k a b∧ibin op k a b≤k.max:=by
 have hmin:k.min≤0:=by cases k<;>simp[IntKind.min,IntKind.signed,IntKind.bits]
 have hmax:0≤k.max:=by cases k<;>simp[IntKind.max,IntKind.signed,IntKind.bits]
 cases op<;>simp only[ibin]
 case rem=>exact ZDQ k a b h1 h2
 case shr=>exact shr_bd k a _ h1 h2
 all_goals first
  |exact ZBO k _
  |exact⟨hmin,hmax⟩
section
variable {P:Program} (w:World) (t:TypeId) (k k':IntKind) (a b:Int)
theorem run_b03{op:BinOp}(h:bcl op=3)(hb:0≤b):(binOp op t (.int k a) (.int k' b)).run P w= .ok (.int k (ibin op k a b)) w:=by
 have:¬ b<0:=by omega
 cases op<;>simp[bcl] at h<;>simp[binOp,Op.shift,this,ibin]
theorem run_b01{op:BinOp}(h:bcl op=1)(hb:(b==0)=false):(binOp op t (.int k a) (.int k b)).run P w= .ok (.int k (ibin op k a b)) w:=by
 have:¬ b=0:=by simpa using hb
 cases op<;>simp[bcl] at h<;>simp[binOp,Op.intDiv,this,ibin]
theorem run_b04{op:BinOp}(h:bcl op=4):(binOp op t (.int k a) (.int k b)).run P w= .ok (.bool (icmp op a b)) w:=by
 cases op<;>simp[bcl] at h<;>simp[binOp,Op.intCmp,icmp]
theorem run_b02{op:BinOp}(h:bcl op=0∨bcl op=2):(binOp op t (.int k a) (.int k b)).run P w= .ok (.int k (ibin op k a b)) w:=by
 cases op<;>simp[bcl] at h<;>simp[binOp,Op.intArith,Op.intBits,ibin]
theorem ZGF(op:BinOp)(x y:Operand):(eqGuard op t x y (.int k a) (.int k' b)).run P w= .ok () w:=by
 unfold eqGuard;split<;>simp
end
section
variable {P:Program} {w0:Base} {ro:Nat} {ρ:Rho} {tm mem:List (Nat×AV)} {a:Act} {w:World} (S:Sim P w0 ro ρ tm mem a.tmps w)
 {gl:Nat→Option AV} (hgl:GL P ρ gl) {m:Nat}
 {o:Oper} {e:Eff} {next:Act→World→Prop} {Q:Exit→Act→World→Prop} (hn:∀ v ρ' w',After P ro ρ mem w m e v ρ' w'→next (a.put o.dst v) w')
include S hn hgl
theorem ZFo{x:Operand}{b:Nat}{p:List Nat}{t:TypeId}(ho:o.op= .nilCheck x)(hx:evO gl tm x=some (.ptr b p t))(he:e= .val (.ptr b p t)):o.wp P a w next Q:=by
 obtain⟨h1,h2⟩:=Zay S hgl hx;refine Zbf hn he h2 ?_;have h3:=h2;simp only[OK] at h3;obtain⟨nm,of,hb,hp⟩:=h3;rw[Zhs hb hp] at h1 ⊢;simp[execOp,ho,h1]
theorem s_bin{op:BinOp}{t ty:TypeId}{x y:Operand}{q q':IntKind}{i j:Int}{v:AV}(ho:o.op= .binOp op t x y ty)(hx:evO gl tm x=some (.int q i))(hy:evO gl tm y=some (.int q' j))
  (hv:(bcl op=3∧0≤j∧v= .int q (ibin op q i j))∨(bcl op=1∧q=q'∧(j==0)=false∧v= .int q (ibin op q i j))∨(bcl op=4∧q=q'∧v= .bool (icmp op i j))∨((bcl op=0∨bcl op=2)∧q=q'∧v= .int q (ibin op q i j)))
  (he:e= .val v):o.wp P a w next Q:=by
 obtain⟨h1,h2⟩:=Zay S hgl hx;obtain⟨h3,-⟩:=Zay S hgl hy;simp only[OK] at h2;simp only[den] at h1 h3;have hbd:=ibin_bd op q i j h2.1 h2.2;have hg:=fun(w:World)=>ZGF (P:=P) w t q q' i j op x y
 rcases hv with⟨hc,hb,rfl⟩|⟨hc,rfl,hb,rfl⟩|⟨hc,rfl,rfl⟩|⟨hc,rfl,rfl⟩
 ·exact Zbf hn he (by simpa only[OK] using hbd) (by simp[execOp,ho,h1,h3,hg,run_b03 (P:=P) w t q q' i j hc hb,den])
 ·exact Zbf hn he (by simpa only[OK] using hbd) (by simp[execOp,ho,h1,h3,hg,run_b01 (P:=P) w t q i j hc hb,den])
 ·exact Zbf hn he (by simp[OK]) (by simp[execOp,ho,h1,h3,hg,run_b04 (P:=P) w t q i j hc,den])
 ·exact Zbf hn he (by simpa only[OK] using hbd) (by simp[execOp,ho,h1,h3,hg,run_b02 (P:=P) w t q i j hc,den])
theorem s_un{op:UnOp}{t:TypeId}{x:Operand}{u v:AV}(ho:o.op= .unOp op t x)(hx:evO gl tm x=some u)
  (hv:(∃ q i,op= .neg∧u= .int q i∧v= .int q (ineg q i))∨(∃ q i,op= .xor∧u= .int q i∧v= .int q (inot q i))∨(∃ b,op= .not∧u= .bool b∧v= .bool (!b))) (he:e= .val v):o.wp P a w next Q:=by
 obtain⟨h1,-⟩:=Zay S hgl hx;rcases hv with⟨q,i,rfl,rfl,rfl⟩|⟨q,i,rfl,rfl,rfl⟩|⟨b,rfl,rfl,rfl⟩<;>simp only[den] at h1
 ·exact Zbf hn he (by simp only[OK,ineg];exact ZBO _ _) (by simp[execOp,ho,h1,Op.unary,Op.intArith,ineg,den])
 ·exact Zbf hn he (by simp only[OK,inot];exact ZBO _ _) (by simp[execOp,ho,h1,Op.unary,Op.intBits,inot,den])
 ·exact Zbf hn he (by simp[OK]) (by simp[execOp,ho,h1,Op.unary,den])
theorem s_conv{s d:TypeId}{x:Operand}{q r:IntKind}{i:Int}{ds:TypeDesc}(ho:o.op= .convert s d x)(hx:evO gl tm x=some (.int r i))(hs:P.underlying s=some ds)(hd:P.underlying d=some (.int q))(he:e= .val (.int q (q.wrap i))):o.wp P a w next Q:=by
 obtain⟨h1,-⟩:=Zay S hgl hx;simp only[den] at h1;exact Zbf hn he (by simp only[OK];exact ZBO _ _) (by simp[execOp,ho,h1,convert,run_underlying hs,run_underlying hd,Conv.intToInt,den])
theorem ZDI{s:TypeId}{x:Operand}{i b:Nat}{p:List Nat}{fs:Array Field}{f:Field}(ho:o.op= .fieldAddr s x i)(hx:evO gl tm x=some (.ptr b p s))(hs:P.underlying s=some (.struct fs))(hf:fs[i]? =some f)
  (hz:0<P.cellsOf f.type) (he:e= .val (.ptr b (p++[i]) f.type)):o.wp P a w next Q:=by
 obtain⟨h1,h2⟩:=Zay S hgl hx;simp only[OK] at h2;obtain⟨nm,of,hb,hp⟩:=h2;have hp':=ZA3 hp (i:=i) (o':=f.offset) (u:=f.type) (by simp[stepT,hs,hf]);refine Zbf hn he (by simp only[OK];exact⟨nm,_,hb,hp'⟩) ?_;rw[Zhs hb hp] at h1;rw[Zhs hb hp'];have hz':¬ P.cellsOf f.type=0:=by omega
 simp[execOp,ho,h1,Instr.fieldAt,run_underlying hs,hf,Instr.sureAddr,fieldPlace,ZbF hz,hz',ZbG,Nat.add_assoc]
theorem s_field{s:TypeId}{x:Operand}{i:Nat}{l:List AV}{v:AV}{fs:Array Field}(ho:o.op= .field s x i)(hx:evO gl tm x=some (.agg l))(hs:P.underlying s=some (.struct fs))(hc:chk P (.agg l) s=true)(hv:l[i]? =some v)
  (he:e= .val v):o.wp P a w next Q:=by
 obtain⟨h1,h2⟩:=Zay S hgl hx;have hh:=ZcF P _ s hc;simp only[Has] at hh;rcases hh with⟨fs',hu,hF⟩|⟨n,e',hu,-⟩
 ·rw[hs] at hu;simp only[oE,TypeDesc.struct.injEq] at hu;subst hu;have hlen:(i:Nat)<fs.size:=by
   have h3:=Zx4 (by simpa only[OK] using h2) hv;have:∀ (l:List AV) (fs:List Field) (o s:Nat),HasF P l fs o s→l.length=fs.length:=by
    intro l
    induction l with
    |nil=>intro fs o s h;cases fs with
     |nil=>rfl
     |cons=>simp[HasF] at h
    |cons v l ih=>intro fs o s h;cases fs with
     |nil=>simp[HasF] at h
     |cons f fs=>simp only[HasF] at h;simp[ih _ _ _ h.2.2]
   have hl:=this l fs.toList 0 _ hF;rcases Nat.lt_or_ge i l.length with hi|hi
   ·simpa [hl] using hi
   ·simp[List.getElem?_eq_none hi] at hv
  have hfi:fs.toList[i]? =some fs[i]:=by simp[hlen]
  simp only[OK] at h2;obtain⟨u,as,bs,k1,k2,k3,k4,k5,-⟩:=ZBQ P ρ l fs.toList 0 _ hF h2 i fs[i] hfi;rw[hv] at k1;obtain rfl:=oI k1;refine Zbf hn he k3 ?_;have hr:=Zt1 (P:=P) k2 k3 as bs w;have hoff:as.length=fs[i].offset:=by omega
  have hcs:den P ρ (.agg l)= .agg (as++(cells P ρ v++bs)).toArray:=by
   rw[Zuq P ρ (.agg l) rfl,Zcs,k4]
  rw[hcs] at h1;rw[hoff] at hr;simp[execOp,ho,h1,Instr.field,run_underlying hs,hlen,asAgg,hr]
 ·rw[hs] at hu;simp at hu
theorem ZDJ{t el:TypeId}{x y:Operand}{b n:Nat}{p:List Nat}{q:IntKind}{i:Int}(ho:o.op= .indexAddr t x y)(hx:evO gl tm x=some (.ptr b p t))(hy:evO gl tm y=some (.int q i))(ht:P.underlying t=some (.array n el))
  (hz:0<P.cellsOf el) (hi:0≤i∧i<(n:Int)) (he:e= .val (.ptr b (p++[i.toNat]) el)):o.wp P a w next Q:=by
 obtain⟨h1,h2⟩:=Zay S hgl hx;obtain⟨h3,-⟩:=Zay S hgl hy;simp only[den] at h3;simp only[OK] at h2;obtain⟨nm,of,hb,hp⟩:=h2;have hp':=ZA3 hp (Zxm ht (i:=i.toNat) (by omega));refine Zbf hn he (by simp only[OK];exact⟨nm,_,hb,hp'⟩) ?_;rw[Zhs hb hp] at h1;rw[Zhs hb hp'];simp[execOp,ho,h1,h3,Instr.indexAt,asIntOf,run_underlying ht,Instr.sureAddr,hi,ZbF hz,ZbG,Nat.add_assoc]
theorem ZCT{t el:TypeId}{x y:Operand}{b off len cap:Nat}{p:List Nat}{q:IntKind}{i:Int}(ho:o.op= .indexAddr t x y)(hx:evO gl tm x=some (.sl b p off len cap el))(hy:evO gl tm y=some (.int q i))(ht:P.underlying t=some (.slice el))
  (hz:0<P.cellsOf el) (hi:0≤i∧i<(len:Int)) (he:e= .val (.ptr b (p++[off+i.toNat]) el)):o.wp P a w next Q:=by
 obtain⟨h1,h2⟩:=Zay S hgl hx;obtain⟨h3,-⟩:=Zay S hgl hy;simp only[den] at h3;simp only[OK] at h2;obtain⟨nm,of,n,hb,hp,hcap,hlen,-⟩:=h2;have hp':=ZGB hp (i:=off+i.toNat) (by omega);refine Zbf hn he (by simp only[OK];exact⟨nm,_,hb,hp'⟩) ?_;rw[Zqv hb hp] at h1;rw[Zhs hb hp'];simp[execOp,ho,h1,h3,Instr.indexAt,asIntOf,run_underlying ht,hi,ZbF hz,ZbG,Nat.add_assoc,Nat.add_mul]
theorem ZCU{t el:TypeId}{x y:Operand}{b n:Nat}{q:IntKind}{i:Int}(ho:o.op= .indexAddr t x y)(hx:evO gl tm x=some (.gs b n el))(hy:evO gl tm y=some (.int q i))(ht:P.underlying t=some (.slice el))
  (hz:0<P.cellsOf el) (hi:0≤i∧i<(n:Int)) (he:e= .val (.ptr b [i.toNat] el)):o.wp P a w next Q:=by
 obtain⟨h1,h2⟩:=Zay S hgl hx;obtain⟨h3,-⟩:=Zay S hgl hy;simp only[den] at h3;simp only[OK] at h2;obtain⟨nm,hb,hr,ht',hn',-,hnon,-⟩:=h2;have hnn:nm.non=false:=by
  cases hq:nm.non with
  |false=>rfl
  |true=>have:=hnon hq;omega
 have hp':pathN P nm [i.toNat]=some (i.toNat*P.cellsOf el,el):=by
  unfold pathN;rw[if_pos hr];simp only[pathT,ht',show i.toNat<nm.cap by omega,if_true,Nat.add_zero]
 have hv:den P ρ (.gs b n el)= .slice (some ⟨nm.blk,nm.off,none⟩) n nm.tot:=by simp[den,hb,gsV,hnn]
 rw[hv] at h1;refine Zbf hn he (by simp only[OK];exact⟨nm,_,hb,hp'⟩) ?_;rw[Zhs hb hp'];simp[execOp,ho,h1,h3,Instr.indexAt,asIntOf,run_underlying ht,hi,ZbF hz,ZbG,Nat.add_assoc,Nat.add_mul]
theorem ZHT{t el:TypeId}{x y:Operand}{n:Nat}{l:List Int}{q r:IntKind}{i:Int}(ho:o.op= .index t x y)(hx:evO gl tm x=some (.ints q n l))(hy:evO gl tm y=some (.int r i))(ht:P.underlying t=some (.array n el))
  (hc:chk P (.ints q n l) t=true) (hi:0≤i∧i<(n:Int)) (he:e= .val (.int q (l.getD i.toNat 0))):o.wp P a w next Q:=by
 obtain⟨h1,h2⟩:=Zay S hgl hx;obtain⟨h3,-⟩:=Zay S hgl hy;simp only[den] at h3;have hh:=ZcF P _ t hc;obtain⟨u,as,bs,k1,k2,k3,k4,k5,-⟩:=Zxn P ρ _ t hh h2 i.toNat _ _ (Zxm ht (by omega));simp only[sub1,oE] at k1;subst k1;refine Zbf hn he k3 ?_;obtain⟨d,hd,-⟩:=ZiF k2;have hr:=Zt1 (P:=P) k2 k3 as bs w;rw[k5] at hr;have hcs:den P ρ (.ints q n l)= .agg (as++(cells P ρ (.int q (l.getD i.toNat 0))++bs)).toArray:=by
  rw[Zuq P ρ (.ints q n l) rfl,k4]
 rw[hcs] at h1;simp only[execOp,ho,h1,h3,Instr.index,asIntOf,Sem.run_bind,run_underlying ht,Sem.run_pure,Result.andThen_ok,hi,and_self,if_true,Zpe hd,hr]
theorem ZHU{t el:TypeId}{x y:Operand}{n:Nat}{l:List AV}{v:AV}{r:IntKind}{i:Int}(ho:o.op= .index t x y)(hx:evO gl tm x=some (.agg l))(hy:evO gl tm y=some (.int r i))(ht:P.underlying t=some (.array n el))
  (hc:chk P (.agg l) t=true) (hil:0≤i∧i<(l.length:Int)) (hv:subL l i.toNat=some v) (he:e= .val v):o.wp P a w next Q:=by
 have hi:=hil.1;rw[Zz5 (by omega)] at hv;obtain⟨h1,h2⟩:=Zay S hgl hx;obtain⟨h3,-⟩:=Zay S hgl hy;simp only[den] at h3;have hh:=ZcF P _ t hc;have hin:i.toNat<n:=by
  simp only[Has] at hh;rcases hh with⟨fs,hu,-⟩|⟨n',e',hu,hl,-⟩
  ·rw[ht] at hu;simp at hu
  ·rw[ht] at hu;simp only[oE,TypeDesc.array.injEq] at hu;obtain⟨rfl,rfl⟩:=hu;rcases Nat.lt_or_ge i.toNat l.length with hi|hi
   ·omega
   ·simp[List.getElem?_eq_none hi] at hv
 obtain⟨u,as,bs,k1,k2,k3,k4,k5,-⟩:=Zxn P ρ _ t hh h2 i.toNat _ _ (Zxm ht hin);simp only[sub1] at k1;rw[Zz5 (List.getElem?_eq_some_iff.1 hv).1,hv] at k1;obtain rfl:=oI k1;refine Zbf hn he k3 ?_;obtain⟨d,hd,-⟩:=ZiF k2;have hr:=Zt1 (P:=P) k2 k3 as bs w;rw[k5] at hr;have hcs:den P ρ (.agg l)= .agg (as++(cells P ρ v++bs)).toArray:=by
  rw[Zuq P ρ (.agg l) rfl,k4]
 rw[hcs] at h1;have hi':0≤i∧i<(n:Int):=by omega
 simp only[execOp,ho,h1,h3,Instr.index,asIntOf,Sem.run_bind,run_underlying ht,Sem.run_pure,Result.andThen_ok,hi',and_self,if_true,Zpe hd,hr]
theorem ZFp{t:TypeId}{x y:Operand}{s:ByteArray}{r:IntKind}{i:Int}(ho:o.op= .index t x y)(hx:evO gl tm x=some (.str s))(hy:evO gl tm y=some (.int r i))(ht:P.underlying t=some .string)
  (hi:0≤i∧i<(s.size:Int)) (he:e= .val (.int .u8 (s.data.toList.getD i.toNat 0).toNat)):o.wp P a w next Q:=by
 obtain⟨h1,-⟩:=Zay S hgl hx;obtain⟨h3,-⟩:=Zay S hgl hy;simp only[den] at h1 h3;have hlt:i.toNat<s.size:=by omega
 have hb:s[i.toNat]? =some (s.data.toList.getD i.toNat 0):=by
  have hlt':i.toNat<s.data.toList.length:=by simpa using hlt
  rw[List.getD_eq_getElem?_getD,List.getElem?_eq_getElem hlt'];simp only[Option.getD_some,Array.getElem_toList];rw[getElem?_pos s i.toNat hlt];rfl
 refine Zbf hn he ?_ ?_
 ·simp only[OK,IntKind.min,IntKind.max,IntKind.signed,IntKind.bits];have:=(s.data.toList.getD i.toNat 0).toNat_lt;simp only[Bool.false_eq_true,if_false];omega
 ·simp[execOp,ho,h1,h3,Instr.index,asIntOf,run_underlying ht,hi.1,hb,den]
theorem ZGz{x:Operand}{i:Nat}{l:List AV}{v:AV}(ho:o.op= .extract x i)(hx:evO gl tm x=some (.tup l))(hv:l[i]? =some v)(he:e= .val v):o.wp P a w next Q:=by
 obtain⟨h1,h2⟩:=Zay S hgl hx;simp only[OK] at h2;simp only[den] at h1;have:=Zxb (P:=P) (ρ:=ρ) hv;exact Zbf hn he (Zx4 h2 hv) (by simp[execOp,ho,h1,Instr.extract,this])
theorem ZFq{g:FuncId}{first caps:Array Operand}{l:List AV}(ho:o.op= .makeFunc (.func g) first caps)(hf:first.toList=[])(hc:evL (evO gl tm) caps.toList=some l)(he:e= .val (.clo g l)):o.wp P a w next Q:=by
 obtain⟨h1,h2⟩:=ZeB S hgl hc;have hf':first= #[]:=by apply Array.ext';simpa using hf
 subst hf';have hc':caps.map a.eval=(denT P ρ l).toArray:=by rw[← h1,← Array.toList_map,Array.toArray_toList]
 exact Zbf hn he (by simpa only[OK] using h2) (by simp[execOp,ho,Instr.makeFunc,hc',den])
theorem ZzX{t:TypeId}{x:Operand}{v:AV}{d:TypeDesc}(ho:o.op= .makeInterface t x)(hx:evO gl tm x=some v)(hd:P.underlying t=some d)(hi:∀ ms,d≠ .interface ms)(he:e= .val (.ifc t v)):o.wp P a w next Q:=by
 obtain⟨h1,h2⟩:=Zay S hgl hx;have hc:P.concrete t=true:=by
  unfold Program.concrete;rw[hd];cases d<;>simp_all
 exact Zbf hn he (by simpa only[OK] using h2) (by simp[execOp,ho,h1,run_makeInterface w t _ hc,den])
end
end Go.Vx
