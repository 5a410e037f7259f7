/- The engine, part T: package-level variables that hold known data ('laid'). -/
import Derived.Test.YtoionfdfofmplaaGreatDoorVxS6
import Derived.LaidMore
import Derived.Stop.Joined
set_option autoImplicit false
set_option linter.unusedVariables false
set_option linter.unusedSimpArgs false
namespace Go.Vx
open Go Go.RowKit
mutual
def flatD{H:Type}:DataW H→List Value
 | .lit (.int k n)=>[.int k n]
 | .agg l=>flatL l
 |_=>[]
def flatL{H:Type}:List (DataW H)→List Value
 | []=>[]
 |d::l=>flatD d++flatL l
end
def FlatAt(P:Program)(t:TypeId):Prop:=
 ∀ {H:Type} (enc:TypeId×Value→H) (W:World) (base:Nat) (sp:Nat→Bool) (held:Bool) (fuel:Nat) (cs:List Value) (d:DataW H) (ps:List MemPlace),DataW.trod enc P W base sp held fuel t cs=some (d,ps)→cs=flatD d∧cs.length=P.cellsOf t
theorem ZE6{P:Program}{t:TypeId}{k:IntKind}(ht:P.underlying t=some (.int k))(hc:P.cellsOf t=1):FlatAt P t:=by
 intro H enc W base sp held fuel cs d ps h;cases fuel with
 |zero=>simp[DataW.trod] at h
 |succ m=>
  unfold DataW.trod at h;rw[ht] at h;split at h<;>first|(exfalso;simp_all;done)|skip
  rename_i k1 k' n hk;simp only[oE,TypeDesc.int.injEq] at hk;subst hk;split at h
  ·rename_i hh;obtain⟨rfl,hw⟩:=hh;simp only[oE,pE] at h;obtain⟨rfl,rfl⟩:=h;exact⟨rfl,by simp[hc]⟩
  ·simp at h
theorem Zxr{P:Program}{t e:TypeId}{n:Nat}(ht:P.underlying t=some (.array n e))(hc:P.cellsOf t=n*P.cellsOf e)(he:FlatAt P e):FlatAt P t:=by
 intro H enc W base sp held fuel cs d ps h;obtain⟨xs,m,rfl,hx,hl,hxl,hat⟩:=DataW.trod_array ht h;simp only[pE] at hx;obtain⟨rfl,-⟩:=hx;refine⟨?_,hl⟩;simp only[flatD]
 
 have key:∀ (l:List (DataW H×List MemPlace)) (k:Nat),(∀ i,i<l.length→DataW.trod enc P W base sp held m e ((cs.drop ((k+i)*P.cellsOf e)).take (P.cellsOf e))=l[i]?)→cs.length=(k+l.length)*P.cellsOf e→cs.drop (k*P.cellsOf e)=flatL (l.map (·.1)):=by
  intro l
  induction l with
  |nil=>
   intro k _ hlen;simp only[List.length_nil,Nat.add_zero] at hlen;simp[flatL,← hlen]
  |cons x l ih=>
   intro k hk hlen;have h0:=hk 0 (by simp);simp only[Nat.add_zero,List.getElem?_cons_zero] at h0;obtain⟨y,q⟩:=x;obtain⟨h1,-⟩:=he enc W base sp held m _ y q h0;have h2:=ih (k+1) (fun i hi=>by
    have:=hk (i+1) (by simp;omega);rw[show k+1+i=k+(i+1) by omega,this];simp) (by rw[hlen];simp only[List.length_cons];congr 1;omega)
   simp only[List.map_cons,flatL];rw[← h1,← h2,Nat.add_mul,Nat.one_mul,← List.drop_drop];exact(List.take_append_drop _ _).symm
 have:=key xs 0 (fun i hi=>by rw[Nat.zero_add];exact hat i (by omega)) (by rw[hl,hc,hxl,Nat.zero_add]);simpa using this
theorem Zyu{P:Program}{W:World}{name:String}{d:DataW Unit}{g g':Nat}{t t':TypeId}{cs:Array Value}{fuel:Nat}{enc:TypeId×Value→Unit}{base:Nat}{sp:Nat→Bool}{held:Bool}{p:List MemPlace}{T:AV}
  (hg:P.globalNamed name=some g) (hg':P.globalNamed name=some g') (ht:(P.globals[g]?).map (·.type)=some t) (ht':(P.globals[g']?).map (·.type)=some t') (hv:W.var? P name=some cs) (hd:DataW.trod enc P W base sp held fuel t' cs.toList=some (d,p))
  (hf:FlatAt P t) (hT:cells P (fun _=>none) T=flatD d) (hne:flatD d≠[]) (hh:Has P T t) (ho:OK P (fun _=>none) T):
  Has P T t∧OK P (fun _=>none) T∧g<W.heap.size∧∀ j x,(cells P (fun _=>none) T)[j]? =some x→W.cell? ⟨g,j,none⟩=some x:=by
 obtain rfl:=oI (hg.symm.trans hg');obtain rfl:=oI (ht.symm.trans ht');obtain⟨h1,-⟩:=hf enc W base sp held fuel _ d p hd;have hcell:∀ j,W.cell? ⟨g,j,none⟩=cs[j]? :=fun j=>World.var?_cell hg hv j
 refine⟨hh,ho,?_,fun j x hx=>?_⟩
 ·have h0:=hcell 0;rw[← h1] at hne;have:cs[0]? ≠none:=by
   intro e;rw[Array.getElem?_eq_none_iff] at e;apply hne;have:cs.size=0:=by omega
   simpa using this
  rw[← h0] at this;refine Nat.lt_of_not_le fun hle=>this ?_
  simp[World.cell?,Array.getElem?_eq_none hle]
 ·rw[hcell j,← Array.getElem?_toList,h1,← hT];exact hx
end Go.Vx
