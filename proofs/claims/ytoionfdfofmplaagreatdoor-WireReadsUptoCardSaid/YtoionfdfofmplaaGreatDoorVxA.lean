/- The engine, part A: abstract values, what they stand for in the model, and how they lie in memory. No program in sight. -/
import Derived.WalkKit
import Derived.Below
import Derived.Laws.IdiomCopy
set_option autoImplicit false
set_option linter.unusedVariables false
set_option linter.unusedSimpArgs false
namespace Go.Vx
open Go
theorem oE {α : Type _} (a b : α) : (some a = some b) = (a = b) := Option.some.injEq a b
theorem oI {α : Type _} {a b : α} (h : some a = some b) : a = b := Option.some.inj h
theorem pE {α : Type _} {β : Type _} (a : α) (b : β) (c : α) (d : β) : ((a, b) = (c, d)) = (a = c ∧ b = d) := Prod.mk.injEq a b c d
theorem bA (a b : Bool) : ((a && b) = true) = (a = true ∧ b = true) := Bool.and_eq_true a b
abbrev LI:Type:=List Int
inductive Tc where
 |int (k:IntKind)
 |bool
 |ints (k:IntKind) (n:Nat)
 |nil
 |cons (a b:Tc)
 |agg (l:Tc)
@[reducible] def Tc.T:Tc→Type
 | .int _=>Int
 | .bool=>Bool
 | .ints _ _=>List Int
 | .nil=>Unit
 | .cons a b=>a.T×b.T
 | .agg l=>l.T
def Tc.dft:(c:Tc)→c.T
 | .int _=>(0:Int)
 | .bool=>false
 | .ints _ n=>List.replicate n (0:Int)
 | .nil=>()
 | .cons a b=>(a.dft,b.dft)
 | .agg l=>l.dft
def Tc.sz:Tc→Nat
 | .int _=>1
 | .bool=>1
 | .ints _ n=>n
 | .nil=>0
 | .cons a b=>a.sz+b.sz
 | .agg l=>l.sz
inductive Dc where
 |tc (c:Tc)
 |row (d:Dc) (te:TypeId)
 |nil
 |cons (a b:Dc)
 |agg (l:Dc)
@[reducible] def Dc.T:Dc→Type
 | .tc c=>c.T
 | .row d _=>List d.T
 | .nil=>Unit
 | .cons a b=>a.T×b.T
 | .agg l=>l.T
def Dc.sz:Dc→Nat
 | .tc c=>c.sz
 | .row _ _=>1
 | .nil=>0
 | .cons a b=>a.sz+b.sz
 | .agg l=>l.sz
def Dc.dft:(d:Dc)→d.T
 | .tc c=>c.dft
 | .row _ _=>[]
 | .nil=>()
 | .cons a b=>(a.dft,b.dft)
 | .agg l=>l.dft
inductive Ds where
 |sub (lo s:Nat)
 |elem (i s o:Nat)
deriving DecidableEq
inductive AV where
 |int (k:IntKind) (n:Int)
 |bool (b:Bool)
 |str (s:ByteArray)
 |ptr (b:Nat) (p:List Nat) (t:TypeId)
 |nilp
 |sl (b:Nat) (p:List Nat) (off len cap:Nat) (t:TypeId)
 |pa (b:Nat) (p:List Nat) (off n:Nat) (t:TypeId)
 |nils
 |gs (b n:Nat) (t:TypeId)
 |clo (f:FuncId) (caps:List AV)
 |nilfn
 |nilif
 |ifc (t:TypeId) (v:AV)
 |ints (k:IntKind) (n:Nat) (l:List Int)
 |agg (l:List AV)
 |rows (n:Nat) (f:Nat→AV)
 |tup (l:List AV)
 |vec (c:Tc) (l:List c.T)
 |gp (b lo n:Nat) (t:TypeId) (nn:Bool) (z:Nat)
 |dv (b:Nat) (p:List Ds) (t:TypeId) (d:Dc) (x:List d.T)
 |dq (b:Nat) (p:List Ds) (at':Nat) (t:TypeId) (d:Dc) (x:d.T)
 |dc (d:Dc) (x:List d.T)
 |itr (s:ByteArray) (pos:Nat)
 |itp (b:Nat)
def Tc.mkB:(c:Tc)→c.T→AV×List AV
 | .int k,x=>(.int k x,[.int k x])
 | .bool,x=>(.bool x,[.bool x])
 | .ints k n,x=>(.ints k n x,[.ints k n x])
 | .nil,_=>(.agg [],[])
 | .cons a b,x=>(.agg ((a.mkB x.1).1::(b.mkB x.2).2),(a.mkB x.1).1::(b.mkB x.2).2)
 | .agg l,x=>(.agg (l.mkB x).2,[.agg (l.mkB x).2])
def Tc.mk(c:Tc)(x:c.T):AV:=(c.mkB x).1
def kxq:IntKind→Nat
 | .i8=>0| .i16=>1| .i32=>2| .i64=>3| .u8=>4| .u16=>5| .u32=>6| .u64=>7
def oneL{α:Type}(g:AV→Option α):List AV→Option α
 | []=>none
 |v::r=>match r with
  | []=>g v
  |_::_=>none
def getInt(k:IntKind)(v:AV):Option Int:=match v with| .int k' x=>cond (Nat.beq (kxq k) (kxq k')) (some x) none|_=>none
def getBool(v:AV):Option Bool:=match v with| .bool x=>some x|_=>none
def getInts(k:IntKind)(n:Nat)(v:AV):Option (List Int):=match v with| .ints k' n' x=>cond (Nat.beq (kxq k) (kxq k')&&Nat.beq n n') (some x) none|_=>none
def getAgg{α:Type}(g:List AV→Option α)(v:AV):Option α:=match v with| .agg l=>g l|_=>none
def Tc.getB:(c:Tc)→(AV→Option c.T)×(List AV→Option c.T)
 | .int k=>(getInt k,oneL (getInt k))
 | .bool=>(getBool,oneL getBool)
 | .ints k n=>(getInts k n,oneL (getInts k n))
 | .nil=>(fun _=>none,fun l=>match l with| []=>some ()|_::_=>none)
 | .cons a b=>(fun _=>none,fun l=>match l with
  | []=>none
  |v::r=>match a.getB.1 v with
   |some x=>match b.getB.2 r with
    |some y=>some (x,y)
    |none=>none
   |none=>none)
 | .agg c=>(getAgg c.getB.2,oneL (getAgg c.getB.2))
def Tc.get(c:Tc):AV→Option c.T:=c.getB.1
def Tc.ok:(c:Tc)→c.T→Prop
 | .int k,x=>k.min≤x∧x≤k.max
 | .bool,_=>True
 | .ints k n,x=>x.length=n∧∀ z∈x,k.min≤z∧z≤k.max
 | .nil,_=>True
 | .cons a b,x=>a.ok x.1∧b.ok x.2
 | .agg l,x=>l.ok x
def Tc.cs:(c:Tc)→c.T→List Value
 | .int k,x=>[.int k x]
 | .bool,x=>[.bool x]
 | .ints k _,x=>x.map (Value.int k)
 | .nil,_=>[]
 | .cons a b,x=>a.cs x.1++b.cs x.2
 | .agg l,x=>l.cs x
structure Fz where
 K:Nat→Nat→Option Value
 hs:Nat
 fz:Nat:=0
 fc:Nat:=0
 na:Option Addr:=none
def nk:Fz:=⟨fun _ _=>none,0,0,0,none⟩
@[simp] theorem nk_na:nk.na=none:=rfl
def Adr(F:Fz)(a:Option Addr)(c:Nat):Prop:=(a=none→c=0)∧∀ ad,a=some ad→0<c→ad.spot=none∧ad.block<F.hs
structure Nm where
 blk:Nat
 off:Nat
 cap:Nat
 ty:TypeId
 row:Bool
 tot:Nat
 non:Bool
 K:Fz
def gsV(nm:Nm)(n:Nat):Value:=bif nm.non then .slice nm.K.na 0 0 else .slice (some ⟨nm.blk,nm.off,none⟩) n nm.tot
def dloc(K:Fz):Option Addr×Nat→List Ds→Option (Option Addr×Nat)
 |l,[]=>some l
 |l,.sub lo s::r=>dloc K (if l.2=lo then l.1 else l.1.map (·.add (lo*s)),l.2-lo) r
 |l,.elem i s o::r=>match l.1 with
  |some a=>match K.K a.block (a.off+(i*s+o)) with
   |some (.slice a' _ c)=>dloc K (a',c) r
   |_=>none
  |none=>none
def nmL(nm:Nm):Option Addr×Nat:=bif nm.non then (nm.K.na,0) else (some ⟨nm.blk,nm.off,none⟩,nm.tot)
def gpV(P:Program)(nm:Nm)(lo n:Nat)(t:TypeId)(z:Nat):Value:=bif nm.non then .slice nm.K.na 0 0 else .slice (some (if nm.tot=lo then (⟨nm.blk,nm.off,none⟩:Addr).add (z*P.cellsOf t) else (⟨nm.blk,nm.off,none⟩:Addr).add (lo*P.cellsOf t))) n (nm.tot-lo)
def dvV(nm:Nm)(p:List Ds)(n:Nat):Value:=match dloc nm.K (nmL nm) p with
 |some l=>.slice l.1 n l.2
 |none=>.slice none 0 0
def dqV(nm:Nm)(p:List Ds)(o:Nat):Value:=match dloc nm.K (nmL nm) p with
 |some l=>.pointer (l.1.map (·.add o))
 |none=>.pointer none
def DRep(P:Program)(K:Fz):(d:Dc)→Nat→Nat→d.T→Prop
 | .tc c,b,o,x=>c.ok x∧∀ j v,(c.cs x)[j]? =some v→K.K b (o+j)=some v
 | .row d te,b,o,x=>∃ a c,K.K b o=some (.slice a x.length c)∧Adr K a c∧x.length≤c∧(c:Int)≤9223372036854775807∧∀ i y,x[i]? =some y→∃ b' o',a=some ⟨b',o',none⟩∧DRep P K d b' (o'+i*P.cellsOf te) y
 | .nil,_,_,_=>True
 | .cons a b,k,o,x=>DRep P K a k o x.1∧DRep P K b k (o+a.sz) x.2
 | .agg l,b,o,x=>DRep P K l b o x
def RepR(P:Program)(K:Fz)(d:Dc)(te:TypeId)(l:Option Addr×Nat)(x:List d.T):Prop:=
 Adr K l.1 l.2∧x.length≤l.2∧(l.2:Int)≤9223372036854775807∧∀ i y,x[i]? =some y→∃ b' o',l.1=some ⟨b',o',none⟩∧DRep P K d b' (o'+i*P.cellsOf te) y
def stepT(P:Program)(t:TypeId)(i:Nat):Option (Nat×TypeId):=
 match P.underlying t with
 |some (.struct fs)=>match fs[i]? with|some f=>some (f.offset,f.type)|none=>none
 |some (.array n e)=>if i<n then some (i*P.cellsOf e,e) else none
 |_=>none
def pathT(P:Program):TypeId→List Nat→Option (Nat×TypeId)
 |t,[]=>some (0,t)
 |t,i::p=>match stepT P t i with
  |some (o,e)=>match pathT P e p with
   |some (o',u)=>some (o+o',u)
   |none=>none
  |none=>none
def pathN(P:Program)(nm:Nm)(p:List Nat):Option (Nat×TypeId):=
 if nm.row then
  match p with
  | []=>none
  |i::q=>if i<nm.cap then (match pathT P nm.ty q with|some (o,u)=>some (i*P.cellsOf nm.ty+o,u)|none=>none) else none
 else pathT P nm.ty p
def baseN(P:Program)(nm:Nm)(p:List Nat):Option (Nat×Nat×TypeId):=
 if nm.row then (match p with
  | []=>some (0,nm.cap,nm.ty)
  |i::q=>if i<nm.cap then (match pathT P nm.ty q with
   |some (o,u)=>(match P.underlying u with|some (.array n e)=>some (i*P.cellsOf nm.ty+o,n,e)|_=>none)
   |none=>none) else none)
 else match pathT P nm.ty p with
  |some (o,u)=>(match P.underlying u with|some (.array n e)=>some (o,n,e)|_=>none)
  |none=>none
abbrev Rho:=Nat→Option Nm
mutual
def den(P:Program)(ρ:Rho):AV→Value
 | .int k n=>.int k n
 | .bool b=>.bool b
 | .str s=>.string s
 | .ptr b p _=>match ρ b with
  |some nm=>.pointer (some ⟨nm.blk,nm.off+((pathN P nm p).map (·.1)).getD 0,none⟩)
  |none=>.pointer none
 | .nilp=>.pointer none
 | .sl b p off len cap t=>match ρ b with
  |some nm=>.slice (some ⟨nm.blk,nm.off+(((baseN P nm p).map (·.1)).getD 0+off*P.cellsOf t),none⟩) len cap
  |none=>.slice none 0 0
 | .pa b p off _ t=>match ρ b with
  |some nm=>.pointer (some ⟨nm.blk,nm.off+(((baseN P nm p).map (·.1)).getD 0+off*P.cellsOf t),none⟩)
  |none=>.pointer none
 | .nils=>.slice none 0 0
 | .gs b n _=>match ρ b with
  |some nm=>gsV nm n
  |none=>.slice none 0 0
 | .clo f caps=>.func (.func f) #[] (denT P ρ caps).toArray
 | .nilfn=>.nilFunc
 | .nilif=>.nilIface
 | .ifc t v=>.iface t (den P ρ v)
 | .ints k _ l=>.agg (l.map (Value.int k)).toArray
 | .agg l=>.agg (denC P ρ l).toArray
 | .rows n f=>.agg ((List.range n).flatMap fun i=>(den P ρ (f i)).cells.toList).toArray
 | .tup l=>.tuple (denT P ρ l).toArray
 | .vec c l=>.agg (l.flatMap c.cs).toArray
 | .gp b lo n t _ z=>match ρ b with
  |some nm=>gpV P nm lo n t z
  |none=>.slice none 0 0
 | .dv b p _ _ x=>match ρ b with
  |some nm=>dvV nm p x.length
  |none=>.slice none 0 0
 | .dq b p o _ _ _=>match ρ b with
  |some nm=>dqV nm p o
  |none=>.pointer none
 | .dc _ _=>.agg #[]
 | .itr _ _=>.agg #[]
 | .itp b=>match ρ b with
  |some nm=>.pointer (some ⟨nm.blk,0,none⟩)
  |none=>.pointer none
def denC(P:Program)(ρ:Rho):List AV→List Value
 | []=>[]
 |v::l=>(den P ρ v).cells.toList++denC P ρ l
def denT(P:Program)(ρ:Rho):List AV→List Value
 | []=>[]
 |v::l=>den P ρ v::denT P ρ l
end
def cells(P:Program)(ρ:Rho)(v:AV):List Value:=(den P ρ v).cells.toList
def oneF(P:Program)(g:TypeId→Bool)(fs:List Field)(o s:Nat):Bool:=
 match fs with
 | []=>false
 |f::r=>match r with
  | []=>Nat.beq f.offset o&&g f.type&&Nat.beq (o+P.cellsOf f.type) s
  |_::_=>false
def oneN(g:TypeId→Bool)(n:Nat)(e:TypeId):Bool:=Nat.beq n 1&&g e
def fitInt(P:Program)(k:IntKind)(t:TypeId):Bool:=(match P.underlying t with|some (.int k')=>Nat.beq (kxq k) (kxq k')|_=>false)&&Nat.beq (P.cellsOf t) 1
def fitBool(P:Program)(t:TypeId):Bool:=(match P.underlying t with|some .bool=>true|_=>false)&&Nat.beq (P.cellsOf t) 1
def fitInts(P:Program)(k:IntKind)(n:Nat)(t:TypeId):Bool:=match P.underlying t with
 |some (.array m e)=>Nat.beq n m&&fitInt P k e&&Nat.beq (P.cellsOf t) n
 |_=>false
def fitAgg(P:Program)(g:List Field→Nat→Nat→Bool)(h:Nat→TypeId→Bool)(t:TypeId):Bool:=match P.underlying t with
 |some (.struct fs)=>g fs.toList 0 (P.cellsOf t)
 |some (.array n e)=>h n e&&Nat.beq (P.cellsOf t) (n*P.cellsOf e)
 |_=>false
def Tc.fitB(P:Program):(c:Tc)→(TypeId→Bool)×(List Field→Nat→Nat→Bool)×(Nat→TypeId→Bool)
 | .int k=>(fitInt P k,oneF P (fitInt P k),oneN (fitInt P k))
 | .bool=>(fitBool P,oneF P (fitBool P),oneN (fitBool P))
 | .ints k n=>(fitInts P k n,oneF P (fitInts P k n),oneN (fitInts P k n))
 | .nil=>(fun _=>false,fun fs o s=>(match fs with| []=>Nat.beq o s|_::_=>false),fun n _=>Nat.beq n 0)
 | .cons a b=>(fun _=>false,
  fun fs o s=>(match fs with
   |f::fs=>Nat.beq f.offset o&&(a.fitB P).1 f.type&&(b.fitB P).2.1 fs (o+P.cellsOf f.type) s
   | []=>false),
  fun n e=>(match n with
   |n+1=>(a.fitB P).1 e&&(b.fitB P).2.2 n e
   |0=>false))
 | .agg l=>(fitAgg P (l.fitB P).2.1 (l.fitB P).2.2,oneF P (fitAgg P (l.fitB P).2.1 (l.fitB P).2.2),oneN (fitAgg P (l.fitB P).2.1 (l.fitB P).2.2))
def Tc.fit(P:Program)(c:Tc)(t:TypeId):Bool:=(c.fitB P).1 t
def Dc.fitB(P:Program):(d:Dc)→(TypeId→Bool)×(List Field→Nat→Nat→Bool)
 | .tc c=>(c.fit P,oneF P (c.fit P))
 | .row d te=>(fun t=>(match P.underlying t with|some (.slice e)=>Nat.beq e te|_=>false)&&Nat.beq (P.cellsOf t) 1&&(d.fitB P).1 te,
   oneF P fun t=>(match P.underlying t with|some (.slice e)=>Nat.beq e te|_=>false)&&Nat.beq (P.cellsOf t) 1&&(d.fitB P).1 te)
 | .nil=>(fun _=>false,fun fs o s=>(match fs with| []=>Nat.beq o s|_::_=>false))
 | .cons a b=>(fun _=>false,fun fs o s=>(match fs with
  |f::fs=>Nat.beq f.offset o&&(a.fitB P).1 f.type&&(b.fitB P).2 fs (o+P.cellsOf f.type) s
  | []=>false))
 | .agg l=>(fitAgg P (l.fitB P).2 (fun _ _=>false),oneF P (fitAgg P (l.fitB P).2 (fun _ _=>false)))
def Dc.fit(P:Program)(d:Dc)(t:TypeId):Bool:=(d.fitB P).1 t
mutual
def OK(P:Program)(ρ:Rho):AV→Prop
 | .int k n=>k.min≤n∧n≤k.max
 | .str s=>(s.size:Int)≤9223372036854775807
 | .ptr b p t=>∃ nm o,ρ b=some nm∧pathN P nm p=some (o,t)
 | .sl b p off len cap t=>∃ nm o n,ρ b=some nm∧baseN P nm p=some (o,n,t)∧off+cap≤n∧len≤cap∧(cap:Int)≤9223372036854775807
 | .pa b p off n t=>∃ nm o m,ρ b=some nm∧baseN P nm p=some (o,m,t)∧off+n≤m
 | .gs b n t=>∃ nm,ρ b=some nm∧nm.row=true∧nm.ty=t∧n=nm.cap∧n≤nm.tot∧(nm.non=true→n=0)∧(nm.tot:Int)≤9223372036854775807
 | .clo _ l=>OKL P ρ l
 | .ifc _ v=>OK P ρ v
 | .ints k n l=>l.length=n∧∀ x∈l,k.min≤x∧x≤k.max
 | .agg l=>OKL P ρ l
 | .rows _ f=>∀ i,OK P ρ (f i)
 | .tup l=>OKL P ρ l
 | .vec c l=>∀ x∈l,c.ok x
 | .gp b lo n t nn _=>∃ nm,ρ b=some nm∧(nn=true→nm.non=false∨nm.K.na≠none)∧nm.row=true∧nm.ty=t∧lo+n≤nm.cap∧nm.cap≤nm.tot∧(nm.non=true→nm.cap=0)∧(nm.tot:Int)≤9223372036854775807
 | .dv b p t d x=>∃ nm l,ρ b=some nm∧dloc nm.K (nmL nm) p=some l∧d.fit P t=true∧RepR P nm.K d t l x∧(p=[]→x.length=nm.K.fz∧nm.ty=t)
 | .dq b p o t d x=>∃ nm b' o' c,ρ b=some nm∧dloc nm.K (nmL nm) p=some (some ⟨b',o',none⟩,c)∧d.fit P t=true∧DRep P nm.K d b' (o'+o) x
 | .itp b=>∃ nm,ρ b=some nm
 | .itr s _=>(s.size:Int)≤9223372036854775807
 |_=>True
def OKL(P:Program)(ρ:Rho):List AV→Prop
 | []=>True
 |v::l=>OK P ρ v∧OKL P ρ l
end
mutual
def Has(P:Program):AV→TypeId→Prop
 | .int k _,t=>P.underlying t=some (.int k)∧P.cellsOf t=1
 | .bool _,t=>P.underlying t=some .bool∧P.cellsOf t=1
 | .str _,t=>P.underlying t=some .string∧P.cellsOf t=1
 | .ptr _ _ _,t=>(∃ e,P.underlying t=some (.pointer e))∧P.cellsOf t=1
 | .nilp,t=>(∃ e,P.underlying t=some (.pointer e))∧P.cellsOf t=1
 | .sl _ _ _ _ _ _,t=>(∃ e,P.underlying t=some (.slice e))∧P.cellsOf t=1
 | .pa _ _ _ _ _,t=>(∃ e,P.underlying t=some (.pointer e))∧P.cellsOf t=1
 | .nils,t=>(∃ e,P.underlying t=some (.slice e))∧P.cellsOf t=1
 | .gs _ _ _,t=>(∃ e,P.underlying t=some (.slice e))∧P.cellsOf t=1
 | .clo _ _,t=>(∃ a b c,P.underlying t=some (.func a b c))∧P.cellsOf t=1
 | .nilfn,t=>(∃ a b c,P.underlying t=some (.func a b c))∧P.cellsOf t=1
 | .nilif,t=>(∃ m,P.underlying t=some (.interface m))∧P.cellsOf t=1
 | .ifc _ _,t=>(∃ m,P.underlying t=some (.interface m))∧P.cellsOf t=1
 | .ints k n _,t=>∃ e,P.underlying t=some (.array n e)∧P.underlying e=some (.int k)∧P.cellsOf e=1∧P.cellsOf t=n
 | .agg l,t=>(∃ fs,P.underlying t=some (.struct fs)∧HasF P l fs.toList 0 (P.cellsOf t))∨
   (∃ n e,P.underlying t=some (.array n e)∧l.length=n∧HasA P l e∧P.cellsOf t=n*P.cellsOf e)
 | .rows n f,t=>∃ e,P.underlying t=some (.array n e)∧(∀ i,Has P (f i) e)∧P.cellsOf t=n*P.cellsOf e
 | .tup _,_=>False
 | .vec _ _,_=>False
 | .gp _ _ _ _ _ _,t=>(∃ e,P.underlying t=some (.slice e))∧P.cellsOf t=1
 | .dv _ _ _ _ _,t=>(∃ e,P.underlying t=some (.slice e))∧P.cellsOf t=1
 | .dq _ _ _ _ _ _,t=>(∃ e,P.underlying t=some (.pointer e))∧P.cellsOf t=1
 | .dc _ _,_=>False
 | .itr _ _,_=>False
 | .itp _,_=>False
def HasF(P:Program):List AV→List Field→Nat→Nat→Prop
 | [],[],o,s=>o=s
 |v::l,f::fs,o,s=>f.offset=o∧Has P v f.type∧HasF P l fs (o+P.cellsOf f.type) s
 |_,_,_,_=>False
def HasA(P:Program):List AV→TypeId→Prop
 | [],_=>True
 |v::l,e=>Has P v e∧HasA P l e
end
def HasN(P:Program)(nm:Nm)(T:AV):Prop:=
 if nm.row then
  match T with
  | .ints k n _=>n=nm.cap∧P.underlying nm.ty=some (.int k)∧P.cellsOf nm.ty=1
  | .agg l=>l.length=nm.cap∧HasA P l nm.ty
  | .rows n f=>n=nm.cap∧∀ i,Has P (f i) nm.ty
  | .vec c l=>l.length=nm.cap∧c.fit P nm.ty=true
  | .itr _ _=>nm.cap=0∧nm.non=true
  | .dc _ _=>nm.cap=0∧nm.K.fc=nm.K.fz*P.cellsOf nm.ty
  |_=>False
 else Has P T nm.ty
mutual
def chk(P:Program):AV→TypeId→Bool
 | .int k _,t=>(match P.underlying t with|some (.int k')=>decide (k=k')|_=>false)&&Nat.beq (P.cellsOf t) 1
 | .bool _,t=>(match P.underlying t with|some .bool=>true|_=>false)&&Nat.beq (P.cellsOf t) 1
 | .str _,t=>(match P.underlying t with|some .string=>true|_=>false)&&Nat.beq (P.cellsOf t) 1
 | .ptr _ _ _,t=>(match P.underlying t with|some (.pointer _)=>true|_=>false)&&Nat.beq (P.cellsOf t) 1
 | .nilp,t=>(match P.underlying t with|some (.pointer _)=>true|_=>false)&&Nat.beq (P.cellsOf t) 1
 | .sl _ _ _ _ _ _,t=>(match P.underlying t with|some (.slice _)=>true|_=>false)&&Nat.beq (P.cellsOf t) 1
 | .pa _ _ _ _ _,t=>(match P.underlying t with|some (.pointer _)=>true|_=>false)&&Nat.beq (P.cellsOf t) 1
 | .nils,t=>(match P.underlying t with|some (.slice _)=>true|_=>false)&&Nat.beq (P.cellsOf t) 1
 | .gs _ _ _,t=>(match P.underlying t with|some (.slice _)=>true|_=>false)&&Nat.beq (P.cellsOf t) 1
 | .clo _ _,t=>(match P.underlying t with|some (.func _ _ _)=>true|_=>false)&&Nat.beq (P.cellsOf t) 1
 | .nilfn,t=>(match P.underlying t with|some (.func _ _ _)=>true|_=>false)&&Nat.beq (P.cellsOf t) 1
 | .nilif,t=>(match P.underlying t with|some (.interface _)=>true|_=>false)&&Nat.beq (P.cellsOf t) 1
 | .ifc _ _,t=>(match P.underlying t with|some (.interface _)=>true|_=>false)&&Nat.beq (P.cellsOf t) 1
 | .ints k n _,t=>match P.underlying t with
  |some (.array m e)=>Nat.beq n m&&(match P.underlying e with|some (.int k')=>decide (k=k')|_=>false)&&Nat.beq (P.cellsOf e) 1&&Nat.beq (P.cellsOf t) n
  |_=>false
 | .agg l,t=>match P.underlying t with
  |some (.struct fs)=>chkF P l fs.toList 0 (P.cellsOf t)
  |some (.array n e)=>Nat.beq l.length n&&chkA P l e&&Nat.beq (P.cellsOf t) (n*P.cellsOf e)
  |_=>false
 | .rows _ _,_=>false
 | .tup _,_=>false
 | .vec _ _,_=>false
 | .gp _ _ _ _ _ _,t=>(match P.underlying t with|some (.slice _)=>true|_=>false)&&Nat.beq (P.cellsOf t) 1
 | .dv _ _ _ _ _,t=>(match P.underlying t with|some (.slice _)=>true|_=>false)&&Nat.beq (P.cellsOf t) 1
 | .dq _ _ _ _ _ _,t=>(match P.underlying t with|some (.pointer _)=>true|_=>false)&&Nat.beq (P.cellsOf t) 1
 | .dc _ _,_=>false
 | .itr _ _,_=>false
 | .itp _,_=>false
def chkF(P:Program):List AV→List Field→Nat→Nat→Bool
 | [],[],o,s=>Nat.beq o s
 |v::l,f::fs,o,s=>Nat.beq f.offset o&&chk P v f.type&&chkF P l fs (o+P.cellsOf f.type) s
 |_,_,_,_=>false
def chkA(P:Program):List AV→TypeId→Bool
 | [],_=>true
 |v::l,e=>chk P v e&&chkA P l e
end
def colI(k:IntKind)(n:Nat):List AV→Option (List (List Int))
 | []=>some []
 | .ints k' n' l::r=>cond (decide (k=k')&&Nat.beq n n') (match colI k n r with|some q=>some (l::q)|none=>none) none
 |_::_=>none
def colA(m:Nat):List AV→Option (List (List AV))
 | []=>some []
 | .agg l::r=>cond (Nat.beq l.length m) (match colA m r with|some q=>some (l::q)|none=>none) none
 |_::_=>none
def selCs(f:Nat→Option AV):Nat→Nat→Option (List AV)
 |_,0=>some []
 |c,n+1=>match f c with
  |some v=>match selCs f (c+1) n with
   |some r=>some (v::r)
   |none=>none
  |none=>none
def selL:Nat→List AV→Nat→Option AV
 |0,_,_=>none
 |d+1,l,i=>match l with
  | .ints k n _::_=>match colI k n l with
   |some q=>some (.ints k n (q.getD i []))
   |none=>none
  | .agg l0::_=>match colA l0.length l with
   |some q=>match selCs (fun c=>selL d (q.map fun r=>r.getD c .nilp) i) 0 l0.length with
    |some vs=>some (.agg vs)
    |none=>none
   |none=>none
  |_=>none
def subL(l:List AV)(i:Nat):Option AV:=
 match l with
 | .agg _::_=>match selL 4 l i with
  |some v=>some v
  |none=>l[i]?
 |_=>l[i]?
theorem ZDa{k:IntKind}{n:Nat}:{l:List AV}→{q:List (List Int)}→colI k n l=some q→∀ (j:Nat) (u:AV),l[j]? =some u→∃ x,u= .ints k n x∧q[j]? =some x
 | [],q,h,j,u,hu=>by simp at hu
 |v::r,q,h,j,u,hu=>by
  cases v with
  |ints k' n' l=>
   simp only[colI] at h;cases hc:decide (k=k')&&Nat.beq n n' with
   |false=>rw[hc] at h;simp at h
   |true=>
    rw[hc,cond_true] at h;simp only[bA,decide_eq_true_eq] at hc;obtain⟨rfl,hn⟩:=hc;have hn:=Nat.eq_of_beq_eq_true hn;subst hn;split at h
    ·rename_i q' hq;simp only[oE] at h;subst h;cases j with
     |zero=>simp only[List.getElem?_cons_zero,oE] at hu ⊢;exact⟨l,hu.symm,rfl⟩
     |succ j=>simp only[List.getElem?_cons_succ] at hu ⊢;exact ZDa hq j u hu
    ·simp at h
  |_=>simp[colI] at h
theorem ZDb{m:Nat}:{l:List AV}→{q:List (List AV)}→colA m l=some q→∀ (j:Nat) (u:AV),l[j]? =some u→∃ x,u= .agg x∧q[j]? =some x∧x.length=m
 | [],q,h,j,u,hu=>by simp at hu
 |v::r,q,h,j,u,hu=>by
  cases v with
  |agg l=>
   simp only[colA] at h;cases hc:Nat.beq l.length m with
   |false=>rw[hc] at h;simp at h
   |true=>
    rw[hc,cond_true] at h;have hn:=Nat.eq_of_beq_eq_true hc;split at h
    ·rename_i q' hq;simp only[oE] at h;subst h;cases j with
     |zero=>simp only[List.getElem?_cons_zero,oE] at hu ⊢;exact⟨l,hu.symm,rfl,hn⟩
     |succ j=>simp only[List.getElem?_cons_succ] at hu ⊢;exact ZDb hq j u hu
    ·simp at h
  |_=>simp[colA] at h
theorem ZA6{f:Nat→Option AV}:(c n:Nat)→{vs:List AV}→selCs f c n=some vs→vs.length=n∧∀ j,j<n→f (c+j)=vs[j]?
 |c,0,vs,h=>by
  simp only[selCs,oE] at h;subst h;exact⟨rfl,fun j hj=>by omega⟩
 |c,n+1,vs,h=>by
  simp only[selCs] at h;split at h
  ·rename_i v hv;split at h
   ·rename_i r hr;simp only[oE] at h;subst h;obtain⟨h1,h2⟩:=ZA6 (c+1) n hr;refine⟨by simp[h1],fun j hj=>?_⟩;cases j with
    |zero=>simpa using hv
    |succ j=>rw[List.getElem?_cons_succ,← h2 j (by omega)];congr 1;omega
   ·simp at h
  ·simp at h
theorem ZDc:(d:Nat)→{l:List AV}→{i:Nat}→{v u:AV}→selL d l i=some v→l[i]? =some u→v=u
 |0,l,i,v,u,h,_=>by simp[selL] at h
 |d+1,l,i,v,u,h,hu=>by
  unfold selL at h;split at h
  ·split at h
   ·rename_i q hq;simp only[oE] at h;subst h;obtain⟨x,rfl,hx⟩:=ZDa hq i u hu;rw[List.getD_eq_getElem?_getD,hx];rfl
   ·simp at h
  ·rename_i l0 _;split at h
   ·rename_i q hq;split at h
    ·rename_i vs hvs;simp only[oE] at h;subst h;obtain⟨x,rfl,hx,hxl⟩:=ZDb hq i u hu;obtain⟨h1,h2⟩:=ZA6 0 _ hvs;refine congrArg AV.agg (List.ext_getElem? fun c=>?_);rcases Nat.lt_or_ge c l0.length with hc|hc
     ·have h3:=h2 c hc;rw[Nat.zero_add] at h3;have hvc:c<vs.length:=by omega
      have hxc:c<x.length:=by omega
      rw[List.getElem?_eq_getElem hvc] at h3 ⊢;have h4:=ZDc d h3 (u:=x.getD c .nilp) (by rw[List.getElem?_map,hx];rfl);rw[h4,List.getD_eq_getElem?_getD,List.getElem?_eq_getElem hxc];rfl
     ·rw[List.getElem?_eq_none (by omega),List.getElem?_eq_none (by omega)]
    ·simp at h
   ·simp at h
  ·simp at h
theorem Zz5{l:List AV}{i:Nat}(h:i<l.length):subL l i=l[i]? :=by
 unfold subL;split
 ·split
  ·rename_i v hv;rw[List.getElem?_eq_getElem h,ZDc 4 hv (List.getElem?_eq_getElem h)]
  ·rfl
 ·rfl
def sub1:AV→Nat→Option AV
 | .ints k _ l,i=>some (.int k (l.getD i 0))
 | .agg l,i=>subL l i
 | .rows _ f,i=>some (f i)
 | .vec c l,i=>some (c.mk (l.getD i c.dft))
 |_,_=>none
def getP:AV→List Nat→Option AV
 |v,[]=>some v
 |v,i::p=>match sub1 v i with|some u=>getP u p|none=>none
def put1:AV→Nat→AV→Option AV
 | .ints k n l,i,.int k' m=>if k=k' then some (.ints k n (l.set i m)) else none
 | .agg l,i,v=>some (.agg (l.set i v))
 | .rows n f,i,v=>some (.rows n (fun j=>if j=i then v else f j))
 | .vec c l,i,v=>match c.get v with
  |some x=>some (.vec c (l.set i x))
  |none=>none
 |_,_,_=>none
def setP:AV→List Nat→AV→Option AV
 |_,[],x=>some x
 |v,i::p,x=>match sub1 v i with
  |some u=>match setP u p x with
   |some u'=>put1 v i u'
   |none=>none
  |none=>none
theorem Zaj{a b:Nat}(h:Nat.beq a b=true):a=b:=Nat.eq_of_beq_eq_true h
mutual
theorem ZcF(P:Program):(v:AV)→(t:TypeId)→chk P v t=true→Has P v t
 | .int k n,t,h=>by
  simp only[chk,bA] at h;refine⟨?_,Zaj h.2⟩;obtain⟨h,-⟩:=h;split at h<;>simp_all
 | .bool _,t,h=>by
  simp only[chk,bA] at h;refine⟨?_,Zaj h.2⟩;obtain⟨h,-⟩:=h;split at h<;>simp_all
 | .str _,t,h=>by
  simp only[chk,bA] at h;refine⟨?_,Zaj h.2⟩;obtain⟨h,-⟩:=h;split at h<;>simp_all
 | .ptr _ _ _,t,h=>by
  simp only[chk,bA] at h;refine⟨?_,Zaj h.2⟩;obtain⟨h,-⟩:=h;split at h<;>simp_all
 | .nilp,t,h=>by
  simp only[chk,bA] at h;refine⟨?_,Zaj h.2⟩;obtain⟨h,-⟩:=h;split at h<;>simp_all
 | .sl _ _ _ _ _ _,t,h=>by
  simp only[chk,bA] at h;refine⟨?_,Zaj h.2⟩;obtain⟨h,-⟩:=h;split at h<;>simp_all
 | .gs _ _ _,t,h=>by
  simp only[chk,bA] at h;refine⟨?_,Zaj h.2⟩;obtain⟨h,-⟩:=h;split at h<;>simp_all
 | .pa _ _ _ _ _,t,h=>by
  simp only[chk,bA] at h;refine⟨?_,Zaj h.2⟩;obtain⟨h,-⟩:=h;split at h<;>simp_all
 | .nils,t,h=>by
  simp only[chk,bA] at h;refine⟨?_,Zaj h.2⟩;obtain⟨h,-⟩:=h;split at h<;>simp_all
 | .clo _ _,t,h=>by
  simp only[chk,bA] at h;refine⟨?_,Zaj h.2⟩;obtain⟨h,-⟩:=h;split at h<;>simp_all
 | .nilfn,t,h=>by
  simp only[chk,bA] at h;refine⟨?_,Zaj h.2⟩;obtain⟨h,-⟩:=h;split at h<;>simp_all
 | .nilif,t,h=>by
  simp only[chk,bA] at h;refine⟨?_,Zaj h.2⟩;obtain⟨h,-⟩:=h;split at h<;>simp_all
 | .ifc _ _,t,h=>by
  simp only[chk,bA] at h;refine⟨?_,Zaj h.2⟩;obtain⟨h,-⟩:=h;split at h<;>simp_all
 | .ints k n l,t,h=>by
  simp only[chk] at h;split at h
  ·rename_i m e hu;simp only[bA] at h;obtain⟨⟨⟨h1,h2⟩,h3⟩,h4⟩:=h;have e1:=Zaj h1;subst e1;refine⟨e,hu,?_,Zaj h3,Zaj h4⟩;split at h2<;>simp_all
  ·simp at h
 | .agg l,t,h=>by
  simp only[chk] at h;split at h
  ·rename_i fs hu;exact .inl ⟨fs,hu,Zz7 P l fs.toList 0 _ h⟩
  ·rename_i n e hu;simp only[bA] at h;exact .inr ⟨n,e,hu,Zaj h.1.1,Zz8 P l e h.1.2,Zaj h.2⟩
  ·simp at h
 | .rows _ _,t,h=>by simp[chk] at h
 | .tup _,t,h=>by simp[chk] at h
 | .vec _ _,t,h=>by simp[chk] at h
 | .gp _ _ _ _ _ _,t,h=>by
  simp only[chk,bA] at h;refine⟨?_,Zaj h.2⟩;obtain⟨h,-⟩:=h;split at h<;>simp_all
 | .dv _ _ _ _ _,t,h=>by
  simp only[chk,bA] at h;refine⟨?_,Zaj h.2⟩;obtain⟨h,-⟩:=h;split at h<;>simp_all
 | .dq _ _ _ _ _ _,t,h=>by
  simp only[chk,bA] at h;refine⟨?_,Zaj h.2⟩;obtain⟨h,-⟩:=h;split at h<;>simp_all
 | .dc _ _,t,h=>by simp[chk] at h
 | .itr _ _,t,h=>by simp[chk] at h
 | .itp _,t,h=>by simp[chk] at h
theorem Zz7(P:Program):(l:List AV)→(fs:List Field)→(o s:Nat)→chkF P l fs o s=true→HasF P l fs o s
 | [],[],o,s,h=>by simp only[chkF] at h;exact Zaj h
 |v::l,f::fs,o,s,h=>by
  simp only[chkF,bA] at h;exact⟨Zaj h.1.1,ZcF P v _ h.1.2,Zz7 P l fs _ _ h.2⟩
 | [],_::_,_,_,h=>by simp[chkF] at h
 |_::_,[],_,_,h=>by simp[chkF] at h
theorem Zz8(P:Program):(l:List AV)→(e:TypeId)→chkA P l e=true→HasA P l e
 | [],_,_=>trivial
 |v::l,e,h=>by
  simp only[chkA,bA] at h;exact⟨ZcF P v e h.1,Zz8 P l e h.2⟩
end
theorem ZDd{a b:IntKind}(h:Nat.beq (kxq a) (kxq b)=true):a=b:=by
 have:=Zaj h;cases a<;>cases b<;>simp[kxq] at this<;>rfl
theorem Zt3{α:Type}{g:AV→Option α}{l:List AV}{x:α}(h:oneL g l=some x):∃ v,l=[v]∧g v=some x:=by
 unfold oneL at h;split at h
 ·cases h
 ·split at h
  ·exact⟨_,rfl,h⟩
  ·cases h
theorem Zz9{k:IntKind}{v:AV}{x:Int}(h:getInt k v=some x):v= .int k x:=by
 unfold getInt at h;split at h
 ·cases hc:Nat.beq (kxq k) (kxq _) with
  |false=>rw[hc] at h;cases h
  |true=>rw[hc] at h;rw[ZDd hc,← oI h]
 ·cases h
theorem ZyK{v:AV}{x:Bool}(h:getBool v=some x):v= .bool x:=by
 unfold getBool at h;split at h
 ·rw[← oI h]
 ·cases h
theorem ZyL{k:IntKind}{n:Nat}{v:AV}{x:List Int}(h:getInts k n v=some x):v= .ints k n x:=by
 unfold getInts at h;split at h
 ·rename_i k' n' l;cases hc:Nat.beq (kxq k) (kxq k')&&Nat.beq n n' with
  |false=>rw[hc] at h;cases h
  |true=>
   rw[hc] at h;simp only[bA] at hc;rw[ZDd hc.1,Zaj hc.2,← oI h]
 ·cases h
theorem Zz2{α:Type}{g:List AV→Option α}{v:AV}{x:α}(h:getAgg g v=some x):∃ l,v= .agg l∧g l=some x:=by
 unfold getAgg at h;split at h
 ·exact⟨_,rfl,h⟩
 ·cases h
theorem Tc.get_mkB:(c:Tc)→(∀ v x,c.getB.1 v=some x→v=(c.mkB x).1)∧(∀ l x,c.getB.2 l=some x→l=(c.mkB x).2)
 | .int k=>⟨fun _ _ h=>Zz9 h,fun l x h=>by obtain⟨v,rfl,h⟩:=Zt3 h;rw[Zz9 h];rfl⟩
 | .bool=>⟨fun _ _ h=>ZyK h,fun l x h=>by obtain⟨v,rfl,h⟩:=Zt3 h;rw[ZyK h];rfl⟩
 | .ints k n=>⟨fun _ _ h=>ZyL h,fun l x h=>by obtain⟨v,rfl,h⟩:=Zt3 h;rw[ZyL h];rfl⟩
 | .nil=>⟨fun _ _ h=>by simp[Tc.getB] at h,fun l x h=>by cases l with|nil=>rfl|cons=>simp[Tc.getB] at h⟩
 | .cons a b=>⟨fun _ _ h=>by simp[Tc.getB] at h,fun l x h=>by
   cases l with
   |nil=>simp[Tc.getB] at h
   |cons v r=>
    simp only[Tc.getB] at h;split at h
    ·rename_i y hy;split at h
     ·rename_i z hz;obtain rfl:=oI h;rw[(Tc.get_mkB a).1 v y hy,(Tc.get_mkB b).2 r z hz];rfl
     ·cases h
    ·cases h⟩
 | .agg c=>by
  have key:∀ v x,getAgg c.getB.2 v=some x→v= .agg (c.mkB x).2:=by
   intro v x h;obtain⟨l,rfl,h⟩:=Zz2 h;rw[(Tc.get_mkB c).2 l x h]
  exact⟨key,fun l x h=>by obtain⟨v,rfl,h⟩:=Zt3 h;rw[key v x h];rfl⟩
theorem Tc.get_mk{c:Tc}{v:AV}{x:c.T}(h:c.get v=some x):v=c.mk x:=(Tc.get_mkB c).1 v x h
theorem Zmr{P:Program}{k:IntKind}{t:TypeId}(h:fitInt P k t=true):P.underlying t=some (.int k)∧P.cellsOf t=1:=by
 unfold fitInt at h;simp only[bA] at h;refine⟨?_,Zaj h.2⟩;have h:=h.1;split at h
 ·rename_i k' hk;rw[hk,ZDd h]
 ·cases h
theorem Tc.fit_hasB(P:Program):(c:Tc)→(∀ t,(c.fitB P).1 t=true→∀ x,Has P (c.mkB x).1 t)∧(∀ fs o s,(c.fitB P).2.1 fs o s=true→∀ x,HasF P (c.mkB x).2 fs o s)∧
  (∀ n e,(c.fitB P).2.2 n e=true→∀ x,(c.mkB x).2.length=n∧HasA P (c.mkB x).2 e):=by
 have oneF':∀ {α:Type} (g:TypeId→Bool) (m:α→AV),(∀ t,g t=true→∀ x,Has P (m x) t)→∀ fs o s,oneF P g fs o s=true→∀ x,HasF P [m x] fs o s:=by
  intro α g m hg fs o s h x;unfold oneF at h;split at h
  ·cases h
  ·split at h
   ·simp only[bA] at h;exact⟨Zaj h.1.1,hg _ h.1.2 x,Zaj h.2⟩
   ·cases h
 have oneN':∀ {α:Type} (g:TypeId→Bool) (m:α→AV),(∀ t,g t=true→∀ x,Has P (m x) t)→∀ n e,oneN g n e=true→∀ x,[m x].length=n∧HasA P [m x] e:=by
  intro α g m hg n e h x;simp only[oneN,bA] at h;exact⟨(Zaj h.1).symm,hg _ h.2 x,trivial⟩
 intro c
 induction c with
 |int k=>
  have key:∀ t,fitInt P k t=true→∀ x:Int,Has P (.int k x) t:=fun t h x=>Zmr h
  exact⟨key,oneF' _ _ key,oneN' _ _ key⟩
 |bool=>
  have key:∀ t,fitBool P t=true→∀ x:Bool,Has P (.bool x) t:=by
   intro t h x;simp only[fitBool,bA] at h;refine⟨?_,Zaj h.2⟩;have h:=h.1;split at h
   ·assumption
   ·cases h
  exact⟨key,oneF' _ _ key,oneN' _ _ key⟩
 |ints k n=>
  have key:∀ t,fitInts P k n t=true→∀ x:List Int,Has P (.ints k n x) t:=by
   intro t h x;unfold fitInts at h;split at h
   ·rename_i m e hu;simp only[bA] at h;obtain⟨g1,g2⟩:=Zmr h.1.2;rw[← Zaj h.1.1] at hu;exact⟨e,hu,g1,g2,Zaj h.2⟩
   ·cases h
  exact⟨key,oneF' _ _ key,oneN' _ _ key⟩
 |nil=>
  refine⟨fun t h=>by simp[Tc.fitB] at h,fun fs o s h x=>?_,fun n e h x=>⟨(Zaj h).symm,trivial⟩⟩;cases fs with
  |nil=>exact Zaj h
  |cons=>simp[Tc.fitB] at h
 |cons a b iha ihb=>
  refine⟨fun t h=>by simp[Tc.fitB] at h,fun fs o s h x=>?_,fun n e h x=>?_⟩
  ·cases fs with
   |nil=>simp[Tc.fitB] at h
   |cons f fs=>
    simp only[Tc.fitB,bA] at h;exact⟨Zaj h.1.1,iha.1 _ h.1.2 x.1,ihb.2.1 _ _ _ h.2 x.2⟩
  ·cases n with
   |zero=>simp[Tc.fitB] at h
   |succ n=>
    simp only[Tc.fitB,bA] at h;obtain⟨g1,g2⟩:=ihb.2.2 _ _ h.2 x.2;exact⟨by simp[Tc.mkB,g1],iha.1 _ h.1 x.1,g2⟩
 |agg l ih=>
  have key:∀ t,fitAgg P (l.fitB P).2.1 (l.fitB P).2.2 t=true→∀ x,Has P (.agg (l.mkB x).2) t:=by
   intro t h x;unfold fitAgg at h;split at h
   ·rename_i fs hu;exact .inl ⟨fs,hu,ih.2.1 _ _ _ h x⟩
   ·rename_i n e hu;simp only[bA] at h;obtain⟨g1,g2⟩:=ih.2.2 _ _ h.1 x;exact .inr ⟨n,e,hu,g1,g2,Zaj h.2⟩
   ·cases h
  exact⟨key,oneF' _ _ key,oneN' _ _ key⟩
theorem Tc.fit_has{P:Program}{c:Tc}{t:TypeId}(h:c.fit P t=true)(x:c.T):Has P (c.mk x) t:=(Tc.fit_hasB P c).1 t h x
theorem Tc.ok_mkB(P:Program)(ρ:Rho):(c:Tc)→(x:c.T)→(OK P ρ (c.mkB x).1↔c.ok x)∧(OKL P ρ (c.mkB x).2↔c.ok x)
 | .int k,x=>⟨Iff.rfl,by simp[Tc.mkB,OKL,OK,Tc.ok]⟩
 | .bool,x=>⟨by simp[Tc.mkB,OK,Tc.ok],by simp[Tc.mkB,OKL,OK,Tc.ok]⟩
 | .ints k n,x=>⟨Iff.rfl,by simp[Tc.mkB,OKL,OK,Tc.ok]⟩
 | .nil,x=>⟨by simp[Tc.mkB,OKL,OK,Tc.ok],by simp[Tc.mkB,OKL,Tc.ok]⟩
 | .cons a b,x=>by
  have h1:=(Tc.ok_mkB P ρ a x.1).1;have h2:=(Tc.ok_mkB P ρ b x.2).2;constructor
  ·simp only[Tc.mkB,OK,OKL,Tc.ok];rw[h1,h2]
  ·simp only[Tc.mkB,OKL,Tc.ok];rw[h1,h2]
 | .agg l,x=>by
  have h2:=(Tc.ok_mkB P ρ l x).2;constructor
  ·simp only[Tc.mkB,OK,Tc.ok];exact h2
  ·simp only[Tc.mkB,OKL,OK,Tc.ok,and_true];exact h2
theorem Tc.ok_mk{P:Program}{ρ:Rho}{c:Tc}{x:c.T}:OK P ρ (c.mk x)↔c.ok x:=(Tc.ok_mkB P ρ c x).1
theorem Tc.cs_mkB(P:Program)(ρ:Rho):(c:Tc)→(x:c.T)→(den P ρ (c.mkB x).1).cells.toList=c.cs x∧denC P ρ (c.mkB x).2=c.cs x
 | .int k,x=>⟨by simp[Tc.mkB,den,Value.cells,Tc.cs],by simp[Tc.mkB,denC,den,Value.cells,Tc.cs]⟩
 | .bool,x=>⟨by simp[Tc.mkB,den,Value.cells,Tc.cs],by simp[Tc.mkB,denC,den,Value.cells,Tc.cs]⟩
 | .ints k n,x=>⟨by simp[Tc.mkB,den,Value.cells,Tc.cs],by simp[Tc.mkB,denC,den,Value.cells,Tc.cs]⟩
 | .nil,x=>⟨by simp[Tc.mkB,den,denC,Value.cells,Tc.cs],by simp[Tc.mkB,denC,Tc.cs]⟩
 | .cons a b,x=>by
  have h1:=(Tc.cs_mkB P ρ a x.1).1;have h2:=(Tc.cs_mkB P ρ b x.2).2;constructor
  ·simp[Tc.mkB,den,denC,Value.cells,Tc.cs,h2] at h1 ⊢;exact h1
  ·simp[Tc.mkB,denC,Tc.cs,h2] at h1 ⊢;exact h1
 | .agg l,x=>by
  have h2:=(Tc.cs_mkB P ρ l x).2;constructor
  ·simp[Tc.mkB,den,Value.cells,Tc.cs,h2]
  ·simp[Tc.mkB,denC,den,Value.cells,Tc.cs,h2]
def Tc.same:Tc→Tc→Bool
 | .int k,.int k'=>Nat.beq (kxq k) (kxq k')
 | .bool,.bool=>true
 | .ints k n,.ints k' n'=>Nat.beq (kxq k) (kxq k')&&Nat.beq n n'
 | .nil,.nil=>true
 | .cons a b,.cons a' b'=>a.same a'&&b.same b'
 | .agg l,.agg l'=>l.same l'
 |_,_=>false
theorem Tc.same_eq:(a b:Tc)→a.same b=true→a=b
 | .int k,b,h=>by
  cases b<;>simp only[Tc.same,Bool.false_eq_true] at h;rw[ZDd h]
 | .bool,b,h=>by cases b<;>simp[Tc.same] at h;rfl
 | .ints k n,b,h=>by
  cases b<;>simp only[Tc.same,bA,Bool.false_eq_true] at h;rw[ZDd h.1,Zaj h.2]
 | .nil,b,h=>by cases b<;>simp[Tc.same] at h;rfl
 | .cons a c,b,h=>by
  cases b<;>simp only[Tc.same,bA,Bool.false_eq_true] at h;rw[Tc.same_eq a _ h.1,Tc.same_eq c _ h.2]
 | .agg l,b,h=>by
  cases b<;>simp only[Tc.same,Bool.false_eq_true] at h;rw[Tc.same_eq l _ h]
def Dc.same:Dc→Dc→Bool
 | .tc c,.tc c'=>c.same c'
 | .row d t,.row d' t'=>d.same d'&&Nat.beq t t'
 | .nil,.nil=>true
 | .cons a b,.cons a' b'=>a.same a'&&b.same b'
 | .agg l,.agg l'=>l.same l'
 |_,_=>false
theorem Dc.same_eq:(a b:Dc)→a.same b=true→a=b
 | .tc c,b,h=>by
  cases b<;>simp only[Dc.same,Bool.false_eq_true] at h;rw[Tc.same_eq c _ h]
 | .row d t,b,h=>by
  cases b<;>simp only[Dc.same,bA,Bool.false_eq_true] at h;rw[Dc.same_eq d _ h.1,Zaj h.2]
 | .nil,b,h=>by cases b<;>simp[Dc.same] at h;rfl
 | .cons a c,b,h=>by
  cases b<;>simp only[Dc.same,bA,Bool.false_eq_true] at h;rw[Dc.same_eq a _ h.1,Dc.same_eq c _ h.2]
 | .agg l,b,h=>by
  cases b<;>simp only[Dc.same,Bool.false_eq_true] at h;rw[Dc.same_eq l _ h]
def castD{d d':Dc}(h:d=d')(l:List d.T):List d'.T:=h▸l
def Dc.mkB(b:Nat)(p:List Ds):(d:Dc)→Nat→d.T→AV×List AV
 | .tc c,_,x=>(c.mk x,[c.mk x])
 | .row d te,o,x=>(.dv b (p++[.elem 0 0 o]) te d x,[.dv b (p++[.elem 0 0 o]) te d x])
 | .nil,_,_=>(.agg [],[])
 | .cons a r,o,x=>(.agg ((a.mkB b p o x.1).1::(r.mkB b p (o+a.sz) x.2).2),(a.mkB b p o x.1).1::(r.mkB b p (o+a.sz) x.2).2)
 | .agg l,o,x=>(.agg (l.mkB b p o x).2,[.agg (l.mkB b p o x).2])
def Dc.nth:(d:Dc)→Nat→d.T→Option ((e:Dc)×e.T)
 | .cons a _,0,x=>some ⟨a,x.1⟩
 | .cons _ r,i+1,x=>r.nth i x.2
 | .nil,_,_=>none
 | .tc c,0,x=>some ⟨.tc c,x⟩
 | .row d te,0,x=>some ⟨.row d te,x⟩
 | .agg l,0,x=>some ⟨.agg l,x⟩
 | .tc _,_+1,_=>none
 | .row _ _,_+1,_=>none
 | .agg _,_+1,_=>none
end Go.Vx
