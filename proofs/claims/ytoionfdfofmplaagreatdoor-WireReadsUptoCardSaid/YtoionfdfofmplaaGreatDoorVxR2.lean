import Derived.Test.YtoionfdfofmplaaGreatDoorVxPb
import Derived.Laws.Externs
import Derived.KernelRfl
set_option autoImplicit false
set_option linter.unusedVariables false
set_option linter.unusedSimpArgs false
namespace Go.Vx
open Go Go.RowKit
mutual
def eqv:AV→AV→Bool
 | .int k a,.int k' b=>kEq k k'&&decide (a=b)
 | .bool a,.bool b=>(match a,b with|true,true=>true|false,false=>true|_,_=>false)
 | .ptr b p t,.ptr b' p' t'=>Nat.beq b b'&&decide (p=p')&&Nat.beq t t'
 | .nilp,.nilp=>true
 | .nils,.nils=>true
 | .nilfn,.nilfn=>true
 | .nilif,.nilif=>true
 | .ints k n l,.ints k' n' l'=>kEq k k'&&Nat.beq n n'&&decide (l=l')
 | .agg l,.agg l'=>eqvL l l'
 | .tup l,.tup l'=>eqvL l l'
 | .clo f l,.clo f' l'=>Nat.beq f f'&&eqvL l l'
 | .itp a,.itp b=>Nat.beq a b
 | .dc d x,.dc d' x'=>d.same d'&&(x.isEmpty&&x'.isEmpty)
 |_,_=>false
def eqvL:List AV→List AV→Bool
 | [],[]=>true
 |a::l,b::l'=>eqv a b&&eqvL l l'
 |_,_=>false
end
mutual
theorem ZCp:(a b:AV)→eqv a b=true→a=b
 | .int k a,b,h=>by
  cases b<;>simp only[eqv,bA,decide_eq_true_eq,Bool.false_eq_true] at h;obtain⟨h1,h2⟩:=h;rw[ZmU h1,h2]
 | .bool a,b,h=>by
  cases b<;>simp only[eqv,Bool.false_eq_true] at h;split at h<;>simp_all
 | .str _,b,h=>by cases b<;>simp[eqv] at h
 | .ptr b p t,c,h=>by
  cases c<;>simp only[eqv,bA,decide_eq_true_eq,Bool.false_eq_true] at h;obtain⟨⟨h1,h2⟩,h3⟩:=h;rw[Zaj h1,h2,Zaj h3]
 | .nilp,b,h=>by cases b<;>simp only[eqv,Bool.false_eq_true] at h;rfl
 | .sl _ _ _ _ _ _,b,h=>by cases b<;>simp[eqv] at h
 | .gs _ _ _,b,h=>by cases b<;>simp[eqv] at h
 | .pa _ _ _ _ _,b,h=>by cases b<;>simp[eqv] at h
 | .nils,b,h=>by cases b<;>simp only[eqv,Bool.false_eq_true] at h;rfl
 | .clo f l,b,h=>by
  cases b<;>simp only[eqv,bA,Bool.false_eq_true] at h;obtain⟨h1,h2⟩:=h;rw[Zaj h1,ZBy _ _ h2]
 | .nilfn,b,h=>by cases b<;>simp only[eqv,Bool.false_eq_true] at h;rfl
 | .nilif,b,h=>by cases b<;>simp only[eqv,Bool.false_eq_true] at h;rfl
 | .ifc _ _,b,h=>by cases b<;>simp[eqv] at h
 | .ints k n l,b,h=>by
  cases b<;>simp only[eqv,bA,decide_eq_true_eq,Bool.false_eq_true] at h;obtain⟨⟨h1,h2⟩,h3⟩:=h;rw[ZmU h1,Zaj h2,h3]
 | .agg l,b,h=>by
  cases b<;>simp only[eqv,Bool.false_eq_true] at h;rw[ZBy _ _ h]
 | .rows _ _,b,h=>by cases b<;>simp[eqv] at h
 | .tup l,b,h=>by
  cases b<;>simp only[eqv,Bool.false_eq_true] at h;rw[ZBy _ _ h]
 | .vec _ _,b,h=>by cases b<;>simp[eqv] at h
 | .gp _ _ _ _ _ _,b,h=>by cases b<;>simp[eqv] at h
 | .dv _ _ _ _ _,b,h=>by cases b<;>simp[eqv] at h
 | .dq _ _ _ _ _ _,b,h=>by cases b<;>simp[eqv] at h
 | .dc d x,b,h=>by
  cases b<;>simp only[eqv,bA,Bool.false_eq_true] at h;obtain⟨h1,h2,h3⟩:=h;have e:=Dc.same_eq _ _ h1;subst e;rw[List.isEmpty_iff.1 h2,List.isEmpty_iff.1 h3]
 | .itr _ _,b,h=>by cases b<;>simp[eqv] at h
 | .itp a,b,h=>by
  cases b<;>simp only[eqv,Bool.false_eq_true] at h;rw[Zaj h]
theorem ZBy:(l l':List AV)→eqvL l l'=true→l=l'
 | [],l',h=>by cases l'<;>simp[eqvL] at h;rfl
 |a::l,l',h=>by
  cases l'<;>simp only[eqvL,bA,Bool.false_eq_true] at h;rw[ZCp _ _ h.1,ZBy _ _ h.2]
end
mutual
def nb(m:Nat):AV→Bool
 | .ptr b _ _=>Nat.blt b m
 | .sl b _ _ _ _ _=>Nat.blt b m
 | .gs b _ _=>Nat.blt b m
 | .gp b _ _ _ _ _=>Nat.blt b m
 | .dv b _ _ _ _=>Nat.blt b m
 | .dq b _ _ _ _ _=>Nat.blt b m
 | .itp b=>Nat.blt b m
 | .pa b _ _ _ _=>Nat.blt b m
 | .clo _ l=>nbL m l
 | .ifc _ v=>nb m v
 | .agg l=>nbL m l
 | .rows _ _=>false
 | .tup l=>nbL m l
 |_=>true
def nbL(m:Nat):List AV→Bool
 | []=>true
 |v::l=>nb m v&&nbL m l
end
def cut(ρ:Rho)(m:Nat):Rho:=fun b=>if b<m then ρ b else none
theorem ZBw(ρ:Rho)(m:Nat):Ext (cut ρ m) ρ:=fun b nm h=>by
 unfold cut at h;split at h
 ·exact h
 ·simp at h
mutual
theorem nb_ok(P:Program){ρ:Rho}{m:Nat}:(v:AV)→nb m v=true→OK P ρ v→OK P (cut ρ m) v
 | .int _ _,_,ok=>by simpa [OK] using ok
 | .bool _,_,_=>by simp[OK]
 | .str _,_,ok=>by simpa [OK] using ok
 | .ptr b p t,h,ok=>by
  simp only[nb] at h;have hb:b<m:=by simpa using h
  simp only[OK] at ok ⊢;obtain⟨nm,o,h1,h2⟩:=ok;exact⟨nm,o,by unfold cut;rw[if_pos hb];exact h1,h2⟩
 | .nilp,_,_=>by simp[OK]
 | .sl b _ _ _ _ _,h,ok=>by
  simp only[nb] at h;have hb:b<m:=by simpa using h
  simp only[OK] at ok ⊢;obtain⟨nm,o,n,h1,h2⟩:=ok;exact⟨nm,o,n,by unfold cut;rw[if_pos hb];exact h1,h2⟩
 | .nils,_,_=>by simp[OK]
 | .pa b _ _ _ _,h,ok=>by
  simp only[nb] at h;have hb:b<m:=by simpa using h
  simp only[OK] at ok ⊢;obtain⟨nm,o,n,h1,h2⟩:=ok;exact⟨nm,o,n,by unfold cut;rw[if_pos hb];exact h1,h2⟩
 | .gs b _ _,h,ok=>by
  simp only[nb] at h;have hb:b<m:=by simpa using h
  simp only[OK] at ok ⊢;obtain⟨nm,h1,h2⟩:=ok;exact⟨nm,by unfold cut;rw[if_pos hb];exact h1,h2⟩
 | .clo _ l,h,ok=>by simp only[nb] at h;simp only[OK] at ok ⊢;exact ZEk P l h ok
 | .nilfn,_,_=>by simp[OK]
 | .nilif,_,_=>by simp[OK]
 | .ifc _ v,h,ok=>by simp only[nb] at h;simp only[OK] at ok ⊢;exact nb_ok P v h ok
 | .ints _ _ _,_,ok=>by simpa [OK] using ok
 | .agg l,h,ok=>by simp only[nb] at h;simp only[OK] at ok ⊢;exact ZEk P l h ok
 | .rows _ _,h,_=>by simp[nb] at h
 | .tup l,h,ok=>by simp only[nb] at h;simp only[OK] at ok ⊢;exact ZEk P l h ok
 | .vec _ _,_,ok=>by simpa [OK] using ok
 | .gp b _ _ _ _ _,h,ok=>by
  simp only[nb] at h;have hb:b<m:=by simpa using h
  simp only[OK] at ok ⊢;obtain⟨nm,h1,h2⟩:=ok;exact⟨nm,by unfold cut;rw[if_pos hb];exact h1,h2⟩
 | .dv b _ _ _ _,h,ok=>by
  simp only[nb] at h;have hb:b<m:=by simpa using h
  simp only[OK] at ok ⊢;obtain⟨nm,l,h1,h2⟩:=ok;exact⟨nm,l,by unfold cut;rw[if_pos hb];exact h1,h2⟩
 | .dq b _ _ _ _ _,h,ok=>by
  simp only[nb] at h;have hb:b<m:=by simpa using h
  simp only[OK] at ok ⊢;obtain⟨nm,b',o',c,h1,h2⟩:=ok;exact⟨nm,b',o',c,by unfold cut;rw[if_pos hb];exact h1,h2⟩
 | .dc _ _,_,_=>by simp[OK]
 | .itr _ _,_,ok=>by simpa [OK] using ok
 | .itp b,h,ok=>by
  simp only[nb] at h;have hb:b<m:=by simpa using h
  simp only[OK] at ok ⊢;obtain⟨nm,h1⟩:=ok;exact⟨nm,by unfold cut;rw[if_pos hb];exact h1⟩
theorem ZEk(P:Program){ρ:Rho}{m:Nat}:(l:List AV)→nbL m l=true→OKL P ρ l→OKL P (cut ρ m) l
 | [],_,_=>by simp[OKL]
 |v::l,h,ok=>by
  simp only[nbL,bA] at h;simp only[OKL] at ok ⊢;exact⟨nb_ok P v h.1 ok.1,ZEk P l h.2 ok.2⟩
end
mutual
inductive Pt:Type→Type 1 where
 |int (k:IntKind):Pt Int
 |bool:Pt Bool
 |ints (k:IntKind) (n:Nat):Pt (List Int)
 |lst (k:IntKind):Pt (Nat×List Int)
 |vec (c:Tc):Pt (List c.T)
 |slw (b:Nat) (te:TypeId):Pt Nat
 |gsw (b:Nat) (te:TypeId):Pt Nat
 |gpw (b:Nat) (te:TypeId):Pt (Nat×Nat×Nat)
 |dvw (b:Nat) (te:TypeId) (d:Dc):Pt (List d.T)
 |lit (v:AV):Pt Unit
 |str:Pt ByteArray
 |itr:Pt (ByteArray×Nat)
 |agg {α:Type} (e:Ag α):Pt α
 |tup {α:Type} (e:Ag α):Pt α
inductive Ag:Type→Type 1 where
 |nil:Ag Unit
 |one {α:Type} (p:Pt α):Ag α
 |cons {α β:Type} (p:Pt α) (r:Ag β):Ag (α×β)
end
mutual
def Pt.mk{α:Type}:Pt α→α→AV
 | .int k,x=>.int k x
 | .bool,x=>.bool x
 | .ints k n,x=>.ints k n x
 | .lst k,x=>.ints k x.1 x.2
 | .vec c,x=>.vec c x
 | .slw b te,x=>.gs b x te
 | .gsw b te,x=>.gs b x te
 | .gpw b te,x=>.gp b x.1 x.2.1 te false x.2.2
 | .dvw b te d,x=>.dv b [] te d x
 | .lit v,_=>v
 | .str,x=>.str x
 | .itr,x=>.itr x.1 x.2
 | .agg e,x=>.agg (e.mk x)
 | .tup e,x=>.tup (e.mk x)
def Ag.mk{α:Type}:Ag α→α→List AV
 | .nil,_=>[]
 | .one p,x=>[p.mk x]
 | .cons p r,x=>p.mk x.1::r.mk x.2
end
mutual
def Pt.get{α:Type}:Pt α→AV→Option α
 | .int k,v=>match v with| .int k' x=>cond (kEq k k') (some x) none|_=>none
 | .bool,v=>match v with| .bool x=>some x|_=>none
 | .ints k n,v=>match v with| .ints k' n' x=>cond (kEq k k'&&Nat.beq n n') (some x) none|_=>none
 | .lst k,v=>match v with| .ints k' n x=>cond (kEq k k') (some (n,x)) none|_=>none
 | .vec c,v=>match v with
  | .vec c' x=>(match h:c'.same c with
   |true=>some (castRow (Tc.same_eq c' c h) x)
   |false=>none)
  |_=>none
 | .slw b te,v=>match v with| .gs b' n te'=>cond (Nat.beq b b'&&Nat.beq te te') (some n) none|_=>none
 | .gsw b te,v=>match v with| .gs b' n te'=>cond (Nat.beq b b'&&Nat.beq te te') (some n) none|_=>none
 | .gpw b te,v=>match v with| .gp b' lo n te' nn z=>cond (Nat.beq b b'&&Nat.beq te te'&& !nn) (some (lo,n,z)) none|_=>none
 | .dvw b te d,v=>match v with
  | .dv b' p te' d' x=>match p with
   | []=>(match h:d'.same d with
    |true=>cond (Nat.beq b b'&&Nat.beq te te') (some (castD (Dc.same_eq d' d h) x)) none
    |false=>none)
   |_::_=>none
  |_=>none
 | .lit u,v=>cond (eqv u v) (some ()) none
 | .str,v=>match v with| .str x=>some x|_=>none
 | .itr,v=>match v with| .itr s p=>some (s,p)|_=>none
 | .agg e,v=>match v with| .agg l=>e.get l|_=>none
 | .tup e,v=>match v with| .tup l=>e.get l|_=>none
def Ag.get{α:Type}:Ag α→List AV→Option α
 | .nil,l=>match l with| []=>some ()|_=>none
 | .one p,l=>match l with
  | []=>none
  |v::l=>match l with| []=>p.get v|_::_=>none
 | .cons p r,l=>match l with
  |v::l=>match p.get v with
   |some x=>match r.get l with
    |some y=>some (x,y)
    |none=>none
   |none=>none
  | []=>none
end
mutual
theorem Pt.get_mk{α:Type}:(p:Pt α)→(v:AV)→(x:α)→p.get v=some x→v=p.mk x
 | .int k,v,x,h=>by
  simp only[Pt.get] at h;split at h
  ·obtain⟨h1,h2⟩:=Zac h;rw[Pt.mk,ZmU h1,oI h2]
  ·simp at h
 | .bool,v,x,h=>by
  simp only[Pt.get] at h;split at h
  ·rw[Pt.mk,oI h]
  ·simp at h
 | .ints k n,v,x,h=>by
  simp only[Pt.get] at h;split at h
  ·obtain⟨h1,h2⟩:=Zac h;simp only[bA] at h1;rw[Pt.mk,ZmU h1.1,Zaj h1.2,oI h2]
  ·simp at h
 | .lst k,v,x,h=>by
  simp only[Pt.get] at h;split at h
  ·obtain⟨h1,h2⟩:=Zac h;rw[Pt.mk,ZmU h1,← oI h2]
  ·simp at h
 | .vec c,v,x,h=>by
  simp only[Pt.get] at h;split at h
  ·rename_i c' l;split at h
   ·rename_i hs;have e:=Tc.same_eq c' c hs;subst e;rw[Pt.mk,← oI h];rfl
   ·cases h
  ·simp at h
 | .slw b te,v,x,h=>by
  simp only[Pt.get] at h;split at h
  ·obtain⟨h1,h2⟩:=Zac h;simp only[bA] at h1;rw[Pt.mk,Zaj h1.1,Zaj h1.2,← oI h2]
  ·simp at h
 | .gsw b te,v,x,h=>by
  simp only[Pt.get] at h;split at h
  ·obtain⟨h1,h2⟩:=Zac h;simp only[bA] at h1;rw[Pt.mk,Zaj h1.1,Zaj h1.2,← oI h2]
  ·simp at h
 | .gpw b te,v,x,h=>by
  simp only[Pt.get] at h;split at h
  ·rename_i nn z;obtain⟨h1,h2⟩:=Zac h;simp only[bA,Bool.not_eq_true'] at h1;rw[Pt.mk,Zaj h1.1.1,Zaj h1.1.2,h1.2,← oI h2]
  ·simp at h
 | .dvw b te d,v,x,h=>by
  simp only[Pt.get] at h;split at h
  ·split at h
   ·split at h
    ·rename_i d' x0 _ hs;have e:=Dc.same_eq d' d hs;subst e;obtain⟨h1,h2⟩:=Zac h;simp only[bA] at h1;rw[Pt.mk,Zaj h1.1,Zaj h1.2,← oI h2];rfl
    ·cases h
   ·cases h
  ·cases h
 | .lit u,v,x,h=>by
  simp only[Pt.get] at h;exact(ZCp _ _ (Zac h).1).symm
 | .str,v,x,h=>by
  simp only[Pt.get] at h;split at h
  ·rw[Pt.mk,oI h]
  ·simp at h
 | .itr,v,x,h=>by
  simp only[Pt.get] at h;split at h
  ·rw[Pt.mk,← oI h]
  ·simp at h
 | .agg e,v,x,h=>by
  simp only[Pt.get] at h;split at h
  ·rw[Pt.mk,Ag.get_mk e _ x h]
  ·simp at h
 | .tup e,v,x,h=>by
  simp only[Pt.get] at h;split at h
  ·rw[Pt.mk,Ag.get_mk e _ x h]
  ·simp at h
theorem Ag.get_mk{α:Type}:(e:Ag α)→(l:List AV)→(x:α)→e.get l=some x→l=e.mk x
 | .nil,l,x,h=>by
  simp only[Ag.get] at h;split at h
  ·rfl
  ·simp at h
 | .one p,l,x,h=>by
  simp only[Ag.get] at h;split at h
  ·simp at h
  ·split at h
   ·rw[Ag.mk,Pt.get_mk p _ x h]
   ·simp at h
 | .cons p r,l,x,h=>by
  simp only[Ag.get] at h;split at h
  ·split at h
   ·rename_i y hy;split at h
    ·rename_i z hz;simp only[oE] at h;subst h;rw[Ag.mk,Pt.get_mk p _ y hy,Ag.get_mk r _ z hz]
    ·simp at h
   ·simp at h
  ·simp at h
end
mutual
def Pt.low{α:Type}(m:Nat):Pt α→Bool
 | .slw b _=>Nat.blt b m
 | .gsw b _=>Nat.blt b m
 | .gpw b _=>Nat.blt b m
 | .dvw b _ _=>Nat.blt b m
 | .lit v=>nb m v
 | .agg e=>e.low m
 | .tup e=>e.low m
 |_=>true
def Ag.low{α:Type}(m:Nat):Ag α→Bool
 | .nil=>true
 | .one p=>p.low m
 | .cons p r=>p.low m&&r.low m
end
mutual
theorem Pt.low_nb{α:Type}{m:Nat}:(p:Pt α)→p.low m=true→(x:α)→nb m (p.mk x)=true
 | .int _,_,_=>rfl
 | .bool,_,_=>rfl
 | .ints _ _,_,_=>rfl
 | .lst _,_,_=>rfl
 | .vec _,_,_=>rfl
 | .slw _ _,h,_=>by simpa [Pt.low,Pt.mk,nb] using h
 | .gsw _ _,h,_=>by simpa [Pt.low,Pt.mk,nb] using h
 | .gpw _ _,h,_=>by simpa [Pt.low,Pt.mk,nb] using h
 | .dvw _ _ _,h,_=>by simpa [Pt.low,Pt.mk,nb] using h
 | .lit _,h,_=>by simpa [Pt.low,Pt.mk] using h
 | .str,_,_=>rfl
 | .itr,_,_=>rfl
 | .agg e,h,x=>by simp only[Pt.low] at h;simp only[Pt.mk,nb];exact Ag.low_nb e h x
 | .tup e,h,x=>by simp only[Pt.low] at h;simp only[Pt.mk,nb];exact Ag.low_nb e h x
theorem Ag.low_nb{α:Type}{m:Nat}:(e:Ag α)→e.low m=true→(x:α)→nbL m (e.mk x)=true
 | .nil,_,_=>rfl
 | .one p,h,x=>by simp only[Ag.low] at h;simp only[Ag.mk,nbL,Bool.and_true];exact Pt.low_nb p h x
 | .cons p r,h,x=>by
  simp only[Ag.low,bA] at h;simp only[Ag.mk,nbL,bA];exact⟨Pt.low_nb p h.1 _,Ag.low_nb r h.2 _⟩
end
inductive Ent:Type→Type 1 where
 |nil:Ent Unit
 |one {α:Type} (d:Nat) (p:Pt α):Ent α
 |cons {α β:Type} (d:Nat) (p:Pt α) (r:Ent β):Ent (α×β)
def Ent.mk{α:Type}:Ent α→α→List (Nat×AV)
 | .nil,_=>[]
 | .one d p,v=>[(d,p.mk v)]
 | .cons d p r,v=>(d,p.mk v.1)::r.mk v.2
def Ent.get{α:Type}:Ent α→List (Nat×AV)→Option α
 | .nil,_=>some ()
 | .one d p,l=>match lk d l with
  |some u=>p.get u
  |none=>none
 | .cons d p r,l=>match lk d l with
  |some u=>match p.get u with
   |some x=>match r.get l with
    |some y=>some (x,y)
    |none=>none
   |none=>none
  |none=>none
def Ent.low{α:Type}(m:Nat):Ent α→Bool
 | .nil=>true
 | .one _ p=>p.low m
 | .cons _ p r=>p.low m&&r.low m
def Ent.names{α:Type}:Ent α→List Nat
 | .nil=>[]
 | .one d _=>[d]
 | .cons d _ r=>d::r.names
theorem Ent.get_lk{α:Type}:(e:Ent α)→(l:List (Nat×AV))→(x:α)→e.get l=some x→∀ d v,lk d (e.mk x)=some v→lk d l=some v
 | .nil,l,x,_,d,v,h=>by simp[Ent.mk,lk] at h
 | .one d' p,l,x,hg,d,v,h=>by
  simp only[Ent.get] at hg;split at hg
  ·rename_i u hu;simp only[Ent.mk] at h;by_cases hd:d'=d
   ·subst hd;rw[Zal] at h;rw[hu,← oI h,Pt.get_mk p u x hg]
   ·rw[Zan hd] at h;simp[lk] at h
  ·simp at hg
 | .cons d' p r,l,x,hg,d,v,h=>by
  simp only[Ent.get] at hg;split at hg
  ·rename_i u hu;split at hg
   ·rename_i y hy;split at hg
    ·rename_i z hz;simp only[oE] at hg;subst hg;simp only[Ent.mk] at h;by_cases hd:d'=d
     ·subst hd;rw[Zal] at h;rw[hu,← oI h,Pt.get_mk p u y hy]
     ·rw[Zan hd] at h;exact Ent.get_lk r l z hz d v h
    ·simp at hg
   ·simp at hg
  ·simp at hg
theorem Ent.low_nb{α:Type}{m:Nat}:(e:Ent α)→e.low m=true→(x:α)→∀ d v,lk d (e.mk x)=some v→nb m v=true
 | .nil,_,x,d,v,h=>by simp[Ent.mk,lk] at h
 | .one d' p,hb,x,d,v,h=>by
  simp only[Ent.low] at hb;simp only[Ent.mk] at h;by_cases hd:d'=d
  ·subst hd;rw[Zal] at h;rw[← oI h];exact Pt.low_nb p hb _
  ·rw[Zan hd] at h;simp[lk] at h
 | .cons d' p r,hb,x,d,v,h=>by
  simp only[Ent.low,bA] at hb;simp only[Ent.mk] at h;by_cases hd:d'=d
  ·subst hd;rw[Zal] at h;rw[← oI h];exact Pt.low_nb p hb.1 _
  ·rw[Zan hd] at h;exact Ent.low_nb r hb.2 _ d v h
theorem Ent.names_lk{α:Type}:(e:Ent α)→(x:α)→∀ d v,lk d (e.mk x)=some v→d∈e.names
 | .nil,x,d,v,h=>by simp[Ent.mk,lk] at h
 | .one d' p,x,d,v,h=>by
  simp only[Ent.mk] at h;simp only[Ent.names,List.mem_singleton];by_cases hd:d'=d
  ·exact hd.symm
  ·rw[Zan hd] at h;simp[lk] at h
 | .cons d' p r,x,d,v,h=>by
  simp only[Ent.mk] at h;simp only[Ent.names,List.mem_cons];by_cases hd:d'=d
  ·exact .inl hd.symm
  ·rw[Zan hd] at h;exact .inr (Ent.names_lk r _ d v h)
mutual
def Pt.lv{α:Type}:Pt α→Nat
 | .agg e=>e.lv
 | .lit v=>(leafs v).length
 |_=>1
def Ag.lv{α:Type}:Ag α→Nat
 | .nil=>0
 | .one p=>p.lv
 | .cons p r=>p.lv+r.lv
end
mutual
def Pt.fsl(w:Bool){α:Type}:Pt α→Nat→Gl
 | .gsw b te,e=>cond w [] [(e,b,te)]
 | .dvw b te _,e=>cond w [(e,b,te)] []
 | .agg a,e=>a.fsl w e
 |_,_=>[]
def Ag.fsl(w:Bool){α:Type}:Ag α→Nat→Gl
 | .nil,_=>[]
 | .one p,e=>p.fsl w e
 | .cons p r,e=>p.fsl w e++r.fsl w (e+p.lv)
end
def Ent.gsl(w:Bool){α:Type}:Ent α→Gl
 | .nil=>[]
 | .one d p=>match p with
  | .gsw b te=>cond w [] [(d,b,te)]
  | .dvw b te _=>cond w [(d,b,te)] []
  |_=>[]
 | .cons d p r=>(match p with
  | .gsw b te=>cond w [] [(d,b,te)]
  | .dvw b te _=>cond w [(d,b,te)] []
  |_=>[])++r.gsl w
def Ent.fsl(w:Bool){α:Type}:Ent α→Gl
 | .nil=>[]
 | .one d p=>p.fsl w (1048576+64*d)
 | .cons d p r=>p.fsl w (1048576+64*d)++r.fsl w
def Pt.rk{α:Type}:Pt α→Option Rk
 | .lst k=>some (.int k)
 | .vec c=>some (.code c)
 | .lit v=>match v with
  | .dc d _=>some (.tok d)
  |_=>none
 |_=>none
def Ent.kind{α:Type}:Ent α→Nat→Option Rk
 | .nil,_=>none
 | .one d p,b=>cond (Nat.beq d b) p.rk none
 | .cons d p r,b=>cond (Nat.beq d b) p.rk (r.kind b)
structure Fm (α β:Type):Type 1 where
 t:Ent α
 m:Ent β
def isTok:Option Rk→Bool
 |some (.tok _)=>true
 |_=>false
def Fm.gsl{α β:Type}(F:Fm α β):Gl:=(F.t.gsl false++F.m.fsl false)++(F.t.gsl true++F.m.fsl true).filter fun x=>isTok (F.m.kind x.2.1)
def Fm.st{α β:Type}(F:Fm α β)(nx:Nat)(v:α×β):St:={tm:=F.t.mk v.1,mem:=F.m.mk v.2,nx}
def Fm.rd0{α β:Type}(F:Fm α β)(st:St):Option (α×β):=
 match F.t.get st.tm with
 |some x=>match F.m.get st.mem with
  |some y=>some (x,y)
  |none=>none
 |none=>none
def Fm.rd{α β:Type}(F:Fm α β)(nx:Nat)(st:St):Option (α×β):=
 match normS F.gsl F.t.names F.m.names F.m.kind nx st with
 |some st'=>F.rd0 st'
 |none=>none
def Fm.sok{α β:Type}(P:Program)(ro:Nat)(F:Fm α β):Bool:=tyOK P F.gsl F.m.kind&&F.gsl.all fun x=>Nat.ble ro x.2.1
def Fm.ok{α β:Type}(F:Fm α β)(nx:Nat):Bool:=F.t.low nx&&F.m.low nx&&F.m.names.all fun d=>Nat.blt d nx
theorem In.cut0{P:Program}{cx:Cx}{w0:Base}{ρ:Rho}{st:St}{a:Act}{w:World}(I:In P cx w0 ρ st a w){α β:Type}(F:Fm α β){nx:Nat}(hok:F.ok nx=true)(hgl:GL P (cut ρ nx) cx.gl){v:α×β}(h:F.rd0 st=some v):
  In P cx w0 (Vx.cut ρ nx) (F.st nx v) a w:=by
 simp only[Fm.ok,bA,List.all_eq_true] at hok;unfold Fm.rd0 at h;split at h
 ·rename_i x hx;split at h
  ·rename_i y hy;simp only[oE] at h;subst h;have ht:=Ent.get_lk F.t st.tm x hx;have hm:=Ent.get_lk F.m st.mem y hy;have hE:=ZBw ρ nx;have kd:∀ v,nb nx v=true→OK P ρ v→OK P (Vx.cut ρ nx) v∧den P ρ v=den P (Vx.cut ρ nx) v:=by
    intro v h1 h2;have h3:=nb_ok P (m:=nx) v h1 h2;exact⟨h3,(Zcm P hE v h3).1⟩
   have E1:Exs w0 cx.ro (Vx.cut ρ nx) (F.m.mk y) w:=by
    refine I.sim.ex.ren (src:=some) (fun b nm hb=>.inl ⟨b,ZBw ρ nx b nm hb⟩) (fun b T hT=>.inl ⟨b,T,rfl,hm b T hT,?_,id,.inl rfl⟩) (fun b b' _ _ c _ _ h1 h2=>by rw[oI h1,oI h2]);have hb:b<nx:=by simpa using hok.2 b (Ent.names_lk F.m y b T hT)
    unfold Vx.cut;rw[if_pos hb]
   refine⟨⟨?_,?_,?_,?_,?_,I.sim.below,E1⟩,?_,I.nt,hgl,I.df⟩
   ·intro d v hd;obtain⟨h1,h2,h3⟩:=I.sim.slot d v (ht d v hd);obtain⟨h4,h5⟩:=kd v (Ent.low_nb F.t hok.1.1 x d v hd) h3;exact⟨h1,h2.trans h5,h4⟩
   ·intro b T hT;obtain⟨nm,h1,h2,h3,h4,h5⟩:=I.sim.cell b T (hm b T hT);have hb:b<nx:=by simpa using hok.2 b (Ent.names_lk F.m y b T hT)
    obtain⟨h6,h7⟩:=kd T (Ent.low_nb F.m hok.1.2 y b T hT) h3;have hce:cells P (Vx.cut ρ nx) T=cells P ρ T:=by unfold cells;rw[h7]
    exact⟨nm,by unfold Vx.cut;rw[if_pos hb];exact h1,h2,h6,by rw[hce];exact h4,fun j x hx=>h5 j x (by rw[← hce];exact hx)⟩
   ·intro b T nm hT hnm hro;have hb:b<nx:=by simpa using hok.2 b (Ent.names_lk F.m y b T hT)
    unfold Vx.cut at hnm;rw[if_pos hb] at hnm;obtain⟨h1,h2⟩:=I.sim.own b T nm (hm b T hT) hnm hro;obtain⟨nm',g1,-,g3,-⟩:=I.sim.cell b T (hm b T hT);obtain⟨-,h7⟩:=kd T (Ent.low_nb F.m hok.1.2 y b T hT) g3;exact⟨h1,fun j hj=>h2 j (by unfold cells at hj ⊢;rw[h7];exact hj)⟩
   ·intro b b' T T' nm nm' hT hT' hnm hnm' hro hne;have hb:b<nx:=by simpa using hok.2 b (Ent.names_lk F.m y b T hT)
    have hb':b'<nx:=by simpa using hok.2 b' (Ent.names_lk F.m y b' T' hT')
    unfold Vx.cut at hnm hnm';rw[if_pos hb] at hnm;rw[if_pos hb'] at hnm';exact I.sim.apart b b' T T' nm nm' (hm b T hT) (hm b' T' hT') hnm hnm' hro hne
   ·intro b T nm hT hnm hro;have hb:b<nx:=by simpa using hok.2 b (Ent.names_lk F.m y b T hT)
    unfold Vx.cut at hnm;rw[if_pos hb] at hnm;exact I.sim.rows b T nm (hm b T hT) hnm hro
   ·intro b hb;unfold Vx.cut;rw[if_neg (by simp only[Fm.st] at hb;omega)]
  ·simp at h
 ·simp at h
theorem In.cut{P:Program}{cx:Cx}{w0:Base}{ρ:Rho}{st:St}{a:Act}{w:World}(I:In P cx w0 ρ st a w){α β:Type}(F:Fm α β){nx:Nat}(hok:F.ok nx=true)(hs:F.sok P cx.ro=true)(hro:cx.ro≤nx)
  (hnb:∀ g v,cx.gl g=some v→nb0 cx.ro v=true) (hgl:∀ ρ,GL P ρ cx.gl→GL P (cut ρ nx) cx.gl) {v:α×β} (h:F.rd nx st=some v):∃ ρ',In P cx w0 ρ' (F.st nx v) a w∧∀ b,b<nx→b ∉ F.gsl.map (·.2.1)→ρ' b=ρ b:=by
 unfold Fm.rd at h;split at h
 ·rename_i st' hst;simp only[Fm.sok,bA] at hs;have hd:∀ x∈F.gsl,cx.ro≤x.2.1:=fun x hx=>Nat.le_of_ble_eq_true (List.all_eq_true.1 hs.2 x hx)
  obtain⟨ρ1,I1,hsame⟩:=I.norm hst hs.1 hro hd (fun g v hg=>ZFU (fun y hy=>by
   obtain⟨x,hx,rfl⟩:=List.mem_map.1 hy;exact hd x hx) v (hnb g v hg))
  exact⟨_,I1.cut0 F hok (hgl ρ1 I1.gl) h,fun b hb hn=>by unfold Vx.cut;rw[if_pos hb];exact hsame b hn⟩
 ·simp at h
def loopF{V U:Type}(step:V→Option (V ⊕ U)):Nat→V→Option U
 |0,_=>none
 |k+1,v=>mo (step v) none fun r=>match r with
  | .inl v'=>loopF step k v'
  | .inr u=>some u
theorem Zeg{V U:Type}(step:V→Option (V ⊕ U))(k:Nat)(v:V):loopF step (k+1) v=mo (step v) none fun r=>match r with
  | .inl v'=>loopF step k v'
  | .inr u=>some u:=rfl
def rdEnd{α β γ δ ε ζ:Type}(H:Fm α β)(O:Fm γ δ)(T:Fm ε ζ)(nx:Nat)(id:Nat)(e:Ex)(st:St)(cs:List Nat:=[]):Option ((α×β) ⊕ ((γ×δ) ⊕ (ε×ζ))):=
 match e with
 | .normal=>mo (H.rd nx (st.gp cs)) none fun v=>some (.inl v)
 | .exit j=>cond (Nat.beq j id) (mo (O.rd nx (st.gp cs)) none fun u=>some (.inr (.inl u))) none
 | .ret=>mo (T.rd nx (st.gp cs)) none fun u=>some (.inr (.inr u))
 | .goto _=>none
def loopCt{α β γ δ ε ζ:Type}(H:Fm α β)(O:Fm γ δ)(T:Fm ε ζ)(nx:Nat)(step:α×β→Option ((α×β) ⊕ ((γ×δ) ⊕ (ε×ζ))))(N:Nat)(cs:List Nat:=[]):Lf:=fun st=>
 match H.rd nx (st.gp cs) with
 |some v=>.opt (loopF step N v) fun r=>.sum r (fun u=>.ok (.normal,O.st nx u)) (fun u=>.ok (.ret,T.st nx u))
 |none=>.fail
theorem ZzD{P:Program}{c:Code}{Q Q':Exit→Act→World→Prop}(hq:∀ e a w,Q e a w→Q' e a w):(k:Nat)→{a:Act}→{w:World}→Code.rounds P c Q k a w→Code.rounds P c Q' k a w
 |0,_,_,h=>h
 |k+1,a,w,h=>by
  rw[rounds_succ] at h ⊢;refine wp_mono h ?_;intro e a' w' hh;cases e with
  |normal=>exact ZzD hq k hh
  |_=>exact hq _ _ _ hh
theorem ZEj{P:Program}{cx:Cx}{w0:Base}(hΓ:∀ g C,cx.Γ g=some C→SoundAt P w0.g g C)(hI:∀ g I,cx.inl g=some I→InlOK P cx w0 g I){Λ:Nat→Option Lf}{n:Nat}{id:Nat}{body:Code}{K:List Nat}{ρk:Rho}(hΛ:LoopsOKX P cx w0 (Kp K ρk) Λ body)
  {α β γ δ ε ζ:Type} {H:Fm α β} {O:Fm γ δ} {T:Fm ε ζ} {nx:Nat} (hH:H.ok nx=true) (hO:O.ok nx=true) (hT:T.ok nx=true) (sH:H.sok P cx.ro=true) (sO:O.sok P cx.ro=true) (sT:T.sok P cx.ro=true) (hro:cx.ro≤nx) (hnb:∀ g v,cx.gl g=some v→nb0 cx.ro v=true) (hgl:∀ g v,cx.gl g=some v→nb nx v=true)
  {step:α×β→Option ((α×β) ⊕ ((γ×δ) ⊕ (ε×ζ)))} {cs:List Nat} (hstep:∀ v,exec P cx Λ n none body (H.st nx v) (fun e st=>rdEnd H O T nx id e st cs)=step v) (hK:∀ b∈K,b<nx∧b ∉ H.gsl.map (·.2.1)∧b ∉ O.gsl.map (·.2.1)∧b ∉ T.gsl.map (·.2.1)) (N:Nat):LoopOKX P cx w0 (Kp K ρk) id (.loop body) (loopCt H O T nx step N cs):=by
 have glcut:∀ {ρ:Rho},GL P ρ cx.gl→GL P (Vx.cut ρ nx) cx.gl:=by
  intro ρ h g v hg;obtain⟨h1,h2⟩:=h g v hg;have h3:=nb_ok P (m:=nx) v (hgl g v hg) h2;exact⟨by rw[← (Zcm P (ZBw ρ nx) v h3).1];exact h1,h3⟩
 
 have key:∀ (k:Nat) (v:α×β) (r:(γ×δ) ⊕ (ε×ζ)),loopF step k v=some r→∀ ρ a w,Kp K ρk ρ→In P cx w0 ρ (H.st nx v) a w→
   Code.rounds P body (fun ex a' w'=>match r with
    | .inl u=>ex= .exit id∧∃ ρ,Kp K ρk ρ∧In P cx w0 ρ (O.st nx u) a' w'
    | .inr u=>ex= .ret∧∃ ρ,Kp K ρk ρ∧In P cx w0 ρ (T.st nx u) a' w') k a w:=by
  intro k
  induction k with
  |zero=>intro v r h;simp[loopF] at h
  |succ k ih=>
   intro v r h ρ a w xk I;rw[Zeg,← hstep v,ZgQ] at h;obtain⟨x,h1,h2⟩:=ZbW h;obtain⟨⟨e,s⟩,h3,h4⟩:=ZbW h1;rw[rounds_succ];refine wp_mono (Zss hΓ hI (X:=Kp K ρk) (fun _ _=>Kp.ext) n body hΛ _ e s h3 ρ a w xk I) ?_
   rintro ex a' w' ⟨rfl,ρ',x',I'⟩
   cases e with
   |normal=>
    simp only[rdEnd] at h4;obtain⟨v',h5,h6⟩:=ZbW h4;simp only[oE] at h6;subst h6;obtain⟨ρ1,I1,sm⟩:=(I'.gp cs).cut H hH sH hro hnb (fun _ h=>glcut h) h5;exact ih v' r h2 ρ1 a' w' (x'.same fun b hb=>sm b (hK b hb).1 (hK b hb).2.1) I1
   |exit j=>
    simp only[rdEnd] at h4;obtain⟨hj,h4⟩:=Zac h4;obtain⟨u,h5,h6⟩:=ZbW h4;simp only[oE] at h6;subst h6;simp only[oE] at h2;subst h2;obtain⟨ρ1,I1,sm⟩:=(I'.gp cs).cut O hO sO hro hnb (fun _ h=>glcut h) h5;exact⟨by rw[← Zaj hj];rfl,ρ1,x'.same fun b hb=>sm b (hK b hb).1 (hK b hb).2.2.1,I1⟩
   |ret=>
    simp only[rdEnd] at h4;obtain⟨u,h5,h6⟩:=ZbW h4;simp only[oE] at h6;subst h6;simp only[oE] at h2;subst h2;obtain⟨ρ1,I1,sm⟩:=(I'.gp cs).cut T hT sT hro hnb (fun _ h=>glcut h) h5;exact⟨rfl,ρ1,x'.same fun b hb=>sm b (hK b hb).1 (hK b hb).2.2.2,I1⟩
   |goto l=>simp[rdEnd,mo] at h4
 intro st e st' h ρ a w xk I;unfold loopCt at h;split at h
 ·rename_i v hv;simp only[Res.run] at h;obtain⟨r,h1,h2⟩:=ZbW h;obtain⟨ρ1,I',sm⟩:=(I.gp cs).cut H hH sH hro hnb (fun _ h=>glcut h) hv;refine wp_block (wp_loop_rounds N (ZzD ?_ N (key N v r h1 _ a w (xk.same fun b hb=>sm b (hK b hb).1 (hK b hb).2.1) I')));intro ex a' w' hq;cases r with
  |inl u=>
   simp only[Res.run,oE,pE] at h2;obtain⟨rfl,rfl⟩:=h2;obtain⟨rfl,ρ',x2,I2⟩:=hq;simp only[Exit.inBlock,if_true];exact⟨rfl,ρ',x2,I2⟩
  |inr u=>
   simp only[Res.run,oE,pE] at h2;obtain⟨rfl,rfl⟩:=h2;obtain⟨rfl,ρ',x2,I2⟩:=hq;exact⟨rfl,ρ',x2,I2⟩
 ·simp[Res.run] at h
theorem Zis{P:Program}{cx:Cx}{w0:Base}{X X':Rho→Prop}(h:∀ ρ,X ρ)(h':∀ ρ,X' ρ){Λ:Nat→Option Lf}:(c:Code)→LoopsOKX P cx w0 X Λ c→LoopsOKX P cx w0 X' Λ c
 | .seq a b,hh=>⟨Zis h h' a hh.1,Zis h h' b hh.2⟩
 | .cond _ a b,hh=>⟨Zis h h' a hh.1,Zis h h' b hh.2⟩
 | .block id b,hh=>by
  simp only[LoopsOKX] at hh ⊢;split
  ·rename_i L hL;rw[hL] at hh;intro st e st' hr ρ a w _ I;refine wp_mono (hh st e st' hr ρ a w (h ρ) I) ?_
   rintro ex a1 w1 ⟨rfl,ρ1,-,I1⟩
   exact⟨rfl,ρ1,h' ρ1,I1⟩
  ·rename_i hL;rw[hL] at hh;exact Zis h h' b hh
 | .loop b,hh=>by simp only[LoopsOKX] at hh ⊢;exact Zis h h' b hh
 | .scope b,hh=>by simp only[LoopsOKX] at hh ⊢;exact Zis h h' b hh
 | .skip,_=>trivial
 | .region _ _ _,_=>trivial
 | .rangeFunc _ _ _ _,_=>trivial
 | .exit _,_=>trivial
 | .label _,_=>trivial
 | .goto _,_=>trivial
 | .ret,_=>trivial
 | .refuse _,_=>trivial
theorem Kp.nil(ρk ρ:Rho):Kp [] ρk ρ:=fun _ hb=>by simp at hb
theorem loop_ok{P:Program}{cx:Cx}{w0:Base}(hΓ:∀ g C,cx.Γ g=some C→SoundAt P w0.g g C)(hI:∀ g I,cx.inl g=some I→InlOK P cx w0 g I){Λ:Nat→Option Lf}{n:Nat}{id:Nat}{body:Code}(hΛ:LoopsOK P cx w0 Λ body)
  {α β γ δ ε ζ:Type} {H:Fm α β} {O:Fm γ δ} {T:Fm ε ζ} {nx:Nat} (hH:H.ok nx=true) (hO:O.ok nx=true) (hT:T.ok nx=true) (sH:H.sok P cx.ro=true) (sO:O.sok P cx.ro=true) (sT:T.sok P cx.ro=true) (hro:cx.ro≤nx) (hnb:∀ g v,cx.gl g=some v→nb0 cx.ro v=true) (hgl:∀ g v,cx.gl g=some v→nb nx v=true)
  {step:α×β→Option ((α×β) ⊕ ((γ×δ) ⊕ (ε×ζ)))} {cs:List Nat} (hstep:∀ v,exec P cx Λ n none body (H.st nx v) (fun e st=>rdEnd H O T nx id e st cs)=step v) (N:Nat):LoopOK P cx w0 id (.loop body) (loopCt H O T nx step N cs):=by
 intro st e st' h ρ a w _ I;refine wp_mono (ZEj hΓ hI (K:=[]) (ρk:=ρ) (Zis (fun _=>trivial) (fun _=>Kp.nil _ _) body hΛ) hH hO hT sH sO sT hro hnb hgl hstep (fun b hb=>by simp at hb) N st e st' h ρ a w (Kp.nil _ _) I) ?_
 rintro ex a1 w1 ⟨rfl,ρ1,-,I1⟩
 exact⟨rfl,ρ1,trivial,I1⟩
theorem run_par{R:Type}(P:Program)(Γ:FuncId→Option Ct)(gl:Nat→Option AV)(ro:Nat)(mem:List (Nat×AV))(Λ:Nat→Option Lf)(n:Nat)(fn:Func)(args:List AV)(f:R)(k:AV→R)(inl:FuncId→Option Inl):
  run P Γ gl ro mem Λ n fn args f k inl=mo (run P Γ gl ro mem Λ n fn args none some inl) f k:=by
 unfold run;split
 ·refine Zb8 _ ?_ rfl;rw[ZgQ,ZgQ (R:=Option AV),mo_mo]
  congr 1
  funext r
  obtain⟨e,s⟩:=r;cases e with
  |exit=>rfl
  |goto=>rfl
  |_=>
   simp only;split
   ·split<;>rfl
   ·rfl
 ·rfl
def fct{α β:Type}(A:Ag α)(B:Pt β)(F:α→Option β):Ct:=fun vs=>
 match A.get vs with
 |some x=>.opt (F x) fun y=>.ok (B.mk y)
 |none=>.fail
def tct{α β:Type}(A:Ag α)(B:Pt β)(F:α→β):Ct:=fun vs=>
 match A.get vs with
 |some x=>.ok (B.mk (F x))
 |none=>.fail
theorem ZFV{P:Program}{w0:World}{Γ:FuncId→Option Ct}{inl:FuncId→Option Inl}{gs:List Gv}{S:Nat}{Λ:Nat→Option Lf}{n:Nat}{g:FuncId}{fn:Func}{α β:Type}{A:Ag α}{B:Pt β}{F:α→Option β}
  (h:SoundAt P w0 g (runCt P Γ gs S Λ n fn inl)) (hS:∀ x,(Nat.beq (unc gs.length (A.mk x)).2.length S&&plL (A.mk x))=true)
  (hrun:∀ x,run P Γ (glAt gs 0) (gs.length+S) (memAt gs 0++(unc gs.length (A.mk x)).2) Λ n fn (unc gs.length (A.mk x)).1 none B.get inl=F x):SoundAt P w0 g (fct A B F):=by
 refine h.weaken fun vs v _ hv=>?_
 unfold fct at hv;split at hv
 ·rename_i x hx;simp only[Res.run] at hv;obtain⟨y,h1,h2⟩:=ZbW hv;simp only[oE] at h2;subst h2;have h3:=hrun x;rw[run_par,h1] at h3;obtain⟨v',h4,h5⟩:=ZbW h3;rw[Ag.get_mk A vs x hx];unfold runCt;rw[hS x,cond_true,h4,Pt.get_mk B v' y h5];rfl
 ·simp[Res.run] at hv
theorem Za6{P:Program}{w0:World}{g:FuncId}{α β:Type}{A:Ag α}{B:Pt β}{F:α→Option β}{G:α→β}(h:SoundAt P w0 g (fct A B F))(hFG:∀ x,OKL P (fun _=>none) (A.mk x)→F x=some (G x)):SoundAt P w0 g (tct A B G):=by
 refine h.weaken fun vs v ok hv=>?_
 unfold tct at hv;split at hv
 ·rename_i x hx;simp only[Res.run,oE] at hv;subst hv;rw[Ag.get_mk A vs x hx] at ok;unfold fct;rw[hx];simp only[Res.run,hFG x ok,mo]
 ·simp[Res.run] at hv
def lkG(g:FuncId):List (FuncId×Ct)→Option Ct
 | []=>none
 |x::l=>cond (Nat.beq x.1 g) (some x.2) (lkG g l)
theorem ZrZ{P:Program}{w0:World}:(l:List (FuncId×Ct))→(∀ x∈l,SoundAt P w0 x.1 x.2)→∀ g C,lkG g l=some C→SoundAt P w0 g C
 | [],_,g,C,h=>by simp[lkG] at h
 |x::l,hl,g,C,h=>by
  rw[lkG] at h;cases hq:Nat.beq x.1 g with
  |true=>
   rw[hq] at h;simp only[cond_true,oE] at h;rw[← Zaj hq,← h];exact hl x (by simp)
  |false=>
   rw[hq] at h;exact ZrZ l (fun y hy=>hl y (by simp[hy])) g C h
def lkI(g:FuncId):List (FuncId×Inl)→Option Inl
 | []=>none
 |x::l=>cond (Nat.beq x.1 g) (some x.2) (lkI g l)
theorem Zw9{P:Program}{cx:Cx}{w0:Base}:(l:List (FuncId×Inl))→(∀ x∈l,InlOK P cx w0 x.1 x.2)→∀ g I,lkI g l=some I→InlOK P cx w0 g I
 | [],_,g,C,h=>by simp[lkI] at h
 |x::l,hl,g,C,h=>by
  rw[lkI] at h;cases hq:Nat.beq x.1 g with
  |true=>
   rw[hq] at h;simp only[cond_true,oE] at h;rw[← Zaj hq,← h];exact hl x (by simp)
  |false=>
   rw[hq] at h;exact Zw9 l (fun y hy=>hl y (by simp[hy])) g C h
def lkL(i:Nat):List (Nat×Lf)→Option Lf
 | []=>none
 |x::l=>cond (Nat.beq x.1 i) (some x.2) (lkL i l)
end Go.Vx
namespace Go.Vx
open Go Go.RowKit
def blocks:Code→List (Nat×Code)
 | .seq a b=>blocks a++blocks b
 | .cond _ a b=>blocks a++blocks b
 | .block id b=>(id,b)::blocks b
 | .loop b=>blocks b
 | .scope b=>blocks b
 |_=>[]
theorem ZiD{P:Program}{cx:Cx}{w:Base}{X:Rho→Prop}{Λ:Nat→Option Lf}:(c:Code)→(∀ p∈blocks c,∀ L,Λ p.1=some L→LoopOKX P cx w X p.1 p.2 L)→LoopsOKX P cx w X Λ c
 | .seq a b,h=>⟨ZiD a fun p hp=>h p (by simp[blocks,hp]),ZiD b fun p hp=>h p (by simp[blocks,hp])⟩
 | .cond _ a b,h=>⟨ZiD a fun p hp=>h p (by simp[blocks,hp]),ZiD b fun p hp=>h p (by simp[blocks,hp])⟩
 | .block id b,h=>by
  unfold LoopsOKX;split
  ·rename_i L hL;exact h (id,b) (by simp[blocks]) L hL
  ·exact ZiD b fun p hp=>h p (by simp[blocks,hp])
 | .loop b,h=>ZiD b fun p hp=>h p (by simp[blocks,hp])
 | .skip,_=>trivial
 | .region _ _ _,_=>trivial
 | .rangeFunc _ _ _ _,_=>trivial
 | .exit _,_=>trivial
 | .scope b,h=>ZiD b fun p hp=>h p (by simp[blocks,hp])
 | .label _,_=>trivial
 | .goto _,_=>trivial
 | .ret,_=>trivial
 | .refuse _,_=>trivial
def atId(c:Code)(id:Nat):List (Nat×Code):=(blocks c).filter fun p=>Nat.beq p.1 id
theorem ZaH{P:Program}{cx:Cx}{w:Base}{X:Rho→Prop}{l:List (Nat×Lf)}{c:Code}(h:∀ x∈l,atId c x.1=[]∨∃ b,atId c x.1=[(x.1,b)]∧LoopOKX P cx w X x.1 b x.2):LoopsOKX P cx w X (fun i=>lkL i l) c:=by
 refine ZiD c fun p hp L hL=>?_
 have key:∀ (l:List (Nat×Lf)),lkL p.1 l=some L→∃ x∈l,x.1=p.1∧x.2=L:=by
  intro l
  induction l with
  |nil=>intro h;simp[lkL] at h
  |cons x l ih=>
   intro h;rw[lkL] at h;cases hq:Nat.beq x.1 p.1 with
   |true=>rw[hq] at h;exact⟨x,by simp,Zaj hq,oI h⟩
   |false=>
    rw[hq] at h;obtain⟨y,h1,h2⟩:=ih h;exact⟨y,by simp[h1],h2⟩
 obtain⟨x,hx,h1,rfl⟩:=key l hL;have hmem:p∈atId c x.1:=List.mem_filter.2 ⟨hp,by rw[h1];simp⟩;rcases h x hx with h2|⟨b,h2,h3⟩
 ·rw[h2] at hmem;simp at hmem
 ·rw[h2] at hmem;simp only[List.mem_singleton] at hmem;rw[hmem];exact h3
theorem ZCt{P:Program}{cx:Cx}{w:Base}{X:Rho→Prop}(c:Code):LoopsOKX P cx w X (fun _=>none) c:=ZiD c fun p _ L h=>by simp at h
def loopBody(fn:Func)(id:Nat):Code:=
 match fn.body with
 |some c=>match atId c id with
  | [(_,.loop b)]=>b
  |_=>.skip
 |none=>.skip
def bodyOf(fn:Func):Code:=fn.body.getD .skip
theorem ZDB:(gs:List Gv)→(k m g:Nat)→(v:AV)→k+gs.length≤m→glAt gs k g=some v→nb m v=true
 | [],_,_,_,_,_,h=>by simp[glAt] at h
 |x::l,k,m,g,v,hk,h=>by
  simp only[List.length_cons] at hk;rw[glAt] at h;cases hq:Nat.beq x.g g with
  |true=>
   rw[hq] at h;simp only[cond_true,oE] at h;subst h;simp only[nb];have:k<m:=by omega
   simpa using this
  |false=>rw[hq] at h;exact ZDB l (k+1) m g v (by omega) h
abbrev cxOf(fn:Func)(cs:List (FuncId×Ct))(gs:List Gv)(S:Nat):Cx:={Γ:=fun g=>lkG g cs,gl:=glAt gs 0,ro:=gs.length+S,nt:=fn.ntmps}
theorem ZBx:(gs:List Gv)→(k m g:Nat)→(v:AV)→k+gs.length≤m→glAt gs k g=some v→nb0 m v=true
 | [],_,_,_,_,_,h=>by simp[glAt] at h
 |x::l,k,m,g,v,hk,h=>by
  simp only[List.length_cons] at hk;rw[glAt] at h;cases hq:Nat.beq x.g g with
  |true=>
   rw[hq] at h;simp only[cond_true,oE] at h;subst h;simp only[nb0];have:k<m:=by omega
   simpa using this
  |false=>rw[hq] at h;exact ZBx l (k+1) m g v (by omega) h
theorem Zfb{P:Program}{w0:World}{fn:Func}{cs:List (FuncId×Ct)}(hcs:∀ x∈cs,SoundAt P w0 x.1 x.2){gs:List Gv}{S:Nat}{ls:List (Nat×Lf)}{n id:Nat}{α β γ δ ε ζ:Type}{H:Fm α β}{O:Fm γ δ}{T:Fm ε ζ}{nx:Nat}
  {step:α×β→Option ((α×β) ⊕ ((γ×δ) ⊕ (ε×ζ)))} {cz:List Nat} (hok:(H.ok nx&&O.ok nx&&T.ok nx&&Nat.ble (gs.length+S) nx&&(H.sok P (gs.length+S)&&O.sok P (gs.length+S)&&T.sok P (gs.length+S)))=true)
  (hstep:∀ v,exec P (cxOf fn cs gs S) (fun i=>lkL i ls) n none (loopBody fn id) (H.st nx v) (fun e st=>rdEnd H O T nx id e st cz)=step v) (N:Nat)
  (hΛ:∀ w:Base,w.g=w0→LoopsOK P (cxOf fn cs gs S) w (fun i=>lkL i ls) (loopBody fn id)):
  ∀ w:Base,w.g=w0→LoopOK P (cxOf fn cs gs S) w id (.loop (loopBody fn id)) (loopCt H O T nx step N cz):=by
 intro w hw;simp only[bA] at hok;obtain⟨⟨⟨⟨h1,h2⟩,h3⟩,h4⟩,⟨s1,s2⟩,s3⟩:=hok;have h4:=Nat.le_of_ble_eq_true h4;exact loop_ok (ZrZ cs fun x hx=>by rw[hw];exact hcs x hx) (fun _ _ h=>by cases h) (hΛ w hw) h1 h2 h3 s1 s2 s3 h4 (fun g v h=>ZBx gs 0 (gs.length+S) g v (by omega) h) (fun g v h=>ZDB gs 0 nx g v (by omega) h) hstep N
theorem Zak{P:Program}{w0:World}{g:FuncId}{fn:Func}{cs:List (FuncId×Ct)}(hcs:∀ x∈cs,SoundAt P w0 x.1 x.2){gs:List Gv}{S:Nat}(hgs:GlobOK P w0 gs){ls:List (Nat×Lf)}{n:Nat}(hfn:P.funcs[g]? =some fn)
  (hname:(fn.name== "runtime.NumGoroutine")=false) (hb:fn.body=some (bodyOf fn)) (hΛ:∀ w:Base,w.g=w0→LoopsOK P (cxOf fn cs gs S) w (fun i=>lkL i ls) (bodyOf fn))
  {α β:Type} {A:Ag α} {B:Pt β} {F:α→Option β} (hS:∀ x,(Nat.beq (unc gs.length (A.mk x)).2.length S&&plL (A.mk x))=true)
  (hrun:∀ x,run P (fun g=>lkG g cs) (glAt gs 0) (gs.length+S) (memAt gs 0++(unc gs.length (A.mk x)).2) (fun i=>lkL i ls) n fn (unc gs.length (A.mk x)).1 none B.get=F x):SoundAt P w0 g (fct A B F):=
 ZFV (ZFW (ZrZ cs hcs) hgs n hfn hname (fun c hc w hw=>by rw[hb] at hc;obtain rfl:=oI hc;exact hΛ w hw) (fun _ _ _ _ h=>by cases h) (by rw[hb];rfl)) hS hrun
def isKp:List (FuncId×Inl)→Bool
 |(g,_)::_=>Nat.beq g 4294967295
 | []=>false
abbrev cxIn(fn:Func)(cs:List (FuncId×Ct))(gs:List Gv)(S:Nat)(is:List (FuncId×Inl)):Cx:={Γ:=fun g=>lkG g cs,gl:=glAt gs 0,ro:=gs.length+S,nt:=fn.ntmps,inl:=fun g=>lkI g is,kp:=isKp is}
noncomputable abbrev inlOf(P:Program)(cs:List (FuncId×Ct))(gs:List Gv)(S n:Nat)(is:List (FuncId×Inl))(fn:Func):Inl:=Inl.of P (cxIn fn cs gs S is) n fn
theorem Zae{P:Program}{cx:Cx}{w:Base}{X:Rho→Prop}(c:Code):LoopsOKX P cx w X (fun i=>lkL i []) c:=ZCt c
theorem Zah(P:Program)(w:World):GlobOK P w []:=fun v h=>by simp at h
theorem ZDy{P:Program}{w0:World}{g:FuncId}{α β:Type}{A:Ag α}{B:Pt β}{F:α→Option β}(h:∀ x,F x=none:=by intro _;rfl):SoundAt P w0 g (fct A B F):=by
 intro vs v hv _;exfalso;unfold fct at hv;split at hv
 ·rename_i x hx;rw[h x] at hv;simp[Res.run,mo] at hv
 ·simp[Res.run] at hv
def GlobOne(P:Program)(w:World)(v:Gv):Prop:=
 Has P v.T v.ty∧OK P (fun _=>none) v.T∧v.g<w.heap.size∧∀ j x,(cells P (fun _=>none) v.T)[j]? =some x→w.cell? ⟨v.g,j,none⟩=some x
theorem Zcl{P:Program}{w:World}{v:Gv}{l:List Gv}(h:GlobOne P w v)(hl:GlobOK P w l):GlobOK P w (v::l):=by
 intro u hu;rcases List.mem_cons.1 hu with rfl|hu
 ·exact h
 ·exact hl u hu
theorem Zlp{α:Type}{b:Bool}{x y:α}{x' y':Option α}(hx:x'=some x)(hy:y'=some y):cond b x' y'=some (cond b x y):=by cases b<;>simp[hx,hy]
def ZgR(a b c:Int):Option (Int×Int):=cond (decide (c≤1)) (some ((a-b-c)%18446744073709551616,cond (decide (a<b+c)) 1 0)) none
def subEntry:Array Value→Sem Value:=fun args=>do
 let (x,y,b) ← Extern.MathBitsCarry.three "Sub64" args
 pure (Extern.MathBitsCarry.pair ((x+Extern.MathBitsCarry.m64-y-b)%Extern.MathBitsCarry.m64) (if x<y+b then 1 else 0))
theorem ZCu{P:Program}(x y c:Int)(hx:0≤x)(hy:0≤y∧y≤18446744073709551615)(hc0:0≤c)(hc:c≤1)(w:World):
  (subEntry #[.int .u64 x,.int .u64 y,.int .u64 c]).run P w= .ok (.tuple #[.int .u64 ((x-y-c)%18446744073709551616),.int .u64 (cond (decide (x<y+c)) 1 0)]) w:=by
 have key:∀ k:Nat,k≤1→(subEntry #[.int .u64 x,.int .u64 y,.int .u64 (k:Int)]).run P w=
   .ok (Extern.MathBitsCarry.pair ((x.toNat+Extern.MathBitsCarry.m64-y.toNat-k)%Extern.MathBitsCarry.m64) (if x.toNat<y.toNat+k then 1 else 0)) w:=by
  intro k hk;have:k=0∨k=1:=by omega
  rcases this with rfl|rfl<;>rfl
 obtain⟨k,rfl⟩:=Int.eq_ofNat_of_zero_le hc0;rw[key k (by omega)];obtain⟨X,rfl⟩:=Int.eq_ofNat_of_zero_le hx;obtain⟨Y,rfl⟩:=Int.eq_ofNat_of_zero_le hy.1;simp only[Extern.MathBitsCarry.pair,Extern.MathBitsCarry.m64,Int.toNat_natCast];have e1:Int.ofNat ((X+2^64-Y-k)%2^64)=((X:Int)-(Y:Int)-(k:Int))%18446744073709551616:=by
  show (((X+2^64-Y-k)%2^64:Nat):Int)=_;omega
 have e2:Int.ofNat (if X<Y+k then 1 else 0)=cond (decide ((X:Int)<(Y:Int)+(k:Int))) 1 0:=by
  by_cases h:X<Y+k
  ·rw[if_pos h,decide_eq_true (show (X:Int)<(Y:Int)+(k:Int) by omega)];rfl
  ·rw[if_neg h,decide_eq_false (show ¬ (X:Int)<(Y:Int)+(k:Int) by omega)];rfl
 rw[e1,e2]
theorem ZDx{P:Program}{w0:World}{g:FuncId}{fn:Func}(hf:P.funcs[g]? =some fn)(hname:(fn.name== "runtime.NumGoroutine")=false)(hb:fn.body.isNone=true)(hn:Extern.findNext fn=none)
  (he:Extern.find fn=some subEntry):SoundAt P w0 g (fct (.cons (.int .u64) (.cons (.int .u64) (.one (.int .u64)))) (.tup (.cons (.int .u64) (.one (.int .u64)))) fun x=>ZgR x.1 x.2.1 x.2.2):=by
 intro vs v h ok w hw as has;unfold fct at h;split at h
 ·rename_i x hx;simp only[Res.run] at h;obtain⟨y,h1,h2⟩:=ZbW h;simp only[oE] at h2;subst h2;have hvs:=Ag.get_mk _ vs x hx;obtain⟨a,b,c⟩:=x;subst hvs;obtain rfl:=ZzE _ as rfl has;simp only[Ag.mk,Pt.mk,OKL,OK,and_true] at ok;obtain⟨⟨a1,a2⟩,⟨b1,b2⟩,⟨c1,c2⟩⟩:=ok;have em:IntKind.u64.min=0:=by decide
  have ex:IntKind.u64.max=18446744073709551615:=by decide
  rw[em] at a1 b1 c1;rw[ex] at a2 b2 c2;simp only[ZgR] at h1;obtain⟨hc,h1⟩:=Zac h1;simp only[decide_eq_true_eq] at hc;obtain rfl:=oI h1;refine .inr ⟨den P (fun _=>none) _,?_,(⟨rfl,?_⟩:_∧_)⟩
  case refine_2=>
   simp only[Pt.mk,Ag.mk,OK,OKL,em,ex,and_true];refine⟨by omega,?_⟩;cases decide (a<b+c)<;>simp
  ·have hr:=ZCu (P:=P) a b c a1 ⟨b1,b2⟩ c1 hc w;have hcall:=run_callFunc_extern hf hname hb hn he #[.int .u64 a,.int .u64 b,.int .u64 c] w;rw[hr] at hcall;simpa [denT,den,Ag.mk,Pt.mk] using hcall
 ·simp[Res.run] at h
def Zec(a b c:Int):Option (Int×Int):=cond (decide (c≤1)) (some ((a+b+c)%18446744073709551616,(a+b+c)/18446744073709551616)) none
theorem ZDw{P:Program}{w0:World}{g:FuncId}{fn:Func}(hf:P.funcs[g]? =some fn)(hname:(fn.name== "runtime.NumGoroutine")=false)(hb:fn.body.isNone=true)(hn:Extern.findNext fn=none)
  (he:Extern.find fn=some add64Entry):SoundAt P w0 g (fct (.cons (.int .u64) (.cons (.int .u64) (.one (.int .u64)))) (.tup (.cons (.int .u64) (.one (.int .u64)))) fun x=>Zec x.1 x.2.1 x.2.2):=by
 intro vs v h ok w hw as has;unfold fct at h;split at h
 ·rename_i x hx;simp only[Res.run] at h;obtain⟨y,h1,h2⟩:=ZbW h;simp only[oE] at h2;subst h2;have hvs:=Ag.get_mk _ vs x hx;obtain⟨a,b,c⟩:=x;subst hvs;obtain rfl:=ZzE _ as rfl has;simp only[Ag.mk,Pt.mk,OKL,OK,and_true] at ok;obtain⟨⟨a1,a2⟩,⟨b1,b2⟩,⟨c1,c2⟩⟩:=ok;have em:IntKind.u64.min=0:=by decide
  have ex:IntKind.u64.max=18446744073709551615:=by decide
  rw[em] at a1 b1 c1;rw[ex] at a2 b2 c2;simp only[Zec] at h1;obtain⟨hc,h1⟩:=Zac h1;simp only[decide_eq_true_eq] at hc;obtain rfl:=oI h1;refine .inr ⟨den P (fun _=>none) _,?_,(⟨rfl,?_⟩:_∧_)⟩
  case refine_2=>simp only[Pt.mk,Ag.mk,OK,OKL,em,ex,and_true];omega
  ·have hr:=run_add64 (P:=P) a b c a1 b1 c1 hc w;have hcall:=run_callFunc_extern hf hname hb hn he #[.int .u64 a,.int .u64 b,.int .u64 c] w;rw[hr] at hcall;simpa [denT,den,Ag.mk,Pt.mk] using hcall
 ·simp[Res.run] at h
def fzCt:Ct:=fun _=>.fail
theorem cs_fz{P:Program}{w0:World}{l:List (FuncId×Ct)}(hs:∀ x∈l,SoundAt P w0 x.1 x.2):∀ x∈(4294967295,fzCt)::l,SoundAt P w0 x.1 x.2:=by
 intro x hx;rcases List.mem_cons.1 hx with rfl|hx
 ·intro vs v hv;simp[fzCt,Res.run] at hv
 ·exact hs x hx
theorem Zax{P:Program}{w0:World}:∀ x∈([]:List (FuncId×Ct)),SoundAt P w0 x.1 x.2:=fun x h=>by simp at h
theorem Zag{P:Program}{w0:World}{g:FuncId}{c:Ct}{l:List (FuncId×Ct)}(h:SoundAt P w0 g c)(hs:∀ x∈l,SoundAt P w0 x.1 x.2):∀ x∈(g,c)::l,SoundAt P w0 x.1 x.2:=by
 intro x hx;rcases List.mem_cons.1 hx with rfl|hx
 ·exact h
 ·exact hs x hx
theorem ZeI{P:Program}{cx:Cx}{w:Base}{X:Rho→Prop}{c:Code}:∀ x∈([]:List (Nat×Lf)),atId c x.1=[]∨∃ b,atId c x.1=[(x.1,b)]∧LoopOKX P cx w X x.1 b x.2:=fun x h=>by simp at h
theorem lp_no{P:Program}{cx:Cx}{w:Base}{X:Rho→Prop}{c:Code}{i:Nat}{L:Lf}{l:List (Nat×Lf)}(h:atId c i=[])(hs:∀ x∈l,atId c x.1=[]∨∃ b,atId c x.1=[(x.1,b)]∧LoopOKX P cx w X x.1 b x.2):∀ x∈(i,L)::l,atId c x.1=[]∨∃ b,atId c x.1=[(x.1,b)]∧LoopOKX P cx w X x.1 b x.2:=by
 intro x hx;rcases List.mem_cons.1 hx with rfl|hx
 ·exact .inl h
 ·exact hs x hx
theorem Zmu{P:Program}{cx:Cx}{w:Base}{X:Rho→Prop}{c:Code}{i:Nat}{L:Lf}{l:List (Nat×Lf)}{b:Code}(hl:LoopOKX P cx w X i b L)(h:atId c i=[(i,b)])(hs:∀ x∈l,atId c x.1=[]∨∃ b,atId c x.1=[(x.1,b)]∧LoopOKX P cx w X x.1 b x.2):∀ x∈(i,L)::l,atId c x.1=[]∨∃ b,atId c x.1=[(x.1,b)]∧LoopOKX P cx w X x.1 b x.2:=by
 intro x hx;rcases List.mem_cons.1 hx with rfl|hx
 ·exact .inr ⟨b,h,hl⟩
 ·exact hs x hx
abbrev RunIs(P:Program)(cs:List (FuncId×Ct))(gs:List Gv)(S:Nat)(ls:List (Nat×Lf))(fn:Func){α β:Type}(A:Ag α)(B:Pt β)(F:α→Option β)(inl:FuncId→Option Inl:=fun _=>none):Prop:=
 ∀ x,run P (fun g=>lkG g cs) (glAt gs 0) (gs.length+S) (memAt gs 0++(unc gs.length (A.mk x)).2) (fun i=>lkL i ls) 100 fn (unc gs.length (A.mk x)).1 none B.get inl=F x
abbrev StepIs(P:Program)(cx:Cx)(ls:List (Nat×Lf))(fn:Func)(id nx:Nat){α β γ δ ε ζ:Type}(H:Fm α β)(O:Fm γ δ)(T:Fm ε ζ)(step:α×β→Option ((α×β) ⊕ ((γ×δ) ⊕ (ε×ζ))))(cz:List Nat:=[]):Prop:=
 ∀ v,exec P cx (fun i=>lkL i ls) 100 none (loopBody fn id) (H.st nx v) (fun e st=>rdEnd H O T nx id e st cz)=step v
end Go.Vx
namespace Go.Vx
open Go Go.RowKit
theorem fn_nil{P:Program}{w0:World}{g:FuncId}{fn:Func}{n:Nat}(hfn:P.funcs[g]? =some fn)(hname:(fn.name== "runtime.NumGoroutine")=false)(hb:fn.body.isNone=false)
  {k:IntKind} {te:TypeId} {β:Type} {B:Pt β} {F:((Nat×List Int)×Unit)→Option β}
  (hrun0:run P (fun _=>none) (glAt [] 0) 1 [] (fun _=>none) n fn [.nils] none B.get=F ((0,[]),()))
  (hrun1:∀ m l,run P (fun _=>none) (glAt [] 0) 1 [(0,.ints k m l)] (fun _=>none) n fn [.gp 0 0 m te true 0] none B.get=F ((m,l),())):
  SoundAt P w0 g (fct (.one (.tup (.cons (.lst k) (.one (.lit (.clo te [])))))) B F):=by
 intro vs v h ok w hw as has;unfold fct at h;split at h
 ·rename_i x hx;simp only[Res.run] at h;obtain⟨y,h1,h2⟩:=ZbW h;simp only[oE] at h2;subst h2;have e:=Ag.get_mk _ vs x hx;obtain⟨⟨m,l⟩,⟨⟩⟩:=x;have e:vs=[.tup [.ints k m l,.clo te []]]:=e;subst e;have hG:GlobOK P w0 []:=fun v h=>by simp at h
  have core:=fun(us:List AV) (um:List (Nat×AV)) (ρs:Rho) (v':AV)=>ZAP (P:=P) (w0:=w0) (Γ:=fun _=>none) (fun g C h=>by cases h) (gs:=[]) hG (S:=1) (Λ:=fun _=>none) (inl:=fun _=>none) n hfn hname (fun c _ B _=>ZiE c) (fun _ _ _ _ h=>by cases h) hb (us:=us) (um:=um) (ρs:=ρs) (w:=w) (v':=v')
  cases as with
  |nil=>simp[ArgsAt] at has
  |cons a as=>
  cases as with
  |cons b as=>simp[ArgsAt] at has
  |nil=>
  simp only[ArgsAt,and_true] at has;have has:SliceAt P w a (.ints k m l) te:=has;obtain⟨nm,a1,a2,a3,a4,a5,a6,a7,a8,a9,a10⟩:=has;have okT:OK P (fun _=>none) (.ints k m l):=by have:=ok;simp only[OKL,OK] at this;exact this.1.1
  cases hq:nm.non&&nm.K.na.isNone with
  |true=>
   simp only[bA,Option.isNone_iff_eq_none] at hq;obtain⟨hq,hna⟩:=hq;have m0:m=0:=a6 hq;subst m0;have l0:l=[]:=List.eq_nil_of_length_eq_zero (by simp only[OK] at okT;exact okT.1);subst l0;rw[← hrun0,run_par] at h1;obtain⟨v',h4,h5⟩:=ZbW h1;rw[← Pt.get_mk B v' y h5];have ha:a= .slice none 0 0:=by rw[a1];simp[gsV,hq,hna]
   have:=core [.nils] [] (fun _=>none) v' hw (fun b nm h=>by cases h) (by simp[OKL,OK]) (fun b T h=>by simp[lk] at h) (fun b T h=>by simp[lk] at h) h4;rw[ha];simpa [denT,den] using this
  |false=>
   rw[← hrun1,run_par] at h1;obtain⟨v',h4,h5⟩:=ZbW h1;rw[← Pt.get_mk B v' y h5];have hq':nm.non=false∨nm.K.na≠none:=by
    cases h1:nm.non with
    |false=>exact .inl rfl
    |true=>
     rw[h1] at hq;refine .inr fun e=>?_
     rw[e] at hq;cases hq
   let nm0:Nm:={nm with K:={nk with na:=nm.K.na}}
   let ρs:Rho:=fun b=>if b=0 then some nm0 else none
   have self:ρs 0=some nm0:=rfl;have hc:∀ b T,lk b [((0:Nat),AV.ints k m l)]=some T→b=0∧T= .ints k m l:=by
    intro b T h;rw[lk] at h;cases hb:Nat.beq 0 b with
    |true=>rw[hb] at h;exact⟨(Zaj hb).symm,(oI h).symm⟩
    |false=>rw[hb] at h;simp[lk] at h
   have ha:den P ρs (.gp 0 0 m te true 0)=a:=by
    rw[a1];simp only[den,self,gpV,gsV,nm0,rowN];cases h1:nm.non<;>simp[Addr.add]
   have:=core [.gp 0 0 m te true 0] [(0,.ints k m l)] ρs v' hw (fun b nm' h=>by
    by_cases hb:b=0
    ·subst hb;rw[self] at h;obtain rfl:=oI h;exact⟨Nat.zero_le _,by simp,_,rfl⟩
    ·simp[ρs,hb] at h) (by
    have q1:0+m≤nm.cap:=by rw[a4];simp[rowN]
    have q2:nm.cap≤nm.tot:=by rw[a4];exact a5
    have q3:nm.non=true→nm.cap=0:=fun h=>by rw[a4];exact a6 h
    simp only[OKL,OK];exact⟨⟨nm0,self,fun _=>hq',a2,a3,q1,q2,q3,a7⟩,trivial⟩) (fun b T h=>by
    obtain⟨rfl,rfl⟩:=hc b T h;refine⟨⟨Nat.zero_le _,by simp⟩,nm0,self,?_,okT,?_,a10⟩
    ·simp only[HasN] at a8 ⊢;exact a8
    ·exact a9) (fun b T h=>by obtain⟨rfl,rfl⟩:=hc b T h;rfl) h4
   rw[show (denT P ρs [.gp 0 0 m te true 0])=[a] by simp[denT,ha]] at this;exact this
 ·simp[Res.run] at h
end Go.Vx
