import Derived.Test.YtoionfdfofmplaaGreatDoorVxI3
set_option autoImplicit false
set_option linter.unusedVariables false
set_option linter.unusedSimpArgs false
namespace Go.Vx
open Go Go.RowKit
theorem ZCS{P:Program}{ρ:Rho}{x:AV}{t:TypeId}(y:Value)(w:World)(op:BinOp)(p q:Operand)(h:eqG P t x=true)(hw:wide x=true→(∃ n k l,x= .ints n k l)∨∃ l,x= .agg l)(hx:∀ k,x≠ .tup k):
  (eqGuard op t p q (den P ρ x) y).run P w= .ok () w:=by
 cases x with
 |ints k n l=>
  simp only[eqG,Bool.not_eq_true'] at h;cases y
  case agg cs=>exact run_eqGuard_agg w op t p q _ cs h
  all_goals (simp only[den];cases op<;>simp[eqGuard])
 |nilif=>simp[eqG] at h
 |vec c l=>simp[eqG] at h
 |dc _ _=>simp[eqG] at h
 |itr _ _=>simp[eqG] at h
 |agg l=>
  simp only[eqG,Bool.not_eq_true'] at h;cases y
  case agg cs=>exact run_eqGuard_agg w op t p q _ cs h
  all_goals (simp only[den];cases op<;>simp[eqGuard])
 |rows n f=>rcases hw rfl with⟨n,k,l',hh⟩|⟨l',hh⟩<;>simp at hh
 |tup l=>exact absurd rfl (hx l)
 |ptr b _ _=>cases hb:(ρ b)<;>simp only[den,hb]<;>cases op<;>simp[eqGuard]
 |sl b _ _ _ _ _=>cases hb:(ρ b)<;>simp only[den,hb]<;>cases op<;>simp[eqGuard]
 |pa b _ _ _ _=>cases hb:(ρ b)<;>simp only[den,hb]<;>cases op<;>simp[eqGuard]
 |gs b _ _=>
  cases hb:(ρ b) with
  |none=>simp only[den,hb];cases op<;>simp[eqGuard]
  |some nm=>cases hn:nm.non<;>simp only[den,hb,gsV,hn,cond_true,cond_false]<;>cases op<;>simp[eqGuard]
 |gp b _ _ _ _ _=>
  cases hb:(ρ b) with
  |none=>simp only[den,hb];cases op<;>simp[eqGuard]
  |some nm=>cases hn:nm.non<;>simp only[den,hb,gpV,hn,cond_true,cond_false]<;>cases op<;>simp[eqGuard]
 |dv b p _ _ _=>
  cases hb:(ρ b) with
  |none=>simp only[den,hb];cases op<;>simp[eqGuard]
  |some nm=>cases hn:dloc nm.K (nmL nm) p<;>simp only[den,hb,dvV,hn]<;>cases op<;>simp[eqGuard]
 |dq b p _ _ _ _=>
  cases hb:(ρ b) with
  |none=>simp only[den,hb];cases op<;>simp[eqGuard]
  |some nm=>cases hn:dloc nm.K (nmL nm) p<;>simp only[den,hb,dqV,hn]<;>cases op<;>simp[eqGuard]
 |itp b=>cases hb:(ρ b)<;>simp only[den,hb]<;>cases op<;>simp[eqGuard]
 |_=>simp only[den];cases op<;>simp[eqGuard]
theorem ZHR{P:Program}{ρ:Rho}{l:List AV}{y:AV}{t:TypeId}{b:Bool}(h:eqD P 4 t (.agg l) y=some b)(hx:Has P (.agg l) t)(hy:Has P y t)(ox:OK P ρ (.agg l))(oy:OK P ρ y)(w:World)(neg:Bool):
  (binOp (cond neg .neq .eql) t (den P ρ (.agg l)) (den P ρ y)).run P w= .ok (.bool (cond neg (!b) b)) w:=by
 have he:(Op.equal t (den P ρ (.agg l)) (den P ρ y)).run P w= .ok b w:=ZyH w 9994 4 _ _ t b h hx hy ox oy;have hya:∃ r,y= .agg r:=by
  cases y<;>first|exact⟨_,rfl⟩|(simp[eqD,eqAV] at h;done)
 obtain⟨r,rfl⟩:=hya;simp only[den] at he ⊢;cases neg<;>simp[binOp,he]
theorem ZHS{P:Program}{ρ:Rho}{x y:AV}{t:TypeId}{b:Bool}(h:eqAV x y=some b)(hx:Has P x t)(hy:Has P y t)(ox:OK P ρ x)(oy:OK P ρ y)(hn:∀ k i,x≠ .int k i)(w:World)(neg:Bool):
  (binOp (cond neg .neq .eql) t (den P ρ x) (den P ρ y)).run P w= .ok (.bool (cond neg (!b) b)) w:=by
 have he:=fun w=>ZvX h hx hy ox oy w 9998
 have he':∀ w,(Op.equal t (den P ρ x) (den P ρ y)).run P w= .ok b w:=he;have h0:=h;unfold eqAV at h;split at h
 ·exact absurd rfl (hn _ _)
 ·cases neg<;>simp only[den] at he' ⊢ <;>simp[binOp,he']
 ·rename_i s s';simp only[oE] at h;subst h;cases neg<;>simp only[den]<;>simp[binOp,Op.stringOp,beq_toListBytes]
 ·cases neg<;>simp only[den] at he' ⊢ <;>simp[binOp,he']
 ·cases neg<;>simp only[den] at he' ⊢ <;>simp[binOp,he']
 ·simp only[OK] at oy;obtain⟨nm,o,hb,hp⟩:=oy;rw[Zhs hb hp] at he' ⊢;cases neg<;>simp only[den] at he' ⊢ <;>simp[binOp,he']
 ·simp only[OK] at ox;obtain⟨nm,o,hb,hp⟩:=ox;rw[Zhs hb hp] at he' ⊢;cases neg<;>simp only[den] at he' ⊢ <;>simp[binOp,he']
 ·cases neg<;>simp only[den] at he' ⊢ <;>simp[binOp,he']
 ·cases neg<;>simp only[den] at he' ⊢ <;>simp[binOp,he']
 ·cases neg<;>simp only[den] at he' ⊢ <;>simp[binOp,he']
 ·cases neg<;>simp only[den] at he' ⊢ <;>simp[binOp,he']
 ·simp only[OK] at ox;obtain⟨nm,of,n,hb,hbase,-⟩:=ox;rw[Zqv hb hbase] at he' ⊢;cases neg<;>simp only[den] at he' ⊢ <;>simp[binOp,he']
 ·simp only[OK] at oy;obtain⟨nm,of,n,hb,hbase,-⟩:=oy;rw[Zqv hb hbase] at he' ⊢;cases neg<;>simp only[den] at he' ⊢ <;>simp[binOp,he']
 ·cases neg<;>simp only[den] at he' ⊢ <;>simp[binOp,he']
 ·cases neg<;>simp only[den] at he' ⊢ <;>simp[binOp,he']
 ·simp at h
section
variable {P:Program} {w0:Base} {ro:Nat} {ρ:Rho} {tm mem:List (Nat×AV)} {a:Act} {w:World} (S:Sim P w0 ro ρ tm mem a.tmps w)
 {gl:Nat→Option AV} (hgl:GL P ρ gl) {m:Nat}
 {o:Oper} {e:Eff} {next:Act→World→Prop} {Q:Exit→Act→World→Prop} (hn:∀ v ρ' w',After P ro ρ mem w m e v ρ' w'→next (a.put o.dst v) w')
include S hn hgl
theorem s_eq{t ty:TypeId}{x y:Operand}{u v:AV}{neg:Bool}(ho:o.op= .binOp (cond neg .neq .eql) t x y ty)(hx:evO gl tm x=some u)(hy:evO gl tm y=some v)(hni:∀ k i,u≠ .int k i)
  (h:eqK P t neg u v none some=some e):o.wp P a w next Q:=by
 unfold eqK at h;split at h
 ·rename_i b hb;replace h:=Zac h;obtain⟨hc,h⟩:=h;simp only[bA] at hc;simp only[oE] at h;obtain⟨h1,h2⟩:=Zay S hgl hx;obtain⟨h3,h4⟩:=Zay S hgl hy;have k1:=ZcF P u t hc.1.1;have k2:=ZcF P v t hc.1.2;have hg:=fun w=>ZCS (P:=P) (ρ:=ρ) (x:=u) (t:=t) (den P ρ v) w (cond neg .neq .eql) x y hc.2 (fun hw=>by
   by_cases ha:∃ l,u= .agg l
   ·exact .inr ha
   ·left;have hb:=ZEx hb (fun l e=>ha ⟨l,e⟩);unfold eqAV at hb;split at hb<;>simp[wide] at hw
    ·exact⟨_,_,_,rfl⟩
    ·simp at hb) (fun k hh=>by subst hh;simp[Has] at k1)
  refine Zbf hn h.symm (by simp[OK]) ?_;have hr:(binOp (cond neg .neq .eql) t (den P ρ u) (den P ρ v)).run P w= .ok (.bool (cond neg (!b) b)) w:=by
   by_cases ha:∃ l,u= .agg l
   ·obtain⟨l,rfl⟩:=ha;exact ZHR hb k1 k2 h2 h4 w neg
   ·exact ZHS (ZEx hb (fun l e=>ha ⟨l,e⟩)) k1 k2 h2 h4 hni w neg
  simp[execOp,ho,h1,h3,hg,hr,den]
 ·simp at h
end
theorem ZEy{P:Program}{t:TypeId}{k:IntKind}{i:Int}{v:AV}{b:Bool}(h:eqD P 4 t (.int k i) v=some b):∃ k' j,v= .int k' j:=by
 cases v<;>first|exact⟨_,_,rfl⟩|(simp[eqD,eqAV] at h;done)
theorem ZGy{P:Program}{w0:Base}{ro:Nat}{ρ:Rho}{tm mem:List (Nat×AV)}{a:Act}{w:World}(S:Sim P w0 ro ρ tm mem a.tmps w)
  {gl:Nat→Option AV} (hgl:GL P ρ gl) {Γ:FuncId→Option Ct} (hΓ:∀ g C,Γ g=some C→SoundAt P w0.g g C) {get:Nat→Option AV} (hget:∀ b T,get b=some T→lk b mem=some T) {m:Nat}
  {o:Oper} {e:Eff} {next:Act→World→Prop} {Q:Exit→Act→World→Prop} (hn:∀ v ρ' w',After P ro ρ mem w m e v ρ' w'→next (a.put o.dst v) w')
  (h:opE P Γ ro o.op (evO gl tm) get none some=some e):o.wp P a w next Q:=by
 have main:opK P Γ ro o.op (evO gl tm) get none some=some e→o.wp P a w next Q:=by
  intro h;cases ho:o.op<;>simp only[ho,opK] at h
  case move x=>split at h<;>simp at h;exact ZIV S hgl hn (.inl ho) ‹_› h.symm
  case assign x=>split at h<;>simp at h;exact ZIV S hgl hn (.inr ho) ‹_› h.symm
  case pick c x y=>
   split at h
   ·rename_i b v u h1 h2 h3;refine s_pick S hgl hn ho h1 h2 h3 ?_;cases b<;>simp at h<;>exact h.symm
   ·simp at h
  case alloc t=>split at h<;>simp at h;exact s_alloc hn ho ‹_› h.symm
  case box t x=>
   split at h
   ·replace h:=Zac h;obtain⟨hc,h⟩:=h;simp only[oE] at h;exact s_box S hgl hn ho ‹_› hc h.symm
   ·simp at h
  case build t ps=>
   split at h
   ·rename_i z vs h1 h2;replace h:=Zac h;obtain⟨hc,h⟩:=h;simp only[bA] at hc;split at h
    ·simp only[oE] at h;exact s_build S hgl hn ho h1 h2 hc.1 (by simpa using hc.2) ‹_› h.symm
    ·simp at h
   ·simp at h
  case load t x=>
   split at h
   ·rename_i b p t' h1;replace h:=Zac h;obtain⟨hc,h⟩:=h;have hc:=Zaj hc;subst hc;split at h
    ·split at h
     ·simp only[oE] at h;exact s_load S hgl hget hn ho h1 ‹_› ‹_› h.symm
     ·simp at h
    ·simp at h
   ·rename_i b p off n te h1;split at h
    ·rename_i n' e' ht;replace h:=Zac h;obtain⟨hc,h⟩:=h;simp only[bA] at hc;have c1:=Zaj hc.1.1;have c2:=Zaj hc.1.2;have c3:=Zaj hc.2;subst c1;subst c2;split at h
     ·split at h
      ·simp only[oE] at h;exact s_loadA S hgl hget hn ho h1 ht c3 ‹_› ‹_› h.symm
      ·simp at h
     ·simp at h
    ·simp at h
   ·simp at h
  case sliceToArrayPointer t x=>
   split at h
   ·rename_i b p off len cap te h1;split at h
    ·rename_i n e' ht;replace h:=Zac h;obtain⟨hc,h⟩:=h;simp only[bA] at hc;have c1:=Zaj hc.1;subst c1;simp only[oE] at h;exact s_arr S hgl hn ho h1 ht (by simpa using hc.2) h.symm
    ·simp at h
   ·rename_i b lo len te nn z h1;split at h
    ·rename_i n e' ht;replace h:=Zac h;obtain⟨hc,h⟩:=h;simp only[bA,Nat.ble_eq,Nat.blt_eq] at hc;have c1:=Zaj hc.1;subst c1;simp only[oE] at h;exact s_arrG S hgl hn ho h1 ht hc.2.1 hc.2.2 h.symm
    ·simp at h
   ·simp at h
  case store t x y=>
   split at h
   ·rename_i b p t' v h1 h2;replace h:=Zac h;obtain⟨hc,h⟩:=h;simp only[bA] at hc;have hc1:=Zaj hc.1.1;subst hc1;split at h
    ·split at h
     ·simp only[oE] at h;exact s_store S hgl hget hn ho h1 h2 (Nat.le_of_ble_eq_true hc.1.2) hc.2 ‹_› ‹_› h.symm
     ·simp at h
    ·simp at h
   ·simp at h
  case nilCheck x=>
   split at h
   ·simp only[oE] at h;exact ZFo S hgl hn ho ‹_› h.symm
   ·simp at h
  case binOp op t x y ty=>
   split at h
   ·rename_i q i q' j h1 h2;split at h
    ·rename_i hcl;replace h:=Zac h;obtain⟨hc,h⟩:=h;simp only[oE] at h;exact s_bin S hgl hn ho h1 h2 (.inl ⟨hcl,by simpa using hc,rfl⟩) h.symm
    ·rename_i hcl;replace h:=Zac h;obtain⟨hc,h⟩:=h;replace h:=Zya h;obtain⟨hd,h⟩:=h;simp only[oE] at h;exact s_bin S hgl hn ho h1 h2 (.inr (.inl ⟨hcl,ZmU hc,hd,rfl⟩)) h.symm
    ·rename_i hcl;replace h:=Zac h;obtain⟨hc,h⟩:=h;simp only[oE] at h;exact s_bin S hgl hn ho h1 h2 (.inr (.inr (.inl ⟨hcl,ZmU hc,rfl⟩))) h.symm
    ·rename_i n3 n1 n4;replace h:=Zac h;obtain⟨hc,h⟩:=h;simp only[oE] at h;refine s_bin S hgl hn ho h1 h2 (.inr (.inr (.inr ⟨?_,ZmU hc,rfl⟩))) h.symm;cases op<;>simp[bcl] at n3 n1 n4 ⊢
   ·simp at h
  case unOp op t x=>
   split at h
   ·simp only[oE] at h;exact s_un S hgl hn ho ‹_› (.inl ⟨_,_,rfl,rfl,rfl⟩) h.symm
   ·simp only[oE] at h;exact s_un S hgl hn ho ‹_› (.inr (.inl ⟨_,_,rfl,rfl,rfl⟩)) h.symm
   ·simp only[oE] at h;exact s_un S hgl hn ho ‹_› (.inr (.inr ⟨_,rfl,rfl,rfl⟩)) h.symm
   ·simp at h
  case convert s d x=>
   split at h
   ·split at h
    ·simp only[oE] at h;exact s_conv S hgl hn ho ‹_› ‹_› ‹_› h.symm
    ·simp at h
   ·simp at h
  case fieldAddr s x i=>
   split at h
   ·replace h:=Zac h;obtain⟨hc,h⟩:=h;have hc:=Zaj hc;subst hc;split at h
    ·split at h
     ·replace h:=Zac h;obtain⟨hz,h⟩:=h;simp only[oE] at h;exact ZDI S hgl hn ho ‹_› ‹_› ‹_› (by simpa using hz) h.symm
     ·simp at h
    ·simp at h
   ·simp at h
  case field s x i=>
   split at h
   ·split at h
    ·replace h:=Zac h;obtain⟨hc,h⟩:=h;split at h
     ·simp only[oE] at h;exact s_field S hgl hn ho ‹_› ‹_› hc ‹_› h.symm
     ·simp at h
    ·simp at h
   ·simp at h
  case indexAddr t x y=>
   split at h
   ·replace h:=Zac h;obtain⟨hc,h⟩:=h;have hc:=Zaj hc;subst hc;split at h
    ·replace h:=Zac h;obtain⟨hz,h⟩:=h;replace h:=Zac h;obtain⟨hi,h⟩:=h;simp only[oE] at h;exact ZDJ S hgl hn ho ‹_› ‹_› ‹_› (by simpa using hz) (by simpa using hi) h.symm
    ·simp at h
   ·split at h
    ·replace h:=Zac h;obtain⟨hc,h⟩:=h;simp only[bA] at hc;have hc1:=Zaj hc.1;subst hc1;replace h:=Zac h;obtain⟨hi,h⟩:=h;simp only[oE] at h;exact ZCT S hgl hn ho ‹_› ‹_› ‹_› (by simpa using hc.2) (by simpa using hi) h.symm
    ·simp at h
   ·split at h
    ·replace h:=Zac h;obtain⟨hc,h⟩:=h;simp only[bA] at hc;have hc1:=Zaj hc.1;subst hc1;replace h:=Zac h;obtain⟨hi,h⟩:=h;simp only[oE] at h;exact ZCU S hgl hn ho ‹_› ‹_› ‹_› (by simpa using hc.2) (by simpa using hi) h.symm
    ·simp at h
   ·simp at h
  case index t x y=>
   split at h
   ·split at h
    ·replace h:=Zac h;obtain⟨hc,h⟩:=h;simp only[bA] at hc;have hc1:=Zaj hc.1;subst hc1;replace h:=Zac h;obtain⟨hi,h⟩:=h;simp only[oE] at h;exact ZHT S hgl hn ho ‹_› ‹_› ‹_› hc.2 (by simpa using hi) h.symm
    ·simp at h
   ·split at h
    ·replace h:=Zac h;obtain⟨hc,h⟩:=h;replace h:=Zac h;obtain⟨hil,h⟩:=h;split at h
     ·simp only[oE] at h;exact ZHU S hgl hn ho ‹_› ‹_› ‹_› hc (by simpa using hil) ‹_› h.symm
     ·simp at h
    ·simp at h
   ·split at h
    ·replace h:=Zac h;obtain⟨hi,h⟩:=h;simp only[oE] at h;exact ZFp S hgl hn ho ‹_› ‹_› ‹_› (by simpa using hi) h.symm
    ·simp at h
   ·simp at h
  case slice t x lo hi mx=>
   cases mx with
   |some _=>simp at h
   |none=>
    simp only at h;split at h
    ·replace h:=Zac h;obtain⟨hc,h⟩:=h;have hc:=Zaj hc;subst hc;split at h
     ·replace h:=Zac h;obtain⟨hz,h⟩:=h;simp only[bA] at hz;have hr:=hz.2;simp only[inR,decide_eq_true_eq] at hr;exact ZHV S hgl hn ho ‹_› ‹_› (by simpa using hz.1) hr.2 h
     ·simp at h
    ·split at h
     ·replace h:=Zac h;obtain⟨hc,h⟩:=h;simp only[bA] at hc;have hc1:=Zaj hc.1;subst hc1;exact ZHW S hgl hn ho ‹_› ‹_› (by simpa using hc.2) h
     ·simp at h
    ·split at h
     ·replace h:=Zac h;obtain⟨hz,h⟩:=h;exact ZHX S hgl hn ho ‹_› ‹_› (by simpa using hz) h
     ·simp at h
    ·simp at h
  case extract x i=>
   split at h
   ·split at h
    ·simp only[oE] at h;exact ZGz S hgl hn ho ‹_› ‹_› h.symm
    ·simp at h
   ·simp at h
  case makeFunc g first caps=>
   cases g<;>simp only at h
   case func g=>
    split at h
    ·split at h
     ·simp only[oE] at h;exact ZFq S hgl hn ho ‹_› ‹_› h.symm
     ·simp at h
    ·simp at h
   all_goals simp at h
  case makeInterface t x=>
   split at h
   ·split at h
    ·simp at h
    ·rename_i d hd1 hd2;simp only[oE] at h;exact ZzX S hgl hn ho ‹_› hd2 (fun ms hms=>by subst hms;exact hd1 ms rfl) h.symm
    ·simp at h
   ·simp at h
  case buildSlice t n ps=>
   split at h
   ·split at h
    ·split at h
     ·replace h:=Zac h;obtain⟨hc,h⟩:=h;simp only[bA] at hc;simp only[oE] at h;exact ZCV S hgl hn ho ‹_› ‹_› ‹_› (Zaj hc.1.1.1) (by simpa using hc.1.1.2) (Nat.le_of_ble_eq_true hc.1.2) hc.2 h.symm
     ·simp at h
    ·split at h
     ·replace h:=Zac h;obtain⟨hc,h⟩:=h;simp only[bA] at hc;simp only[oE] at h;exact ZBI S hgl hn ho ‹_› ‹_› (Zaj hc.1.1.1.1.1) (by simpa using hc.1.1.1.1.2) (Nat.le_of_ble_eq_true hc.1.1.1.2) (Nat.le_of_ble_eq_true hc.1.1.2) (by simpa using hc.1.2) hc.2 h.symm
     ·simp at h
   ·simp at h
  case call c=>
   split at h
   ·split at h
    ·split at h
     ·split at h
      ·rw[Res.run_par] at h;replace h:=ZbW h;obtain⟨v,hv,h⟩:=h;exact s_call S hgl hΓ hget ho ‹_› ‹_› ‹_› ‹_› ‹_› hv fun _ _ hr hb=>ZHY hn h hr hb
      ·simp at h
     ·simp at h
    ·simp at h
   ·split at h
    ·replace h:=Zac h;obtain⟨hc,h⟩:=h;have hc:=Zaj hc;subst hc;split at h
     ·exact ZHZ S hgl hn hget ho ‹_› ‹_› ‹_› ‹_› h
     ·simp at h
    ·simp at h
   ·split at h
    ·split at h
     ·simp only[oE] at h;exact s_len S hgl hn ho ‹_› ‹_› ‹_› (.inl ⟨_,_,_,_,_,_,_,rfl,rfl,‹_›⟩) h.symm
     ·simp at h
    ·split at h
     ·simp only[oE] at h;exact s_len S hgl hn ho ‹_› ‹_› ‹_› (.inr (.inr (.inl ⟨_,_,_,_,rfl,rfl,‹_›⟩))) h.symm
     ·simp at h
    ·split at h
     ·simp only[oE] at h;exact s_len S hgl hn ho ‹_› ‹_› ‹_› (.inr (.inl ⟨_,rfl,rfl,‹_›⟩)) h.symm
     ·simp at h
    ·split at h
     ·simp only[oE] at h;exact s_len S hgl hn ho ‹_› ‹_› ‹_› (.inr (.inr (.inr (.inl ⟨_,rfl,rfl,‹_›⟩)))) h.symm
     ·simp at h
    ·split at h
     ·replace h:=Zac h;obtain⟨hr,h⟩:=h;simp only[oE] at h;exact s_len S hgl hn ho ‹_› ‹_› ‹_› (.inr (.inr (.inr (.inr ⟨_,_,rfl,‹_›,hr⟩)))) h.symm
     ·simp at h
    ·simp at h
   ·simp at h
  all_goals simp at h
 have icmp_case:∀ {op:BinOp} {t ty:TypeId} {x y:Operand} {q q':IntKind} {i j:Int},bcl op=4→o.op= .binOp op t x y ty→evO gl tm x=some (.int q i)→evO gl tm y=some (.int q' j)→
   cond (kEq q q') (some (Eff.val (.bool (icmp op i j)))) none=some e→o.wp P a w next Q:=by
  intro op t ty x y q q' i j hcl ho h1 h2 h;replace h:=Zac h;obtain⟨hc,h⟩:=h;simp only[oE] at h;exact s_bin S hgl hn ho h1 h2 (.inr (.inr (.inl ⟨hcl,ZmU hc,rfl⟩))) h.symm
 unfold opE at h;split at h
 ·rename_i t x y ty ho;split at h
  ·exact icmp_case rfl ho ‹_› ‹_› h
  ·rename_i u v hno h1 h2;by_cases hi:∃ k i,u= .int k i
   ·obtain⟨k,i,rfl⟩:=hi;exfalso;unfold eqK at h;split at h
    ·rename_i b hb;obtain⟨k',j,rfl⟩:=ZEy hb;exact hno _ _ _ _ rfl rfl
    ·simp at h
   ·exact s_eq S hgl hn (neg:=false) ho h1 h2 (fun k i hh=>hi ⟨k,i,hh⟩) h
  ·simp at h
 ·rename_i t x y ty ho;split at h
  ·exact icmp_case rfl ho ‹_› ‹_› h
  ·rename_i u v hno h1 h2;by_cases hi:∃ k i,u= .int k i
   ·obtain⟨k,i,rfl⟩:=hi;exfalso;unfold eqK at h;split at h
    ·rename_i b hb;obtain⟨k',j,rfl⟩:=ZEy hb;exact hno _ _ _ _ rfl rfl
    ·simp at h
   ·exact s_eq S hgl hn (neg:=true) ho h1 h2 (fun k i hh=>hi ⟨k,i,hh⟩) h
  ·simp at h
 ·exact main h
end Go.Vx
namespace Go.Vx
open Go Go.RowKit
theorem ZHN{P:Program}{w0:Base}{ro:Nat}{ρ:Rho}{tm mem:List (Nat×AV)}{a:Act}{w:World}(S:Sim P w0 ro ρ tm mem a.tmps w)
  {gl:Nat→Option AV} (hgl:GL P ρ gl) {Γ:FuncId→Option Ct} (hΓ:∀ g C,Γ g=some C→SoundAt P w0.g g C) {get:Nat→Option AV} (hget:∀ b T,get b=some T→lk b mem=some T) {m:Nat}
  {o:Oper} {e:Eff} {next:Act→World→Prop} {Q:Exit→Act→World→Prop} (hn:∀ v ρ' w',After P ro ρ mem w m e v ρ' w'→next (a.put o.dst v) w')
  (h:opK' P Γ ro o.op (evO gl tm) get none some=some e):o.wp P a w next Q:=by
 have old:opE P Γ ro o.op (evO gl tm) get none some=some e→o.wp P a w next Q:=fun h=>ZGy S hgl hΓ hget hn h
 cases ho:o.op<;>simp only[ho,opK'] at h old
 case slice t x lo hi mx=>
  cases mx with
  |some _=>exact old h
  |none=>
   simp only at h;split at h
   ·split at h
    ·replace h:=Zac h;obtain⟨hc,h⟩:=h;simp only[bA] at hc;obtain rfl:=Zaj hc.1;exact ZH0 S hgl hn ho ‹_› ‹_› (by simpa using hc.2) h
    ·cases h
   ·split at h
    ·replace h:=Zac h;obtain⟨hc,h⟩:=h;simp only[bA] at hc;obtain rfl:=Zaj hc.1;cases lo with
     |none=>exact ZEz S hgl hn ho ‹_› ‹_› (by simpa using hc.2) h
     |some lo=>exact ZEz S hgl hn ho ‹_› ‹_› (by simpa using hc.2) h
    ·cases h
   ·split at h
    ·replace h:=Zac h;obtain⟨hc,h⟩:=h;simp only[bA] at hc;obtain rfl:=Zaj hc.1;exact ZH1 S hgl hn ho ‹_› ‹_› (by simpa using hc.2) h
    ·cases h
   ·split at h
    ·exact ZH2 S hgl hn ho ‹_› ‹_› h
    ·cases h
   ·exact old h
 case indexAddr t x y=>
  split at h
  ·split at h
   ·replace h:=Zac h;obtain⟨hc,h⟩:=h;simp only[bA] at hc;obtain rfl:=Zaj hc.1;replace h:=Zac h;obtain⟨hi,h⟩:=h;exact ZCW S hgl hn ho ‹_› ‹_› ‹_› (by simpa using hc.2) (by simpa using hi) (oI h).symm
   ·cases h
  ·split at h
   ·replace h:=Zac h;obtain⟨hc,h⟩:=h;simp only[bA] at hc;obtain rfl:=Zaj hc.1;replace h:=Zac h;obtain⟨hi,h⟩:=h;exact ZCX S hgl hn ho ‹_› ‹_› ‹_› (by simpa using hc.2) (by simpa using hi) (oI h).symm
   ·cases h
  ·exact old h
 case fieldAddr st x i=>
  split at h
  ·replace h:=Zac h;obtain⟨hc,h⟩:=h;simp only[bA] at hc;obtain rfl:=Zaj hc.1;split at h
   ·split at h
    ·replace h:=Zac h;obtain⟨hz,h⟩:=h;exact ZH3 S hgl hn ho ‹_› hc.2 ‹_› ‹_› ‹_› (by simpa using hz) (oI h).symm
    ·cases h
   ·cases h
  ·exact old h
 case load t x=>
  split at h
  ·replace h:=Zac h;obtain⟨hc,h⟩:=h;simp only[bA] at hc;obtain rfl:=Zaj hc.1;exact s_loadD S hgl hn ho ‹_› hc.2 (oI h).symm
  ·exact old h
 case convert s d x=>
  split at h
  ·exact old h
  ·split at h
   ·split at h
    ·exact s_bstr0 S hgl hn ho ‹_› ‹_› ‹_› ‹_› (oI h).symm
    ·cases h
   ·cases h
  ·split at h
   ·split at h
    ·rename_i r hr;obtain⟨T,te⟩:=r;split at h
     ·rename_i hT;simp only at hT;subst hT;replace h:=Zac h;obtain⟨hc,h⟩:=h;obtain rfl:=Zaj hc;exact s_bstr S hgl hn hget ho ‹_› ‹_› ‹_› hr (oI h).symm
     ·cases h
    ·cases h
   ·cases h
  ·cases h
 case binOp op t x y ty=>
  cases op
  case add=>
   simp only at h;split at h
   ·replace h:=Zac h;obtain⟨hc,h⟩:=h;exact ZH4 S hgl hn ho ‹_› ‹_› hc (oI h).symm
   ·exact old h
  case eql=>
   simp only at h;split at h
   ·split at h
    ·exact s_eqNil S hgl hn ho ‹_› ‹_› ‹_› (oI h).symm
    ·cases h
   ·exact old h
  all_goals exact old h
 case makeSlice t x y=>
  split at h
  ·split at h
   ·split at h
    ·replace h:=Zac h;obtain⟨hc,h⟩:=h;simp only[bA,decide_eq_true_eq] at hc;exact s_make S hgl hn ho ‹_› ‹_› ‹_› ‹_› hc.1.1 hc.1.2 hc.2 (oI h).symm
    ·cases h
   ·cases h
  ·cases h
 case buildSlice t n ps=>
  cases n with
  |zero=>
   simp only at h;split at h
   ·split at h
    ·replace h:=Zac h;obtain⟨hc,h⟩:=h;simp only[bA] at hc;have hps:ps.toList=[]:=by
      have:=hc.2;split at this
      ·assumption
      ·cases this
     exact s_empty hn ho hps ‹_› ‹_› hc.1 (oI h).symm
    ·cases h
   ·cases h
  |succ n=>exact old h
 case call c=>
  split at h
  ·split at h
   ·rename_i x y t t' hx ht;cases hq:Nat.beq t t' with
    |true=>
     rw[hq,cond_true] at h;obtain rfl:=Zaj hq;split at h
     ·split at h
      ·exact s_appF S hgl hn hget ho ‹_› hx ht ‹_› h
      ·exact s_appX S hgl hn hget ho ‹_› hx ht ‹_› h
     ·cases h
    |false=>
     rw[hq,cond_false] at h;split at h
     ·exact s_appZ S hgl hn ho ‹_› hx ht ‹_› ‹_› h
     ·cases h
   ·cases h
  ·split at h
   ·split at h
    ·exact s_capN S hgl hn ho ‹_› ‹_› ‹_› ‹_› (oI h).symm
    ·cases h
   ·cases h
  ·split at h
   ·replace h:=Zac h;exact s_min S hgl hn ho ‹_› ‹_› h.1 (oI h.2).symm
   ·cases h
  ·split at h
   ·split at h
    ·exact ZIW S hgl hn ho ‹_› ‹_› ‹_› ‹_› (.inl ⟨_,_,_,_,_,rfl⟩) (oI h).symm
    ·cases h
   ·split at h
    ·exact ZIW S hgl hn ho ‹_› ‹_› ‹_› ‹_› (.inr ⟨_,_,_,_,_,rfl,rfl⟩) (oI h).symm
    ·cases h
   ·exact old h
  ·exact old h
 all_goals exact old h
end Go.Vx
namespace Go.Vx
open Go Go.RowKit
theorem Zal(d:Nat)(v:AV)(l:List (Nat×AV)):lk d ((d,v)::l)=some v:=by
 simp[lk]
theorem Zan{d e:Nat}(h:e≠d)(v:AV)(l:List (Nat×AV)):lk d ((e,v)::l)=lk d l:=by
 have:Nat.beq e d=false:=by
  cases hq:Nat.beq e d
  ·rfl
  ·exact absurd (Zaj hq) h
 simp[lk,this]
theorem Zx5{w w':World}(h:Below w.heap.size w w'){b o:Nat}(hb:b<w.heap.size):w'.cell? ⟨b,o,none⟩=w.cell? ⟨b,o,none⟩:=by
 unfold World.cell?;rw[h.block b hb]
theorem ZCY{w w':World}(h:Below w.heap.size w w'){b o:Nat}(hb:b<w.heap.size):w'.frozen? ⟨b,o,none⟩=w.frozen? ⟨b,o,none⟩:=by
 unfold World.frozen?;rw[h.block b hb]
theorem Zui(a:Act)(d:Option Nat)(v:Value):(a.put d v).tmps.size=a.tmps.size:=by
 cases d<;>simp[Act.put]
theorem Zr1(a:Act)(d:Option Nat)(v:Value):(a.put d v).defers=a.defers:=by
 cases d<;>simp[Act.put]
theorem Zms{P:Program}{ρ ρ':Rho}{tm:List (Nat×AV)}{a:Act}{d:Option Nat}{u:AV}{v:Value}(hS:∀ d v,lk d tm=some v→d<a.tmps.size∧a.tmps.getD d undef=den P ρ v∧OK P ρ v)
  (hE:Ext ρ ρ') (hd:∀ n,d=some n→n<a.tmps.size) (hv:v=den P ρ' u) (hu:OK P ρ' u):
  ∀ n x,lk n (match d with|some d=>(d,u)::tm|none=>tm)=some x→n<(a.put d v).tmps.size∧(a.put d v).tmps.getD n undef=den P ρ' x∧OK P ρ' x:=by
 have old:∀ n x,lk n tm=some x→n<a.tmps.size∧a.tmps.getD n undef=den P ρ' x∧OK P ρ' x:=by
  intro n x hx;obtain⟨h1,h2,h3⟩:=hS n x hx;obtain⟨h4,h5⟩:=Zcm P hE x h3;exact⟨h1,h2.trans h4.symm,h5⟩
 intro n x hx;rw[Zui];cases d with
 |none=>exact old n x hx
 |some d=>
  have hdn:=hd d rfl;by_cases e:d=n
  ·subst e;rw[Zal] at hx;obtain rfl:=oI hx;refine⟨hdn,?_,hu⟩;simp[Act.put,Array.getD_eq_getD_getElem?,hdn,hv]
  ·rw[Zan e] at hx;obtain⟨h1,h2,h3⟩:=old n x hx;refine⟨h1,?_,h3⟩;rw[← h2];simp[Act.put,Array.getD_eq_getD_getElem?,e]
theorem ZEl{nt:Nat}{d:Option Nat}(h:dOK nt d=true):∀ n,d=some n→n<nt:=by
 rintro n rfl
 simpa [dOK] using h
theorem ZsV(st:St)(d:Option Nat)(v:AV):(st.put d v).tm=(match d with|some d=>(d,v)::st.tm|none=>st.tm):=by cases d<;>rfl
theorem Zea(st:St)(d:Option Nat)(v:AV):(st.put d v).mem=st.mem:=by cases d<;>rfl
theorem ZsW(st:St)(d:Option Nat)(v:AV):(st.put d v).nx=st.nx:=by cases d<;>rfl
theorem Zxj(b:Nat):(vs:List Value)→(o:Nat)→(w:World)→(w.setCells b o vs).heap.size=w.heap.size
 | [],_,_=>rfl
 |v::r,o,w=>by rw[World.setCells,Zxj b r];simp[World.setCell]
def Liv(nm:Nm)(w:World)(cs:List Value):Prop:=(nm.non=false∧nm.blk<w.heap.size)∨(nm.non=true∧cs=[])
theorem Liv.cell{nm:Nm}{w w':World}{cs:List Value}(h:Liv nm w cs)(hb:Below w.heap.size w w'){j:Nat}{x:Value}(hx:cs[j]? =some x):w'.cell? ⟨nm.blk,nm.off+j,none⟩=w.cell? ⟨nm.blk,nm.off+j,none⟩:=by
 rcases h with⟨-,h⟩|⟨-,h⟩
 ·exact Zx5 hb h
 ·rw[h] at hx;simp at hx
theorem Liv.frozen{nm:Nm}{w w':World}{cs:List Value}(h:Liv nm w cs)(hb:Below w.heap.size w w'){j:Nat}(hj:j<cs.length):w'.frozen? ⟨nm.blk,nm.off+j,none⟩=w.frozen? ⟨nm.blk,nm.off+j,none⟩:=by
 rcases h with⟨-,h⟩|⟨-,h⟩
 ·exact ZCY hb h
 ·rw[h] at hj;simp at hj
theorem Liv.size{nm:Nm}{w w':World}{cs:List Value}(h:Liv nm w cs)(hb:w.heap.size≤w'.heap.size):Liv nm w' cs:=h.imp (fun h=>⟨h.1,Nat.lt_of_lt_of_le h.2 hb⟩) id
theorem ZGA{b:Option Nat}{c:Nat}:{l:List (Nat×AV)}→{U:AV}→lk c (del b l)=some U→lk c l=some U∧b≠some c:=by
 intro l U h;cases b with
 |none=>exact⟨h,by simp⟩
 |some b=>
  simp only[del] at h
  induction l with
  |nil=>simp[lk] at h
  |cons x l ih=>
   obtain⟨e,v⟩:=x;by_cases hb:e=b
   ·subst hb;have h1:((e,v)::l).filter (fun x=> !Nat.beq x.1 e)=l.filter fun x=> !Nat.beq x.1 e:=by
     rw[List.filter_cons_of_neg];simp
    rw[h1] at h;obtain⟨k1,k2⟩:=ih h;have hne:e≠c:=fun hh=>k2 (by rw[hh])
    exact⟨by rw[Zan hne];exact k1,k2⟩
   ·have h1:((e,v)::l).filter (fun x=> !Nat.beq x.1 b)=(e,v)::l.filter fun x=> !Nat.beq x.1 b:=by
     rw[List.filter_cons_of_pos];simp only[Bool.not_eq_true'];cases hq:Nat.beq e b with
     |false=>rfl
     |true=>exact absurd (Zaj hq) hb
    rw[h1] at h;by_cases hc:e=c
    ·subst hc;rw[Zal] at h ⊢;exact⟨h,fun hh=>hb (oI hh).symm⟩
    ·rw[Zan hc] at h ⊢;exact ih h
theorem ZzM(b:Option Nat)(c:Nat)(l:List (Nat×AV)):lk c (del b l)=if b=some c then none else lk c l:=by
 cases b with
 |none=>simp[del]
 |some b=>
  by_cases h:b=c
  ·subst h;rw[if_pos rfl];cases hq:lk b (del (some b) l) with
   |none=>rfl
   |some U=>exact absurd rfl (ZGA hq).2
  ·rw[if_neg (fun hh=>h (oI hh))];simp only[del]
   induction l with
   |nil=>rfl
   |cons x l ih=>
    obtain⟨e,v⟩:=x;by_cases hb:e=b
    ·subst hb;have h1:((e,v)::l).filter (fun x=> !Nat.beq x.1 e)=l.filter fun x=> !Nat.beq x.1 e:=by
      rw[List.filter_cons_of_neg];simp
     rw[h1,ih,Zan h]
    ·have h1:((e,v)::l).filter (fun x=> !Nat.beq x.1 b)=(e,v)::l.filter fun x=> !Nat.beq x.1 b:=by
      rw[List.filter_cons_of_pos];simp only[Bool.not_eq_true'];cases hq:Nat.beq e b with
      |false=>rfl
      |true=>exact absurd (Zaj hq) hb
     rw[h1];by_cases hc:e=c
     ·subst hc;rw[Zal,Zal]
     ·rw[Zan hc,Zan hc,ih]
theorem Zxk{P:Program}{nm:Nm}{b:Nat}:(xs:List Value)→(o:Nat)→(w:World)→RowB P nm w→RowB P nm (w.setCells b o xs)
 | [],_,_,h=>h
 |v::xs,o,w,h=>by
  rw[World.setCells];refine Zxk xs (o+1) _ ?_;obtain⟨h1,h2,h3,cur,h4,h5⟩:=h;by_cases hb:nm.blk=b
  ·subst hb;exact⟨h1,h2,h3,_,heap_setCell_same w nm.blk o cur nm.ty v h4,by simpa using h5⟩
  ·exact⟨h1,h2,h3,cur,by rw[heap_setCell_other w ⟨b,o,none⟩ nm.blk v hb];exact h4,h5⟩
theorem Exs.step{w0:Base}{ro:Nat}{ρ ρ':Rho}{mem mem':List (Nat×AV)}{w w':World}(E:Exs w0 ro ρ mem w)(hρ:∀ b nm,ρ' b=some nm→ρ b=some nm∨nm.K=nk)
  (hmem:∀ b T,lk b mem'=some T→(∃ T0,lk b mem=some T0∧ρ' b=ρ b∧(T=T0∨((∀ s p,T≠ .itr s p)∧isDc T=isDc T0)))∨
   ((∀ s p,T≠ .itr s p)∧∃ nm,ρ' b=some nm∧nm.K.na=none∧(nm.non=true∨w.heap.size≤nm.blk∨∃ b0 T0 nm0,lk b0 mem=some T0∧ρ b0=some nm0∧ro≤b0∧nm0.non=false∧nm.blk=nm0.blk∧isDc T0=false)))
  (hsz:w.heap.size≤w'.heap.size) (hheap:∀ k,k<w.heap.size→(∀ b T nm,lk b mem=some T→isDc T=false→ρ b=some nm→ro≤b→nm.non=false→k≠nm.blk)→w'.heap[k]? =w.heap[k]?) (hF:∀ k o,w0.F k o→k<w.heap.size):Exs w0 ro ρ' mem' w':=by
 have froz':∀ b nm,ρ' b=some nm→∀ k o v,nm.K.K k o=some v→ρ b=some nm∧w.cell? ⟨k,o,none⟩=some v:=by
  intro b nm hb k o v hk;rcases hρ b nm hb with h|h
  ·exact⟨h,E.froz b nm h k o v hk⟩
  ·rw[h] at hk;simp[nk] at hk
 have lt:∀ {k:Nat} {x:Obj},w.heap[k]? =some x→k<w.heap.size:=fun h=>(Array.getElem?_eq_some_iff.1 h).1
 have itr:∀ b s p,lk b mem'=some (.itr s p)→lk b mem=some (.itr s p)∧ρ' b=ρ b:=by
  intro b s p h;rcases hmem b _ h with⟨T0,h1,h2,h3⟩|⟨h1,-⟩
  ·rcases h3 with rfl|⟨h3,-⟩
   ·exact⟨h1,h2⟩
   ·exact absurd rfl (h3 s p)
  ·exact absurd rfl (h1 s p)
 refine⟨?_,?_,?_,?_,?_,?_,?_,?_⟩
 ·intro b nm hb k o v hk;obtain⟨h1,h2⟩:=froz' b nm hb k o v hk;rw[World.cell?_of_block (hheap k (ZqV h2) (fun b0 T0 nm0 g1 gd g2 g3 g4 e=>by
   have:=(E.away b0 T0 nm0 g1 g2 g3 g4 k o (.inr ⟨b,nm,v,h1,hk⟩) e).1;rw[gd] at this;cases this))]
  exact h2
 ·intro b nm hb;rcases hρ b nm hb with h|h
  ·exact Nat.le_trans (E.fhs b nm h) hsz
  ·rw[h];exact Nat.zero_le _
 ·intro b nm hb k o v hk;exact E.org b nm (froz' b nm hb k o v hk).1 k o v hk
 ·intro b T nm hT hnm hro hnon k o hf hk;have hf':Frz w0 ρ k o∧k<w.heap.size:=by
   rcases hf with hf|⟨b',nm',v,hb',hv⟩
   ·exact⟨.inl hf,hF k o hf⟩
   ·obtain⟨h1,h2⟩:=froz' b' nm' hb' k o v hv;exact⟨.inr ⟨b',nm',v,h1,hv⟩,ZqV h2⟩
  rcases hmem b T hT with⟨T0,g1,g2,g3⟩|⟨-,nm1,g1,-,g2⟩
  ·rw[g2] at hnm;have:=E.away b T0 nm g1 hnm hro hnon k o hf'.1 hk;rcases g3 with rfl|⟨-,g3⟩
   ·exact this
   ·rw[g3];exact this
  ·rw[hnm] at g1;obtain rfl:=oI g1;rcases g2 with g2|g2|⟨b0,T0,nm0,j1,j2,j3,j4,j5,j6⟩
   ·rw[hnon] at g2;cases g2
   ·have:=hf'.2;omega
   ·have:=(E.away b0 T0 nm0 j1 j2 j3 j4 k o hf'.1 (hk.trans j5)).1;rw[j6] at this;cases this
 ·intro b T nm hT hnm hro;rcases hmem b T hT with⟨T0,g1,g2,-⟩|⟨-,nm1,g1,g2,-⟩
  ·rw[g2] at hnm;exact E.nas b T0 nm g1 hnm hro
  ·rw[hnm] at g1;rw[oI g1];exact g2
 ·intro b s p h;obtain⟨h1,h2⟩:=itr b s p h;obtain⟨nm,g1,g2,g3⟩:=E.its b s p h1;refine⟨nm,by rw[h2];exact g1,?_,g3⟩;rw[hheap _ (lt g2) (fun b0 T0 nm0 j1 _ j2 j3 j4=>E.ita b s p nm h1 g1 b0 T0 nm0 j1 j2 j3 j4)];exact g2
 ·intro b s p nm h hnm b' T nm' hT hnm' hro hnon;obtain⟨h1,h2⟩:=itr b s p h;rw[h2] at hnm;obtain⟨nm2,k1,k2,-⟩:=E.its b s p h1;rw[hnm] at k1;obtain rfl:=oI k1;rcases hmem b' T hT with⟨T0,g1,g2,-⟩|⟨-,nm1,g1,-,g2⟩
  ·rw[g2] at hnm';exact E.ita b s p nm h1 hnm b' T0 nm' g1 hnm' hro hnon
  ·rw[hnm'] at g1;obtain rfl:=oI g1;rcases g2 with g2|g2|⟨b0,T0,nm0,j1,j2,j3,j4,j5,-⟩
   ·rw[hnon] at g2;cases g2
   ·have:=lt k2;omega
   ·rw[j5];exact E.ita b s p nm h1 hnm b0 T0 nm0 j1 j2 j3 j4
 ·intro b b' s s' p p' nm nm' h h' hnm hnm' hne;obtain⟨h1,h2⟩:=itr b s p h;obtain⟨h1',h2'⟩:=itr b' s' p' h';rw[h2] at hnm;rw[h2'] at hnm';exact E.itd b b' s s' p p' nm nm' h1 h1' hnm hnm' hne
theorem ZDG{P:Program}{w0:Base}{ro:Nat}{ρ:Rho}{st:St}{a:Act}{w:World}(S:Sim P w0 ro ρ st.tm st.mem a.tmps w){i:Nat}{e:Eff}{v:Value}{ρ':Rho}{w':World}{d:Option Nat}
  (hm:ρ (st.nx+i)=none) (hd:∀ n,d=some n→n<a.tmps.size) (hA:After P ro ρ st.mem w (st.nx+i) e v ρ' w'):
  Sim P w0 ro ρ' (st.app i d e).tm (st.app i d e).mem (a.put d v).tmps w'∧Ext ρ ρ'∧∀ b,b≠st.nx+i→ρ' b=ρ b:=by
 cases hA with
 |val u _ hu hb=>
  refine⟨⟨?_,?_,?_,?_,?_,?_,?_⟩,Ext.refl ρ,fun _ _=>rfl⟩
  ·simp only[St.app,ZsV];exact Zms S.slot (Ext.refl ρ) hd rfl hu
  ·intro b T hT;simp only[St.app,Zea] at hT;obtain⟨nm,h1,h2,h3,h4,h5⟩:=S.cell b T hT;exact⟨nm,h1,h2,h3,Liv.size h4 hb.size,fun j x hx=>by rw[Liv.cell h4 hb hx];exact h5 j x hx⟩
  ·intro b T nm hT hnm hbr;simp only[St.app,Zea] at hT;obtain⟨h1,h2⟩:=S.own b T nm hT hnm hbr;obtain⟨nm',g1,-,-,g4,-⟩:=S.cell b T hT;rw[hnm] at g1;obtain rfl:=oI g1;exact⟨h1,fun j hj=>by rw[Liv.frozen g4 hb hj];exact h2 j hj⟩
  ·intro b b' T T' nm nm' hT hT';simp only[St.app,Zea] at hT hT';exact S.apart b b' T T' nm nm' hT hT'
  ·intro b T nm hT hnm hbr hr;simp only[St.app,Zea] at hT;exact(S.rows b T nm hT hnm hbr hr).imp id fun h=>h.same (hb.block _ h.lt)
  ·exact S.below.trans hb
  ·simp only[St.app,Zea];exact S.ex.step (fun _ _ h=>.inl h) (fun b T h=>.inl ⟨T,h,rfl,.inl rfl⟩) hb.size (fun k hk _=>hb.block k hk) (fun k o h=>S.below.lt h)
 |new ty row cap T g hrow hN oT og=>
  have hE:=ZzJ hm ⟨w.heap.size,0,cap,ty,row,cap,false,nk⟩;have hself:upd ρ (st.nx+i) ⟨w.heap.size,0,cap,ty,row,cap,false,nk⟩ (st.nx+i)=some ⟨w.heap.size,0,cap,ty,row,cap,false,nk⟩:=by simp[upd]
  have hother:∀ b,b≠st.nx+i→upd ρ (st.nx+i) ⟨w.heap.size,0,cap,ty,row,cap,false,nk⟩ b=ρ b:=fun b h=>by simp[upd,h]
  have hnb:Below w.heap.size w (w.alloc (.cells (cells P ρ T).toArray ty)):=(Below.refl _ _).alloc (Nat.le_refl _) _;have hnew:∀ j x,(cells P ρ T)[j]? =some x→(w.alloc (.cells (cells P ρ T).toArray ty)).cell? ⟨w.heap.size,0+j,none⟩=some x:=by
   intro j x hx;show (match (w.heap.push _)[w.heap.size]? with|some (.cells c _ _)=>_|_=>_)=_;simp[hx]
  have hnf:∀ j,(w.alloc (.cells (cells P ρ T).toArray ty)).frozen? ⟨w.heap.size,0+j,none⟩=false:=by
   intro j;show (match (w.heap.push _)[w.heap.size]? with|some (.cells _ _ (lo,hi))=>_|_=>_)=_;simp
  have hcT:cells P (upd ρ (st.nx+i) ⟨w.heap.size,0,cap,ty,row,cap,false,nk⟩) T=cells P ρ T:=ZbX P hE T oT
  
  have live:∀ b U,lk b ((st.nx+i,T)::st.mem)=some U→(b=st.nx+i∧U=T)∨(b≠st.nx+i∧lk b st.mem=some U):=by
   intro b U h;by_cases hb:st.nx+i=b
   ·subst hb;rw[Zal] at h;exact .inl ⟨rfl,(oI h).symm⟩
   ·rw[Zan hb] at h;exact .inr ⟨fun hh=>hb hh.symm,h⟩
  refine⟨⟨?_,?_,?_,?_,?_,?_,?_⟩,hE,hother⟩
  ·simp only[St.app,ZsV];exact Zms S.slot hE hd rfl og
  ·intro b U hU;simp only[St.app] at hU;rcases live b U hU with⟨rfl,rfl⟩|⟨hne,hU⟩
   ·exact⟨_,hself,hN,(Zcm P hE _ oT).2,.inl ⟨rfl,by simp⟩,fun j x hx=>by rw[hcT] at hx;exact hnew j x hx⟩
   ·obtain⟨nm,h1,h2,h3,h4,h5⟩:=S.cell b U hU;refine⟨nm,by rw[hother b hne];exact h1,h2,(Zcm P hE _ h3).2,by rw[ZbX P hE U h3];exact Liv.size h4 hnb.size,fun j x hx=>?_⟩;rw[ZbX P hE U h3] at hx;rw[Liv.cell h4 hnb hx];exact h5 j x hx
  ·intro b U nm hU hnm hbr;simp only[St.app] at hU;rcases live b U hU with⟨rfl,rfl⟩|⟨hne,hU⟩
   ·rw[hself] at hnm;obtain rfl:=oI hnm;exact⟨fun _=>.inl S.below.size,fun j _=>hnf j⟩
   ·rw[hother b hne] at hnm;obtain⟨h1,h2⟩:=S.own b U nm hU hnm hbr;obtain⟨nm',g1,-,g3,g4,-⟩:=S.cell b U hU;rw[hnm] at g1;obtain rfl:=oI g1;refine⟨h1,fun j hj=>?_⟩;rw[ZbX P hE U g3] at hj;rw[Liv.frozen g4 hnb hj];exact h2 j hj
  ·intro b b' U U' nm nm' hU hU' hnm hnm' hbr hne z1 z2;simp only[St.app] at hU hU';rcases live b U hU with⟨rfl,rfl⟩|⟨h1,hU1⟩<;>rcases live b' U' hU' with⟨rfl,rfl⟩|⟨h2,hU2⟩
   ·exact absurd rfl hne
   ·rw[hself] at hnm;obtain rfl:=oI hnm;rw[hother b' h2] at hnm';obtain⟨nm2,g1,-,-,g4,-⟩:=S.cell b' U' hU2;rw[hnm'] at g1;obtain rfl:=oI g1;rcases g4 with⟨-,g4⟩|⟨g4,-⟩
    ·simp only;omega
    ·rw[z2] at g4;cases g4
   ·rw[hself] at hnm';obtain rfl:=oI hnm';rw[hother b h1] at hnm;obtain⟨nm2,g1,-,-,g4,-⟩:=S.cell b U hU1;rw[hnm] at g1;obtain rfl:=oI g1;rcases g4 with⟨-,g4⟩|⟨g4,-⟩
    ·simp only;omega
    ·rw[z1] at g4;cases g4
   ·rw[hother b h1] at hnm;rw[hother b' h2] at hnm';exact S.apart b b' U U' nm nm' hU1 hU2 hnm hnm' hbr hne z1 z2
  ·intro b U nm hU hnm hbr hr;simp only[St.app] at hU;rcases live b U hU with⟨rfl,rfl⟩|⟨hne,hU⟩
   ·rw[hself] at hnm;obtain rfl:=oI hnm;simp only[hrow] at hr;cases hr
   ·rw[hother b hne] at hnm;exact(S.rows b U nm hU hnm hbr hr).imp id fun h=>h.same (hnb.block _ h.lt)
  ·exact S.below.trans hnb
  ·have upK:∀ b nm,upd ρ (st.nx+i) ⟨w.heap.size,0,cap,ty,row,cap,false,nk⟩ b=some nm→ρ b=some nm∨nm.K=nk:=by
    intro b nm h;by_cases hb:b=st.nx+i
    ·subst hb;rw[hself] at h;exact .inr (by rw[← oI h])
    ·rw[hother b hb] at h;exact .inl h
   refine S.ex.step upK (fun b U hU=>?_) hnb.size (fun k hk _=>hnb.block k hk) (fun k o h=>S.below.lt h);simp only[St.app] at hU;rcases live b U hU with⟨rfl,rfl⟩|⟨hne,hU⟩
   ·refine .inr ⟨fun s p e=>?_,_,hself,rfl,.inr (.inl (Nat.le_refl _))⟩;rw[e] at hN;simp[HasN,hrow,Has] at hN
   ·exact .inl ⟨U,hU,hother b hne,.inl rfl⟩
 |upd b T T0 nm as old bs xs hbro hb hT0 hti hN oT hc0 hcT hl=>
  obtain⟨nm',g1,-,g3,g4,g5⟩:=S.cell b T0 hT0;rw[hb] at g1;obtain rfl:=oI g1;obtain⟨o1,o2⟩:=S.own b T0 nm hT0 hb hbro
  
  by_cases hnn:nm.non=true
  ·have hnil:cells P ρ T0=[]:=by
    rcases g4 with⟨h,-⟩|⟨-,h⟩
    ·rw[hnn] at h;cases h
    ·exact h
   rw[hnil] at hc0;have hxs:xs=[]:=by
    have h1:=congrArg List.length hc0;simp at h1;exact List.eq_nil_of_length_eq_zero (by omega)
   have has:as=[]∧bs=[]:=by
    have h1:=congrArg List.length hc0;simp at h1;exact⟨List.eq_nil_of_length_eq_zero (by omega),List.eq_nil_of_length_eq_zero (by omega)⟩
   have hcT':cells P ρ T=[]:=by rw[hcT,hxs,has.1,has.2];rfl
   subst hxs;have hw0:w.setCells nm.blk (nm.off+as.length) []=w:=rfl;rw[hw0];have live:∀ c U,lk c ((b,T)::st.mem)=some U→(c=b∧U=T)∨(c≠b∧lk c st.mem=some U):=by
    intro c U h;by_cases hcb:b=c
    ·subst hcb;rw[Zal] at h;exact .inl ⟨rfl,(oI h).symm⟩
    ·rw[Zan hcb] at h;exact .inr ⟨fun hh=>hcb hh.symm,h⟩
   have E1:Exs w0 ro ρ ((b,T)::st.mem) w:=S.ex.step (fun _ _ h=>.inl h) (fun c U hU=>by
    rcases live c U hU with⟨rfl,rfl⟩|⟨hne,hU⟩
    ·exact .inl ⟨T0,hT0,rfl,.inr ⟨hti.1,hti.2.2.trans hti.2.1.symm⟩⟩
    ·exact .inl ⟨U,hU,rfl,.inl rfl⟩) (Nat.le_refl _) (fun _ _ _=>rfl) (fun k o h=>S.below.lt h)
   refine⟨⟨?_,?_,?_,?_,?_,S.below,E1⟩,Ext.refl ρ,fun _ _=>rfl⟩
   ·simp only[St.app,ZsV];exact Zms S.slot (Ext.refl ρ) hd (by simp[den,denT,undef]) (by simp[OK,OKL])
   ·intro c U hU;simp only[St.app] at hU;rcases live c U hU with⟨rfl,rfl⟩|⟨hne,hU⟩
    ·exact⟨nm,hb,hN,oT,.inr ⟨hnn,hcT'⟩,fun j x hx=>by rw[hcT'] at hx;simp at hx⟩
    ·exact S.cell c U hU
   ·intro c U nm2 hU hnm hbr;simp only[St.app] at hU;rcases live c U hU with⟨rfl,rfl⟩|⟨hne,hU⟩
    ·rw[hb] at hnm;obtain rfl:=oI hnm;exact⟨o1,fun j hj=>by rw[hcT'] at hj;simp at hj⟩
    ·exact S.own c U nm2 hU hnm hbr
   ·intro c c' U U' n1 n2 hU hU' h1 h2 hbr hne;simp only[St.app] at hU hU';have get:∀ c U,lk c ((b,T)::st.mem)=some U→∃ V,lk c st.mem=some V:=by
     intro c U h;rcases live c U h with⟨rfl,rfl⟩|⟨_,h⟩
     ·exact⟨T0,hT0⟩
     ·exact⟨U,h⟩
    obtain⟨V,hV⟩:=get c U hU;obtain⟨V',hV'⟩:=get c' U' hU';exact S.apart c c' V V' n1 n2 hV hV' h1 h2 hbr hne
   ·intro c U nm2 hU hnm hbr hr;simp only[St.app] at hU;rcases live c U hU with⟨rfl,rfl⟩|⟨hne,hU⟩
    ·exact S.rows c T0 nm2 hT0 hnm hbr hr
    ·exact S.rows c U nm2 hU hnm hbr hr
  have hnf:nm.non=false:=by simpa using hnn
  have g4:nm.blk<w.heap.size:=by
   rcases g4 with⟨-,h⟩|⟨h,-⟩
   ·exact h
   ·exact absurd h hnn
  have hsz:(w.setCells nm.blk (nm.off+as.length) xs).heap.size=w.heap.size:=Zxj _ _ _ _;have hsome:∀ j,j<xs.length→(w.cell? ⟨nm.blk,nm.off+as.length+j,none⟩).isSome=true:=by
   intro j hj;have hj':j<old.length:=by omega
   have:=g5 (as.length+j) old[j] (by rw[hc0,List.getElem?_append_right (by omega),Nat.add_sub_cancel_left,List.getElem?_append_left hj',List.getElem?_eq_getElem hj']);rw[Nat.add_assoc,this];rfl
  have live:∀ c U,lk c ((b,T)::st.mem)=some U→(c=b∧U=T)∨(c≠b∧lk c st.mem=some U):=by
   intro c U h;by_cases hcb:b=c
   ·subst hcb;rw[Zal] at h;exact .inl ⟨rfl,(oI h).symm⟩
   ·rw[Zan hcb] at h;exact .inr ⟨fun hh=>hcb hh.symm,h⟩
  have hother:∀ k,k≠nm.blk→(w.setCells nm.blk (nm.off+as.length) xs).heap[k]? =w.heap[k]? :=by
   intro k hk;have key:∀ (xs:List Value) (o:Nat) (w:World),(w.setCells nm.blk o xs).heap[k]? =w.heap[k]? :=by
    intro xs
    induction xs with
    |nil=>intro o w;rfl
    |cons x xs ih=>intro o w;rw[World.setCells,ih];exact Below.heap_setCell w ⟨nm.blk,o,none⟩ x k hk
   exact key xs _ w
  have hwd:∀ (xs:List Value) (o:Nat) (w:World),(w.setCells nm.blk o xs).os=w.os∧(w.setCells nm.blk o xs).tape=w.tape∧(w.setCells nm.blk o xs).output=w.output:=by
   intro xs
   induction xs with
   |nil=>intro o w;exact⟨rfl,rfl,rfl⟩
   |cons x xs ih=>intro o w;rw[World.setCells];exact ih _ _
  refine⟨⟨?_,?_,?_,?_,?_,?_,?_⟩,Ext.refl ρ,fun _ _=>rfl⟩
  ·simp only[St.app,ZsV];exact Zms S.slot (Ext.refl ρ) hd (by simp[den,denT,undef]) (by simp[OK,OKL])
  ·intro c U hU;simp only[St.app] at hU;rcases live c U hU with⟨rfl,rfl⟩|⟨hne,hU⟩
   ·refine⟨nm,hb,hN,oT,.inl ⟨hnf,by rw[hsz];exact g4⟩,fun j x hx=>?_⟩;rw[hcT] at hx;by_cases h1:j<as.length
    ·rw[World.cell?_setCells_out nm.blk xs _ w _ (fun _ _=>.inl (by simp only;omega))];rw[List.getElem?_append_left h1] at hx;exact g5 j x (by rw[hc0,List.getElem?_append_left h1];exact hx)
    ·rw[List.getElem?_append_right (by omega)] at hx;by_cases h2:j-as.length<xs.length
     ·rw[List.getElem?_append_left h2,List.getElem?_eq_getElem h2] at hx;have:=World.cell?_setCells_in nm.blk xs (nm.off+as.length) w hsome (j-as.length) h2;rw[show nm.off+as.length+(j-as.length)=nm.off+j by omega] at this;rw[this,oI hx]
     ·rw[World.cell?_setCells_out nm.blk xs _ w _ (fun _ _=>.inr (by simp only;omega))];rw[List.getElem?_append_right (by omega)] at hx;refine g5 j x ?_;rw[hc0,List.getElem?_append_right (by omega),List.getElem?_append_right (by omega),← hl];exact hx
   ·obtain⟨nm2,k1,k2,k3,k4,k5⟩:=S.cell c U hU;have hbl:=S.apart b c T0 U nm nm2 hT0 hU hb k1 hbro (fun h=>hne h.symm) hnf;refine⟨nm2,k1,k2,k3,Liv.size k4 (by rw[hsz];exact Nat.le_refl _),fun j x hx=>?_⟩;have hn2:nm2.non=false:=by
     rcases k4 with⟨h,-⟩|⟨-,h⟩
     ·exact h
     ·rw[h] at hx;simp at hx
    rw[World.cell?_setCells_out nm.blk xs _ w _ (fun h _=>absurd h.symm (hbl hn2))];exact k5 j x hx
  ·intro c U nm2 hU hnm hbr;simp only[St.app] at hU;rcases live c U hU with⟨rfl,rfl⟩|⟨hne,hU⟩
   ·rw[hb] at hnm;obtain rfl:=oI hnm;refine⟨o1,fun j hj=>?_⟩;rw[World.frozen?_setCells];exact o2 j (by rw[hcT] at hj;rw[hc0];simp at hj ⊢;omega)
   ·obtain⟨k1,k2⟩:=S.own c U nm2 hU hnm hbr;exact⟨k1,fun j hj=>by rw[World.frozen?_setCells];exact k2 j hj⟩
  ·intro c c' U U' n1 n2 hU hU' h1 h2 hbr hne;simp only[St.app] at hU hU';have get:∀ c U,lk c ((b,T)::st.mem)=some U→∃ V,lk c st.mem=some V:=by
    intro c U h;rcases live c U h with⟨rfl,rfl⟩|⟨_,h⟩
    ·exact⟨T0,hT0⟩
    ·exact⟨U,h⟩
   obtain⟨V,hV⟩:=get c U hU;obtain⟨V',hV'⟩:=get c' U' hU';exact S.apart c c' V V' n1 n2 hV hV' h1 h2 hbr hne
  ·intro c U nm2 hU hnm hbr hr;simp only[St.app] at hU;have shape:∀ nm2,RowB P nm2 w→RowB P nm2 (w.setCells nm.blk (nm.off+as.length) xs):=fun nm2 h=>Zxk xs _ w h
   rcases live c U hU with⟨rfl,rfl⟩|⟨hne,hU⟩
   ·exact(S.rows c T0 nm2 hT0 hnm hbr hr).imp id (shape nm2)
   ·exact(S.rows c U nm2 hU hnm hbr hr).imp id (shape nm2)
  ·obtain⟨e1,e2,e3⟩:=hwd xs (nm.off+as.length) w;exact S.below.step e1 e2 e3 (by rw[hsz];exact Nat.le_refl _) (fun k _ hn=>hother k (fun h=>hn (h▸o1 hnf))) (fun k o v hf hv=>by
    rw[World.cell?_of_block (hother k (fun e=>by
     have:=(S.ex.away b T0 nm hT0 hb hbro hnf k o (.inl hf) e).1;rw[hti.2.1] at this;cases this))]
    exact hv)
  ·refine S.ex.step (fun _ _ h=>.inl h) (fun c U hU=>?_) (by rw[hsz];exact Nat.le_refl _) (fun k _ hn=>hother k (hn b T0 nm hT0 hti.2.1 hb hbro hnf)) (fun k o h=>S.below.lt h);simp only[St.app] at hU;rcases live c U hU with⟨rfl,rfl⟩|⟨hne,hU⟩
   ·exact .inl ⟨T0,hT0,rfl,.inr ⟨hti.1,hti.2.2.trans hti.2.1.symm⟩⟩
   ·exact .inl ⟨U,hU,rfl,.inl rfl⟩
 |grow b T g nm w' hN oT og hrow hKI hnil hlive hblk hw hblock hb0=>
  obtain⟨hos,htp,hout,hsz⟩:=hw;have hE:=ZzJ hm nm;have hself:upd ρ (st.nx+i) nm (st.nx+i)=some nm:=by simp[upd]
  have hother:∀ c,c≠st.nx+i→upd ρ (st.nx+i) nm c=ρ c:=fun c h=>by simp[upd,h]
  have hcT:cells P (upd ρ (st.nx+i) nm) T=cells P ρ T:=ZbX P hE T oT;have live:∀ c U,lk c ((st.nx+i,T)::del b st.mem)=some U→(c=st.nx+i∧U=T)∨(c≠st.nx+i∧lk c st.mem=some U∧b≠some c):=by
   intro c U h;by_cases hc:st.nx+i=c
   ·subst hc;rw[Zal] at h;exact .inl ⟨rfl,(oI h).symm⟩
   ·rw[Zan hc] at h;exact .inr ⟨fun hh=>hc hh.symm,ZGA h⟩
  
  have keep:∀ c U nmc,lk c st.mem=some U→ρ c=some nmc→b≠some c→nmc.non=false→nmc.blk<w.heap.size→w'.heap[nmc.blk]? =w.heap[nmc.blk]? :=by
   intro c U nmc hU hc hne hn hlt;refine hblock _ hlt fun b0 nm0 hb hnm0 hnon=>?_
   obtain⟨hro,T0,hT0,-⟩:=hb0 b0 hb;exact fun h=>S.apart b0 c T0 U nm0 nmc hT0 hU hnm0 hc hro (fun e=>hne (by rw[hb,e])) hnon hn h.symm
  have keepC:∀ c U nmc,lk c st.mem=some U→ρ c=some nmc→b≠some c→Liv nmc w (cells P ρ U)→∀ j x,(cells P ρ U)[j]? =some x→w'.cell? ⟨nmc.blk,nmc.off+j,none⟩=w.cell? ⟨nmc.blk,nmc.off+j,none⟩:=by
   intro c U nmc hU hc hne hl j x hx;rcases hl with⟨h1,h2⟩|⟨-,h2⟩
   ·exact World.cell?_of_block (keep c U nmc hU hc hne h1 h2)
   ·rw[h2] at hx;simp at hx
  
  have alone:∀ c U nmc,lk c st.mem=some U→ρ c=some nmc→b≠some c→nmc.non=false→nmc.blk<w.heap.size→nm.blk≠nmc.blk:=by
   intro c U nmc hU hc hne hn hlt;rcases hblk with h|⟨b0,nm0,T0,hb,hnm0,hT0,hro,hnon,he⟩
   ·omega
   ·rw[he];exact S.apart b0 c T0 U nm0 nmc hT0 hU hnm0 hc hro (fun e=>hne (by rw[hb,e])) hnon hn
  refine⟨⟨?_,?_,?_,?_,?_,?_,?_⟩,hE,hother⟩
  ·simp only[St.app,ZsV];exact Zms S.slot hE hd rfl og
  ·intro c U hU;simp only[St.app] at hU;rcases live c U hU with⟨rfl,rfl⟩|⟨hne,hU,hd⟩
   ·refine⟨nm,hself,hN,(Zcm P hE _ oT).2,?_,fun j x hx=>?_⟩
    ·rw[hcT];cases hq:nm.non with
     |true=>exact .inr ⟨rfl,hnil hq⟩
     |false=>exact .inl ⟨rfl,(hlive hq).1.lt⟩
    ·rw[hcT] at hx;cases hq:nm.non with
     |true=>rw[hnil hq] at hx;simp at hx
     |false=>exact(hlive hq).2 j x hx
   ·obtain⟨nm2,h1,h2,h3,h4,h5⟩:=S.cell c U hU;refine⟨nm2,by rw[hother c hne];exact h1,h2,(Zcm P hE _ h3).2,by rw[ZbX P hE U h3];exact Liv.size h4 hsz,fun j x hx=>?_⟩;rw[ZbX P hE U h3] at hx;rw[keepC c U nm2 hU h1 hd h4 j x hx];exact h5 j x hx
  ·intro c U nm2 hU hnm hbr;simp only[St.app] at hU;rcases live c U hU with⟨rfl,rfl⟩|⟨hne,hU,hd⟩
   ·rw[hself] at hnm;obtain rfl:=oI hnm;refine⟨fun _=>?_,fun j hj=>?_⟩
    ·rcases hblk with h|⟨b0,nm0,T0,hb,hnm0,hT0,hro,hnon,he⟩
     ·exact .inl (Nat.le_trans S.below.size h)
     ·rw[he];exact(S.own b0 T0 nm0 hT0 hnm0 hro).1 hnon
    ·rw[hcT] at hj;cases hq:nm.non with
     |true=>rw[hnil hq] at hj;simp at hj
     |false=>
      obtain⟨-,-,-,cur,k1,-⟩:=(hlive hq).1;exact frozen_of_row w' nm.blk _ cur nm.ty k1
   ·rw[hother c hne] at hnm;obtain⟨h1,h2⟩:=S.own c U nm2 hU hnm hbr;obtain⟨nm',g1,-,g3,g4,-⟩:=S.cell c U hU;rw[hnm] at g1;obtain rfl:=oI g1;refine⟨h1,fun j hj=>?_⟩;rw[ZbX P hE U g3] at hj;rcases g4 with⟨z1,z2⟩|⟨-,z2⟩
    ·rw[World.frozen?_of_block (keep c U nm2 hU hnm hd z1 z2)];exact h2 j hj
    ·rw[z2] at hj;simp at hj
  ·intro c c' U U' n1 n2 hU hU' h1 h2 hbr hne z1 z2;simp only[St.app] at hU hU';rcases live c U hU with⟨rfl,rfl⟩|⟨k1,hU1,d1⟩<;>rcases live c' U' hU' with⟨rfl,rfl⟩|⟨k2,hU2,d2⟩
   ·exact absurd rfl hne
   ·rw[hself] at h1;obtain rfl:=oI h1;rw[hother c' k2] at h2;obtain⟨nm2,g1,-,-,g4,-⟩:=S.cell c' U' hU2;rw[h2] at g1;obtain rfl:=oI g1;rcases g4 with⟨-,g4⟩|⟨g4,-⟩
    ·exact alone c' U' n2 hU2 h2 d2 z2 g4
    ·rw[z2] at g4;cases g4
   ·rw[hself] at h2;obtain rfl:=oI h2;rw[hother c k1] at h1;obtain⟨nm2,g1,-,-,g4,-⟩:=S.cell c U hU1;rw[h1] at g1;obtain rfl:=oI g1;rcases g4 with⟨-,g4⟩|⟨g4,-⟩
    ·exact fun h=>alone c U n1 hU1 h1 d1 z1 g4 h.symm
    ·rw[z1] at g4;cases g4
   ·rw[hother c k1] at h1;rw[hother c' k2] at h2;exact S.apart c c' U U' n1 n2 hU1 hU2 h1 h2 hbr hne z1 z2
  ·intro c U nm2 hU hnm hbr hr;simp only[St.app] at hU;rcases live c U hU with⟨rfl,rfl⟩|⟨hne,hU,hd⟩
   ·rw[hself] at hnm;obtain rfl:=oI hnm;cases hq:nm.non with
    |true=>exact .inl rfl
    |false=>exact .inr (hlive hq).1
   ·rw[hother c hne] at hnm;cases hq:nm2.non with
    |true=>exact .inl rfl
    |false=>
     rcases S.rows c U nm2 hU hnm hbr hr with h|h
     ·rw[hq] at h;cases h
     ·exact .inr (h.same (keep c U nm2 hU hnm hd hq h.lt))
  ·refine S.below.step hos htp hout hsz (fun k hk hn=>hblock k hk fun b0 nm0 hb hnm0 hnon e=>?_) ?_
   ·obtain⟨hro,T0,hT0,-⟩:=hb0 b0 hb;exact hn (e▸(S.own b0 T0 nm0 hT0 hnm0 hro).1 hnon)
   ·intro k o v hf hv;rw[World.cell?_of_block (hblock k (S.below.lt hf) fun b0 nm0 hb hnm0 hnon e=>by
     obtain⟨hro,T0,hT0,hd⟩:=hb0 b0 hb;have:=(S.ex.away b0 T0 nm0 hT0 hnm0 hro hnon k o (.inl hf) e).1;rw[hd] at this;cases this)]
    exact hv
  ·have upK:∀ c nm2,upd ρ (st.nx+i) nm c=some nm2→ρ c=some nm2∨nm2.K=nk:=by
    intro c nm2 h;by_cases hb:c=st.nx+i
    ·subst hb;rw[hself] at h;exact .inr (by rw[← oI h];exact hKI.1)
    ·rw[hother c hb] at h;exact .inl h
   refine S.ex.step upK (fun c U hU=>?_) hsz (fun k hk hn=>hblock k hk fun b0 nm0 hb hnm0 hnon=>?_) (fun k o h=>S.below.lt h)
   ·simp only[St.app] at hU;rcases live c U hU with⟨rfl,rfl⟩|⟨hne,hU,hd⟩
    ·refine .inr ⟨hKI.2.1,nm,hself,by rw[hKI.1];rfl,?_⟩;rcases hblk with h|⟨b0,nm0,T0,hb,hnm0,hT0,hro,hnon,he⟩
     ·exact .inr (.inl h)
     ·obtain⟨-,T1,hT1,hd1⟩:=hb0 b0 hb;rw[hT0] at hT1;obtain rfl:=oI hT1;exact .inr (.inr ⟨b0,T0,nm0,hT0,hnm0,hro,hnon,he,hd1⟩)
    ·exact .inl ⟨U,hU,hother c hne,.inl rfl⟩
   ·obtain⟨hro,T0,hT0,hd⟩:=hb0 b0 hb;exact hn b0 T0 nm0 hT0 hd hnm0 hro hnon
 |growF b d0 g nm w' og hrow hcap hfc hna hlive hblk hw hblock hb0 hbase hhs hK=>
  obtain⟨hos,htp,hout,hsz⟩:=hw;have hE:=ZzJ hm nm;have hself:upd ρ (st.nx+i) nm (st.nx+i)=some nm:=by simp[upd]
  have hother:∀ c,c≠st.nx+i→upd ρ (st.nx+i) nm c=ρ c:=fun c h=>by simp[upd,h]
  have hcT:∀ ρ,cells P ρ (.dc d0 [])=[]:=fun ρ=>by simp[cells,den,Value.cells]
  have live:∀ c U,lk c ((st.nx+i,AV.dc d0 [])::del b st.mem)=some U→(c=st.nx+i∧U=AV.dc d0 [])∨(c≠st.nx+i∧lk c st.mem=some U∧b≠some c):=by
   intro c U h;by_cases hc:st.nx+i=c
   ·subst hc;rw[Zal] at h;exact .inl ⟨rfl,(oI h).symm⟩
   ·rw[Zan hc] at h;exact .inr ⟨fun hh=>hc hh.symm,ZGA h⟩
  have keep:∀ c U nmc,lk c st.mem=some U→ρ c=some nmc→b≠some c→nmc.non=false→nmc.blk<w.heap.size→w'.heap[nmc.blk]? =w.heap[nmc.blk]? :=by
   intro c U nmc hU hc hne hn hlt;refine hblock _ hlt fun b0 nm0 hb hnm0 hnon=>?_
   obtain⟨hro,T0,hT0,-⟩:=hb0 b0 hb;exact fun h=>S.apart b0 c T0 U nm0 nmc hT0 hU hnm0 hc hro (fun e=>hne (by rw[hb,e])) hnon hn h.symm
  have keepC:∀ c U nmc,lk c st.mem=some U→ρ c=some nmc→b≠some c→Liv nmc w (cells P ρ U)→∀ j x,(cells P ρ U)[j]? =some x→w'.cell? ⟨nmc.blk,nmc.off+j,none⟩=w.cell? ⟨nmc.blk,nmc.off+j,none⟩:=by
   intro c U nmc hU hc hne hl j x hx;rcases hl with⟨h1,h2⟩|⟨-,h2⟩
   ·exact World.cell?_of_block (keep c U nmc hU hc hne h1 h2)
   ·rw[h2] at hx;simp at hx
  have alone:∀ c U nmc,lk c st.mem=some U→ρ c=some nmc→b≠some c→nmc.non=false→nmc.blk<w.heap.size→nm.non=false→nm.blk≠nmc.blk:=by
   intro c U nmc hU hc hne hn hlt hnn;rcases hblk with h|h|⟨b0,nm0,T0,hb,hnm0,hT0,hro,hnon,he⟩
   ·rw[hnn] at h;cases h
   ·omega
   ·rw[he];exact S.apart b0 c T0 U nm0 nmc hT0 hU hnm0 hc hro (fun e=>hne (by rw[hb,e])) hnon hn
  
  have fz:∀ k o v,Frz w0 ρ k o→w.cell? ⟨k,o,none⟩=some v→w'.cell? ⟨k,o,none⟩=some v:=by
   intro k o v hf hv;by_cases hc:∃ b0 nm0,b=some b0∧ρ b0=some nm0∧nm0.non=false∧k=nm0.blk
   ·obtain⟨b0,nm0,h1,h2,h3,rfl⟩:=hc;obtain⟨hro,T0,hT0,-⟩:=hb0 b0 h1;exact(hbase b0 nm0 h1 h2 h3).2 o v (S.ex.away b0 T0 nm0 hT0 h2 hro h3 _ o hf rfl).2 hv
   ·rw[World.cell?_of_block (hblock k (ZqV hv) fun b0 nm0 h1 h2 h3 e=>hc ⟨b0,nm0,h1,h2,h3,e⟩)];exact hv
  have one:∀ c nm2,upd ρ (st.nx+i) nm c=some nm2→nm2=nm∨ρ c=some nm2:=by
   intro c nm2 h;by_cases hc:c=st.nx+i
   ·subst hc;rw[hself] at h;exact .inl (oI h).symm
   ·rw[hother c hc] at h;exact .inr h
  
  have frz':∀ k o,Frz w0 (upd ρ (st.nx+i) nm) k o→(Frz w0 ρ k o∧k<w.heap.size)∨(nm.non=false∧k=nm.blk∧o<nm.K.fc):=by
   intro k o hf;rcases hf with hf|⟨c,nm2,v,hc,hv⟩
   ·exact .inl ⟨.inl hf,S.below.lt hf⟩
   ·have old:∀ c nm2 v,ρ c=some nm2→nm2.K.K k o=some v→Frz w0 ρ k o∧k<w.heap.size:=fun c nm2 v h1 h2=>⟨.inr ⟨c,nm2,v,h1,h2⟩,ZqV (S.ex.froz c nm2 h1 k o v h2)⟩
    rcases one c nm2 hc with rfl|h
    ·rcases(hK k o v hv).2 with⟨b1,nm1,v1,h1,h2⟩|h
     ·exact .inl (old b1 nm1 v1 h1 h2)
     ·exact .inr h
    ·exact .inl (old c nm2 v h hv)
  have noI:∀ c s p,lk c ((st.nx+i,AV.dc d0 [])::del b st.mem)=some (.itr s p)→c≠st.nx+i∧lk c st.mem=some (.itr s p):=by
   intro c s p h;rcases live c _ h with⟨-,h⟩|⟨h1,h2,-⟩
   ·cases h
   ·exact⟨h1,h2⟩
  refine⟨⟨?_,?_,?_,?_,?_,?_,?_⟩,hE,hother⟩
  ·simp only[St.app,ZsV];exact Zms S.slot hE hd rfl og
  ·intro c U hU;simp only[St.app] at hU;rcases live c U hU with⟨rfl,rfl⟩|⟨hne,hU,hd⟩
   ·refine⟨nm,hself,by simp only[HasN,hrow,if_true];exact⟨hcap,hfc⟩,by simp[OK],?_,fun j x hx=>?_⟩
    ·rw[hcT];cases hq:nm.non with
     |true=>exact .inr ⟨rfl,rfl⟩
     |false=>exact .inl ⟨rfl,(hlive hq).lt⟩
    ·rw[hcT] at hx;simp at hx
   ·obtain⟨nm2,h1,h2,h3,h4,h5⟩:=S.cell c U hU;refine⟨nm2,by rw[hother c hne];exact h1,h2,(Zcm P hE _ h3).2,by rw[ZbX P hE U h3];exact Liv.size h4 hsz,fun j x hx=>?_⟩;rw[ZbX P hE U h3] at hx;rw[keepC c U nm2 hU h1 hd h4 j x hx];exact h5 j x hx
  ·intro c U nm2 hU hnm hbr;simp only[St.app] at hU;rcases live c U hU with⟨rfl,rfl⟩|⟨hne,hU,hd⟩
   ·rw[hself] at hnm;obtain rfl:=oI hnm;refine⟨fun hnn=>?_,fun j hj=>?_⟩
    ·rcases hblk with h|h|⟨b0,nm0,T0,hb,hnm0,hT0,hro,hnon,he⟩
     ·rw[hnn] at h;cases h
     ·exact .inl (Nat.le_trans S.below.size h)
     ·rw[he];exact(S.own b0 T0 nm0 hT0 hnm0 hro).1 hnon
    ·rw[hcT] at hj;simp at hj
   ·rw[hother c hne] at hnm;obtain⟨h1,h2⟩:=S.own c U nm2 hU hnm hbr;obtain⟨nm',g1,-,g3,g4,-⟩:=S.cell c U hU;rw[hnm] at g1;obtain rfl:=oI g1;refine⟨h1,fun j hj=>?_⟩;rw[ZbX P hE U g3] at hj;rcases g4 with⟨z1,z2⟩|⟨-,z2⟩
    ·rw[World.frozen?_of_block (keep c U nm2 hU hnm hd z1 z2)];exact h2 j hj
    ·rw[z2] at hj;simp at hj
  ·intro c c' U U' n1 n2 hU hU' h1 h2 hbr hne z1 z2;simp only[St.app] at hU hU';rcases live c U hU with⟨rfl,rfl⟩|⟨k1,hU1,d1⟩<;>rcases live c' U' hU' with⟨rfl,rfl⟩|⟨k2,hU2,d2⟩
   ·exact absurd rfl hne
   ·rw[hself] at h1;obtain rfl:=oI h1;rw[hother c' k2] at h2;obtain⟨nm2,g1,-,-,g4,-⟩:=S.cell c' U' hU2;rw[h2] at g1;obtain rfl:=oI g1;rcases g4 with⟨-,g4⟩|⟨g4,-⟩
    ·exact alone c' U' n2 hU2 h2 d2 z2 g4 z1
    ·rw[z2] at g4;cases g4
   ·rw[hself] at h2;obtain rfl:=oI h2;rw[hother c k1] at h1;obtain⟨nm2,g1,-,-,g4,-⟩:=S.cell c U hU1;rw[h1] at g1;obtain rfl:=oI g1;rcases g4 with⟨-,g4⟩|⟨g4,-⟩
    ·exact fun h=>alone c U n1 hU1 h1 d1 z1 g4 z2 h.symm
    ·rw[z1] at g4;cases g4
   ·rw[hother c k1] at h1;rw[hother c' k2] at h2;exact S.apart c c' U U' n1 n2 hU1 hU2 h1 h2 hbr hne z1 z2
  ·intro c U nm2 hU hnm hbr hr;simp only[St.app] at hU;rcases live c U hU with⟨rfl,rfl⟩|⟨hne,hU,hd⟩
   ·rw[hself] at hnm;obtain rfl:=oI hnm;cases hq:nm.non with
    |true=>exact .inl rfl
    |false=>exact .inr (hlive hq)
   ·rw[hother c hne] at hnm;cases hq:nm2.non with
    |true=>exact .inl rfl
    |false=>
     rcases S.rows c U nm2 hU hnm hbr hr with h|h
     ·rw[hq] at h;cases h
     ·exact .inr (h.same (keep c U nm2 hU hnm hd hq h.lt))
  ·refine S.below.step hos htp hout hsz (fun k hk hn=>hblock k hk fun b0 nm0 hb hnm0 hnon e=>?_) (fun k o v hf hv=>fz k o v (.inl hf) hv);obtain⟨hro,T0,hT0,-⟩:=hb0 b0 hb;exact hn (e▸(S.own b0 T0 nm0 hT0 hnm0 hro).1 hnon)
  ·refine⟨?_,?_,?_,?_,?_,?_,?_,?_⟩
   ·intro c nm2 hc k o v hk;rcases one c nm2 hc with rfl|h
    ·exact(hK k o v hk).1
    ·exact fz k o v (.inr ⟨c,nm2,v,h,hk⟩) (S.ex.froz c nm2 h k o v hk)
   ·intro c nm2 hc;rcases one c nm2 hc with rfl|h
    ·exact hhs
    ·exact Nat.le_trans (S.ex.fhs c nm2 h) hsz
   ·intro c nm2 hc k o v hk;rcases one c nm2 hc with rfl|h
    ·rcases(hK k o v hk).2 with⟨b1,nm1,v1,h1,h2⟩|⟨hnn,rfl,-⟩
     ·exact S.ex.org b1 nm1 h1 k o v1 h2
     ·rcases hblk with h|h|⟨b0,nm0,T0,hb,hnm0,hT0,hro,hnon,he⟩
      ·rw[hnn] at h;cases h
      ·exact .inl (.inl (Nat.le_trans S.below.size h))
      ·rw[he];exact .inl ((S.own b0 T0 nm0 hT0 hnm0 hro).1 hnon)
    ·exact S.ex.org c nm2 h k o v hk
   ·intro c U nm2 hU hnm hro' hnn k o hf hk;simp only[St.app] at hU;rcases live c U hU with⟨rfl,rfl⟩|⟨hne,hU,hd⟩
    ·rw[hself] at hnm;obtain rfl:=oI hnm;refine⟨rfl,?_⟩;rcases frz' k o hf with⟨hf,hlt⟩|⟨-,-,h⟩
     ·rcases hblk with h|h|⟨b0,nm0,T0,hb,hnm0,hT0,hro,hnon,he⟩
      ·rw[hnn] at h;cases h
      ·omega
      ·have h1:=(S.ex.away b0 T0 nm0 hT0 hnm0 hro hnon k o hf (hk.trans he)).2;have h2:=(hbase b0 nm0 hb hnm0 hnon).1 hnn he;omega
     ·exact h
    ·rw[hother c hne] at hnm;rcases frz' k o hf with⟨hf,hlt⟩|⟨hz,h,-⟩
     ·exact S.ex.away c U nm2 hU hnm hro' hnn k o hf hk
     ·obtain⟨nm3,g1,-,-,g4,-⟩:=S.cell c U hU;rw[hnm] at g1;obtain rfl:=oI g1;rcases g4 with⟨-,g4⟩|⟨g4,-⟩
      ·exact absurd (h.symm.trans hk) (alone c U nm2 hU hnm hd hnn g4 hz)
      ·rw[hnn] at g4;cases g4
   ·intro c U nm2 hU hnm hro';simp only[St.app] at hU;rcases live c U hU with⟨rfl,rfl⟩|⟨hne,hU,hd⟩
    ·rw[hself] at hnm;rw[← oI hnm];exact hna
    ·rw[hother c hne] at hnm;exact S.ex.nas c U nm2 hU hnm hro'
   ·intro c s p h;obtain⟨h1,h2⟩:=noI c s p h;obtain⟨nm2,g1,g2,g3⟩:=S.ex.its c s p h2;refine⟨nm2,by rw[hother c h1];exact g1,?_,g3⟩;rw[hblock _ (Array.getElem?_eq_some_iff.1 g2).1 fun b0 nm0 hb hnm0 hnon=>?_]
    ·exact g2
    ·obtain⟨hro,T0,hT0,-⟩:=hb0 b0 hb;exact S.ex.ita c s p nm2 h2 g1 b0 T0 nm0 hT0 hnm0 hro hnon
   ·intro c s p nm2 h hnm c' U' nm3 hU' hnm' hro' hnn;obtain⟨h1,h2⟩:=noI c s p h;rw[hother c h1] at hnm;obtain⟨nm4,g1,g2,-⟩:=S.ex.its c s p h2;rw[hnm] at g1;obtain rfl:=oI g1;simp only[St.app] at hU';rcases live c' U' hU' with⟨rfl,rfl⟩|⟨hne,hU',hd⟩
    ·rw[hself] at hnm';obtain rfl:=oI hnm';rcases hblk with h|h|⟨b0,nm0,T0,hb,hnm0,hT0,hro,hnon,he⟩
     ·rw[hnn] at h;cases h
     ·have:=(Array.getElem?_eq_some_iff.1 g2).1;omega
     ·rw[he];exact S.ex.ita c s p nm2 h2 hnm b0 T0 nm0 hT0 hnm0 hro hnon
    ·rw[hother c' hne] at hnm';exact S.ex.ita c s p nm2 h2 hnm c' U' nm3 hU' hnm' hro' hnn
   ·intro c c' s s' p p' nm2 nm3 h h' hnm hnm' hne;obtain⟨h1,h2⟩:=noI c s p h;obtain⟨h1',h2'⟩:=noI c' s' p' h';rw[hother c h1] at hnm;rw[hother c' h1'] at hnm';exact S.ex.itd c c' s s' p p' nm2 nm3 h2 h2' hnm hnm' hne
end Go.Vx
