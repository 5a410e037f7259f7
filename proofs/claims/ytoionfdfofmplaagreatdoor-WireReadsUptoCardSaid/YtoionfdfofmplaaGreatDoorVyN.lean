/- Numbers, part N: primes, by a generator of the units (after Lucas); Fermat. -/
set_option autoImplicit false
set_option linter.unusedVariables false
namespace Go.Vx
def pm(m:Nat):Nat→Nat→Nat→Nat
 |0,_,_=>1%m
 |k+1,b,e=>cond (Nat.beq e 0) (1%m) (cond (Nat.beq (e%2) 1) (pm m k (b*b%m) (e/2)*b%m) (pm m k (b*b%m) (e/2)))
theorem ZD2(m:Nat):(k b e:Nat)→e<2^k→pm m k b e=b^e%m
 |0,b,e,h=>by
  have:e=0:=by simpa using h
  subst this;simp[pm]
 |k+1,b,e,h=>by
  have h2:e/2<2^k:=by rw[Nat.pow_succ] at h;omega
  have ih:=ZD2 m k (b*b%m) (e/2) h2;have sq:(b*b%m)^(e/2)%m=b^(2*(e/2))%m:=by
   rw[← Nat.pow_mod,← Nat.pow_two,← Nat.pow_mul]
  unfold pm;rw[ih,sq];by_cases h0:e=0
  ·subst h0;simp
  ·have e0:Nat.beq e 0=false:=by
    cases hq:Nat.beq e 0
    ·rfl
    ·exact absurd (Nat.eq_of_beq_eq_true hq) h0
   rw[e0,cond_false];by_cases h1:e%2=1
   ·have e1:Nat.beq (e%2) 1=true:=by rw[h1];rfl
    rw[e1,cond_true,Nat.mod_mul_mod,← Nat.pow_succ]
    congr 2
    omega
   ·have e1:Nat.beq (e%2) 1=false:=by
     cases hq:Nat.beq (e%2) 1
     ·rfl
     ·exact absurd (Nat.eq_of_beq_eq_true hq) h1
    rw[e1,cond_false]
    congr 2
    omega
def Pri(n:Nat):Prop:=2≤n∧∀ m,m ∣ n→m=1∨m=n
theorem ZFz(m:Nat)(h:2≤m):∃ q,Pri q∧q ∣ m:=by
 induction m using Nat.strongRecOn with
 |_ m ih=>
  by_cases hp:Pri m
  ·exact⟨m,hp,Nat.dvd_refl m⟩
  ·have:∃ k,k ∣ m∧k≠1∧k≠m:=by
    refine Classical.byContradiction fun hn=>hp ⟨h,fun k hk=>?_⟩
    refine Classical.byContradiction fun hk2=>hn ⟨k,hk,fun e=>hk2 (.inl e),fun e=>hk2 (.inr e)⟩
   obtain⟨k,hk,k1,k2⟩:=this;have hpos:0<m:=by omega
   have hle:=Nat.le_of_dvd hpos hk;have k0:k≠0:=fun e=>by subst e;have:=Nat.eq_zero_of_zero_dvd hk;omega
   obtain⟨q,hq,hqk⟩:=ih k (by omega) (by omega);exact⟨q,hq,Nat.dvd_trans hqk hk⟩
theorem Pri.dvd_mul{q a b:Nat}(h:Pri q)(hd:q ∣ a*b):q ∣ a∨q ∣ b:=by
 by_cases ha:q ∣ a
 ·exact .inl ha
 ·refine .inr (Nat.Coprime.dvd_of_dvd_mul_left ?_ hd);rcases h.2 (Nat.gcd q a) (Nat.gcd_dvd_left q a) with h1|h1
  ·exact h1
  ·exact absurd (h1▸Nat.gcd_dvd_right q a) ha
theorem Pri.dvd_pow{q a:Nat}(h:Pri q):(e:Nat)→q ∣ a^e→q ∣ a
 |0,hd=>by
  have h1:=h.1;rw[Nat.pow_zero] at hd;have h2:=Nat.le_of_dvd (by decide) hd;omega
 |e+1,hd=>by
  rw[Nat.pow_succ] at hd;rcases h.dvd_mul hd with h1|h1
  ·exact h.dvd_pow e h1
  ·exact h1
def prodP:List (Nat×Nat)→Nat
 | []=>1
 |x::l=>x.1^x.2*prodP l
theorem ZHa{q:Nat}(h:Pri q):(l:List (Nat×Nat))→(∀ x∈l,Pri x.1)→q ∣ prodP l→∃ x∈l,x.1=q
 | [],_,hd=>by
  have h1:=h.1;have h2:=Nat.le_of_dvd (by decide) (show q ∣ 1 from hd);omega
 |x::l,hl,hd=>by
  rcases h.dvd_mul hd with h1|h1
  ·have h2:=h.dvd_pow x.2 h1;rcases(hl x (by simp)).2 q h2 with h3|h3
   ·have:=h.1;omega
   ·exact⟨x,by simp,h3.symm⟩
  ·obtain⟨y,hy,e⟩:=ZHa h l (fun y hy=>hl y (by simp[hy])) h1;exact⟨y,by simp[hy],e⟩
theorem surj(k:Nat):∀ (f:Nat→Nat),(∀ i,i<k→f i<k)→(∀ i j,i<k→j<k→f i=f j→i=j)→∀ y,y<k→∃ i,i<k∧f i=y:=by
 induction k with
 |zero=>intro f _ _ y hy;omega
 |succ k ih=>
  intro f hf inj y hy;have hz:=hf k (by omega);have key:∀ y,y<k→∃ i,i<k∧(if f i=k then f k else f i)=y:=by
   refine ih (fun i=>if f i=k then f k else f i) ?_ ?_
   ·intro i hi;have h1:=hf i (by omega);show (if f i=k then f k else f i)<k;split
    ·rename_i h;have:f k≠k:=fun e=>by have:=inj i k (by omega) (by omega) (by rw[h,e]);omega
     omega
    ·omega
   ·intro i j hi hj h;replace h:(if f i=k then f k else f i)=(if f j=k then f k else f j):=h;split at h
    ·rename_i h1;split at h
     ·rename_i h2;exact inj i j (by omega) (by omega) (by rw[h1,h2])
     ·have:=inj k j (by omega) (by omega) h;omega
    ·split at h
     ·have:=inj i k (by omega) (by omega) h;omega
     ·exact inj i j (by omega) (by omega) h
  by_cases hyk:y=k
  ·by_cases h0:f k=k
   ·exact⟨k,by omega,by omega⟩
   ·obtain⟨i,hi,h1⟩:=key (f k) (by omega);split at h1
    ·rename_i h2;exact⟨i,by omega,by omega⟩
    ·have:=inj i k (by omega) (by omega) h1;omega
  ·by_cases h0:f k=y
   ·exact⟨k,by omega,h0⟩
   ·obtain⟨i,hi,h1⟩:=key y (by omega);split at h1
    ·exact absurd h1 h0
    ·exact⟨i,by omega,h1⟩
theorem ZDk{Q:Nat→Prop}(n:Nat)(h:Q n):∃ d,Q d∧∀ k,k<d→¬ Q k:=by
 induction n using Nat.strongRecOn with
 |_ n ih=>
  by_cases hk:∃ k,k<n∧Q k
  ·obtain⟨k,k1,k2⟩:=hk;exact ih k k1 k2
  ·exact⟨n,h,fun k h1 h2=>hk ⟨k,h1,h2⟩⟩
theorem Zv3{n g d q:Nat}(h:g^d%n=1%n):g^(d*q)%n=1%n:=by
 rw[Nat.pow_mul,Nat.pow_mod,h,← Nat.pow_mod,Nat.one_pow]
theorem lucas{n g:Nat}(hn:2≤n){l:List (Nat×Nat)}(hl:∀ x∈l,Pri x.1)(hprod:prodP l=n-1)(h1:g^(n-1)%n=1)(hq:∀ x∈l,g^((n-1)/x.1)%n≠1):
  Pri n∧∀ a,a%n≠0→a^(n-1)%n=1:=by
 have one:1%n=1:=Nat.mod_eq_of_lt (by omega);obtain⟨d,⟨d0,d1⟩,dmin⟩:=ZDk (Q:=fun k=>0<k∧g^k%n=1) (n-1) ⟨by omega,h1⟩
 
 have hdvd:d ∣ n-1:=by
  have e:n-1=d*((n-1)/d)+(n-1)%d:=(Nat.div_add_mod _ _).symm;have hr:=Nat.mod_lt (n-1) d0;have h2:g^((n-1)%d)%n=1:=by
   have h3:=h1;rw[e,Nat.pow_add,Nat.mul_mod,Zv3 (by rw[d1,one]),one,Nat.one_mul,Nat.mod_mod] at h3;have e2:(d*((n-1)/d)+(n-1)%d)%d=(n-1)%d:=by rw[← e]
   exact h3
  have h0:(n-1)%d=0:=by
   refine Classical.byContradiction fun hne=>?_
   exact dmin _ hr ⟨by omega,h2⟩
  exact Nat.dvd_of_mod_eq_zero h0
 
 have hd:d=n-1:=by
  refine Classical.byContradiction fun hne=>?_
  obtain⟨m,hm⟩:=hdvd;have m2:2≤m:=by
   rcases m with _|_|m
   ·simp at hm;omega
   ·simp at hm;omega
   ·omega
  obtain⟨q,hqp,hqm⟩:=ZFz m m2;obtain⟨x,hx,hxq⟩:=ZHa hqp l hl (by rw[hprod,hm];exact Nat.dvd_trans hqm (Nat.dvd_mul_left m d));refine hq x hx ?_;obtain⟨t,ht⟩:=hqm;rw[hxq,hm,ht,show d*(q*t)=q*(d*t) by rw[← Nat.mul_assoc,← Nat.mul_assoc,Nat.mul_comm d q],Nat.mul_div_cancel_left _ (by have:=hqp.1;omega)];rw[Zv3 (by rw[d1,one]),one]
 subst hd
 
 have unit:∀ i,i≤n-1→g^i*g^(n-1-i)%n=1:=fun i hi=>by rw[← Nat.pow_add,show i+(n-1-i)=n-1 by omega,h1]
 have nz:∀ i,i<n-1→1≤g^i%n:=by
  intro i hi;refine Nat.pos_of_ne_zero fun h0=>?_
  have:=unit i (by omega);rw[Nat.mul_mod,h0] at this;simp at this
 have inj:∀ i j,i<n-1→j<n-1→g^i%n=g^j%n→i≤j→i=j:=by
  intro i j hi hj h hij;refine Classical.byContradiction fun hne=>?_
  have h2:g^(j-i)%n=1:=by
   have e1:g^j*g^(n-1-i)%n=g^i*g^(n-1-i)%n:=by rw[Nat.mul_mod,← h,← Nat.mul_mod]
   rw[unit i (by omega),← Nat.pow_add,show j+(n-1-i)=(n-1)+(j-i) by omega,Nat.pow_add,Nat.mul_mod,h1,Nat.one_mul,Nat.mod_mod] at e1;exact e1
  exact dmin (j-i) (by omega) ⟨by omega,h2⟩
 have all:∀ a,a%n≠0→∃ i,i<n-1∧g^i%n=a%n:=by
  intro a ha;have hlt:=Nat.mod_lt a (show n>0 by omega);obtain⟨i,hi,h⟩:=surj (n-1) (fun i=>g^i%n-1) (fun i hi=>by have:=nz i hi;have:=Nat.mod_lt (g^i) (show n>0 by omega);show g^i%n-1<n-1;omega) (fun i j hi hj h=>by
   have hi1:=nz i hi;have hj1:=nz j hj;replace h:g^i%n-1=g^j%n-1:=h;rcases Nat.le_total i j with hij|hij
   ·exact inj i j hi hj (by omega) hij
   ·exact(inj j i hj hi (by omega) hij).symm) (a%n-1) (by omega)
  have:=nz i hi;replace h:g^i%n-1=a%n-1:=h;exact⟨i,hi,by omega⟩
 have fermat:∀ a,a%n≠0→a^(n-1)%n=1:=by
  intro a ha;obtain⟨i,-,h⟩:=all a ha;rw[Nat.pow_mod,← h,← Nat.pow_mod,← Nat.pow_mul,Nat.mul_comm,Zv3 (by rw[h1,one]),one]
 refine⟨⟨hn,fun m hm=>?_⟩,fermat⟩;refine Classical.byContradiction fun hne=>?_
 have hle:=Nat.le_of_dvd (by omega) hm;have hm0:m≠0:=fun e=>by subst e;have:=Nat.eq_zero_of_zero_dvd hm;omega
 have hm1:m%n≠0:=by rw[Nat.mod_eq_of_lt (by omega)];exact hm0
 have h2:=fermat m hm1;have h3:m^(n-1)%m=1%m:=by
  have:m^(n-1)%n%m=m^(n-1)%m:=Nat.mod_mod_of_dvd _ hm;rw[← this,h2]
 have h4:m^(n-1)%m=0:=by
  rw[show n-1=(n-2)+1 by omega,Nat.pow_succ];exact Nat.mul_mod_left _ _
 rw[h4] at h3;have:1%m=1:=Nat.mod_eq_of_lt (by omega);omega
def lucasB(n g k:Nat)(l:List (Nat×Nat)):Bool:=
 Nat.ble 2 n&&Nat.beq (prodP l) (n-1)&&Nat.ble (n+1) (2^k)&&Nat.beq (pm n k g (n-1)) 1&&l.all fun x=> !Nat.beq (pm n k g ((n-1)/x.1)) 1
theorem ZiG{n g k:Nat}{l:List (Nat×Nat)}(hl:∀ x∈l,Pri x.1)(h:lucasB n g k l=true):Pri n∧∀ a,a%n≠0→a^(n-1)%n=1:=by
 simp only[lucasB,Bool.and_eq_true,List.all_eq_true,Bool.not_eq_true'] at h;obtain⟨⟨⟨⟨h1,h2⟩,h3⟩,h4⟩,h5⟩:=h;have hk:=Nat.le_of_ble_eq_true h3;have hn:=Nat.le_of_ble_eq_true h1;refine lucas (g:=g) hn hl (Nat.eq_of_beq_eq_true h2) ?_ ?_
 ·rw[← ZD2 n k g (n-1) (by omega)];exact Nat.eq_of_beq_eq_true h4
 ·intro x hx;have h6:=h5 x hx;have:(n-1)/x.1≤n-1:=Nat.div_le_self _ _;rw[← ZD2 n k g _ (by omega)];intro e;rw[e] at h6;simp at h6
def trial(n:Nat):Nat→Bool
 |0=>true
 |k+1=>cond (Nat.ble k 1) true (!Nat.beq (n%k) 0&&trial n k)
theorem Zyn(n:Nat):(k:Nat)→trial n k=true→∀ m,2≤m→m<k→¬ m ∣ n
 |0,_,m,h,hm=>by omega
 |k+1,ht,m,h,hm=>by
  unfold trial at ht;intro hd;cases hb:Nat.ble k 1
  ·rw[hb,cond_false,Bool.and_eq_true,Bool.not_eq_true'] at ht;by_cases e:m=k
   ·subst e;rw[Nat.mod_eq_zero_of_dvd hd] at ht;simp at ht
   ·exact Zyn n k ht.2 m h (by omega) hd
  ·have:=Nat.le_of_ble_eq_true hb;omega
theorem ZbY{n:Nat}(k:Nat)(h:(Nat.ble 2 n&&Nat.ble (n+1) (k*k)&&trial n k)=true):Pri n:=by
 simp only[Bool.and_eq_true] at h;obtain⟨⟨h1,h2⟩,h3⟩:=h;have hn:=Nat.le_of_ble_eq_true h1;have hk:=Nat.le_of_ble_eq_true h2;refine⟨hn,fun m hm=>?_⟩;refine Classical.byContradiction fun hne=>?_
 obtain⟨t,ht⟩:=hm;have m0:m≠0:=fun e=>by subst e;simp at ht;omega
 have t0:t≠0:=fun e=>by subst e;simp at ht;omega
 have t1:t≠1:=fun e=>by subst e;simp at ht;omega
 have hm':=Zyn n k h3 m (by omega);have ht':=Zyn n k h3 t (by omega);have c1:k≤m:=Nat.le_of_not_lt fun hlt=>hm' hlt ⟨t,ht⟩
 have c2:k≤t:=Nat.le_of_not_lt fun hlt=>ht' hlt ⟨m,by rw[ht,Nat.mul_comm]⟩
 have:=Nat.mul_le_mul c1 c2;omega
end Go.Vx
