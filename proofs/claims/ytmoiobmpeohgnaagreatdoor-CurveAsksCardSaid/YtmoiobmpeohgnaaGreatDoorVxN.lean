/- The engine, part N: a region in any order that its edges allow. -/
import Derived.Test.YtmoiobmpeohgnaaGreatDoorVxM
set_option autoImplicit false
set_option linter.unusedVariables false
set_option linter.unusedSimpArgs false
namespace Go.Vx
open Go Go.RowKit
def Gen (P:Program) (cx:Cx) (acc:Nat → Nat → Bool) (all:Array Oper) (i:Nat) (o:Oper) (st:St) (e:Eff) : Prop :=
 ((o.guard = none ∨ ∃ j want d b, o.guard = some (j, want) ∧ (all[j]?).bind (·.dst) = some d ∧ lk d st.tm = some (.bool b) ∧ b = want) ∧
   opK' P cx.Γ cx.ro o.op (evO cx.gl st.tm) (fun b => cond (acc i b) (lk b st.mem) none) none some = some e) ∨
 ((∃ j want d, o.guard = some (j, want) ∧ (all[j]?).bind (·.dst) = some d ∧ ((∃ b, lk d st.tm = some (.bool b) ∧ b ≠ want) ∨ lk d st.tm = some (.tup []))) ∧ e = .val (.tup []))
theorem ZtX {P:Program} {cx:Cx} {acc:Nat → Nat → Bool} {all:Array Oper} {i:Nat} {o:Oper} {st s:St} (h:Stp P cx acc all i o st s) : ∃ e, Gen P cx acc all i o st e ∧ s = st.app i o.dst e := by
 cases h with
 | act e g h => exact ⟨e, .inl ⟨g, h⟩, rfl⟩
 | skip g => exact ⟨.val (.tup []), .inr ⟨g, rfl⟩, rfl⟩
theorem ZtY {P:Program} {cx:Cx} {acc:Nat → Nat → Bool} {all:Array Oper} {i:Nat} {o:Oper} {st:St} {e:Eff} (h:Gen P cx acc all i o st e) : Stp P cx acc all i o st (st.app i o.dst e) := by
 rcases h with ⟨g, h⟩ | ⟨g, rfl⟩
 ·exact .act e g h
 ·exact .skip g
theorem ZDQ {l:List Operand} {t:Nat} (h:Operand.tmp t ∈ l) : t ∈ l.filterMap tmpOf := List.mem_filterMap.2 ⟨_, h, rfl⟩
theorem ZoO {P:Program} {cx:Cx} {acc:Nat → Nat → Bool} {all:Array Oper} {i:Nat} {o:Oper} {st st':St} {e:Eff} (ht:∀ d ∈ looks all o, lk d st.tm = lk d st'.tm)
  (hm:isM o.op = true → (fun b => cond (acc i b) (lk b st.mem) none) = (fun b => cond (acc i b) (lk b st'.mem) none)) (h:Gen P cx acc all i o st e) : Gen P cx acc all i o st' e := by
 have hg : ∀ {j:Nat} {want:Bool} {d:Nat}, o.guard = some (j, want) → (all[j]?).bind (·.dst) = some d → lk d st.tm = lk d st'.tm := by
  intro j want d h1 h2
  refine ht d ?_
  unfold looks
  have h2' : (all[j]?.bind fun x => x.dst) = some d := h2
  simp [h1, h2']
 rcases h with ⟨g, h⟩ | ⟨⟨j, want, d, g, hj, hb⟩, he⟩
 ·left
  refine ⟨?_, ?_⟩
  ·rcases g with g | ⟨j, want, d, b, g, hj, hb, hw⟩
   ·exact .inl g
   ·exact .inr ⟨j, want, d, b, g, hj, by rw [← hg g hj]; exact hb, hw⟩
  ·rw [← h]
   symm
   refine ZCq P cx.Γ cx.ro o.op (fun x hx => ?_) hm none some
   cases x with
   | tmp t => exact ht t (by unfold looks; exact List.mem_append_left _ (ZDQ hx))
   | const v => rfl
   | global g => rfl
   | func f => rfl
 ·right
  exact ⟨⟨j, want, d, g, hj, by rw [← hg g hj]; exact hb⟩, he⟩
theorem ZxS {d:Nat} {l:List Nat} (h:clear (some d) l = true) : d ∉ l := by
 intro hd
 simp only [clear, List.all_eq_true, Bool.not_eq_true'] at h
 have := h d hd
 simp at this
theorem app_tm (st:St) (i:Nat) (d:Option Nat) (e:Eff) : ∃ v, (st.app i d e).tm = (st.put d v).tm := by
 cases e with
 | val v => exact ⟨v, rfl⟩
 | new ty row cap T g => exact ⟨g (st.nx + i), rfl⟩
 | upd b T => exact ⟨.tup [], rfl⟩
 | grow b T g => exact ⟨g (st.nx + i), rfl⟩
theorem ZDR {st:St} {d:Option Nat} {v:AV} {n:Nat} (h:d ≠ some n) : lk n (st.put d v).tm = lk n st.tm := by
 cases d with
 | none => rfl
 | some d => exact Zav (fun e => h (by rw [e])) v st.tm
theorem ZDS {st:St} {i:Nat} {d:Option Nat} {e:Eff} {n:Nat} (h:d ≠ some n) : lk n (st.app i d e).tm = lk n st.tm := by
 obtain ⟨v, hv⟩ := app_tm st i d e
 rw [hv, ZDR h]
theorem gen_upd {P:Program} {cx:Cx} {acc:Nat → Nat → Bool} {all:Array Oper} {i:Nat} {o:Oper} {st:St} {b:Nat} {T:AV} (h:Gen P cx acc all i o st (.upd b T)) : isW o.op = true ∧ acc i b = true := by
 rcases h with ⟨-, h⟩ | ⟨-, h⟩
 ·obtain ⟨h1, T0, h2⟩ := ZFj h
  exact ⟨h1, (Zag h2).1⟩
 ·simp at h
theorem isW_isM {o:Op} (h:isW o = true) : isM o = true := by cases o <;> simp [isW] at h <;> rfl
def memF (e:Eff) (m:Nat) (L:Nat → Option AV) (n:Nat) : Option AV :=
 match e with
 | .val _ => L n
 | .new _ _ _ T _ => if n = m then some T else L n
 | .upd b T => if n = b then some T else L n
 | .grow b T _ => if n = m then some T else if b = some n then none else L n
def wr (e:Eff) (m n:Nat) : Prop :=
 match e with
 | .val _ => False
 | .new _ _ _ _ _ => n = m
 | .upd b _ => n = b
 | .grow b _ _ => n = m ∨ b = some n
theorem ZpU {e:Eff} {m n:Nat} (h:¬ wr e m n) (L:Nat → Option AV) : memF e m L n = L n := by
 cases e with
 | val v => rfl
 | new ty row cap T g => simp only [wr] at h; simp only [memF, h, if_false]
 | upd b T => simp only [wr] at h; simp only [memF, h, if_false]
 | grow b T g => simp only [wr, not_or] at h; simp only [memF, h.1, h.2, if_false]
theorem ZDT {e:Eff} {m n:Nat} (h:wr e m n) (L L':Nat → Option AV) : memF e m L n = memF e m L' n := by
 cases e with
 | val v => exact h.elim
 | new ty row cap T g => simp only [wr] at h; simp only [memF, h, if_true]
 | upd b T => simp only [wr] at h; simp only [memF, h, if_true]
 | grow b T g =>
  simp only [memF]
  by_cases h1 : n = m
  ·simp only [h1, if_true]
  ·rcases h with h | h
   ·exact absurd h h1
   ·simp only [h1, if_false, h, if_true]
theorem Zwo (st:St) (i:Nat) (d:Option Nat) (e:Eff) (n:Nat) : lk n (st.app i d e).mem = memF e (st.nx + i) (fun n => lk n st.mem) n := by
 have one : ∀ (b:Nat) (T:AV) (l:List (Nat × AV)), lk n ((b, T) :: l) = if n = b then some T else lk n l := by
  intro b T l
  by_cases h : b = n
  ·subst h; rw [Zas, if_pos rfl]
  ·rw [Zav h, if_neg (fun hh => h hh.symm)]
 cases e with
 | val v => simp only [St.app, Ze6, memF]
 | new ty row cap T g => simp only [St.app, memF, one]
 | upd b T => simp only [St.app, memF, one]
 | grow b T g => simp only [St.app, memF, one, Zwp]
theorem ZDU {P:Program} {cx:Cx} {acc:Nat → Nat → Bool} {all:Array Oper} {i:Nat} {o:Oper} {st:St} {e:Eff} (h:Gen P cx acc all i o st e) {n:Nat} (hw:wr e (st.nx + i) n) : n = st.nx + i ∨ (isW o.op = true ∧ acc i n = true) := by
 cases e with
 | val v => exact hw.elim
 | new ty row cap T g => exact .inl hw
 | upd b T =>
  simp only [wr] at hw
  subst hw
  exact .inr (gen_upd h)
 | grow b T g =>
  rcases hw with hw | hw
  ·exact .inl hw
  ·subst hw
   rcases h with ⟨-, h⟩ | ⟨-, h⟩
   ·obtain ⟨h1, T0, h2⟩ := ZDV h n rfl
    exact .inr ⟨h1, (Zag h2).1⟩
   ·simp at h
theorem ZBG {P:Program} {cx:Cx} {acc:Nat → Nat → Bool} {all:Array Oper} {i j:Nat} {x y:Oper} {st:St} {e:Eff} (hx:Gen P cx acc all i x st e) (h1:clear x.dst (looks all y) = true) (h2:(∀ b, acc i b = true → acc j b = false) ∨ (isW x.op && isM y.op) = false)
  (ha:acc j (st.nx + i) = false) : (∀ d ∈ looks all y, lk d (st.app i x.dst e).tm = lk d st.tm) ∧
   (isM y.op = true → (fun b => cond (acc j b) (lk b (st.app i x.dst e).mem) none) = (fun b => cond (acc j b) (lk b st.mem) none)) := by
 refine ⟨fun d hd => ZDS (fun hh => ?_), fun hy => ?_⟩
 ·rw [hh] at h1
  exact ZxS h1 hd
 ·funext b
  rw [Zwo]
  by_cases hb : wr e (st.nx + i) b
  ·rcases ZDU hx hb with h | ⟨k1, k2⟩
   ·subst h; rw [ha]; rfl
   ·rcases h2 with h2 | h2
    ·rw [h2 b k2]; rfl
    ·rw [k1, hy] at h2; simp at h2
  ·rw [ZpU hb]
def putl (d:Option Nat) (v:AV) (l:List (Nat × AV)) : List (Nat × AV) :=
 match d with
 | some d => (d, v) :: l
 | none => l
theorem put_tl (st:St) (d:Option Nat) (v:AV) : (st.put d v).tm = putl d v st.tm := by cases d <;> rfl
theorem ZFk (l:List (Nat × AV)) {d e:Option Nat} (h:∀ n, d = some n → e ≠ some n) (u v:AV) (n:Nat) :
  lk n (putl e v (putl d u l)) = lk n (putl d u (putl e v l)) := by
 cases d with
 | none => cases e <;> rfl
 | some d =>
  cases e with
  | none => rfl
  | some e =>
   have hne : d ≠ e := fun hh => h d rfl (by rw [hh])
   simp only [putl]
   by_cases h1 : d = n
   ·subst h1
    rw [Zav (fun hh => hne hh.symm), Zas, Zas]
   ·by_cases h2 : e = n
    ·subst h2
     rw [Zas, Zav h1, Zas]
    ·rw [Zav h2, Zav h1, Zav h1, Zav h2]
theorem ZDW {P:Program} {cx:Cx} {acc:Nat → Nat → Bool} {all:Array Oper} {i j:Nat} (hij:i ≠ j) {x y:Oper} {st s1 s2:St} {d:Bool} (hsep:d = true → ∀ b, acc i b = true → acc j b = false) (hind:indep all d x y = true) (hai:acc i (st.nx + j) = false) (haj:acc j (st.nx + i) = false)
  (h1:step1 P cx acc all (i, x) st = some s1) (h2:step1 P cx acc all (j, y) s1 = some s2) : ∃ s1' s2', step1 P cx acc all (j, y) st = some s1' ∧ step1 P cx acc all (i, x) s1' = some s2' ∧ Alike s2 s2' := by
 simp only [indep, Bool.and_eq_true, Bool.or_eq_true, Bool.not_eq_true'] at hind
 obtain ⟨⟨⟨c1, c2⟩, c3⟩, c45⟩ := hind
 have c4 : (∀ b, acc i b = true → acc j b = false) ∨ (isW x.op && isM y.op) = false := c45.imp (fun h => hsep h) (fun h => h.1)
 have c5' : (∀ b, acc j b = true → acc i b = false) ∨ (isW y.op && isM x.op) = false := c45.imp (fun h b hb => by
  cases hq : acc i b
  ·rfl
  ·rw [hsep h b hq] at hb; simp at hb) (fun h => by rw [Bool.and_comm]; exact h.2)
 obtain ⟨hdx, t1, hx, a1⟩ := Zka h1
 obtain ⟨hdy, t2, hy, a2⟩ := Zka h2
 obtain ⟨ex, gx, rfl⟩ := ZtX hx
 obtain ⟨ey, gy0, rfl⟩ := ZtX hy
 have gy : Gen P cx acc all j y (st.app i x.dst ex) ey := ZoO (fun d _ => (a1.tm d).symm) (fun _ => by funext b; rw [a1.mem]) gy0
 obtain ⟨n1, n2⟩ := ZBG gx c1 c4 haj
 have gy' : Gen P cx acc all j y st ey := ZoO n1 n2 gy
 obtain ⟨m1, m2⟩ := ZBG gy' c2 c5' hai
 have gx' : Gen P cx acc all i x (st.app j y.dst ey) ex := ZoO (fun d hd => (m1 d hd).symm) (fun hh => (m2 hh).symm) gx
 obtain ⟨u1, p1, q1⟩ := Zq5 hdy (ZtY gy')
 have gx2 : Gen P cx acc all i x u1 ex := ZoO (fun d _ => q1.tm d) (fun _ => by funext b; rw [q1.mem]) gx'
 obtain ⟨u2, p2, q2⟩ := Zq5 hdx (ZtY gx2)
 refine ⟨u1, u2, p1, p2, (a2.symm.trans ((Zma a1.symm _ _ _).trans ?_)).trans ((Zma q1 _ _ _).trans q2)⟩
 refine ⟨?_, ?_, ?_⟩
 ·intro n
  have hdd : ∀ n, x.dst = some n → y.dst ≠ some n := by
   intro n hn hy
   rw [hn, hy] at c3
   exact ZxS c3 (by simp)
  cases ex <;> cases ey <;> simp only [St.app, put_tl, Zwg] <;> exact ZFk st.tm hdd _ _ n
 ·intro n
  have dis : ∀ n, wr ex (st.nx + i) n → ¬ wr ey (st.nx + j) n := by
   intro n h1 h2
   rcases ZDU gx h1 with k1 | ⟨k1, k2⟩ <;> rcases ZDU gy' h2 with k3 | ⟨k3, k4⟩
   ·omega
   ·rw [k1, haj] at k4; cases k4
   ·rw [k3, hai] at k2; cases k2
   ·rcases c4 with c4 | c4
    ·rw [c4 n k2] at k4; cases k4
    ·rw [k1, isW_isM k3] at c4; cases c4
  rw [Zwo, Zwo, ZxT, ZxT]
  have e1 : ∀ n, lk n (st.app i x.dst ex).mem = memF ex (st.nx + i) (fun n => lk n st.mem) n := fun n => Zwo _ _ _ _ _
  have e2 : ∀ n, lk n (st.app j y.dst ey).mem = memF ey (st.nx + j) (fun n => lk n st.mem) n := fun n => Zwo _ _ _ _ _
  by_cases h1 : wr ex (st.nx + i) n
  ·rw [ZpU (dis n h1)]
   show lk n (st.app i x.dst ex).mem = _
   rw [e1]
   exact ZDT h1 _ _
  ·rw [ZpU h1]
   show _ = lk n (st.app j y.dst ey).mem
   rw [e2]
   by_cases h2 : wr ey (st.nx + j) n
   ·exact ZDT h2 _ _
   ·rw [ZpU h2, ZpU h2]
    show lk n (st.app i x.dst ex).mem = _
    rw [e1, ZpU h1]
 ·simp only [ZxT]
theorem ZCr {P:Program} {cx:Cx} {acc:Nat → Nat → Bool} {all:Array Oper} {p:Nat × Oper} {st st' s:St} (ha:Alike st st') (h:step1 P cx acc all p st = some s) : ∃ s', step1 P cx acc all p st' = some s' ∧ Alike s s' := by
 obtain ⟨i, o⟩ := p
 obtain ⟨hd, t, hs, hts⟩ := Zka h
 obtain ⟨e, g, rfl⟩ := ZtX hs
 have g' : Gen P cx acc all i o st' e := ZoO (fun d _ => ha.tm d) (fun _ => by funext b; rw [ha.mem]) g
 obtain ⟨s', h1, h2⟩ := Zq5 hd (ZtY g')
 exact ⟨s', h1, hts.symm.trans ((Zma ha _ _ _).trans h2)⟩
theorem Zzu {P:Program} {cx:Cx} {acc:Nat → Nat → Bool} {all:Array Oper} : (l:List (Nat × Oper)) → {st st' s:St} → Alike st st' → runOps P cx acc all none l st some = some s → ∃ s', runOps P cx acc all none l st' some = some s' ∧ Alike s s'
 | [], st, st', s, ha, h => by
  simp only [runOps, Option.some.injEq] at h
  subst h
  exact ⟨st', rfl, ha⟩
 | p :: l, st, st', s, ha, h => by
  rw [Zf7] at h
  obtain ⟨s1, h1, h2⟩ := Option.bind_eq_some_iff.1 h
  obtain ⟨s1', k1, k2⟩ := ZCr ha h1
  obtain ⟨s', k3, k4⟩ := Zzu l k2 h2
  exact ⟨s', by rw [Zf7, k1]; exact k3, k4⟩
theorem Zzt {P:Program} {cx:Cx} {acc:Nat → Nat → Bool} {all:Array Oper} (x:Nat × Oper) (nx:Nat) (os:List (Option Nat)) (hos:∀ i j, sepO (os.getD i none) (os.getD j none) = true → ∀ b, acc i b = true → acc j b = false) : (A B:List (Nat × Oper)) → (∀ a ∈ A, a.1 ≠ x.1 ∧ ind all os a x = true ∧ acc a.1 (nx + x.1) = false ∧ acc x.1 (nx + a.1) = false) →
  {st s:St} → st.nx = nx → runOps P cx acc all none (A ++ x :: B) st some = some s → ∃ s', runOps P cx acc all none (x :: (A ++ B)) st some = some s' ∧ Alike s s'
 | [], B, _, st, s, _, h => ⟨s, h, Alike.refl s⟩
 | a :: A, B, hA, st, s, hnx, h => by
  rw [List.cons_append, Zf7] at h
  obtain ⟨s1, h1, h2⟩ := Option.bind_eq_some_iff.1 h
  have hnx1 : s1.nx = nx := (Zyr h1).trans hnx
  obtain ⟨t, k1, k2⟩ := Zzt x nx os hos A B (fun b hb => hA b (by simp [hb])) hnx1 h2
  rw [Zf7] at k1
  obtain ⟨s2, j1, j2⟩ := Option.bind_eq_some_iff.1 k1
  obtain ⟨q1, q2, q3, q4⟩ := hA a (by simp)
  obtain ⟨u1, u2, l1, l2, l3⟩ := ZDW (i := a.1) (j := x.1) q1 (hos a.1 x.1) q2 (by rw [hnx]; exact q3) (by rw [hnx]; exact q4) h1 j1
  obtain ⟨v, m1, m2⟩ := Zzu (A ++ B) l3 j2
  refine ⟨v, ?_, k2.trans m2⟩
  rw [Zf7]
  simp only [show step1 P cx acc all x st = some u1 from l1, Option.bind_some]
  rw [List.cons_append, Zf7]
  simp only [show step1 P cx acc all a u1 = some u2 from l2, Option.bind_some]
  exact m1
end Go.Vx
