/- The engine, part N: a region in any order that its edges allow. -/
import Derived.Test.YtoionfdfofmplaaVxM
set_option autoImplicit false
set_option linter.unusedVariables false
set_option linter.unusedSimpArgs false
namespace Go.Vx
open Go Go.RowKit

/-- How an operation comes to its effect. -/
def Gen (P : Program) (cx : Cx) (acc : Nat → Nat → Bool) (all : Array Oper) (i : Nat) (o : Oper) (st : St) (e : Eff) : Prop :=
  ((o.guard = none ∨ ∃ j want d b, o.guard = some (j, want) ∧ (all[j]?).bind (·.dst) = some d ∧ lk d st.tm = some (.bool b) ∧ b = want) ∧
      opK' P cx.Γ cx.ro o.op (evO cx.gl st.tm) (fun b => cond (acc i b) (lk b st.mem) none) none some = some e) ∨
  ((∃ j want d, o.guard = some (j, want) ∧ (all[j]?).bind (·.dst) = some d ∧ ((∃ b, lk d st.tm = some (.bool b) ∧ b ≠ want) ∨ lk d st.tm = some (.tup []))) ∧ e = .val (.tup []))

theorem gen_of_stp {P : Program} {cx : Cx} {acc : Nat → Nat → Bool} {all : Array Oper} {i : Nat} {o : Oper} {st s : St} (h : Stp P cx acc all i o st s) : ∃ e, Gen P cx acc all i o st e ∧ s = st.app i o.dst e := by
  cases h with
  | act e g h => exact ⟨e, .inl ⟨g, h⟩, rfl⟩
  | skip g => exact ⟨.val (.tup []), .inr ⟨g, rfl⟩, rfl⟩

theorem stp_of_gen {P : Program} {cx : Cx} {acc : Nat → Nat → Bool} {all : Array Oper} {i : Nat} {o : Oper} {st : St} {e : Eff} (h : Gen P cx acc all i o st e) : Stp P cx acc all i o st (st.app i o.dst e) := by
  rcases h with ⟨g, h⟩ | ⟨g, rfl⟩
  · exact .act e g h
  · exact .skip g

theorem tmpOf_mem {l : List Operand} {t : Nat} (h : Operand.tmp t ∈ l) : t ∈ l.filterMap tmpOf := List.mem_filterMap.2 ⟨_, h, rfl⟩

/-- Where two states show an operation the same, it has the same effect. -/
theorem gen_congr {P : Program} {cx : Cx} {acc : Nat → Nat → Bool} {all : Array Oper} {i : Nat} {o : Oper} {st st' : St} {e : Eff} (ht : ∀ d ∈ looks all o, lk d st.tm = lk d st'.tm)
    (hm : isM o.op = true → (fun b => cond (acc i b) (lk b st.mem) none) = (fun b => cond (acc i b) (lk b st'.mem) none)) (h : Gen P cx acc all i o st e) : Gen P cx acc all i o st' e := by
  have hg : ∀ {j : Nat} {want : Bool} {d : Nat}, o.guard = some (j, want) → (all[j]?).bind (·.dst) = some d → lk d st.tm = lk d st'.tm := by
    intro j want d h1 h2
    refine ht d ?_
    unfold looks
    have h2' : (all[j]?.bind fun x => x.dst) = some d := h2
    simp [h1, h2']
  rcases h with ⟨g, h⟩ | ⟨⟨j, want, d, g, hj, hb⟩, he⟩
  · left
    refine ⟨?_, ?_⟩
    · rcases g with g | ⟨j, want, d, b, g, hj, hb, hw⟩
      · exact .inl g
      · exact .inr ⟨j, want, d, b, g, hj, by rw [← hg g hj]; exact hb, hw⟩
    · rw [← h]
      symm
      refine opK'_congr P cx.Γ cx.ro o.op (fun x hx => ?_) hm none some
      cases x with
      | tmp t => exact ht t (by unfold looks; exact List.mem_append_left _ (tmpOf_mem hx))
      | const v => rfl
      | global g => rfl
      | func f => rfl
  · right
    exact ⟨⟨j, want, d, g, hj, by rw [← hg g hj]; exact hb⟩, he⟩

theorem clear_spec {d : Nat} {l : List Nat} (h : clear (some d) l = true) : d ∉ l := by
  intro hd
  simp only [clear, List.all_eq_true, Bool.not_eq_true'] at h
  have := h d hd
  simp at this

theorem app_tm (st : St) (i : Nat) (d : Option Nat) (e : Eff) : ∃ v, (st.app i d e).tm = (st.put d v).tm := by
  cases e with
  | val v => exact ⟨v, rfl⟩
  | new ty row cap T g => exact ⟨g (st.nx + i), rfl⟩
  | upd b T => exact ⟨.tup [], rfl⟩
  | grow b T g => exact ⟨g (st.nx + i), rfl⟩

theorem put_other {st : St} {d : Option Nat} {v : AV} {n : Nat} (h : d ≠ some n) : lk n (st.put d v).tm = lk n st.tm := by
  cases d with
  | none => rfl
  | some d => exact lk_cons_ne (fun e => h (by rw [e])) v st.tm

theorem app_other {st : St} {i : Nat} {d : Option Nat} {e : Eff} {n : Nat} (h : d ≠ some n) : lk n (st.app i d e).tm = lk n st.tm := by
  obtain ⟨v, hv⟩ := app_tm st i d e
  rw [hv, put_other h]

theorem gen_upd {P : Program} {cx : Cx} {acc : Nat → Nat → Bool} {all : Array Oper} {i : Nat} {o : Oper} {st : St} {b : Nat} {T : AV} (h : Gen P cx acc all i o st (.upd b T)) : isW o.op = true ∧ acc i b = true := by
  rcases h with ⟨-, h⟩ | ⟨-, h⟩
  · obtain ⟨h1, T0, h2⟩ := upd_seen h
    exact ⟨h1, (cond_some h2).1⟩
  · simp at h

theorem isW_isM {o : Op} (h : isW o = true) : isM o = true := by cases o <;> simp [isW] at h <;> rfl

/-- What an effect does to the memory; which names it writes. -/
def memF (e : Eff) (m : Nat) (L : Nat → Option AV) (n : Nat) : Option AV :=
  match e with
  | .val _ => L n
  | .new _ _ _ T _ => if n = m then some T else L n
  | .upd b T => if n = b then some T else L n
  | .grow b T _ => if n = m then some T else if b = some n then none else L n
def wr (e : Eff) (m n : Nat) : Prop :=
  match e with
  | .val _ => False
  | .new _ _ _ _ _ => n = m
  | .upd b _ => n = b
  | .grow b _ _ => n = m ∨ b = some n

theorem memF_out {e : Eff} {m n : Nat} (h : ¬ wr e m n) (L : Nat → Option AV) : memF e m L n = L n := by
  cases e with
  | val v => rfl
  | new ty row cap T g => simp only [wr] at h; simp only [memF, h, if_false]
  | upd b T => simp only [wr] at h; simp only [memF, h, if_false]
  | grow b T g => simp only [wr, not_or] at h; simp only [memF, h.1, h.2, if_false]
theorem memF_in {e : Eff} {m n : Nat} (h : wr e m n) (L L' : Nat → Option AV) : memF e m L n = memF e m L' n := by
  cases e with
  | val v => exact h.elim
  | new ty row cap T g => simp only [wr] at h; simp only [memF, h, if_true]
  | upd b T => simp only [wr] at h; simp only [memF, h, if_true]
  | grow b T g =>
    simp only [memF]
    by_cases h1 : n = m
    · simp only [h1, if_true]
    · rcases h with h | h
      · exact absurd h h1
      · simp only [h1, if_false, h, if_true]

theorem app_mem (st : St) (i : Nat) (d : Option Nat) (e : Eff) (n : Nat) : lk n (st.app i d e).mem = memF e (st.nx + i) (fun n => lk n st.mem) n := by
  have one : ∀ (b : Nat) (T : AV) (l : List (Nat × AV)), lk n ((b, T) :: l) = if n = b then some T else lk n l := by
    intro b T l
    by_cases h : b = n
    · subst h; rw [lk_cons_self, if_pos rfl]
    · rw [lk_cons_ne h, if_neg (fun hh => h hh.symm)]
  cases e with
  | val v => simp only [St.app, put_mem, memF]
  | new ty row cap T g => simp only [St.app, memF, one]
  | upd b T => simp only [St.app, memF, one]
  | grow b T g => simp only [St.app, memF, one, lk_del_eq]

theorem gen_wr {P : Program} {cx : Cx} {acc : Nat → Nat → Bool} {all : Array Oper} {i : Nat} {o : Oper} {st : St} {e : Eff} (h : Gen P cx acc all i o st e) {n : Nat} (hw : wr e (st.nx + i) n) : n = st.nx + i ∨ (isW o.op = true ∧ acc i n = true) := by
  cases e with
  | val v => exact hw.elim
  | new ty row cap T g => exact .inl hw
  | upd b T =>
    simp only [wr] at hw
    subst hw
    exact .inr (gen_upd h)
  | grow b T g =>
    rcases hw with hw | hw
    · exact .inl hw
    · subst hw
      rcases h with ⟨-, h⟩ | ⟨-, h⟩
      · obtain ⟨h1, T0, h2⟩ := grow_seen h n rfl
        exact .inr ⟨h1, (cond_some h2).1⟩
      · simp at h

/-- An operation is not seen by another one that is independent of it. -/
theorem not_seen {P : Program} {cx : Cx} {acc : Nat → Nat → Bool} {all : Array Oper} {i j : Nat} {x y : Oper} {st : St} {e : Eff} (hx : Gen P cx acc all i x st e) (h1 : clear x.dst (looks all y) = true) (h2 : (∀ b, acc i b = true → acc j b = false) ∨ (isW x.op && isM y.op) = false)
    (ha : acc j (st.nx + i) = false) : (∀ d ∈ looks all y, lk d (st.app i x.dst e).tm = lk d st.tm) ∧
      (isM y.op = true → (fun b => cond (acc j b) (lk b (st.app i x.dst e).mem) none) = (fun b => cond (acc j b) (lk b st.mem) none)) := by
  refine ⟨fun d hd => app_other (fun hh => ?_), fun hy => ?_⟩
  · rw [hh] at h1
    exact clear_spec h1 hd
  · funext b
    rw [app_mem]
    by_cases hb : wr e (st.nx + i) b
    · rcases gen_wr hx hb with h | ⟨k1, k2⟩
      · subst h; rw [ha]; rfl
      · rcases h2 with h2 | h2
        · rw [h2 b k2]; rfl
        · rw [k1, hy] at h2; simp at h2
    · rw [memF_out hb]

def putl (d : Option Nat) (v : AV) (l : List (Nat × AV)) : List (Nat × AV) :=
  match d with
  | some d => (d, v) :: l
  | none => l

theorem put_tl (st : St) (d : Option Nat) (v : AV) : (st.put d v).tm = putl d v st.tm := by cases d <;> rfl

theorem put_swap (l : List (Nat × AV)) {d e : Option Nat} (h : ∀ n, d = some n → e ≠ some n) (u v : AV) (n : Nat) :
    lk n (putl e v (putl d u l)) = lk n (putl d u (putl e v l)) := by
  cases d with
  | none => cases e <;> rfl
  | some d =>
    cases e with
    | none => rfl
    | some e =>
      have hne : d ≠ e := fun hh => h d rfl (by rw [hh])
      simp only [putl]
      by_cases h1 : d = n
      · subst h1
        rw [lk_cons_ne (fun hh => hne hh.symm), lk_cons_self, lk_cons_self]
      · by_cases h2 : e = n
        · subst h2
          rw [lk_cons_self, lk_cons_ne h1, lk_cons_self]
        · rw [lk_cons_ne h2, lk_cons_ne h1, lk_cons_ne h1, lk_cons_ne h2]

theorem step_swap {P : Program} {cx : Cx} {acc : Nat → Nat → Bool} {all : Array Oper} {i j : Nat} (hij : i ≠ j) {x y : Oper} {st s1 s2 : St} {d : Bool} (hsep : d = true → ∀ b, acc i b = true → acc j b = false) (hind : indep all d x y = true) (hai : acc i (st.nx + j) = false) (haj : acc j (st.nx + i) = false)
    (h1 : step1 P cx acc all (i, x) st = some s1) (h2 : step1 P cx acc all (j, y) s1 = some s2) : ∃ s1' s2', step1 P cx acc all (j, y) st = some s1' ∧ step1 P cx acc all (i, x) s1' = some s2' ∧ Alike s2 s2' := by
  simp only [indep, Bool.and_eq_true, Bool.or_eq_true, Bool.not_eq_true'] at hind
  obtain ⟨⟨⟨c1, c2⟩, c3⟩, c45⟩ := hind
  have c4 : (∀ b, acc i b = true → acc j b = false) ∨ (isW x.op && isM y.op) = false := c45.imp (fun h => hsep h) (fun h => h.1)
  have c5' : (∀ b, acc j b = true → acc i b = false) ∨ (isW y.op && isM x.op) = false := c45.imp (fun h b hb => by
    cases hq : acc i b
    · rfl
    · rw [hsep h b hq] at hb; simp at hb) (fun h => by rw [Bool.and_comm]; exact h.2)
  obtain ⟨hdx, t1, hx, a1⟩ := stp_of_step h1
  obtain ⟨hdy, t2, hy, a2⟩ := stp_of_step h2
  obtain ⟨ex, gx, rfl⟩ := gen_of_stp hx
  obtain ⟨ey, gy0, rfl⟩ := gen_of_stp hy
  have gy : Gen P cx acc all j y (st.app i x.dst ex) ey := gen_congr (fun d _ => (a1.tm d).symm) (fun _ => by funext b; rw [a1.mem]) gy0
  obtain ⟨n1, n2⟩ := not_seen gx c1 c4 haj
  have gy' : Gen P cx acc all j y st ey := gen_congr n1 n2 gy
  obtain ⟨m1, m2⟩ := not_seen gy' c2 c5' hai
  have gx' : Gen P cx acc all i x (st.app j y.dst ey) ex := gen_congr (fun d hd => (m1 d hd).symm) (fun hh => (m2 hh).symm) gx
  obtain ⟨u1, p1, q1⟩ := step_of_stp hdy (stp_of_gen gy')
  have gx2 : Gen P cx acc all i x u1 ex := gen_congr (fun d _ => q1.tm d) (fun _ => by funext b; rw [q1.mem]) gx'
  obtain ⟨u2, p2, q2⟩ := step_of_stp hdx (stp_of_gen gx2)
  refine ⟨u1, u2, p1, p2, (a2.symm.trans ((app_alike a1.symm _ _ _).trans ?_)).trans ((app_alike q1 _ _ _).trans q2)⟩
  refine ⟨?_, ?_, ?_⟩
  · intro n
    have hdd : ∀ n, x.dst = some n → y.dst ≠ some n := by
      intro n hn hy
      rw [hn, hy] at c3
      exact clear_spec c3 (by simp)
    cases ex <;> cases ey <;> simp only [St.app, put_tl, put_nx] <;> exact put_swap st.tm hdd _ _ n
  · intro n
    have dis : ∀ n, wr ex (st.nx + i) n → ¬ wr ey (st.nx + j) n := by
      intro n h1 h2
      rcases gen_wr gx h1 with k1 | ⟨k1, k2⟩ <;> rcases gen_wr gy' h2 with k3 | ⟨k3, k4⟩
      · omega
      · rw [k1, haj] at k4; cases k4
      · rw [k3, hai] at k2; cases k2
      · rcases c4 with c4 | c4
        · rw [c4 n k2] at k4; cases k4
        · rw [k1, isW_isM k3] at c4; cases c4
    rw [app_mem, app_mem, app_nx, app_nx]
    have e1 : ∀ n, lk n (st.app i x.dst ex).mem = memF ex (st.nx + i) (fun n => lk n st.mem) n := fun n => app_mem _ _ _ _ _
    have e2 : ∀ n, lk n (st.app j y.dst ey).mem = memF ey (st.nx + j) (fun n => lk n st.mem) n := fun n => app_mem _ _ _ _ _
    by_cases h1 : wr ex (st.nx + i) n
    · rw [memF_out (dis n h1)]
      show lk n (st.app i x.dst ex).mem = _
      rw [e1]
      exact memF_in h1 _ _
    · rw [memF_out h1]
      show _ = lk n (st.app j y.dst ey).mem
      rw [e2]
      by_cases h2 : wr ey (st.nx + j) n
      · exact memF_in h2 _ _
      · rw [memF_out h2, memF_out h2]
        show lk n (st.app i x.dst ex).mem = _
        rw [e1, memF_out h1]
  · simp only [app_nx]

/-- Steps from states that are alike. -/
theorem step_alike {P : Program} {cx : Cx} {acc : Nat → Nat → Bool} {all : Array Oper} {p : Nat × Oper} {st st' s : St} (ha : Alike st st') (h : step1 P cx acc all p st = some s) : ∃ s', step1 P cx acc all p st' = some s' ∧ Alike s s' := by
  obtain ⟨i, o⟩ := p
  obtain ⟨hd, t, hs, hts⟩ := stp_of_step h
  obtain ⟨e, g, rfl⟩ := gen_of_stp hs
  have g' : Gen P cx acc all i o st' e := gen_congr (fun d _ => ha.tm d) (fun _ => by funext b; rw [ha.mem]) g
  obtain ⟨s', h1, h2⟩ := step_of_stp hd (stp_of_gen g')
  exact ⟨s', h1, hts.symm.trans ((app_alike ha _ _ _).trans h2)⟩

theorem run_alike {P : Program} {cx : Cx} {acc : Nat → Nat → Bool} {all : Array Oper} : (l : List (Nat × Oper)) → {st st' s : St} → Alike st st' → runOps P cx acc all none l st some = some s → ∃ s', runOps P cx acc all none l st' some = some s' ∧ Alike s s'
  | [], st, st', s, ha, h => by
    simp only [runOps, Option.some.injEq] at h
    subst h
    exact ⟨st', rfl, ha⟩
  | p :: l, st, st', s, ha, h => by
    rw [runOps_cons] at h
    obtain ⟨s1, h1, h2⟩ := Option.bind_eq_some_iff.1 h
    obtain ⟨s1', k1, k2⟩ := step_alike ha h1
    obtain ⟨s', k3, k4⟩ := run_alike l k2 h2
    exact ⟨s', by rw [runOps_cons, k1]; exact k3, k4⟩

/-- An operation that is independent of all ahead of it may come first. -/
theorem run_front {P : Program} {cx : Cx} {acc : Nat → Nat → Bool} {all : Array Oper} (x : Nat × Oper) (nx : Nat) (os : List (Option Nat)) (hos : ∀ i j, sepO (os.getD i none) (os.getD j none) = true → ∀ b, acc i b = true → acc j b = false) : (A B : List (Nat × Oper)) → (∀ a ∈ A, a.1 ≠ x.1 ∧ ind all os a x = true ∧ acc a.1 (nx + x.1) = false ∧ acc x.1 (nx + a.1) = false) →
    {st s : St} → st.nx = nx → runOps P cx acc all none (A ++ x :: B) st some = some s → ∃ s', runOps P cx acc all none (x :: (A ++ B)) st some = some s' ∧ Alike s s'
  | [], B, _, st, s, _, h => ⟨s, h, Alike.refl s⟩
  | a :: A, B, hA, st, s, hnx, h => by
    rw [List.cons_append, runOps_cons] at h
    obtain ⟨s1, h1, h2⟩ := Option.bind_eq_some_iff.1 h
    have hnx1 : s1.nx = nx := (step_nx h1).trans hnx
    obtain ⟨t, k1, k2⟩ := run_front x nx os hos A B (fun b hb => hA b (by simp [hb])) hnx1 h2
    rw [runOps_cons] at k1
    obtain ⟨s2, j1, j2⟩ := Option.bind_eq_some_iff.1 k1
    obtain ⟨q1, q2, q3, q4⟩ := hA a (by simp)
    obtain ⟨u1, u2, l1, l2, l3⟩ := step_swap (i := a.1) (j := x.1) q1 (hos a.1 x.1) q2 (by rw [hnx]; exact q3) (by rw [hnx]; exact q4) h1 j1
    obtain ⟨v, m1, m2⟩ := run_alike (A ++ B) l3 j2
    refine ⟨v, ?_, k2.trans m2⟩
    rw [runOps_cons]
    simp only [show step1 P cx acc all x st = some u1 from l1, Option.bind_some]
    rw [List.cons_append, runOps_cons]
    simp only [show step1 P cx acc all a u1 = some u2 from l2, Option.bind_some]
    exact m1

end Go.Vx
