/- The engine, part L: regions, in the text's order and in any order. -/
import Derived.Test.YtoionfdfofmplaaVxK
import Derived.Orders
set_option autoImplicit false
set_option linter.unusedVariables false
set_option linter.unusedSimpArgs false
namespace Go.Vx
open Go Go.RowKit

/-- One operation of a region, from state to state. -/
def step1 (P : Program) (cx : Cx) (acc : Nat → Nat → Bool) (all : Array Oper) (p : Nat × Oper) (st : St) : Option St :=
  runOps P cx acc all none [p] st some

theorem runOps_eq {R : Type} (P : Program) (cx : Cx) (acc : Nat → Nat → Bool) (all : Array Oper) (f : R) (i : Nat) (o : Oper) (rest : List (Nat × Oper)) (st : St) (K : St → R) :
    runOps P cx acc all f ((i, o) :: rest) st K = cond (dOK cx.nt o.dst)
      (match o.guard with
      | none => opK' P cx.Γ cx.ro o.op (evO cx.gl st.tm) (fun b => cond (acc i b) (lk b st.mem) none) f fun e => runOps P cx acc all f rest (st.app i o.dst e) K
      | some (j, want) => match (all[j]?).bind (·.dst) with
        | none => f
        | some d => match lk d st.tm with
          | some (.bool b) => match want with
            | true => cond b (opK' P cx.Γ cx.ro o.op (evO cx.gl (st.know d true).tm) (fun b => cond (acc i b) (lk b st.mem) none) f fun e => runOps P cx acc all f rest ((st.know d true).app i o.dst e) K)
                (runOps P cx acc all f rest ((st.know d false).put o.dst (.tup [])) K)
            | false => cond b (runOps P cx acc all f rest ((st.know d true).put o.dst (.tup [])) K)
                (opK' P cx.Γ cx.ro o.op (evO cx.gl (st.know d false).tm) (fun b => cond (acc i b) (lk b st.mem) none) f fun e => runOps P cx acc all f rest ((st.know d false).app i o.dst e) K)
          | some (.tup []) => runOps P cx acc all f rest (st.put o.dst (.tup [])) K
          | _ => f)
      f := rfl

theorem cond_bind {α β : Type} {b : Bool} {x y : Option β} {x' y' : Option α} {g : α → Option β} (hx : x = x'.bind g) (hy : y = y'.bind g) : cond b x y = (cond b x' y').bind g := by
  cases b <;> simp [hx, hy]

theorem runOps_cons (P : Program) (cx : Cx) (acc : Nat → Nat → Bool) (all : Array Oper) (p : Nat × Oper) (l : List (Nat × Oper)) (st : St) :
    runOps P cx acc all none (p :: l) st some = (step1 P cx acc all p st).bind fun s => runOps P cx acc all none l s some := by
  obtain ⟨i, o⟩ := p
  have one : ∀ (st : St) (ev : Operand → Option AV) (get : Nat → Option AV), opK' P cx.Γ cx.ro o.op ev get none (fun e => runOps P cx acc all none l (st.app i o.dst e) some) =
      (opK' P cx.Γ cx.ro o.op ev get none (fun e => runOps P cx acc all none [] (st.app i o.dst e) some)).bind fun s => runOps P cx acc all none l s some := by
    intro st ev get
    rw [opK'_par, opK'_par (R := Option St)]
    cases opK' P cx.Γ cx.ro o.op ev get none some <;> rfl
  unfold step1
  rw [runOps_eq, runOps_eq]
  cases dOK cx.nt o.dst
  · rfl
  · simp only [cond_true]
    split
    · exact one _ _ _
    · split
      · rfl
      · split
        · split
          · exact cond_bind (one _ _ _) rfl
          · exact cond_bind rfl (one _ _ _)
        · rfl
        · rfl

/-- Two states of which the same is known. -/
structure Alike (s s' : St) : Prop where
  tm : ∀ d, lk d s.tm = lk d s'.tm
  mem : ∀ b, lk b s.mem = lk b s'.mem
  nx : s.nx = s'.nx

theorem Alike.refl (s : St) : Alike s s := ⟨fun _ => rfl, fun _ => rfl, rfl⟩
theorem Alike.symm {s s' : St} (h : Alike s s') : Alike s' s := ⟨fun d => (h.tm d).symm, fun b => (h.mem b).symm, h.nx.symm⟩
theorem Alike.trans {a b c : St} (h : Alike a b) (k : Alike b c) : Alike a c := ⟨fun d => (h.tm d).trans (k.tm d), fun x => (h.mem x).trans (k.mem x), h.nx.trans k.nx⟩

theorem Sim.alike {P : Program} {w0 : Base} {ro : Nat} {ρ : Rho} {s s' : St} {tmps : Array Value} {w : World} (S : Sim P w0 ro ρ s.tm s.mem tmps w) (h : Alike s s') : Sim P w0 ro ρ s'.tm s'.mem tmps w :=
  ⟨fun d v hv => S.slot d v (by rw [h.tm]; exact hv), fun b T hT => S.cell b T (by rw [h.mem]; exact hT), fun b T nm hT => S.own b T nm (by rw [h.mem]; exact hT),
    fun b b' T T' nm nm' hT hT' => S.apart b b' T T' nm nm' (by rw [h.mem]; exact hT) (by rw [h.mem]; exact hT'), fun b T nm hT => S.rows b T nm (by rw [h.mem]; exact hT), S.below, S.ex.sub fun b T hT => by rw [h.mem]; exact hT⟩

theorem know_alike {st : St} {d : Nat} {b : Bool} (h : lk d st.tm = some (.bool b)) : Alike st (st.know d b) :=
  ⟨fun n => by
    by_cases hn : d = n
    · subst hn; rw [h]; exact (lk_cons_self _ _ _).symm
    · exact (lk_cons_ne hn _ _).symm, fun _ => rfl, rfl⟩

theorem know_tm {st : St} {d : Nat} {b : Bool} (h : lk d st.tm = some (.bool b)) (gl : Nat → Option AV) : evO gl (st.know d b).tm = evO gl st.tm := by
  funext x
  cases x with
  | tmp t => exact ((know_alike h).tm t).symm
  | _ => rfl

theorem app_nx (st : St) (i : Nat) (d : Option Nat) (e : Eff) : (st.app i d e).nx = st.nx := by cases e <;> simp [St.app, put_nx]

theorem put_alike {st st' : St} (ha : Alike st st') (d : Option Nat) (v : AV) : Alike (st.put d v) (st'.put d v) := by
  refine ⟨fun n => ?_, fun b => by rw [put_mem, put_mem]; exact ha.mem b, by rw [put_nx, put_nx]; exact ha.nx⟩
  rw [put_tm, put_tm]
  cases d with
  | none => exact ha.tm n
  | some d =>
    by_cases h1 : d = n
    · subst h1; rw [lk_cons_self, lk_cons_self]
    · rw [lk_cons_ne h1, lk_cons_ne h1]; exact ha.tm n

theorem app_alike {st st' : St} (ha : Alike st st') (i : Nat) (d : Option Nat) (e : Eff) : Alike (st.app i d e) (st'.app i d e) := by
  refine ⟨fun n => ?_, fun n => ?_, by rw [app_nx, app_nx]; exact ha.nx⟩
  · cases e <;> simp only [St.app] <;> first | exact (put_alike ha d _).tm n | (rw [ha.nx]; exact (put_alike ha d _).tm n)
  · cases e with
    | val v => simp only [St.app, put_mem]; exact ha.mem n
    | new ty row cap T g =>
      simp only [St.app, ha.nx]
      by_cases h1 : st'.nx + i = n
      · subst h1; rw [lk_cons_self, lk_cons_self]
      · rw [lk_cons_ne h1, lk_cons_ne h1]; exact ha.mem n
    | upd b T =>
      simp only [St.app]
      by_cases h1 : b = n
      · subst h1; rw [lk_cons_self, lk_cons_self]
      · rw [lk_cons_ne h1, lk_cons_ne h1]; exact ha.mem n
    | grow b T g =>
      simp only [St.app, ha.nx]
      by_cases h1 : st'.nx + i = n
      · subst h1; rw [lk_cons_self, lk_cons_self]
      · rw [lk_cons_ne h1, lk_cons_ne h1, lk_del_eq, lk_del_eq, ha.mem n]

/-- What a step is, told without continuations. -/
inductive Stp (P : Program) (cx : Cx) (acc : Nat → Nat → Bool) (all : Array Oper) (i : Nat) (o : Oper) (st : St) : St → Prop
  | act (e : Eff) : (o.guard = none ∨ ∃ j want d b, o.guard = some (j, want) ∧ (all[j]?).bind (·.dst) = some d ∧ lk d st.tm = some (.bool b) ∧ b = want) →
      opK' P cx.Γ cx.ro o.op (evO cx.gl st.tm) (fun b => cond (acc i b) (lk b st.mem) none) none some = some e → Stp P cx acc all i o st (st.app i o.dst e)
  | skip : (∃ j want d, o.guard = some (j, want) ∧ (all[j]?).bind (·.dst) = some d ∧ ((∃ b, lk d st.tm = some (.bool b) ∧ b ≠ want) ∨ lk d st.tm = some (.tup []))) → Stp P cx acc all i o st (st.put o.dst (.tup []))

theorem stp_of_step {P : Program} {cx : Cx} {acc : Nat → Nat → Bool} {all : Array Oper} {i : Nat} {o : Oper} {st s : St} (h : step1 P cx acc all (i, o) st = some s) :
    dOK cx.nt o.dst = true ∧ ∃ t, Stp P cx acc all i o st t ∧ Alike t s := by
  have one : ∀ (g : o.guard = none ∨ ∃ j want d b, o.guard = some (j, want) ∧ (all[j]?).bind (·.dst) = some d ∧ lk d st.tm = some (.bool b) ∧ b = want) (st' : St), Alike st st' →
      opK' P cx.Γ cx.ro o.op (evO cx.gl st.tm) (fun b => cond (acc i b) (lk b st.mem) none) none (fun e => some (st'.app i o.dst e)) = some s → ∃ t, Stp P cx acc all i o st t ∧ Alike t s := by
    intro g st' ha hh
    rw [opK'_par] at hh
    obtain ⟨e, h1, h2⟩ := mo_some hh
    simp only [Option.some.injEq] at h2
    subst h2
    exact ⟨_, .act e g h1, app_alike ha _ _ _⟩
  unfold step1 at h
  rw [runOps_eq] at h
  replace h := cond_some h
  obtain ⟨hd, h⟩ := h
  refine ⟨hd, ?_⟩
  simp only [runOps] at h
  split at h
  · rename_i hg
    exact one (.inl hg) st (Alike.refl st) h
  · rename_i j want hg
    split at h
    · simp at h
    · rename_i d hj
      split at h
      · rename_i b hb
        split at h
        · cases b
          · simp only [cond_false, Option.some.injEq] at h
            subst h
            exact ⟨_, .skip ⟨j, true, d, hg, hj, .inl ⟨false, hb, by simp⟩⟩, put_alike (know_alike hb) _ _⟩
          · rw [cond_true, know_tm hb] at h
            exact one (.inr ⟨j, true, d, true, hg, hj, hb, rfl⟩) _ (know_alike hb) h
        · cases b
          · rw [cond_false, know_tm hb] at h
            exact one (.inr ⟨j, false, d, false, hg, hj, hb, rfl⟩) _ (know_alike hb) h
          · simp only [cond_true, Option.some.injEq] at h
            subst h
            exact ⟨_, .skip ⟨j, false, d, hg, hj, .inl ⟨true, hb, by simp⟩⟩, put_alike (know_alike hb) _ _⟩
      · rename_i hb
        simp only [Option.some.injEq] at h
        subst h
        exact ⟨_, .skip ⟨j, want, d, hg, hj, .inr hb⟩, Alike.refl _⟩
      · simp at h

theorem step_of_stp {P : Program} {cx : Cx} {acc : Nat → Nat → Bool} {all : Array Oper} {i : Nat} {o : Oper} {st t : St} (hd : dOK cx.nt o.dst = true) (h : Stp P cx acc all i o st t) : ∃ s, step1 P cx acc all (i, o) st = some s ∧ Alike t s := by
  unfold step1
  rw [runOps_eq, hd]
  simp only [cond_true, runOps]
  cases h with
  | act e g h1 =>
    have h2 : ∀ st' : St, opK' P cx.Γ cx.ro o.op (evO cx.gl st.tm) (fun b => cond (acc i b) (lk b st.mem) none) none (fun e => some (st'.app i o.dst e)) = some (st'.app i o.dst e) := by
      intro st'
      rw [opK'_par, h1]; rfl
    rcases g with g | ⟨j, want, d, b, g, hj, hb, rfl⟩
    · rw [g]; exact ⟨_, h2 st, Alike.refl _⟩
    · rw [g]
      simp only [hj, hb]
      cases b
      · exact ⟨_, by rw [cond_false, know_tm hb]; exact h2 _, app_alike (know_alike hb) _ _ _⟩
      · exact ⟨_, by rw [cond_true, know_tm hb]; exact h2 _, app_alike (know_alike hb) _ _ _⟩
  | skip h =>
    obtain ⟨j, want, d, g, hj, hb⟩ := h
    rw [g]
    simp only [hj]
    rcases hb with ⟨b, hb, hne⟩ | hb
    · simp only [hb]
      cases b <;> cases want <;> simp at hne ⊢ <;> exact put_alike (know_alike hb) _ _
    · simp only [hb]
      exact ⟨_, rfl, Alike.refl _⟩

theorem stp_nx {P : Program} {cx : Cx} {acc : Nat → Nat → Bool} {all : Array Oper} {i : Nat} {o : Oper} {st s : St} (h : Stp P cx acc all i o st s) : s.nx = st.nx := by
  cases h with
  | act e => exact app_nx _ _ _ _
  | skip => exact put_nx _ _ _
theorem step_nx {P : Program} {cx : Cx} {acc : Nat → Nat → Bool} {all : Array Oper} {p : Nat × Oper} {st s : St} (h : step1 P cx acc all p st = some s) : s.nx = st.nx := by
  obtain ⟨-, t, h1, h2⟩ := stp_of_step (i := p.1) (o := p.2) h
  rw [← h2.nx, stp_nx h1]

/-- One operation of a region in the model. -/
theorem wpOp_sound {P : Program} {cx : Cx} {w0 : Base} (hΓ : ∀ g C, cx.Γ g = some C → SoundAt P w0.g g C) {acc : Nat → Nat → Bool} {all : Array Oper} {Q : Exit → Act → World → Prop} {i : Nat} {o : Oper} (hi : all[i]? = some o)
    {ρ : Rho} {st s : St} {a : Act} {w : World} (hnt : a.tmps.size = cx.nt) (S : Sim P w0 cx.ro ρ st.tm st.mem a.tmps w) (hgl : GL P ρ cx.gl) (hm : ρ (st.nx + i) = none) (h : step1 P cx acc all (i, o) st = some s) {K : Act → World → Prop}
    (hK : ∀ ρ' a' w', Sim P w0 cx.ro ρ' s.tm s.mem a'.tmps w' → a'.defers = a.defers → a'.tmps.size = cx.nt → Ext ρ ρ' → (∀ b, b ≠ st.nx + i → ρ' b = ρ b) → K a' w') : wpOp P all Q i K a w := by
  obtain ⟨hd, t, hs, hts⟩ := stp_of_step h
  have hd' := dOK_lt hd
  rw [← hnt] at hd'
  -- the slot of the guard's operation, read in the model
  have gslot : ∀ {d : Nat} {v : AV}, lk d st.tm = some v → a.tmps[d]? = some (den P ρ v) := by
    intro d v hv
    obtain ⟨h1, h2, -⟩ := S.slot d v hv
    rw [← h2, Array.getD_eq_getD_getElem?, Array.getElem?_eq_getElem h1]; rfl
  unfold wpOp
  rw [hi]
  cases hs with
  | act e g h1 =>
    have hw : Region.wanted o (yielded all a.tmps) = true := by
      unfold Region.wanted
      rcases g with g | ⟨j, want, d, b, g, hj, hb, rfl⟩
      · simp [g]
      · have hj' : (all[j]?.bind fun x => x.dst) = some d := hj
        simp [g, yielded, hj', gslot hb, den]
    simp only [hw, if_true]
    left
    refine op_sound S hgl hΓ (get := fun b => cond (acc i b) (lk b st.mem) none) (fun b T hb => (cond_some hb).2) (m := st.nx + i) (fun v ρ' w' hA => ?_) h1
    obtain ⟨k1, k2, k3⟩ := sim_app S hm hd' hA
    exact hK ρ' _ w' (k1.alike hts) (put_defers _ _ _) (by rw [put_size, hnt]) k2 k3
  | skip g =>
    obtain ⟨j, want, d, g, hj, hb⟩ := g
    have hj' : (all[j]?.bind fun x => x.dst) = some d := hj
    have hw : Region.wanted o (yielded all a.tmps) = false := by
      unfold Region.wanted
      rcases hb with ⟨b, hb, hne⟩ | hb
      · simp [g, yielded, hj', gslot hb, den, hne]
      · simp [g, yielded, hj', gslot hb, den, denT]
    simp only [hw, Bool.false_eq_true, if_false]
    refine hK ρ _ w (Sim.alike (s := st.put o.dst (.tup [])) ?_ hts) (put_defers _ _ _) (by rw [put_size, hnt]) (Ext.refl ρ) (fun _ _ => rfl)
    refine ⟨?_, ?_, ?_, ?_, ?_, S.below, by rw [put_mem]; exact S.ex⟩
    · rw [put_tm]
      exact put_slot S.slot (Ext.refl ρ) hd' (by simp [den, denT, undef]) (by simp [OK, OKL])
    · rw [put_mem]; exact S.cell
    · rw [put_mem]; exact S.own
    · rw [put_mem]; exact S.apart
    · rw [put_mem]; exact S.rows

theorem numbered_fst {α : Type} : (l : List α) → (i : Nat) → (numbered i l).map Prod.fst = List.range' i l.length
  | [], i => by simp [numbered]
  | a :: l, i => by simp [numbered, numbered_fst l (i + 1), List.range'_succ]
theorem numbered_mem {α : Type} : (l : List α) → (i : Nat) → ∀ p ∈ numbered i l, i ≤ p.1 ∧ l[p.1 - i]? = some p.2
  | [], i, p, h => by simp [numbered] at h
  | a :: l, i, p, h => by
    simp only [numbered, List.mem_cons] at h
    rcases h with rfl | h
    · simp
    · obtain ⟨h1, h2⟩ := numbered_mem l (i + 1) p h
      refine ⟨by omega, ?_⟩
      rw [show p.1 - i = (p.1 - (i + 1)) + 1 by omega, List.getElem?_cons_succ]
      exact h2

theorem numbered_ops (all : Array Oper) : ∀ p ∈ numbered 0 all.toList, all[p.1]? = some p.2 := by
  intro p hp
  obtain ⟨-, h⟩ := numbered_mem all.toList 0 p hp
  simpa using h

end Go.Vx
