/- The engine, part P: a piece of code; a whole function. -/
import Derived.Test.YtoionfdfofmplaaVxO3
import Derived.LoopN
import Derived.Scope
set_option autoImplicit false
set_option linter.unusedVariables false
set_option linter.unusedSimpArgs false
namespace Go.Vx
open Go Go.RowKit

def toExit : Ex → Exit
  | .normal => .normal
  | .exit id => .exit id
  | .ret => .ret
  | .goto l => .goto l

section
variable {P : Program} {a : Act} {w : World} {Q : Exit → Act → World → Prop}
/-- A scope in which labels ahead are gone to. -/
theorem wp_scope_goto {c : Code} (h : c.wp P (fun e a w => match e with
    | .goto l => ∃ rest, findLabel c l = some rest ∧ rest.wp P (Exit.noGoto Q) a w
    | e => Q e a w) a w) : (Code.scope c).wp P Q a w := by
  intro b k cs
  obtain ⟨e, a₁, w₁, hq, harr⟩ := h b (.inScope c :: k) cs
  cases e with
  | normal => exact ⟨.normal, a₁, w₁, hq, .head step_scope (Steps.trans harr (.one step_inScope))⟩
  | exit id => exact ⟨.exit id, a₁, w₁, hq, fun k' hk => .head step_scope (harr k' (by simp [exitTo, hk]))⟩
  | goto l =>
    obtain ⟨rest, hf, hr⟩ := hq
    have h1 := harr (.code rest :: .inScope c :: k) (by simp [gotoIn, hf])
    obtain ⟨e, a₂, w₂, hq, harr2⟩ := hr b (.inScope c :: k) cs
    cases e with
    | normal => exact ⟨.normal, a₂, w₂, hq, .head step_scope (h1.trans (Steps.trans harr2 (.one step_inScope)))⟩
    | exit id => exact ⟨.exit id, a₂, w₂, hq, fun k' hk => .head step_scope (h1.trans (harr2 k' (by simp [exitTo, hk])))⟩
    | goto l => exact hq.elim
    | ret => exact ⟨_, a₂, w₂, hq, .of_steps (.one step_scope) (.of_steps h1 harr2)⟩
    | panic ch => exact ⟨_, a₂, w₂, hq, .of_steps (.one step_scope) (.of_steps h1 harr2)⟩
    | outgrown => exact ⟨.outgrown, a₂, w₂, hq, Arrives.of_steps (b := b) (k := k) (cs := cs) (e := .outgrown) (a := a₂) (w := w₂) (.one step_scope) (Arrives.of_steps (b := b) (k := k) (cs := cs) (e := .outgrown) (a := a₂) (w := w₂) h1 harr2)⟩
  | ret => exact ⟨_, a₁, w₁, hq, .of_steps (.one step_scope) harr⟩
  | panic ch => exact ⟨_, a₁, w₁, hq, .of_steps (.one step_scope) harr⟩
  | outgrown => exact ⟨.outgrown, a₁, w₁, hq, Arrives.of_steps (b := b) (k := k) (cs := cs) (e := .outgrown) (a := a₁) (w := w₁) (.one step_scope) harr⟩
end

/-- What is known when a piece of code begins. -/
structure In (P : Program) (cx : Cx) (w0 : Base) (ρ : Rho) (st : St) (a : Act) (w : World) : Prop where
  sim : Sim P w0 cx.ro ρ st.tm st.mem a.tmps w
  fresh : ∀ b, st.nx ≤ b → ρ b = none
  nt : a.tmps.size = cx.nt
  gl : GL P ρ cx.gl
  df : a.defers = []

/-- What is known when it has ended. -/
def Post (P : Program) (cx : Cx) (w0 : Base) (e : Ex) (st : St) : Exit → Act → World → Prop := fun ex a w => toExit e = ex ∧ ∃ ρ, In P cx w0 ρ st a w

/-- What is known when it has ended, and of the names. -/
def PostX (P : Program) (cx : Cx) (w0 : Base) (X : Rho → Prop) (e : Ex) (st : St) : Exit → Act → World → Prop := fun ex a w => toExit e = ex ∧ ∃ ρ, X ρ ∧ In P cx w0 ρ st a w

/-- These names stand for what they stood for. -/
def Kp (K : List Nat) (ρk ρ : Rho) : Prop := ∀ b ∈ K, ∀ nm, ρk b = some nm → ρ b = some nm
theorem Kp.ext {K : List Nat} {ρk ρ ρ' : Rho} (h : Kp K ρk ρ) (e : Ext ρ ρ') : Kp K ρk ρ' := fun b hb nm hn => e b nm (h b hb nm hn)
theorem Kp.same {K : List Nat} {ρk ρ ρ' : Rho} (h : Kp K ρk ρ) (e : ∀ b ∈ K, ρ' b = ρ b) : Kp K ρk ρ' := fun b hb nm hn => (e b hb).trans (h b hb nm hn)

/-- A loop was reckoned rightly; what is known of the names stays known. -/
def LoopOKX (P : Program) (cx : Cx) (w0 : Base) (X : Rho → Prop) (id : Nat) (body : Code) (L : Lf) : Prop :=
  ∀ st e st', (L st).run none some = some (e, st') → ∀ ρ a w, X ρ → In P cx w0 ρ st a w → (Code.block id body).wp P (PostX P cx w0 X e st') a w
abbrev LoopOK (P : Program) (cx : Cx) (w0 : Base) (id : Nat) (body : Code) (L : Lf) : Prop := LoopOKX P cx w0 (fun _ => True) id body L

/-- All the loops of a piece of code that were reckoned apart. -/
def LoopsOKX (P : Program) (cx : Cx) (w0 : Base) (X : Rho → Prop) (Λ : Nat → Option Lf) : Code → Prop
  | .seq a b => LoopsOKX P cx w0 X Λ a ∧ LoopsOKX P cx w0 X Λ b
  | .cond _ a b => LoopsOKX P cx w0 X Λ a ∧ LoopsOKX P cx w0 X Λ b
  | .block id body => match Λ id with
    | some L => LoopOKX P cx w0 X id body L
    | none => LoopsOKX P cx w0 X Λ body
  | .loop body => LoopsOKX P cx w0 X Λ body
  | .scope body => LoopsOKX P cx w0 X Λ body
  | _ => True
abbrev LoopsOK (P : Program) (cx : Cx) (w0 : Base) (Λ : Nat → Option Lf) (c : Code) : Prop := LoopsOKX P cx w0 (fun _ => True) Λ c

theorem loopsOK_no {P : Program} {cx : Cx} {w : Base} {X : Rho → Prop} : (c : Code) → LoopsOKX P cx w X (fun _ => none) c
  | .seq a b => ⟨loopsOK_no a, loopsOK_no b⟩
  | .cond _ a b => ⟨loopsOK_no a, loopsOK_no b⟩
  | .block _ b => by simp only [LoopsOKX]; exact loopsOK_no b
  | .loop b => by simp only [LoopsOKX]; exact loopsOK_no b
  | .scope b => by simp only [LoopsOKX]; exact loopsOK_no b
  | .skip => trivial
  | .region _ _ _ => trivial
  | .rangeFunc _ _ _ _ => trivial
  | .exit _ => trivial
  | .label _ => trivial
  | .goto _ => trivial
  | .ret => trivial
  | .refuse _ => trivial

/-- A function is run in place as it runs in the model. -/
def InlOK (P : Program) (cx : Cx) (w0 : Base) (g : FuncId) (I : Inl) : Prop :=
  ∀ (vs : List AV) (mem : List (Nat × AV)) (nx : Nat) (v : AV) (mem' : List (Nat × AV)) (nx' : Nat), I.run none vs mem nx (fun v m n => some (v, m, n)) = some (v, mem', nx') →
    ∀ ρ w, Sim P w0 cx.ro ρ [] mem #[] w → GL P ρ cx.gl → (∀ b, nx ≤ b → ρ b = none) → OKL P ρ vs →
      (callFunc g (denT P ρ vs).toArray).run P w = .ok (.enter g (denT P ρ vs).toArray) w ∧
      Calls P g (denT P ρ vs).toArray w fun e w' => ∃ a ρ', e = .returned a ∧ a = den P ρ' v ∧ OK P ρ' v ∧ Sim P w0 cx.ro ρ' [] mem' #[] w' ∧ Ext ρ ρ' ∧ (∀ b, nx' ≤ b → ρ' b = none)

theorem inlAt_spec {cx : Cx} {o : Oper} {st : St} {I : Inl} {vs : List AV} (h : inlAt cx o st = some (I, vs)) : ∃ c fo g, o.op = .call c ∧ c.callee = .value fo ∧ evO cx.gl st.tm fo = some (.clo g []) ∧ cx.inl g = some I ∧ evL (evO cx.gl st.tm) c.args.toList = some vs := by
  unfold inlAt at h
  split at h
  · rename_i c hc
    split at h
    · rename_i fo hfo
      split at h
      · rename_i g hg
        split at h
        · rename_i I' hI
          split at h
          · rename_i vs' hvs
            simp only [Option.some.injEq, Prod.mk.injEq] at h
            obtain ⟨rfl, rfl⟩ := h
            exact ⟨c, fo, g, hc, hfo, hg, hI, hvs⟩
          · simp at h
        · simp at h
      · simp at h
    · simp at h
  · simp at h

/-- A call that is run in place. -/
theorem inl_op {P : Program} {cx : Cx} {w0 : Base} (hI : ∀ g I, cx.inl g = some I → InlOK P cx w0 g I) {all : Array Oper} {Q : Exit → Act → World → Prop} {i : Nat} {o : Oper} (hi : all[i]? = some o)
    {ρ : Rho} {st : St} {a : Act} {w : World} (hnt : a.tmps.size = cx.nt) (S : Sim P w0 cx.ro ρ st.tm st.mem a.tmps w) (hgl : GL P ρ cx.gl) {nx : Nat} (hfr : ∀ b, nx ≤ b → ρ b = none)
    {I : Inl} {vs : List AV} (hat : inlAt cx o st = some (I, vs)) (hd : dOK cx.nt o.dst = true) (hw : Region.wanted o (yielded all a.tmps) = true) {v : AV} {mem' : List (Nat × AV)} {nx' : Nat} (hr : I.run none vs st.mem nx (fun v m n => some (v, m, n)) = some (v, mem', nx')) {K : Act → World → Prop}
    (hK : ∀ ρ' a' w', Sim P w0 cx.ro ρ' (st.put o.dst v).tm mem' a'.tmps w' → a'.defers = a.defers → a'.tmps.size = cx.nt → Ext ρ ρ' → (∀ b, nx' ≤ b → ρ' b = none) → K a' w') : wpOp P all Q i K a w := by
  obtain ⟨c, fo, g, ho, hcal, hf, hg, hvs⟩ := inlAt_spec hat
  have hd' := dOK_lt hd
  rw [← hnt] at hd'
  obtain ⟨h1, -⟩ := ev_sound S hgl hf
  simp only [den, denT] at h1
  obtain ⟨h2, h3⟩ := evL_sound S hgl hvs
  have S0 : Sim P w0 cx.ro ρ [] st.mem #[] w := ⟨fun d v h => by simp [lk] at h, S.cell, S.own, S.apart, S.rows, S.below, S.ex⟩
  obtain ⟨hcf, hcalls⟩ := hI g I hg vs st.mem nx v mem' nx' hr ρ w S0 hgl hfr h3
  have hargs : c.args.map a.eval = (denT P ρ vs).toArray := by
    rw [← Array.toArray_toList (xs := c.args.map a.eval), Array.toList_map, h2]
  have hrun : (execOp a.eval o).run P w = .ok (.enter g (denT P ρ vs).toArray) w := by
    simp [execOp, ho, resolve, hcal, h1, Deferred.ofValue, invoke, hargs, hcf]
  unfold wpOp
  rw [hi]
  simp only [hw, if_true]
  left
  unfold Oper.wp
  rw [hrun, Oper.upon_enter]
  refine hcalls.mono ?_
  rintro e' w' ⟨a', ρ', rfl, rfl, hv, S', hE, hfr'⟩
  refine hK ρ' _ w' ⟨?_, S'.cell, S'.own, S'.apart, S'.rows, S'.below, S'.ex⟩ (put_defers _ _ _) (by rw [put_size, hnt]) hE hfr'
  rw [put_tm]
  exact put_slot S.slot hE hd' rfl hv

theorem runOps_nx {P : Program} {cx : Cx} {acc : Nat → Nat → Bool} {all : Array Oper} : (l : List (Nat × Oper)) → {st s : St} → runOps P cx acc all none l st some = some s → s.nx = st.nx
  | [], st, s, h => by simp only [runOps, Option.some.injEq] at h; rw [h]
  | (i, o) :: l, st, s, h => by
    rw [runOps_cons] at h
    obtain ⟨s1, h1, h2⟩ := Option.bind_eq_some_iff.1 h
    rw [runOps_nx l h2, step_nx h1]

theorem Sim.drew {P : Program} {w0 : Base} {ro : Nat} {ρ : Rho} {tm mem : List (Nat × AV)} {tmps : Array Value} {w : World} (S : Sim P w0 ro ρ tm mem tmps w) : Sim P w0 ro ρ tm mem tmps { w with drawn := w.drawn + 1 } :=
  ⟨S.slot, S.cell, S.own, S.apart, S.rows, ⟨S.below.os, S.below.tape, S.below.output, S.below.size, S.below.block⟩, S.ex.cast rfl⟩

/-- An operation that is told by itself. -/
theorem w_op {P : Program} {cx : Cx} {w0 : Base} {all : Array Oper} {Q : Exit → Act → World → Prop} {i : Nat} {o : Oper} (hi : all[i]? = some o)
    {ρ : Rho} {st : St} {a : Act} {w : World} (hnt : a.tmps.size = cx.nt) (S : Sim P w0 cx.ro ρ st.tm st.mem a.tmps w) (hgl : GL P ρ cx.gl) {nx : Nat} (hfr : ∀ b, nx ≤ b → ρ b = none)
    {I : Inl} (hW : OpW P cx w0 o st I) (hd : dOK cx.nt o.dst = true) (hw : Region.wanted o (yielded all a.tmps) = true) {v : AV} {mem' : List (Nat × AV)} {nx' : Nat} (hr : I.run none [] st.mem nx (fun v m n => some (v, m, n)) = some (v, mem', nx')) {K : Act → World → Prop}
    (hK : ∀ ρ' a' w', Sim P w0 cx.ro ρ' (st.put o.dst v).tm mem' a'.tmps w' → a'.defers = a.defers → a'.tmps.size = cx.nt → Ext ρ ρ' → (∀ b, nx' ≤ b → ρ' b = none) → K a' w') : wpOp P all Q i K a w := by
  have hd' := dOK_lt hd
  rw [← hnt] at hd'
  obtain ⟨w', ρ', hrun, hv, S', hE, hfr'⟩ := hW nx v mem' nx' hr ρ a w S hgl hfr
  unfold wpOp
  rw [hi]
  simp only [hw, if_true]
  left
  refine one_put hrun ?_
  refine hK ρ' _ w' ⟨?_, S'.cell, S'.own, S'.apart, S'.rows, S'.below, S'.ex⟩ (put_defers _ _ _) (by rw [put_size, hnt]) hE hfr'
  rw [put_tm]
  exact put_slot S.slot hE hd' rfl hv

/-- Such a call or operation, where its guard lets it; or left out. -/
theorem stepI_sound {P : Program} {cx : Cx} {w0 : Base} {all : Array Oper} {Q : Exit → Act → World → Prop} {i : Nat} {o : Oper} (hi : all[i]? = some o)
    {ρ : Rho} {st s : St} {a : Act} {w : World} (hnt : a.tmps.size = cx.nt) (S : Sim P w0 cx.ro ρ st.tm st.mem a.tmps w) (hgl : GL P ρ cx.gl) (hfr : ∀ b, st.nx + all.size ≤ b → ρ b = none)
    {I : Inl} {vs : List AV} (hact : ∀ {v : AV} {mem' : List (Nat × AV)} {nx' : Nat}, Region.wanted o (yielded all a.tmps) = true → I.run none vs st.mem (st.nx + all.size) (fun v m n => some (v, m, n)) = some (v, mem', nx') → ∀ {K : Act → World → Prop}, (∀ ρ' a' w', Sim P w0 cx.ro ρ' (st.put o.dst v).tm mem' a'.tmps w' → a'.defers = a.defers → a'.tmps.size = cx.nt → Ext ρ ρ' → (∀ b, nx' ≤ b → ρ' b = none) → K a' w') → wpOp P all Q i K a w)
    (hd : dOK cx.nt o.dst = true) (h : stepI all none o I vs st some = some s) {K : Act → World → Prop}
    (hK : ∀ ρ' a' w', Sim P w0 cx.ro ρ' s.tm s.mem a'.tmps w' → a'.defers = a.defers → a'.tmps.size = cx.nt → Ext ρ ρ' → (∀ b, s.nx + all.size ≤ b → ρ' b = none) → (∀ k, ρ (st.nx + k) = none → ρ' (s.nx + k) = none) → K a' w') : wpOp P all Q i K a w := by
  have gslot : ∀ {d : Nat} {v : AV}, lk d st.tm = some v → a.tmps[d]? = some (den P ρ v) := by
    intro d v hv
    obtain ⟨h1, h2, -⟩ := S.slot d v hv
    rw [← h2, Array.getD_eq_getD_getElem?, Array.getElem?_eq_getElem h1]; rfl
  have act : ∀ (st' : St), Alike st st' → Region.wanted o (yielded all a.tmps) = true → (I.run none vs st.mem (st.nx + all.size) fun v mem nx => some ({ st'.put o.dst v with mem := mem, nx := nx } : St)) = some s → wpOp P all Q i K a w := by
    intro st' ha hw hr
    rw [I.par] at hr
    obtain ⟨⟨v, mem', nx'⟩, h1, h2⟩ := mo_some hr
    simp only [Option.some.injEq] at h2
    subst h2
    refine hact hw h1 (fun ρ1 a1 w1 S1 hd1 hs1 he1 hf1 => ?_)
    refine hK ρ1 a1 w1 ⟨fun d v hv => S1.slot d v ?_, S1.cell, S1.own, S1.apart, S1.rows, S1.below, S1.ex⟩ hd1 hs1 he1 (fun b hb => hf1 b (by simp only at hb; omega)) (fun k _ => hf1 _ (Nat.le_add_right _ _))
    rw [(put_alike ha o.dst _).tm d]
    exact hv
  have skip : ∀ (st' : St), Alike st st' → Region.wanted o (yielded all a.tmps) = false → st'.put o.dst (.tup []) = s → wpOp P all Q i K a w := by
    intro st' ha hw hs
    subst hs
    have hd' := dOK_lt hd
    rw [← hnt] at hd'
    unfold wpOp
    rw [hi]
    simp only [hw, Bool.false_eq_true, if_false]
    refine hK ρ _ w (Sim.alike (s := st.put o.dst (.tup [])) ?_ (put_alike ha _ _)) (put_defers _ _ _) (by rw [put_size, hnt]) (Ext.refl ρ) (fun b hb => hfr b (by rw [put_nx, ← ha.nx] at hb; exact hb)) (fun k hk => by rw [put_nx, ← ha.nx]; exact hk)
    refine ⟨?_, ?_, ?_, ?_, ?_, S.below, by rw [put_mem]; exact S.ex⟩
    · rw [put_tm]
      exact put_slot S.slot (Ext.refl ρ) hd' (by simp [den, denT, undef]) (by simp [OK, OKL])
    · rw [put_mem]; exact S.cell
    · rw [put_mem]; exact S.own
    · rw [put_mem]; exact S.apart
    · rw [put_mem]; exact S.rows
  unfold stepI at h
  split at h
  · rename_i hg
    exact act st (Alike.refl st) (by simp [Region.wanted, hg]) h
  · rename_i j want hg
    split at h
    · simp at h
    · rename_i d hj
      have hj' : (all[j]?.bind fun x => x.dst) = some d := hj
      split at h
      · rename_i b hb
        split at h
        · cases b
          · rw [cond_false] at h
            exact skip _ (know_alike hb) (by simp [Region.wanted, hg, yielded, hj', gslot hb, den]) (Option.some.inj h)
          · rw [cond_true] at h
            exact act _ (know_alike hb) (by simp [Region.wanted, hg, yielded, hj', gslot hb, den]) h
        · cases b
          · rw [cond_false] at h
            exact act _ (know_alike hb) (by simp [Region.wanted, hg, yielded, hj', gslot hb, den]) h
          · rw [cond_true] at h
            exact skip _ (know_alike hb) (by simp [Region.wanted, hg, yielded, hj', gslot hb, den]) (Option.some.inj h)
      · rename_i hb
        exact skip _ (Alike.refl st) (by simp [Region.wanted, hg, yielded, hj', gslot hb, den, denT]) (Option.some.inj h)
      · simp at h

/-- The slots of a row that was frozen. -/
theorem lk_swapS {b : Nat} {te : TypeId} {u : AV} {d : Nat} {v' : AV} : {tm : List (Nat × AV)} → lk d (swapS b te u tm) = some v' → ∃ v, lk d tm = some v ∧ (v' = v ∨ ∃ n, v = .gs b n te ∧ v' = u)
  | [], h => by simp [swapS, lk] at h
  | (d1, v1) :: r, h => by
    rw [swapS, lk] at h
    rw [lk]
    cases hq : Nat.beq d1 d with
    | false =>
      rw [hq] at h
      exact lk_swapS h
    | true =>
      rw [hq] at h
      simp only [cond_true, Option.some.injEq] at h ⊢
      refine ⟨v1, rfl, ?_⟩
      subst h
      cases v1 <;> try exact .inl rfl
      rename_i b1 n1 te1
      simp only [swapV]
      cases hc : (Nat.beq b b1 && Nat.beq te te1) with
      | false => exact .inl rfl
      | true =>
        simp only [Bool.and_eq_true] at hc
        rw [beq_eq hc.1, beq_eq hc.2]
        exact .inr ⟨n1, rfl, rfl⟩

theorem runI_sound {P : Program} {cx : Cx} {w0 : Base} (hΓ : ∀ g C, cx.Γ g = some C → SoundAt P w0.g g C) (hI : ∀ g I, cx.inl g = some I → InlOK P cx w0 g I) {all : Array Oper} {Q : Exit → Act → World → Prop} :
    (l : List (Nat × Oper)) → (∀ p ∈ l, all[p.1]? = some p.2) → (l.map Prod.fst).Nodup → {ρ : Rho} → {st s : St} → {a : Act} → {w : World} → a.tmps.size = cx.nt → Sim P w0 cx.ro ρ st.tm st.mem a.tmps w → GL P ρ cx.gl →
    (∀ p ∈ l, ρ (st.nx + p.1) = none) → (∀ b, st.nx + all.size ≤ b → ρ b = none) → runI P cx all none l st some = some s →
    (∀ ρ' a' w', Sim P w0 cx.ro ρ' s.tm s.mem a'.tmps w' → a'.defers = a.defers → a'.tmps.size = cx.nt → Ext ρ ρ' → (∀ b, s.nx + all.size ≤ b → ρ' b = none) → Q .normal a' w') →
    wpOps P all Q (l.map Prod.fst) a w
  | [], _, _, ρ, st, s, a, w, hnt, S, _, _, hf, h, hK => by
    simp only [runI, Option.some.injEq] at h
    subst h
    exact hK ρ a w S rfl hnt (Ext.refl ρ) hf
  | (i, o) :: l, hl, hnd, ρ, st, s, a, w, hnt, S, hgl, hm, hf, h, hK => by
    simp only [List.map_cons, List.nodup_cons] at hnd
    rw [List.map_cons, wpOps_cons]
    have hio : all[i]? = some o := hl (i, o) (by simp)
    have hisz : i < all.size := by
      rcases Nat.lt_or_ge i all.size with h | h
      · exact h
      · simp [Array.getElem?_eq_none h] at hio
    unfold runI at h
    split at h
    · rename_i J vs hat
      obtain ⟨hd, h⟩ := cond_some h
      rw [stepI_par] at h
      obtain ⟨s1, h1, h2⟩ := mo_some h
      refine stepI_sound hio hnt S hgl hf (fun {_ _ _} hw hr {K} hK => inl_op hI hio hnt S hgl hf hat hd hw hr hK) hd h1 (fun ρ1 a1 w1 S1 hd1 hs1 he1 hf1 hk1 => ?_)
      refine runI_sound hΓ hI l (fun p hp => hl p (by simp [hp])) hnd.2 hs1 S1 (hgl.ext he1) (fun p hp => hk1 _ (hm p (by simp [hp]))) (fun b hb => hf1 b hb) h2 (fun ρ2 a2 w2 S2 hd2 hs2 he2 hf2 => ?_)
      exact hK ρ2 a2 w2 S2 (hd2.trans hd1) hs2 (he1.trans he2) hf2
    split at h
    · rename_i J hat
      obtain ⟨hd, h⟩ := cond_some h
      rw [stepI_par] at h
      obtain ⟨s1, h1, h2⟩ := mo_some h
      refine stepI_sound hio hnt S hgl hf (fun {_ _ _} hw hr {K} hK => w_op hio hnt S hgl hf (wAt_ok hat) hd hw hr hK) hd h1 (fun ρ1 a1 w1 S1 hd1 hs1 he1 hf1 hk1 => ?_)
      refine runI_sound hΓ hI l (fun p hp => hl p (by simp [hp])) hnd.2 hs1 S1 (hgl.ext he1) (fun p hp => hk1 _ (hm p (by simp [hp]))) (fun b hb => hf1 b hb) h2 (fun ρ2 a2 w2 S2 hd2 hs2 he2 hf2 => ?_)
      exact hK ρ2 a2 w2 S2 (hd2.trans hd1) hs2 (he1.trans he2) hf2
    split at h
    · rename_i b te d y hat
      replace h := cond_some h
      obtain ⟨hd, h⟩ := h
      rw [Inl.par] at h
      obtain ⟨⟨v, mem', nx'⟩, h1, h2⟩ := mo_some h
      obtain ⟨hgd, hW⟩ := keep_ok hat
      have hd' := dOK_lt hd
      rw [← hnt] at hd'
      obtain ⟨w', ρ', hrun, hv, S', hE, hfr', hsw⟩ := hW (st.nx + all.size) v mem' nx' h1 ρ a w S hgl hf
      have hwt : Region.wanted o (yielded all a.tmps) = true := by simp [Region.wanted, hgd]
      unfold wpOp
      rw [hio]
      simp only [hwt, if_true]
      left
      refine one_put hrun ?_
      have hslot : ∀ d1 v1, lk d1 (st.put o.dst v).tm = some v1 → d1 < (a.put o.dst (den P ρ' v)).tmps.size ∧ (a.put o.dst (den P ρ' v)).tmps.getD d1 undef = den P ρ' v1 ∧ OK P ρ' v1 := by
        rw [put_tm]
        exact put_slot S.slot hE hd' rfl hv
      refine runI_sound hΓ hI l (fun p hp => hl p (by simp [hp])) hnd.2 (by rw [put_size, hnt]) ⟨fun d1 v1 h1 => ?_, S'.cell, S'.own, S'.apart, S'.rows, S'.below, S'.ex⟩ (hgl.ext hE) (fun p hp => hfr' _ (Nat.le_add_right _ _)) (fun b hb => hfr' b (by simp only at hb; omega)) h2 (fun ρ2 a2 w2 S2 hd2 hs2 he2 hf2 => ?_)
      · obtain ⟨v0, q1, q2⟩ := lk_swapS h1
        obtain ⟨z1, z2, z3⟩ := hslot d1 v0 q1
        rcases q2 with rfl | ⟨n, rfl, rfl⟩
        · exact ⟨z1, z2, z3⟩
        · obtain ⟨y1, y2⟩ := hsw n z3
          exact ⟨z1, by rw [y2]; exact z2, y1⟩
      · exact hK ρ2 a2 w2 S2 (hd2.trans (put_defers _ _ _)) hs2 (hE.trans he2) hf2
    · rw [runOps_par] at h
      obtain ⟨s1, h1, h2⟩ := mo_some h
      have hnx : s1.nx = st.nx := step_nx h1
      refine wpOp_sound hΓ hio hnt S hgl (hm (i, o) (by simp)) h1 (fun ρ1 a1 w1 S1 hd1 hs1 he1 hr1 => ?_)
      refine runI_sound hΓ hI l (fun p hp => hl p (by simp [hp])) hnd.2 hs1 S1 (hgl.ext he1) (fun p hp => ?_) (fun b hb => ?_) h2 (fun ρ2 a2 w2 S2 hd2 hs2 he2 hf2 => ?_)
      · rw [hnx, hr1]
        · exact hm p (by simp [hp])
        · intro hh
          have : p.1 = i := by omega
          exact hnd.1 (this ▸ List.mem_map_of_mem hp)
      · rw [hr1 b (by rw [hnx] at hb; omega)]
        exact hf b (by rw [hnx] at hb; exact hb)
      · exact hK ρ2 a2 w2 S2 (hd2.trans hd1) hs2 (he1.trans he2) hf2

theorem PostX.post {P : Program} {cx : Cx} {w0 : Base} {X : Rho → Prop} {e : Ex} {st : St} {ex : Exit} {a : Act} {w : World} (h : PostX P cx w0 X e st ex a w) : Post P cx w0 e st ex a w := ⟨h.1, h.2.choose, h.2.choose_spec.2⟩

theorem region_plain {P : Program} {cx : Cx} {w0 : Base} (hΓ : ∀ g C, cx.Γ g = some C → SoundAt P w0.g g C) (hI : ∀ g I, cx.inl g = some I → InlOK P cx w0 g I) {X : Rho → Prop} (hX : ∀ ρ ρ', X ρ → Ext ρ ρ' → X ρ') {id : Nat} {ops : Array Oper} {st s : St} {ρ : Rho} {a : Act} {w : World} (x : X ρ) (I : In P cx w0 ρ st a w)
    (h : runI P cx ops none (numbered 0 ops.toList) st some = some s) : (Code.region id ops false).wp P (PostX P cx w0 X .normal { s with nx := s.nx + ops.size }) a w := by
  refine wp_region ?_
  have hl : (numbered 0 ops.toList).map Prod.fst = List.range ops.size := by rw [numbered_fst]; simp [List.range_eq_range']
  rw [← hl]
  refine runI_sound hΓ hI _ (numbered_ops ops) (by rw [hl]; exact List.nodup_range) I.nt I.sim I.gl (fun p _ => I.fresh _ (by omega)) (fun b hb => I.fresh b (by omega)) h (fun ρ' a' w' S' hd hs he hr => ?_)
  exact ⟨rfl, ρ', hX _ _ x he, S', hr, hs, I.gl.ext he, hd.trans I.df⟩

theorem region_draw {P : Program} {cx : Cx} {w0 : Base} (hΓ : ∀ g C, cx.Γ g = some C → SoundAt P w0.g g C) {X : Rho → Prop} (hX : ∀ ρ ρ', X ρ → Ext ρ ρ' → X ρ') {id : Nat} {ops : Array Oper} {st s : St} (hd : (P.follows .mixedOrders && drawOK ops (owns st.nx st.tm st.mem ops.toList)) = true) {ρ : Rho} {a : Act} {w : World} (x : X ρ) (I : In P cx w0 ρ st a w)
    (h : runOps P cx (accD st.nx (masks ops.toList []) (owns st.nx st.tm st.mem ops.toList)) ops none (numbered 0 ops.toList) st some = some s) : (Code.region id ops true).wp P (PostX P cx w0 X .normal { s with nx := s.nx + ops.size }) a w := by
  refine wp_region_draw fun t => ?_
  simp only [drawOK, Bool.and_eq_true] at hd
  obtain ⟨hmx, hE, hL⟩ := hd
  have htodo : todo ops (Array.replicate ops.size false) = numbered 0 ops.toList := by
    unfold todo
    refine List.filter_eq_self.2 fun p hp => ?_
    have h1 := (numbered_mem ops.toList 0 p hp).2
    have : p.1 < ops.size := by
      rcases Nat.lt_or_ge p.1 ops.toList.length with h | h
      · simpa using h
      · simp [List.getElem?_eq_none h] at h1
    simp [Array.getD_eq_getD_getElem?, this]
  have hnx := runOps_nx _ h
  simp only [Region.schedule, hmx, Bool.true_or, if_true]
  refine wpAny_sound ops.size t _ a _ ?_
  refine draw_any hΓ hE hL (nx := st.nx) (s := s) ops.size _ (by simp) ?_ ?_ rfl I.nt I.sim.drew I.gl (fun p _ => I.fresh _ (by omega)) ⟨s, by rw [htodo]; exact h, Alike.refl s⟩ ?_
  · intro i hi
    simp [Array.getD_eq_getD_getElem?] at hi
    rcases Nat.lt_or_ge i ops.size with h | h
    · simp [h] at hi
    · simp [Array.getElem?_eq_none (show (Array.replicate ops.size false).size ≤ i by simpa using h)] at hi
  · rw [htodo]
    have := congrArg List.length (numbered_fst ops.toList 0)
    simpa using this
  · intro ρ' a' w' S' hd hs he hr
    refine ⟨rfl, ρ', hX _ _ x he, S', fun b hb => ?_, hs, I.gl.ext he, hd.trans I.df⟩
    simp only at hb
    rw [hr b (fun p hp hh => by
      rw [htodo] at hp
      have := (numbered_mem ops.toList 0 p hp).2
      rcases Nat.lt_or_ge p.1 ops.toList.length with h1 | h1
      · simp at h1; omega
      · simp [List.getElem?_eq_none h1] at this)]
    exact I.fresh b (by omega)

theorem exec_pair {R : Type} (P : Program) (cx : Cx) (Λ : Nat → Option Lf) (n : Nat) (c : Code) (f : R) (st : St) (K : Ex → St → R) :
    exec P cx Λ n f c st K = mo (exec P cx Λ n none c st fun e s => some (e, s)) f fun r => K r.1 r.2 := exec_par P cx Λ n c f st K
theorem execL_pair {R : Type} (P : Program) (cx : Cx) (Λ : Nat → Option Lf) (n : Nat) (c : Code) (l : Nat) (f : R) (st : St) (K : Ex → St → R) :
    execL P cx Λ n f c l st K = mo (execL P cx Λ n none c l st fun e s => some (e, s)) f fun r => K r.1 r.2 := (exec_parB P cx Λ n c).2 l f st K

/-- Code does in the model what it does on abstract states. -/
theorem exec_soundB {P : Program} {cx : Cx} {w0 : Base} (hΓ : ∀ g C, cx.Γ g = some C → SoundAt P w0.g g C) (hI : ∀ g I, cx.inl g = some I → InlOK P cx w0 g I) {X : Rho → Prop} (hX : ∀ ρ ρ', X ρ → Ext ρ ρ' → X ρ') {Λ : Nat → Option Lf} (n : Nat) (c : Code) (hΛ : LoopsOKX P cx w0 X Λ c) : (∀ (st : St) (e : Ex) (st' : St),
    exec P cx Λ n none c st (fun e s => some (e, s)) = some (e, st') → ∀ ρ a w, X ρ → In P cx w0 ρ st a w → c.wp P (PostX P cx w0 X e st') a w) ∧
    ∀ (l : Nat) (rest : Code) (st : St) (e : Ex) (st' : St), findLabel c l = some rest → execL P cx Λ n none c l st (fun e s => some (e, s)) = some (e, st') → ∀ ρ a w, X ρ → In P cx w0 ρ st a w → rest.wp P (PostX P cx w0 X e st') a w := by
  induction c with
  | skip =>
    refine ⟨?_, fun l rest st e st' hl => by simp [findLabel] at hl⟩
    intro st e st' h ρ a w x I
    simp only [exec_skip, Option.some.injEq, Prod.mk.injEq] at h
    obtain ⟨rfl, rfl⟩ := h
    exact wp_skip ⟨rfl, ρ, x, I⟩
  | region id ops draw =>
    refine ⟨?_, fun l rest st e st' hl => by simp [findLabel] at hl⟩
    intro st e st' h ρ a w x I
    rw [exec_region] at h
    cases draw with
    | false =>
      rw [cond_false, runI_par] at h
      obtain ⟨s, h1, h2⟩ := mo_some h
      simp only [Option.some.injEq, Prod.mk.injEq] at h2
      obtain ⟨rfl, rfl⟩ := h2
      exact region_plain hΓ hI hX x I h1
    | true =>
      rw [cond_true] at h
      obtain ⟨hd, h⟩ := cond_some h
      rw [runOps_par] at h
      obtain ⟨s, h1, h2⟩ := mo_some h
      simp only [Option.some.injEq, Prod.mk.injEq] at h2
      obtain ⟨rfl, rfl⟩ := h2
      exact region_draw hΓ hX hd x I h1
  | seq y z ihx ihy =>
    simp only [LoopsOKX] at hΛ
    refine ⟨?_, ?_⟩
    · intro st e st' h ρ a w x I
      rw [exec_seq, exec_pair] at h
      obtain ⟨⟨e1, s1⟩, h1, h2⟩ := mo_some h
      refine wp_seq (wp_mono ((ihx hΛ.1).1 st e1 s1 h1 ρ a w x I) ?_)
      rintro ex a1 w1 ⟨rfl, ρ1, x1, I1⟩
      cases e1 with
      | normal => exact (ihy hΛ.2).1 s1 e st' h2 ρ1 a1 w1 x1 I1
      | exit id =>
        simp only [Option.some.injEq, Prod.mk.injEq] at h2
        obtain ⟨rfl, rfl⟩ := h2
        exact ⟨rfl, ρ1, x1, I1⟩
      | ret =>
        simp only [Option.some.injEq, Prod.mk.injEq] at h2
        obtain ⟨rfl, rfl⟩ := h2
        exact ⟨rfl, ρ1, x1, I1⟩
      | goto l =>
        simp only [Option.some.injEq, Prod.mk.injEq] at h2
        obtain ⟨rfl, rfl⟩ := h2
        exact ⟨rfl, ρ1, x1, I1⟩
    · intro l rest st e st' hl h ρ a w x I
      simp only [findLabel] at hl
      cases hr : findLabel y l with
      | none => rw [hr] at hl; rw [execL_seq, hr] at h; exact (ihy hΛ.2).2 l rest st e st' hl h ρ a w x I
      | some r =>
        rw [hr] at hl
        obtain rfl := Option.some.inj hl
        rw [execL_seq, hr] at h
        simp only at h
        rw [execL_pair] at h
        obtain ⟨⟨e1, s1⟩, h1, h2⟩ := mo_some h
        refine wp_seq (wp_mono ((ihx hΛ.1).2 l r st e1 s1 hr h1 ρ a w x I) ?_)
        rintro ex a1 w1 ⟨rfl, ρ1, x1, I1⟩
        cases e1 with
        | normal => exact (ihy hΛ.2).1 s1 e st' h2 ρ1 a1 w1 x1 I1
        | exit id =>
          simp only [Option.some.injEq, Prod.mk.injEq] at h2
          obtain ⟨rfl, rfl⟩ := h2
          exact ⟨rfl, ρ1, x1, I1⟩
        | ret =>
          simp only [Option.some.injEq, Prod.mk.injEq] at h2
          obtain ⟨rfl, rfl⟩ := h2
          exact ⟨rfl, ρ1, x1, I1⟩
        | goto l =>
          simp only [Option.some.injEq, Prod.mk.injEq] at h2
          obtain ⟨rfl, rfl⟩ := h2
          exact ⟨rfl, ρ1, x1, I1⟩
  | cond c y z ihx ihy =>
    refine ⟨?_, fun l rest st e st' hl => by simp [findLabel] at hl⟩
    intro st e st' h ρ a w x I
    simp only [LoopsOKX] at hΛ
    rw [exec_cond] at h
    split at h
    · rename_i t ht
      obtain ⟨h1, -⟩ := ev_sound I.sim I.gl ht
      refine wp_cond (t := t) (by rw [h1]; simp [den]) ?_
      split at h
      · rename_i d
        have hal : Alike st (st.know d t) := know_alike ht
        have I' : In P cx w0 ρ (st.know d t) a w := ⟨I.sim.alike hal, I.fresh, I.nt, I.gl, I.df⟩
        cases t with
        | true => exact (ihx hΛ.1).1 _ e st' h ρ a w x I'
        | false => exact (ihy hΛ.2).1 _ e st' h ρ a w x I'
      · cases t with
        | true => exact (ihx hΛ.1).1 st e st' h ρ a w x I
        | false => exact (ihy hΛ.2).1 st e st' h ρ a w x I
    · simp at h
  | block id y ih =>
    refine ⟨?_, fun l rest st e st' hl => by simp [findLabel] at hl⟩
    intro st e st' h ρ a w x I
    simp only [LoopsOKX] at hΛ
    rw [exec_block] at h
    cases hL : Λ id with
    | some L =>
      rw [hL] at h hΛ
      simp only at h hΛ
      rw [Res.run_par] at h
      obtain ⟨⟨e1, s1⟩, h1, h2⟩ := mo_some h
      simp only [Option.some.injEq, Prod.mk.injEq] at h2
      obtain ⟨rfl, rfl⟩ := h2
      exact hΛ st e1 s1 h1 ρ a w x I
    | none =>
      rw [hL] at h hΛ
      simp only at h hΛ
      rw [exec_pair] at h
      obtain ⟨⟨e1, s1⟩, h1, h2⟩ := mo_some h
      refine wp_block (wp_mono ((ih hΛ).1 st e1 s1 h1 ρ a w x I) ?_)
      rintro ex a1 w1 ⟨rfl, ρ1, x1, I1⟩
      cases e1 with
      | normal =>
        simp only [Option.some.injEq, Prod.mk.injEq] at h2
        obtain ⟨rfl, rfl⟩ := h2
        exact ⟨rfl, ρ1, x1, I1⟩
      | exit j =>
        simp only at h2
        simp only [toExit, Exit.inBlock]
        cases hq : Nat.beq j id with
        | true =>
          rw [hq] at h2
          simp only [cond_true, Option.some.injEq, Prod.mk.injEq] at h2
          obtain ⟨rfl, rfl⟩ := h2
          rw [if_pos (beq_eq hq)]
          exact ⟨rfl, ρ1, x1, I1⟩
        | false =>
          rw [hq] at h2
          simp only [cond_false, Option.some.injEq, Prod.mk.injEq] at h2
          obtain ⟨rfl, rfl⟩ := h2
          rw [if_neg (fun hh => by rw [hh] at hq; simp at hq)]
          exact ⟨rfl, ρ1, x1, I1⟩
      | ret =>
        simp only [Option.some.injEq, Prod.mk.injEq] at h2
        obtain ⟨rfl, rfl⟩ := h2
        exact ⟨rfl, ρ1, x1, I1⟩
      | goto l =>
        simp only [Option.some.injEq, Prod.mk.injEq] at h2
        obtain ⟨rfl, rfl⟩ := h2
        exact ⟨rfl, ρ1, x1, I1⟩
  | loop y ih =>
    refine ⟨?_, fun l rest st e st' hl => by simp [findLabel] at hl⟩
    intro st e st' h ρ a w x I
    simp only [LoopsOKX] at hΛ
    rw [exec_loop] at h
    refine wp_loop_rounds n ?_
    have key : ∀ (k : Nat) (st : St) (ρ : Rho) (a : Act) (w : World), X ρ → In P cx w0 ρ st a w → iterK (exec P cx Λ n none y) none k st (fun e s => some (e, s)) = some (e, st') → Code.rounds P y (PostX P cx w0 X e st') k a w := by
      intro k
      induction k with
      | zero => intro st ρ a w x I h; simp [iterK] at h
      | succ k ihk =>
        intro st ρ a w x I h
        rw [rounds_succ]
        unfold iterK at h
        rw [exec_pair] at h
        obtain ⟨⟨e1, s1⟩, h1, h2⟩ := mo_some h
        refine wp_mono ((ih hΛ).1 st e1 s1 h1 ρ a w x I) ?_
        rintro ex a1 w1 ⟨rfl, ρ1, x1, I1⟩
        cases e1 with
        | normal => exact ihk s1 ρ1 a1 w1 x1 I1 h2
        | exit id =>
          simp only [Option.some.injEq, Prod.mk.injEq] at h2
          obtain ⟨rfl, rfl⟩ := h2
          exact ⟨rfl, ρ1, x1, I1⟩
        | ret =>
          simp only [Option.some.injEq, Prod.mk.injEq] at h2
          obtain ⟨rfl, rfl⟩ := h2
          exact ⟨rfl, ρ1, x1, I1⟩
        | goto l =>
          simp only [Option.some.injEq, Prod.mk.injEq] at h2
          obtain ⟨rfl, rfl⟩ := h2
          exact ⟨rfl, ρ1, x1, I1⟩
    exact key n st ρ a w x I h
  | rangeFunc =>
    refine ⟨?_, fun l rest st e st' hl => by simp [findLabel] at hl⟩
    intro st e st' h
    simp [exec, execB] at h
  | exit id =>
    refine ⟨?_, fun l rest st e st' hl => by simp [findLabel] at hl⟩
    intro st e st' h ρ a w x I
    simp only [exec_exit, Option.some.injEq, Prod.mk.injEq] at h
    obtain ⟨rfl, rfl⟩ := h
    exact wp_exit ⟨rfl, ρ, x, I⟩
  | scope y ih =>
    refine ⟨?_, fun l rest st e st' hl => by simp [findLabel] at hl⟩
    intro st e st' h ρ a w x I
    simp only [LoopsOKX] at hΛ
    rw [exec_scope, exec_pair] at h
    obtain ⟨⟨e1, s1⟩, h1, h2⟩ := mo_some h
    refine wp_scope_goto (wp_mono ((ih hΛ).1 st e1 s1 h1 ρ a w x I) ?_)
    rintro ex a1 w1 ⟨rfl, ρ1, x1, I1⟩
    cases e1 with
    | goto l =>
      simp only at h2
      split at h2
      · rename_i rest hl
        rw [execL_pair] at h2
        obtain ⟨⟨e2, s2⟩, h3, h4⟩ := mo_some h2
        refine ⟨rest, hl, wp_mono ((ih hΛ).2 l rest s1 e2 s2 hl h3 ρ1 a1 w1 x1 I1) ?_⟩
        rintro ex a2 w2 ⟨rfl, ρ2, x2, I2⟩
        cases e2 with
        | goto l => simp at h4
        | _ =>
          simp only [Option.some.injEq, Prod.mk.injEq] at h4
          obtain ⟨rfl, rfl⟩ := h4
          exact ⟨rfl, ρ2, x2, I2⟩
      · simp at h2
    | _ =>
      simp only [Option.some.injEq, Prod.mk.injEq] at h2
      obtain ⟨rfl, rfl⟩ := h2
      exact ⟨rfl, ρ1, x1, I1⟩
  | label l =>
    refine ⟨?_, ?_⟩
    · intro st e st' h ρ a w x I
      simp only [exec_label, Option.some.injEq, Prod.mk.injEq] at h
      obtain ⟨rfl, rfl⟩ := h
      exact wp_label ⟨rfl, ρ, x, I⟩
    · intro l' rest st e st' hl h ρ a w x I
      simp only [execL_label, Option.some.injEq, Prod.mk.injEq] at h
      obtain ⟨rfl, rfl⟩ := h
      simp only [findLabel] at hl
      split at hl
      · obtain rfl := Option.some.inj hl
        exact wp_skip ⟨rfl, ρ, x, I⟩
      · cases hl
  | goto l =>
    refine ⟨?_, fun l rest st e st' hl => by simp [findLabel] at hl⟩
    intro st e st' h ρ a w x I
    simp only [exec_goto, Option.some.injEq, Prod.mk.injEq] at h
    obtain ⟨rfl, rfl⟩ := h
    exact wp_goto ⟨rfl, ρ, x, I⟩
  | ret =>
    refine ⟨?_, fun l rest st e st' hl => by simp [findLabel] at hl⟩
    intro st e st' h ρ a w x I
    simp only [exec_ret, Option.some.injEq, Prod.mk.injEq] at h
    obtain ⟨rfl, rfl⟩ := h
    exact wp_ret ⟨rfl, ρ, x, I⟩
  | refuse =>
    refine ⟨?_, fun l rest st e st' hl => by simp [findLabel] at hl⟩
    intro st e st' h
    simp [exec, execB] at h

theorem exec_soundX {P : Program} {cx : Cx} {w0 : Base} (hΓ : ∀ g C, cx.Γ g = some C → SoundAt P w0.g g C) (hI : ∀ g I, cx.inl g = some I → InlOK P cx w0 g I) {X : Rho → Prop} (hX : ∀ ρ ρ', X ρ → Ext ρ ρ' → X ρ') {Λ : Nat → Option Lf} (n : Nat) (c : Code) (hΛ : LoopsOKX P cx w0 X Λ c) : ∀ (st : St) (e : Ex) (st' : St),
    exec P cx Λ n none c st (fun e s => some (e, s)) = some (e, st') → ∀ ρ a w, X ρ → In P cx w0 ρ st a w → c.wp P (PostX P cx w0 X e st') a w := (exec_soundB hΓ hI hX n c hΛ).1

theorem exec_sound {P : Program} {cx : Cx} {w0 : Base} (hΓ : ∀ g C, cx.Γ g = some C → SoundAt P w0.g g C) (hI : ∀ g I, cx.inl g = some I → InlOK P cx w0 g I) {Λ : Nat → Option Lf} (n : Nat) (c : Code) (hΛ : LoopsOK P cx w0 Λ c) (st : St) (e : Ex) (st' : St)
    (h : exec P cx Λ n none c st (fun e s => some (e, s)) = some (e, st')) (ρ : Rho) (a : Act) (w : World) (I : In P cx w0 ρ st a w) : c.wp P (Post P cx w0 e st') a w :=
  wp_mono (exec_soundX hΓ hI (X := fun _ => True) (fun _ _ h _ => h) n c hΛ st e st' h ρ a w trivial I) fun _ _ _ h => h.post

def rdV (tmps : Array Value) : ResultVar → Sem Value
  | .tmp t => pure (tmps.getD t undef)
  | .cell a t => do loadVar t (← asAddr (tmps.getD a undef))

theorem rdV_sound {P : Program} {cx : Cx} {w0 : Base} {ρ : Rho} {st : St} {a : Act} {w : World} (I : In P cx w0 ρ st a w) {r : ResultVar} {v : AV} (hv : resV st r = some v) : OK P ρ v ∧ (rdV a.tmps r).run P w = .ok (den P ρ v) w := by
  unfold resV at hv
  cases r with
  | tmp t =>
    obtain ⟨k1, k2, k3⟩ := I.sim.slot t v hv
    exact ⟨k3, by simp only [rdV, Sem.run_pure, k2]⟩
  | cell c t =>
    simp only at hv
    split at hv
    · rename_i b p t' hc
      replace hv := cond_some hv
      obtain ⟨ht, hv⟩ := hv
      have ht := beq_eq ht
      subst ht
      split at hv
      · rename_i T hT
        obtain ⟨-, k2, k3⟩ := I.sim.slot c _ hc
        obtain ⟨nm, of, as, bs, -, k4, k5, k6, -, -, -, -, k7, -⟩ := at_ptr I.sim k3 hT hv
        refine ⟨k6, ?_⟩
        have := run_loadVar' (P := P) (w := w) k5 k6 nm.blk (nm.off + of) (fun j y hy => by rw [Nat.add_assoc, ← Nat.add_assoc]; exact k7 j y hy)
        simp only [rdV, Sem.run_bind, k2, k4, asAddr, Sem.run_pure, Result.andThen_ok, this]
      · simp at hv
    · simp at hv

/-- The result variables are read. -/
theorem resL_sound {P : Program} {cx : Cx} {w0 : Base} {ρ : Rho} {st : St} {a : Act} {w : World} (I : In P cx w0 ρ st a w) : (l : List ResultVar) → (vs : List AV) → resL st l = some vs →
    OKL P ρ vs ∧ (l.mapM (rdV a.tmps)).run P w = .ok (denT P ρ vs) w
  | [], vs, h => by
    simp only [resL, Option.some.injEq] at h
    subst h
    simp [OKL, denT]
  | r :: l, vs, h => by
    simp only [resL] at h
    split at h
    · rename_i v hv
      split at h
      · rename_i q hq
        simp only [Option.some.injEq] at h
        subst h
        obtain ⟨h1, h2⟩ := resL_sound I l q hq
        have key := rdV_sound I hv
        refine ⟨by simp [OKL, key.1, h1], ?_⟩
        rw [List.mapM_cons]
        simp only [Sem.run_bind, key.2, Result.andThen_ok, h2, Sem.run_pure, denT]
      · simp at h
    · simp at h

theorem results_sound {P : Program} {cx : Cx} {w0 : Base} {ρ : Rho} {st : St} {a : Act} {w : World} (I : In P cx w0 ρ st a w) {fn : Func} {v : AV} (h : results' fn st = some v) :
    OK P ρ v ∧ (results fn a.tmps).run P w = .ok (den P ρ v) w := by
  unfold results' at h
  have main : ∀ vs, resL st fn.results.toList = some vs → (results fn a.tmps).run P w = .ok (if h : (denT P ρ vs).toArray.size = 1 then (denT P ρ vs).toArray[0] else .tuple (denT P ρ vs).toArray) w ∧ OKL P ρ vs := by
    intro vs hvs
    obtain ⟨h1, h2⟩ := resL_sound I _ _ hvs
    refine ⟨?_, h1⟩
    have e : results fn a.tmps = (do let vs ← fn.results.mapM (rdV a.tmps); pure (if h : vs.size = 1 then vs[0] else .tuple vs)) := by
      unfold results
      congr 1
    rw [e, Sem.run_bind, Array.mapM_eq_mapM_toList, Sem.run_map, h2]
    rfl
  split at h
  · rename_i u hu
    simp only [Option.some.injEq] at h
    subst h
    obtain ⟨h1, h2⟩ := main _ hu
    simp only [OKL, and_true] at h2
    exact ⟨h2, by rw [h1]; simp [denT]⟩
  · rename_i l hno hl
    simp only [Option.some.injEq] at h
    subst h
    obtain ⟨h1, h2⟩ := main _ hl
    refine ⟨by simpa only [OK] using h2, ?_⟩
    rw [h1]
    have hlen : ∀ (l : List AV), (denT P ρ l).length = l.length := by
      intro l
      induction l with
      | nil => simp [denT]
      | cons x l ih => simp [denT, ih]
    rw [dif_neg]
    · simp [den]
    · simp only [List.size_toArray, hlen]
      intro hh
      match l, hh with
      | [x], _ => exact hno x rfl
  · simp at h

/-- A package-level variable, with what it holds. -/
structure Gv where
  g : Nat
  ty : TypeId
  T : AV

def glAt : List Gv → Nat → Nat → Option AV
  | [], _, _ => none
  | v :: l, k, g => cond (Nat.beq v.g g) (some (.ptr k [] v.ty)) (glAt l (k + 1) g)
def memAt : List Gv → Nat → List (Nat × AV)
  | [], _ => []
  | v :: l, k => (k, v.T) :: memAt l (k + 1)
def rhoAt : List Gv → Nat → Rho
  | [], _, _ => none
  | v :: l, k, b => if b = k then some ⟨v.g, 0, 1, v.ty, false, 1, false, nk⟩ else rhoAt l (k + 1) b

/-- They hold it. -/
def GlobOK (P : Program) (w : World) (gs : List Gv) : Prop :=
  ∀ v ∈ gs, Has P v.T v.ty ∧ OK P (fun _ => none) v.T ∧ v.g < w.heap.size ∧ ∀ j x, (cells P (fun _ => none) v.T)[j]? = some x → w.cell? ⟨v.g, j, none⟩ = some x

theorem rhoAt_none : (gs : List Gv) → (k b : Nat) → (b < k ∨ k + gs.length ≤ b) → rhoAt gs k b = none
  | [], _, _, _ => rfl
  | v :: l, k, b, h => by
    simp only [List.length_cons] at h
    rw [rhoAt, if_neg (by omega)]
    exact rhoAt_none l (k + 1) b (by omega)

theorem memAt_spec : (gs : List Gv) → (k b : Nat) → (T : AV) → lk b (memAt gs k) = some T → k ≤ b ∧ b < k + gs.length ∧ ∃ v ∈ gs, v.T = T ∧ rhoAt gs k b = some ⟨v.g, 0, 1, v.ty, false, 1, false, nk⟩
  | [], _, _, _, h => by simp [memAt, lk] at h
  | v :: l, k, b, T, h => by
    rw [memAt] at h
    by_cases hb : k = b
    · subst hb
      rw [lk_cons_self] at h
      exact ⟨Nat.le_refl _, by simp, v, by simp, Option.some.inj h, by simp [rhoAt]⟩
    · rw [lk_cons_ne hb] at h
      obtain ⟨h1, h2, u, h3, h4, h5⟩ := memAt_spec l (k + 1) b T h
      exact ⟨by omega, by simp; omega, u, by simp [h3], h4, by rw [rhoAt, if_neg (by omega), h5]⟩

theorem glAt_spec (P : Program) : (gs : List Gv) → (k g : Nat) → (u : AV) → glAt gs k g = some u → ∃ b v, v ∈ gs ∧ u = .ptr b [] v.ty ∧ v.g = g ∧ k ≤ b ∧ rhoAt gs k b = some ⟨v.g, 0, 1, v.ty, false, 1, false, nk⟩
  | [], _, _, _, h => by simp [glAt] at h
  | v :: l, k, g, u, h => by
    rw [glAt] at h
    cases hq : Nat.beq v.g g with
    | true =>
      rw [hq] at h
      simp only [cond_true, Option.some.injEq] at h
      exact ⟨k, v, by simp, h.symm, beq_eq hq, Nat.le_refl _, by simp [rhoAt]⟩
    | false =>
      rw [hq] at h
      simp only [cond_false] at h
      obtain ⟨b, x, h1, h2, h3, h4, h5⟩ := glAt_spec P l (k + 1) g u h
      exact ⟨b, x, by simp [h1], h2, h3, by omega, by rw [rhoAt, if_neg (by omega), h5]⟩

theorem denT_length (P : Program) (ρ : Rho) : (l : List AV) → (denT P ρ l).length = l.length
  | [] => by simp [denT]
  | x :: l => by simp [denT, denT_length P ρ l]

theorem numbered_lk : (l : List AV) → (k d : Nat) → (v : AV) → lk d (numbered k l) = some v → k ≤ d ∧ l[d - k]? = some v
  | [], _, _, _, h => by simp [numbered, lk] at h
  | x :: l, k, d, v, h => by
    rw [numbered] at h
    by_cases hd : k = d
    · subst hd
      rw [lk_cons_self] at h
      simpa using h
    · rw [lk_cons_ne hd] at h
      obtain ⟨h1, h2⟩ := numbered_lk l (k + 1) d v h
      refine ⟨by omega, ?_⟩
      rw [show d - k = (d - (k + 1)) + 1 by omega, List.getElem?_cons_succ]
      exact h2

/-- What is handed over, as a function's frame begins: rows get names. -/
def unc : Nat → List AV → List AV × List (Nat × AV)
  | _, [] => ([], [])
  | k, v :: r => match v with
    | .tup [T, .clo te []] => (.gs k (rowN T) te :: (unc (k + 1) r).1, (k, T) :: (unc (k + 1) r).2)
    | v => (v :: (unc k r).1, (unc k r).2)

theorem lk_app (d : Nat) : (l l' : List (Nat × AV)) → lk d (l ++ l') = match lk d l with | some v => some v | none => lk d l'
  | [], l' => by simp [lk]
  | x :: l, l' => by
    obtain ⟨e, v⟩ := x
    by_cases h : e = d
    · subst h; simp only [List.cons_append]; rw [lk_cons_self, lk_cons_self]
    · simp only [List.cons_append]; rw [lk_cons_ne h, lk_cons_ne h, lk_app d l l']

/-- What a name of a row stands for at the begin. -/
def RowAt (P : Program) (w : World) (ρ : Rho) (b : Nat) (T : AV) : Prop :=
  ∃ nm, ρ b = some nm ∧ HasN P nm T ∧ OK P (fun _ => none) T ∧ Liv nm w (cells P (fun _ => none) T) ∧ ∀ j x, (cells P (fun _ => none) T)[j]? = some x → w.cell? ⟨nm.blk, nm.off + j, none⟩ = some x

theorem unc_in {P : Program} {w : World} : (vs : List AV) → (k : Nat) → (as : List Value) → ArgsAt P w as vs → OKL P (fun _ => none) vs →
    ∃ ρs : Rho, (∀ b nm, ρs b = some nm → k ≤ b ∧ b < k + (unc k vs).2.length ∧ nm.K = nk) ∧ as = denT P ρs (unc k vs).1 ∧ OKL P ρs (unc k vs).1 ∧ ∀ b T, lk b (unc k vs).2 = some T → (k ≤ b ∧ b < k + (unc k vs).2.length) ∧ RowAt P w ρs b T
  | [], k, as, h, _ => by
    cases as with
    | nil => exact ⟨fun _ => none, fun b nm h => by simp at h, by simp [unc, denT], by simp [unc, OKL], fun b T h => by simp [unc, lk] at h⟩
    | cons a as => simp [ArgsAt] at h
  | v :: r, k, as, h, ok => by
    cases as with
    | nil => simp [ArgsAt] at h
    | cons a as =>
      simp only [ArgsAt] at h
      simp only [OKL] at ok
      obtain ⟨ha, hr⟩ := h
      by_cases hv : ∃ T te, v = .tup [T, .clo te []]
      · obtain ⟨T, te, rfl⟩ := hv
        obtain ⟨ρs, h1, h2, h3, h4⟩ := unc_in r (k + 1) as hr ok.2
        have ha' : SliceAt P w a T te := ha
        obtain ⟨nm00, e0, w1, w2, w3, w4, w5, w6, n0, s0, c0⟩ := ha'
        let nm0 : Nm := { nm00 with K := nk }
        have okT : OK P (fun _ => none) T := by have := ok.1; simp only [OK, OKL] at this; exact this.1
        have hk : ρs k = none := by
          cases hq : ρs k with
          | none => rfl
          | some nm => have := h1 k nm hq; omega
        have ex := ext_upd hk nm0
        obtain ⟨-, d1, d2⟩ := denL_ext P ex _ h3
        have self : upd ρs k nm0 k = some nm0 := by simp [upd]
        have e1 : unc k (.tup [T, .clo te []] :: r) = (.gs k (rowN T) te :: (unc (k + 1) r).1, (k, T) :: (unc (k + 1) r).2) := rfl
        rw [e1]
        refine ⟨upd ρs k nm0, ?_, ?_, ?_, ?_⟩
        · intro b nm hb
          simp only [List.length_cons]
          unfold upd at hb
          split at hb
          · obtain rfl := Option.some.inj hb
            exact ⟨by omega, by omega, rfl⟩
          · have := h1 b nm hb; exact ⟨by omega, by omega, this.2.2⟩
        · simp only [denT]
          rw [d1, ← h2, e0]
          simp [den, self]
          rfl
        · simp only [OKL]
          refine ⟨?_, d2⟩
          simp only [OK]
          exact ⟨nm0, self, w1, w2, w3.symm, w4, w5, w6⟩
        · intro b U hb
          by_cases hbk : k = b
          · subst hbk
            rw [lk_cons_self] at hb
            obtain rfl := Option.some.inj hb
            exact ⟨by simp only [List.length_cons]; omega, _, self, n0, okT, s0, c0⟩
          · rw [lk_cons_ne hbk] at hb
            obtain ⟨g1, nm, g2, g3⟩ := h4 b U hb
            exact ⟨by simp only [List.length_cons]; omega, nm, ex b nm g2, g3⟩
      · have e1 : unc k (v :: r) = (v :: (unc k r).1, (unc k r).2) := by
          rw [unc]
          exact fun T te e => hv ⟨T, te, e⟩
        have ha' : a = den P (fun _ => none) v := by
          unfold ArgAt at ha
          split at ha
          · exact absurd ⟨_, _, rfl⟩ hv
          · exact ha
        obtain ⟨ρs, h1, h2, h3, h4⟩ := unc_in r k as hr ok.2
        rw [e1]
        obtain ⟨g1, g2⟩ := den_ext P (Ext.empty ρs) v ok.1
        refine ⟨ρs, h1, ?_, ?_, h4⟩
        · simp only [denT]; rw [g1, ← h2, ha']
        · simp only [OKL]; exact ⟨g2, h3⟩

/-- A result, one of them. -/
theorem resC1_sound {P : Program} {cx : Cx} {w0 : Base} {ρ : Rho} {st : St} {a : Act} {w : World} (I : In P cx w0 ρ st a w) (hA : ∀ k, ¬ w0.A k) {t : TypeId} {v u : AV} (h : resC1 P cx.ro (fun b => lk b st.mem) t v = some u) (ok : OK P ρ v) :
    (u = v ∧ isClo u = false ∧ den P ρ v = den P (fun _ => none) v ∧ OK P (fun _ => none) v) ∨ ∃ T te, u = .tup [T, .clo te []] ∧ RowR P w0.w w (den P ρ v) T te := by
  have plain : cond (pl v && !(isClo v)) (some v) none = some u → (u = v ∧ isClo u = false ∧ den P ρ v = den P (fun _ => none) v ∧ OK P (fun _ => none) v) := by
    intro h
    obtain ⟨hc, h⟩ := cond_some h
    obtain rfl := Option.some.inj h
    simp only [Bool.and_eq_true, Bool.not_eq_true'] at hc
    have k := pl_ok P v hc.1 ok
    exact ⟨rfl, hc.2, (den_ext P (Ext.empty ρ) v k).1, k⟩
  have S := I.sim
  cases v with
  | gs b n te =>
    right
    simp only [resC1] at h
    obtain ⟨hro, h⟩ := cond_some h
    have hro := Nat.le_of_ble_eq_true hro
    split at h
    · rename_i T hT
      replace h := cond_some h
      obtain ⟨c4, h⟩ := h
      obtain rfl := Option.some.inj h
      obtain ⟨nm, hb, hN, okT, hs, hcell⟩ := S.cell b T hT
      simp only [OK] at ok
      obtain ⟨nm', hb', hr, ht', hn', hle, hnon, hmax⟩ := ok
      rw [hb] at hb'
      obtain rfl := Option.some.inj hb'
      have hrow : nm.cap = rowN T := by
        have hN' := hN
        simp only [HasN, hr, if_true] at hN'
        cases T <;> simp only at hN' <;> first | exact hN'.1.symm | exact hN'.elim | (simp [pl] at c4; done)
      have k5 := pl_ok P T c4 okT
      have k4 : cells P (fun _ => none) T = cells P ρ T := (cells_ext P (Ext.empty ρ) T k5).symm
      refine ⟨T, te, rfl, { nm with K := nk, blk := bif nm.non then w0.w.heap.size else nm.blk }, ?_, hr, ht', hrow, by simp only; omega, fun hq => ⟨by have := hnon hq; omega, ?_⟩, hmax, hN, k5, (by cases hq : nm.non with | true => exact Nat.le_refl _ | false => exact ((S.own b T nm hT hb hro).1 hq).resolve_right (hA _)), ⟨rfl, fun s p e => by rw [e] at c4; simp [pl] at c4⟩, fun hq => ⟨?_, fun j x hx => ?_⟩⟩
      · simp only [den, hb]; rw [hn', hrow]
        cases hq : nm.non <;> simp [gsV, hq]
      · rw [k4]
        rcases hs with ⟨z, -⟩ | ⟨-, z⟩
        · rw [hq] at z; cases z
        · exact z
      · have hq : nm.non = false := hq
        rcases S.rows b T nm hT hb hro hr with z | z
        · rw [hq] at z; cases z
        · simp only [hq, cond_false]
          exact z
      · have hq : nm.non = false := hq
        rw [k4] at hx
        simp only [hq, cond_false]
        exact hcell j x hx
    · simp at h
  | nils =>
    right
    simp only [resC1] at h
    split at h
    · rename_i e he
      split at h
      · rename_i k hk
        obtain rfl := Option.some.inj h
        unfold intTy at hk
        split at hk
        · rename_i k' hk'
          replace hk := cond_some hk
          obtain ⟨hc, hk⟩ := hk
          obtain rfl := Option.some.inj hk
          have hcn : cells P (fun _ => none) (.ints k' 0 []) = [] := by rw [cells_ints]; rfl
          refine ⟨_, _, rfl, ⟨w0.w.heap.size, 0, 0, e, true, 0, true, nk⟩, by simp [den, gsV], rfl, rfl, rfl, Nat.le_refl _, fun _ => ⟨rfl, hcn⟩, by show ((0 : Nat) : Int) ≤ 9223372036854775807; decide, ?_, by simp [OK], Nat.le_refl _, ⟨rfl, fun _ _ e => by cases e⟩, fun h => by cases h⟩
          simp only [HasN, if_true]
          exact ⟨trivial, hk', beq_eq hc⟩
        · simp at hk
      · split at h
        · rename_i c hc
          obtain rfl := Option.some.inj h
          have hcn : cells P (fun _ => none) (.vec c []) = [] := by rw [cells_vec]; rfl
          refine ⟨_, _, rfl, ⟨w0.w.heap.size, 0, 0, e, true, 0, true, nk⟩, by simp [den, gsV], rfl, rfl, rfl, Nat.le_refl _, fun _ => ⟨rfl, hcn⟩, by show ((0 : Nat) : Int) ≤ 9223372036854775807; decide, ?_, by simp [OK], Nat.le_refl _, ⟨rfl, fun _ _ e => by cases e⟩, fun h => by cases h⟩
          simp only [HasN, if_true]
          exact ⟨rfl, codeOf_fit hc⟩
        · simp at h
    · simp at h
  | _ => simp only [resC1] at h; exact .inl (plain h)

theorem resC_sound {P : Program} {cx : Cx} {w0 : Base} {ρ : Rho} {st : St} {a : Act} {w : World} (I : In P cx w0 ρ st a w) (hA : ∀ k, ¬ w0.A k) {ts : List TypeId} {v u : AV} (h : resC P cx.ro (fun b => lk b st.mem) ts v = some u) (ok : OK P ρ v) : ResAt P w0.w w (den P ρ v) u := by
  have simple : ∀ u : AV, isClo u = false → (∀ l, u ≠ .tup l) → den P ρ v = den P (fun _ => none) u → OK P (fun _ => none) u → ResAt P w0.w w (den P ρ v) u := by
    intro u _ hu hd ho
    unfold ResAt
    split
    · exact absurd rfl (hu _)
    · exact absurd rfl (hu _)
    · exact ⟨hd, ho⟩
  have noTup : ∀ u : AV, isClo u = false → ∀ l, u ≠ .tup l := by
    intro u hu l hl
    subst hl
    simp [isClo] at hu
  unfold resC at h
  split at h
  · rename_i x y
    split at h
    · rename_i t t2
      replace h := cond_some h
      obtain ⟨hc, h⟩ := h
      simp only [Bool.and_eq_true, Bool.not_eq_true'] at hc
      split at h
      · rename_i u0 hu0
        obtain rfl := Option.some.inj h
        simp only [OK, OKL] at ok
        obtain ⟨okx, oky, -⟩ := ok
        have ky := pl_ok P y hc.1 oky
        have dy := (den_ext P (Ext.empty ρ) y ky).1
        rcases resC1_sound I hA hu0 okx with ⟨rfl, hcl, dx, kx⟩ | ⟨T, te, rfl, hR⟩
        · have hx := noTup _ hcl
          unfold ResAt
          split
          · rename_i heq
            simp only [AV.tup.injEq, List.cons.injEq] at heq
            exact absurd heq.1 (hx _)
          · rename_i heq
            simp only [AV.tup.injEq, List.cons.injEq] at heq
            rw [heq.2.1] at hc
            simp [isClo] at hc
          · refine ⟨?_, by simp only [OK, OKL]; exact ⟨kx, ky, trivial⟩⟩
            simp only [den, denT, dx, dy]
        · refine ⟨den P ρ x, ?_, hR, ky⟩
          simp [den, denT, dy]
      · simp at h
    · simp at h
  · rename_i l hno
    replace h := cond_some h
    obtain ⟨hc, h⟩ := h
    obtain rfl := Option.some.inj h
    simp only [OK] at ok
    have k := plL_ok P l hc ok
    have d := (denL_ext P (Ext.empty ρ) l k).2.1
    unfold ResAt
    split
    · rename_i heq
      simp only [AV.tup.injEq] at heq
      exact (hno _ _ heq).elim
    · rename_i heq
      simp only [AV.tup.injEq] at heq
      exact (hno _ _ heq).elim
    · exact ⟨by simp only [den, d], by simpa only [OK] using k⟩
  · split at h
    · rename_i t
      rcases resC1_sound I hA h ok with ⟨rfl, hcl, dx, kx⟩ | ⟨T, te, rfl, hR⟩
      · exact simple _ hcl (noTup _ hcl) dx kx
      · have hT : ∀ l, T ≠ .tup l := by
          intro l hl
          obtain ⟨nm, -, w1, -, -, -, -, -, hN, -⟩ := hR
          rw [hl] at hN
          simp only [HasN, w1, if_true] at hN
        unfold ResAt
        split
        · rename_i heq
          simp only [AV.tup.injEq, List.cons.injEq] at heq
          exact absurd heq.1 (hT _)
        · rename_i heq
          simp only [AV.tup.injEq, List.cons.injEq, AV.clo.injEq, and_true] at heq
          obtain ⟨rfl, rfl⟩ := heq
          exact hR
        · rename_i n2
          exact (n2 _ _ rfl).elim
    · simp at h

/-- The contract that a run gives; S: how many rows are handed over. -/
noncomputable def runCt (P : Program) (Γ : FuncId → Option Ct) (gs : List Gv) (S : Nat) (Λ : Nat → Option Lf) (n : Nat) (fn : Func) (inl : FuncId → Option Inl := fun _ => none) : Ct := fun vs =>
  cond (Nat.beq (unc gs.length vs).2.length S && plL vs) (match run P Γ (glAt gs 0) (gs.length + S) (memAt gs 0 ++ (unc gs.length vs).2) Λ n fn (unc gs.length vs).1 none some inl with
  | some v => .ok v
  | none => .fail) .fail

theorem sound_core {P : Program} {w0 : World} {Γ : FuncId → Option Ct} (hΓ : ∀ g C, Γ g = some C → SoundAt P w0 g C) {gs : List Gv} (hgs : GlobOK P w0 gs) {S : Nat} {Λ : Nat → Option Lf} {inl : FuncId → Option Inl} (n : Nat) {g : FuncId} {fn : Func} (hfn : P.funcs[g]? = some fn)
    (hname : (fn.name == "runtime.NumGoroutine") = false)
    (hΛ : ∀ c, fn.body = some c → ∀ B : Base, B.g = w0 → LoopsOK P { Γ := Γ, gl := glAt gs 0, ro := gs.length + S, nt := fn.ntmps, inl := inl } B Λ c) (hI : ∀ B : Base, B.g = w0 → ∀ g I, inl g = some I → InlOK P { Γ := Γ, gl := glAt gs 0, ro := gs.length + S, nt := fn.ntmps, inl := inl } B g I) (hb : fn.body.isNone = false) {us : List AV} {um : List (Nat × AV)} {ρs : Rho} {w : World} {v' : AV} (hw : Below w0.heap.size w0 w) (r1 : ∀ b nm, ρs b = some nm → gs.length ≤ b ∧ b < gs.length + S ∧ nm.K = nk) (r3 : OKL P ρs us)
    (r4 : ∀ b T, lk b um = some T → (gs.length ≤ b ∧ b < gs.length + S) ∧ RowAt P w ρs b T) (hum : ∀ b T, lk b um = some T → pl T = true)
    (hrun : run P Γ (glAt gs 0) (gs.length + S) (memAt gs 0 ++ um) Λ n fn us none some inl = some v') : Meets P g (denT P ρs us).toArray v' w := by
  unfold run at hrun
  split at hrun
  · rename_i c hc
    obtain ⟨hle, hrun⟩ := cond_some hrun
    rw [exec_pair] at hrun
    obtain ⟨⟨e, st'⟩, h1, h2⟩ := mo_some hrun
    have h2' : toExit e = .normal ∨ toExit e = .ret := by
      cases e with
      | normal => exact .inl rfl
      | ret => exact .inr rfl
      | exit id => simp at h2
      | goto l => simp at h2
    have h3 : ∃ v, results' fn st' = some v ∧ resC P (gs.length + S) (fun b => lk b st'.mem) fn.resultTypes.toList v = some v' := by
      cases e with
      | exit id => simp at h2
      | goto l => simp at h2
      | _ =>
        simp only at h2
        split at h2
        · rename_i v hv
          split at h2
          · rename_i u hu
            obtain rfl := Option.some.inj h2
            exact ⟨v, hv, hu⟩
          · simp at h2
        · simp at h2
    obtain ⟨v, hv, hres⟩ := h3
    have ex1 : Ext (rhoAt gs 0) (fun b => if b < gs.length then rhoAt gs 0 b else ρs b) := fun b nm hb => by
      have : b < gs.length := by
        rcases Nat.lt_or_ge b gs.length with h | h
        · exact h
        · rw [rhoAt_none gs 0 b (by omega)] at hb; simp at hb
      simp only [this, if_true]; exact hb
    have ex2 : Ext ρs (fun b => if b < gs.length then rhoAt gs 0 b else ρs b) := fun b nm hb => by
      have := (r1 b nm hb).1
      simp only [show ¬ b < gs.length by omega, if_false]; exact hb
    -- what is known at the begin
    have start : In P { Γ := Γ, gl := glAt gs 0, ro := gs.length + S, nt := fn.ntmps, inl := inl } (Base.of w0 w hw) (fun b => if b < gs.length then rhoAt gs 0 b else ρs b) { tm := numbered 0 us, mem := memAt gs 0 ++ um, nx := gs.length + S }
        { tmps := (denT P ρs us).toArray ++ Array.replicate (fn.ntmps - (denT P ρs us).toArray.size) undef, defers := [] } w := by
      have hlen : (denT P ρs us).length = us.length := denT_length P _ us
      have hle' : us.length ≤ fn.ntmps := Nat.le_of_ble_eq_true hle
      obtain ⟨-, hdT, hokT⟩ := denL_ext P ex2 us r3
      have live : ∀ b T, lk b (memAt gs 0 ++ um) = some T → b < gs.length + S ∧ RowAt P w (fun b => if b < gs.length then rhoAt gs 0 b else ρs b) b T := by
        intro b T hT
        rw [lk_app] at hT
        split at hT
        · rename_i T' hT'
          obtain rfl := Option.some.inj hT
          obtain ⟨-, h2, v, h3, rfl, h5⟩ := memAt_spec gs 0 b T' hT'
          obtain ⟨k1, k2, k3, k4⟩ := hgs v h3
          refine ⟨by omega, _, ex1 b _ h5, by simpa [HasN] using k1, k2, .inl ⟨rfl, Nat.lt_of_lt_of_le k3 hw.size⟩, fun j x hx => ?_⟩
          have := k4 j x hx
          simp only [Nat.zero_add]
          rw [below_cell hw k3]
          exact this
        · obtain ⟨g1, nm, g2, g3⟩ := r4 b T hT
          exact ⟨by omega, nm, ex2 b nm g2, g3⟩
      refine ⟨⟨?_, ?_, ?_, ?_, ?_, Kept.refl _, ?_⟩, ?_, ?_, ?_, rfl⟩
      · intro d v hd
        obtain ⟨-, h2⟩ := numbered_lk us 0 d v hd
        simp only [Nat.sub_zero] at h2
        have hdl : d < us.length := by
          rcases Nat.lt_or_ge d us.length with h | h
          · exact h
          · simp [List.getElem?_eq_none h] at h2
        refine ⟨by simp [hlen]; omega, ?_, okL_get hokT h2⟩
        have h3 := denT_get (P := P) (ρ := fun b => if b < gs.length then rhoAt gs 0 b else ρs b) h2
        rw [hdT] at h3
        simp only [Array.getD_eq_getD_getElem?]
        rw [Array.getElem?_append_left (by simp [hlen]; omega)]
        simp [h3]
      · intro b T hT
        obtain ⟨-, nm, g1, g2, g3, g4, g5⟩ := live b T hT
        obtain ⟨e1, e2⟩ := den_ext P (Ext.empty (fun b => if b < gs.length then rhoAt gs 0 b else ρs b)) T g3
        refine ⟨nm, g1, g2, e2, by rw [cells_ext P (Ext.empty (fun b => if b < gs.length then rhoAt gs 0 b else ρs b)) T g3]; exact g4, fun j x hx => ?_⟩
        rw [cells_ext P (Ext.empty (fun b => if b < gs.length then rhoAt gs 0 b else ρs b)) T g3] at hx
        exact g5 j x hx
      · intro b T nm hT hnm hro
        have := (live b T hT).1
        simp only at hro
        omega
      · intro b b' T T' nm nm' hT hT' _ _ hro
        have := (live b T hT).1
        simp only at hro
        omega
      · intro b T nm hT _ hro
        have := (live b T hT).1
        simp only at hro
        omega
      · have allK : ∀ b nm, (if b < gs.length then rhoAt gs 0 b else ρs b) = some nm → nm.K = nk := by
          intro b nm hb
          split at hb
          · have key : ∀ (gs : List Gv) (k b : Nat) (nm : Nm), rhoAt gs k b = some nm → nm.K = nk := by
              intro gs
              induction gs with
              | nil => intro k b nm h; simp [rhoAt] at h
              | cons v l ih =>
                intro k b nm h
                rw [rhoAt] at h
                split at h
                · obtain rfl := Option.some.inj h; rfl
                · exact ih _ _ _ h
            exact key gs 0 b nm hb
          · exact (r1 b nm hb).2.2
        have noI : ∀ b s p, lk b (memAt gs 0 ++ um) ≠ some (.itr s p) := by
          intro b s p hT
          have hT0 := hT
          rw [lk_app] at hT
          split at hT
          · rename_i T' hT'
            obtain rfl := Option.some.inj hT
            obtain ⟨-, h2, v, h3, h4, h5⟩ := memAt_spec gs 0 b _ hT'
            obtain ⟨k1, -⟩ := hgs v h3
            rw [h4] at k1
            simp [Has] at k1
          · have := hum b _ hT
            simp [pl] at this
        exact ⟨fun b nm hb k o v hk => by rw [allK b nm hb] at hk; simp [nk] at hk, fun b nm hb => by rw [allK b nm hb]; exact Nat.zero_le _, fun b nm hb k o v hk => by rw [allK b nm hb] at hk; simp [nk] at hk, fun b T nm _ _ _ _ b' nm' hb' k o v hk => by rw [allK b' nm' hb'] at hk; simp [nk] at hk,
          fun b s p h => absurd h (noI b s p), fun b s p nm h => absurd h (noI b s p), fun b b' s s' p p' nm nm' h => absurd h (noI b s p)⟩
      · intro b hb
        simp only at hb
        simp only [show ¬ b < gs.length by omega, if_false]
        cases hq : ρs b with
        | none => rfl
        | some nm => have := r1 b nm hq; omega
      · simp [hlen]; omega
      · intro g u hu
        obtain ⟨b, v, h1, rfl, h3, -, h5⟩ := glAt_spec P gs 0 g u hu
        have hp : pathN P ⟨v.g, 0, 1, v.ty, false, 1, false, nk⟩ [] = some (0, v.ty) := by simp [pathN, pathT]
        have h6 := ex1 b _ h5
        rw [den_ptr h6 hp]
        refine ⟨by rw [h3], ?_⟩
        simp only [OK]
        exact ⟨_, _, h6, hp⟩
    have walk : c.wp P (Post P { Γ := Γ, gl := glAt gs 0, ro := gs.length + S, nt := fn.ntmps, inl := inl } (Base.of w0 w hw) e st')
        { tmps := (denT P ρs us).toArray ++ Array.replicate (fn.ntmps - (denT P ρs us).toArray.size) undef, defers := [] } w :=
      exec_sound (fun g C hC => hΓ g C hC) (hI _ rfl) n c (hΛ c hc _ rfl) _ e st' h1 _ _ w start
    refine .inl ⟨callFunc_enter hfn hb hname _ w, calls_of_wp hfn hc (wp_mono walk ?_)⟩
    rintro ex a' w' ⟨rfl, ρ', I'⟩
    obtain ⟨k1, k2⟩ := results_sound I' hv
    have hR := resC_sound I' (fun _ h => h) hres k1
    rcases h2' with h | h <;> rw [h] <;> exact ⟨I'.df, _, k2, _, rfl, hR, I'.sim.below.all fun _ h => h⟩
  · simp at hrun

theorem sound_run {P : Program} {w0 : World} {Γ : FuncId → Option Ct} (hΓ : ∀ g C, Γ g = some C → SoundAt P w0 g C) {gs : List Gv} (hgs : GlobOK P w0 gs) {S : Nat} {Λ : Nat → Option Lf} {inl : FuncId → Option Inl} (n : Nat) {g : FuncId} {fn : Func} (hfn : P.funcs[g]? = some fn)
    (hname : (fn.name == "runtime.NumGoroutine") = false)
    (hΛ : ∀ c, fn.body = some c → ∀ B : Base, B.g = w0 → LoopsOK P { Γ := Γ, gl := glAt gs 0, ro := gs.length + S, nt := fn.ntmps, inl := inl } B Λ c) (hI : ∀ B : Base, B.g = w0 → ∀ g I, inl g = some I → InlOK P { Γ := Γ, gl := glAt gs 0, ro := gs.length + S, nt := fn.ntmps, inl := inl } B g I) (hb : fn.body.isNone = false) : SoundAt P w0 g (runCt P Γ gs S Λ n fn inl) := by
  intro vs v h ok w hw as has
  unfold runCt at h
  cases hS : Nat.beq (unc gs.length vs).2.length S && plL vs with
  | false => rw [hS] at h; simp [Res.run] at h
  | true =>
  rw [hS, cond_true] at h
  simp only [Bool.and_eq_true] at hS
  obtain ⟨hS, hpl⟩ := hS
  have hS := beq_eq hS
  split at h
  · rename_i v' hrun
    simp only [Res.run, Option.some.injEq] at h
    subst h
    obtain ⟨ρs, r1, r2, r3, r4⟩ := unc_in vs gs.length as has ok
    have hum : ∀ b T, lk b (unc gs.length vs).2 = some T → pl T = true := by
      have key : ∀ (vs : List AV) (k : Nat), plL vs = true → ∀ b T, lk b (unc k vs).2 = some T → pl T = true := by
        intro vs
        induction vs with
        | nil => intro k _ b T h; simp [unc, lk] at h
        | cons v r ih =>
          intro k hp b T h
          simp only [plL, Bool.and_eq_true] at hp
          unfold unc at h
          split at h
          · rename_i T0 te
            by_cases hb : k = b
            · subst hb
              rw [lk_cons_self] at h
              rw [← Option.some.inj h]
              have := hp.1
              simp only [pl, plL, Bool.and_eq_true] at this
              exact this.1
            · rw [lk_cons_ne hb] at h
              exact ih _ hp.2 b T h
          · exact ih _ hp.2 b T h
      exact key vs gs.length hpl
    rw [r2]
    exact sound_core hΓ hgs n hfn hname hΛ hI hb hw (by rw [← hS]; exact r1) r3 (by rw [← hS]; exact r4) hum hrun
  · simp [Res.run] at h

/-- A function's own code, run in place. -/
noncomputable def Inl.of (P : Program) (cx : Cx) (n : Nat) (fn : Func) : Inl where
  run := fun {R} f vs mem nx k => match fn.body with
    | some c => cond (Nat.ble vs.length fn.ntmps) (exec P { cx with nt := fn.ntmps } (fun _ => none) n f c { tm := numbered 0 vs, mem := mem, nx := nx } fun e st => match e with
      | .exit _ => f
      | .goto _ => f
      | _ => match results' fn st with
        | some v => k v st.mem st.nx
        | none => f) f
    | none => f
  par := by
    intro R f vs mem nx k
    split
    · refine cond_par _ ?_ rfl
      rw [exec_pair, exec_pair (R := Option (AV × List (Nat × AV) × Nat)), mo_mo]
      congr 1
      funext r
      obtain ⟨e, s⟩ := r
      cases e with
      | exit => rfl
      | goto => rfl
      | _ =>
        simp only
        split <;> rfl
    · rfl

theorem inl_ok {P : Program} {cx cx0 : Cx} {w0 : Base} (hΓ : ∀ g C, cx.Γ g = some C → SoundAt P w0.g g C) (n : Nat) {g : FuncId} {fn : Func} (hI : ∀ g I, cx.inl g = some I → InlOK P { cx with nt := fn.ntmps } w0 g I) (hfn : P.funcs[g]? = some fn)
    (hname : (fn.name == "runtime.NumGoroutine") = false) (hb : fn.body.isNone = false) (hro : cx0.ro = cx.ro) (hg : cx0.gl = cx.gl) : InlOK P cx0 w0 g (Inl.of P cx n fn) := by
  intro vs mem nx v mem' nx' h ρ w S hgl hfr ok
  refine ⟨callFunc_enter hfn hb hname _ w, ?_⟩
  simp only [Inl.of] at h
  split at h
  · rename_i c hc
    obtain ⟨hle, h⟩ := cond_some h
    rw [exec_pair] at h
    obtain ⟨⟨e, st'⟩, h1, h2⟩ := mo_some h
    have hle' : vs.length ≤ fn.ntmps := Nat.le_of_ble_eq_true hle
    have hlen : (denT P ρ vs).length = vs.length := denT_length P _ vs
    have start : In P { cx with nt := fn.ntmps } w0 ρ { tm := numbered 0 vs, mem := mem, nx := nx } { tmps := (denT P ρ vs).toArray ++ Array.replicate (fn.ntmps - (denT P ρ vs).toArray.size) undef, defers := [] } w := by
      refine ⟨⟨?_, S.cell, by rw [hro] at S; exact S.own, by rw [hro] at S; exact S.apart, by rw [hro] at S; exact S.rows, S.below, by rw [hro] at S; exact S.ex⟩, hfr, ?_, by rw [hg] at hgl; exact hgl, rfl⟩
      · intro d v hd
        obtain ⟨-, h2⟩ := numbered_lk vs 0 d v hd
        simp only [Nat.sub_zero] at h2
        have hdl : d < vs.length := by
          rcases Nat.lt_or_ge d vs.length with h | h
          · exact h
          · simp [List.getElem?_eq_none h] at h2
        refine ⟨by simp [hlen]; omega, ?_, okL_get ok h2⟩
        have h3 := denT_get (P := P) (ρ := ρ) h2
        simp only [Array.getD_eq_getD_getElem?]
        rw [Array.getElem?_append_left (by simp [hlen]; omega)]
        simp [h3]
      · simp [hlen]; omega
    have walk := exec_soundX (cx := { cx with nt := fn.ntmps }) hΓ hI (X := Ext ρ) (fun _ _ h1 h2 => h1.trans h2) n c (loopsOK_no c) _ e st' h1 ρ _ w (Ext.refl ρ) start
    refine calls_of_wp hfn hc (wp_mono walk ?_)
    rintro ex a' w' ⟨rfl, ρ', x', I'⟩
    have fin : ∀ v0, results' fn st' = some v0 → OK P ρ' v0 ∧ (results fn a'.tmps).run P w' = .ok (den P ρ' v0) w' ∧ Sim P w0 cx0.ro ρ' [] st'.mem #[] w' := fun v0 hv => by
      obtain ⟨k1, k2⟩ := results_sound I' hv
      exact ⟨k1, k2, ⟨fun d v h => by simp [lk] at h, I'.sim.cell, by rw [hro]; exact I'.sim.own, by rw [hro]; exact I'.sim.apart, by rw [hro]; exact I'.sim.rows, I'.sim.below, by rw [hro]; exact I'.sim.ex⟩⟩
    cases e with
    | exit id => simp at h2
    | goto l => simp at h2
    | normal =>
      simp only at h2
      split at h2
      · rename_i v0 hv
        have hh := h2
        simp only [Option.some.injEq, Prod.mk.injEq] at hh
        obtain ⟨rfl, rfl, rfl⟩ := hh
        obtain ⟨k1, k2, SS⟩ := fin v0 hv
        exact ⟨I'.df, _, k2, _, ρ', rfl, rfl, k1, SS, x', I'.fresh⟩
      · simp at h2
    | ret =>
      simp only at h2
      split at h2
      · rename_i v0 hv
        have hh := h2
        simp only [Option.some.injEq, Prod.mk.injEq] at hh
        obtain ⟨rfl, rfl, rfl⟩ := hh
        obtain ⟨k1, k2, SS⟩ := fin v0 hv
        exact ⟨I'.df, _, k2, _, ρ', rfl, rfl, k1, SS, x', I'.fresh⟩
      · simp at h2
  · simp at h

end Go.Vx
