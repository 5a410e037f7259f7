/- The engine, part D: a run in the style of continuations is a run and then its continuation. -/
import Derived.Test.YtoionfdfofmplaaVxC
set_option autoImplicit false
set_option linter.unusedVariables false
set_option linter.unusedSimpArgs false
namespace Go.Vx
open Go

theorem mo_mo {α β R : Type} (x : Option α) (g : α → Option β) (f : R) (k : β → R) : mo (mo x none g) f k = mo x f fun a => mo (g a) f k := by
  cases x <;> rfl

theorem Res.run_par {A R : Type} (r : Res A) (f : R) (k : A → R) : r.run f k = mo (r.run none some) f k := by
  induction r with
  | fail => rfl
  | ok a => rfl
  | opt x g ih =>
    simp only [Res.run, mo_mo]
    cases x with
    | none => rfl
    | some a => exact ih a
  | ite b t e iht ihe => cases b <;> simp [Res.run, iht, ihe]
  | sum x l r ihl ihr =>
    cases x with
    | inl a => simp only [Res.run]; exact ihl a
    | inr b => simp only [Res.run]; exact ihr b

theorem cond_par {α R : Type} (b : Bool) {x y : R} {x' y' : Option α} {f : R} {k : α → R} (hx : x = mo x' f k) (hy : y = mo y' f k) :
    cond b x y = mo (cond b x' y') f k := by cases b <;> simp [hx, hy]

theorem bnd_par {α R : Type} (ev : Operand → Option AV) (x : Option Operand) (d y : Nat) (f : R) (k : α → R) (g : Nat → R) (g' : Nat → Option α) (h : ∀ n, g n = mo (g' n) f k) :
    bnd ev x d y f g = mo (bnd ev x d y none g') f k := by
  unfold bnd
  split
  · exact h _
  · split
    · exact cond_par _ (h _) rfl
    · rfl

theorem appK_par {R : Type} (P : Program) (ro : Nat) (e : TypeId) (x y : AV) (get : Nat → Option AV) (f : R) (k : Eff → R) : appK P ro e x y get f k = mo (appK P ro e x y get none some) f k := by
  unfold appK
  repeat' (first
    | rfl
    | refine cond_par _ ?_ ?_
    | split)

theorem retK_par {R : Type} (v : AV) (f : R) (k : Eff → R) : retK v k = mo (retK v fun e => some e) f k := by
  unfold retK
  split <;> rfl

theorem opK_par {R : Type} (P : Program) (Γ : FuncId → Option Ct) (ro : Nat) (o : Op) (ev : Operand → Option AV) (get : Nat → Option AV) (f : R) (k : Eff → R) :
    opK P Γ ro o ev get f k = mo (opK P Γ ro o ev get none some) f k := by
  unfold opK
  repeat' (first
    | rfl
    | refine cond_par _ ?_ ?_
    | exact Res.run_par _ _ _
    | exact appK_par _ _ _ _ _ _ _ _
    | (refine bnd_par _ _ _ _ _ _ _ _ fun _ => ?_)
    | split)
  all_goals (rw [Res.run_par, Res.run_par (R := Option Eff)]; cases Res.run _ none some with | none => rfl | some v => exact retK_par v f k)

theorem eqK_par {R : Type} (P : Program) (t : TypeId) (n : Bool) (x y : AV) (f : R) (k : Eff → R) : eqK P t n x y f k = mo (eqK P t n x y none some) f k := by
  unfold eqK
  split
  · exact cond_par _ rfl rfl
  · rfl

theorem opE_par {R : Type} (P : Program) (Γ : FuncId → Option Ct) (ro : Nat) (o : Op) (ev : Operand → Option AV) (get : Nat → Option AV) (f : R) (k : Eff → R) :
    opE P Γ ro o ev get f k = mo (opE P Γ ro o ev get none some) f k := by
  unfold opE
  split
  · split
    · exact cond_par _ rfl rfl
    · exact eqK_par _ _ _ _ _ _ _
    · rfl
  · split
    · exact cond_par _ rfl rfl
    · exact eqK_par _ _ _ _ _ _ _
    · rfl
  · exact opK_par _ _ _ _ _ _ _ _

theorem appX_par {R : Type} (P : Program) (ro : Nat) (e : TypeId) (x y : AV) (get : Nat → Option AV) (f : R) (k : Eff → R) : appX P ro e x y get f k = mo (appX P ro e x y get none some) f k := by
  unfold appX
  repeat' (first
    | rfl
    | refine cond_par _ ?_ ?_
    | split)

theorem appZ_par {R : Type} (P : Program) (e : TypeId) (x y : AV) (f : R) (k : Eff → R) : appZ P e x y f k = mo (appZ P e x y none some) f k := by
  unfold appZ
  repeat' (first
    | rfl
    | refine cond_par _ ?_ ?_
    | split)

theorem opK'_par {R : Type} (P : Program) (Γ : FuncId → Option Ct) (ro : Nat) (o : Op) (ev : Operand → Option AV) (get : Nat → Option AV) (f : R) (k : Eff → R) :
    opK' P Γ ro o ev get f k = mo (opK' P Γ ro o ev get none some) f k := by
  unfold opK'
  repeat' (first
    | exact opE_par _ _ _ _ _ _ _ _
    | rfl
    | exact appX_par _ _ _ _ _ _ _ _
    | exact appZ_par _ _ _ _ _ _
    | refine cond_par _ ?_ ?_
    | (refine bnd_par _ _ _ _ _ _ _ _ fun _ => ?_)
    | split)

theorem runOps_par {R : Type} (P : Program) (cx : Cx) (acc : Nat → Nat → Bool) (all : Array Oper) (f : R) : (l : List (Nat × Oper)) → (st : St) → (K : St → R) →
    runOps P cx acc all f l st K = mo (runOps P cx acc all none l st some) f K
  | [], st, K => rfl
  | (i, o) :: rest, st, K => by
    have one : ∀ (st : St) (ev : Operand → Option AV) (get : Nat → Option AV), opK' P cx.Γ cx.ro o.op ev get f (fun e => runOps P cx acc all f rest (st.app i o.dst e) K) =
        mo (opK' P cx.Γ cx.ro o.op ev get none (fun e => runOps P cx acc all none rest (st.app i o.dst e) some)) f K := by
      intro st ev get
      rw [opK'_par, opK'_par (R := Option St), mo_mo]
      congr 1
      funext e
      exact runOps_par P cx acc all f rest _ K
    unfold runOps
    refine cond_par _ ?_ rfl
    split
    · exact one _ _ _
    · split
      · rfl
      · split
        · split
          · exact cond_par _ (one _ _ _) (runOps_par P cx acc all f rest _ K)
          · exact cond_par _ (runOps_par P cx acc all f rest _ K) (one _ _ _)
        · exact runOps_par P cx acc all f rest _ K
        · rfl

theorem stepI_par {R : Type} (all : Array Oper) (f : R) (o : Oper) (I : Inl) (vs : List AV) (st : St) (K : St → R) : stepI all f o I vs st K = mo (stepI all none o I vs st some) f K := by
  have run : ∀ g : AV → List (Nat × AV) → Nat → St, (I.run f vs st.mem (st.nx + all.size) fun v mem nx => K (g v mem nx)) = mo (I.run none vs st.mem (st.nx + all.size) fun v mem nx => some (g v mem nx)) f K := by
    intro g
    rw [I.par, I.par (R := Option St), mo_mo]
    rfl
  unfold stepI
  split
  · exact run _
  · split
    · rfl
    · split
      · split
        · exact cond_par _ (run _) rfl
        · exact cond_par _ rfl (run _)
      · rfl
      · rfl
theorem runI_par {R : Type} (P : Program) (cx : Cx) (all : Array Oper) (f : R) : (l : List (Nat × Oper)) → (st : St) → (K : St → R) →
    runI P cx all f l st K = mo (runI P cx all none l st some) f K
  | [], st, K => rfl
  | (i, o) :: rest, st, K => by
    unfold runI
    split
    · rename_i I vs _
      refine cond_par _ ?_ rfl
      refine (stepI_par all f o I vs st _).trans ?_
      refine Eq.trans ?_ (congrArg (fun z => mo z f K) (stepI_par all (none : Option St) o I vs st _)).symm
      rw [mo_mo]
      congr 1
      funext r
      exact runI_par P cx all f rest _ K
    · split
      · rename_i I _
        refine cond_par _ ?_ rfl
        refine (stepI_par all f o I [] st _).trans ?_
        refine Eq.trans ?_ (congrArg (fun z => mo z f K) (stepI_par all (none : Option St) o I [] st _)).symm
        rw [mo_mo]
        congr 1
        funext r
        exact runI_par P cx all f rest _ K
      split
      · rename_i b te d y _
        refine cond_par _ ?_ rfl
        rw [Inl.par, Inl.par (R := Option St), mo_mo]
        congr 1
        funext r
        exact runI_par P cx all f rest _ K
      refine (runOps_par P cx _ all f [(i, o)] st _).trans ?_
      refine Eq.trans ?_ (congrArg (fun z => mo z f K) (runOps_par P cx _ all (none : Option St) [(i, o)] st _)).symm
      rw [mo_mo]
      congr 1
      funext r
      exact runI_par P cx all f rest _ K

/-- The way of a piece of code, told outright. -/
abbrev Way (a : {R : Type} → R → St → (Ex → St → R) → R) : Prop :=
  ∀ {R : Type} (f : R) (st : St) (K : Ex → St → R), a f st K = mo (a none st fun e s => some (e, s)) f fun r => K r.1 r.2

theorem iterK_par {R : Type} (a : {R : Type} → R → St → (Ex → St → R) → R) (h : Way a) (f : R) : (n : Nat) → (st : St) → (K : Ex → St → R) →
    iterK (a f) f n st K = mo (iterK (a none) none n st fun e s => some (e, s)) f fun r => K r.1 r.2
  | 0, st, K => rfl
  | n + 1, st, K => by
    unfold iterK
    refine (h f st _).trans ?_
    refine Eq.trans ?_ (congrArg (fun z => mo z f _) (h none st _)).symm
    rw [mo_mo]
    congr 1
    funext r
    obtain ⟨e, s⟩ := r
    cases e with
    | normal => exact iterK_par a h f n s K
    | _ => rfl

section
variable {R : Type} (P : Program) (cx : Cx) (Λ : Nat → Option Lf) (n : Nat) (f : R)
theorem exec_skip (st : St) (K : Ex → St → R) : exec P cx Λ n f .skip st K = K .normal st := rfl
theorem exec_region (id : Nat) (ops : Array Oper) (draw : Bool) (st : St) (K : Ex → St → R) : exec P cx Λ n f (.region id ops draw) st K =
    cond draw
      (cond (P.follows .mixedOrders && drawOK ops (owns st.nx st.tm st.mem ops.toList)) (runOps P cx (accD st.nx (masks ops.toList []) (owns st.nx st.tm st.mem ops.toList)) ops f (numbered 0 ops.toList) st fun st' => K .normal { st' with nx := st'.nx + ops.size }) f)
      (runI P cx ops f (numbered 0 ops.toList) st fun st' => K .normal { st' with nx := st'.nx + ops.size }) := rfl
theorem exec_seq (a b : Code) (st : St) (K : Ex → St → R) : exec P cx Λ n f (.seq a b) st K = exec P cx Λ n f a st fun e st' => match e with
      | .normal => exec P cx Λ n f b st' K
      | e => K e st' := rfl
theorem exec_cond (c : Operand) (a b : Code) (st : St) (K : Ex → St → R) : exec P cx Λ n f (.cond c a b) st K = match evO cx.gl st.tm c with
      | some (.bool t) => (match c with
        | .tmp d => cond t (exec P cx Λ n f a (st.know d true) K) (exec P cx Λ n f b (st.know d false) K)
        | _ => cond t (exec P cx Λ n f a st K) (exec P cx Λ n f b st K))
      | _ => f := rfl
theorem exec_block (id : Nat) (a : Code) (st : St) (K : Ex → St → R) : exec P cx Λ n f (.block id a) st K = match Λ id with
      | some L => (L st).run f fun r => K r.1 r.2
      | none => exec P cx Λ n f a st fun e st' => match e with
        | .exit j => cond (Nat.beq j id) (K .normal st') (K (.exit j) st')
        | e => K e st' := rfl
theorem exec_loop (a : Code) (st : St) (K : Ex → St → R) : exec P cx Λ n f (.loop a) st K = iterK (exec P cx Λ n f a) f n st K := rfl
theorem exec_exit (id : Nat) (st : St) (K : Ex → St → R) : exec P cx Λ n f (.exit id) st K = K (.exit id) st := rfl
theorem exec_scope (a : Code) (st : St) (K : Ex → St → R) : exec P cx Λ n f (.scope a) st K = exec P cx Λ n f a st fun e st' => match e with
      | .goto l => (match findLabel a l with
        | some _ => execL P cx Λ n f a l st' fun e st'' => match e with
          | .goto _ => f
          | e => K e st''
        | none => f)
      | e => K e st' := rfl
theorem exec_goto (l : Nat) (st : St) (K : Ex → St → R) : exec P cx Λ n f (.goto l) st K = K (.goto l) st := rfl
theorem execL_seq (a b : Code) (l : Nat) (st : St) (K : Ex → St → R) : execL P cx Λ n f (.seq a b) l st K = match findLabel a l with
      | some _ => execL P cx Λ n f a l st fun e st' => match e with
        | .normal => exec P cx Λ n f b st' K
        | e => K e st'
      | none => execL P cx Λ n f b l st K := rfl
theorem execL_label (l' l : Nat) (st : St) (K : Ex → St → R) : execL P cx Λ n f (.label l') l st K = K .normal st := rfl
theorem exec_label (l : Nat) (st : St) (K : Ex → St → R) : exec P cx Λ n f (.label l) st K = K .normal st := rfl
theorem exec_ret (st : St) (K : Ex → St → R) : exec P cx Λ n f .ret st K = K .ret st := rfl
end

theorem exec_parB (P : Program) (cx : Cx) (Λ : Nat → Option Lf) (n : Nat) (c : Code) : (Way fun f st K => exec P cx Λ n f c st K) ∧ ∀ l, Way fun f st K => execL P cx Λ n f c l st K := by
  induction c with
  | skip => exact ⟨fun f st K => rfl, fun l R f st K => rfl⟩
  | region id ops draw =>
    refine ⟨?_, fun l R f st K => rfl⟩
    intro R f st K
    simp only [exec_region]
    refine cond_par _ (cond_par _ ?_ rfl) ?_
    · rw [runOps_par, runOps_par (R := Option (Ex × St)), mo_mo]; rfl
    · rw [runI_par, runI_par (R := Option (Ex × St)), mo_mo]; rfl
  | seq a b iha ihb =>
    refine ⟨?_, fun l => ?_⟩
    · intro R f st K
      simp only [exec_seq]
      refine (iha.1 f st _).trans ?_
      refine Eq.trans ?_ (congrArg (fun z => mo z f _) (iha.1 none st _)).symm
      rw [mo_mo]
      congr 1
      funext r
      obtain ⟨e, s⟩ := r
      cases e with
      | normal => exact ihb.1 f s K
      | _ => rfl
    · intro R f st K
      simp only [execL_seq]
      split
      · refine (iha.2 l f st _).trans ?_
        refine Eq.trans ?_ (congrArg (fun z => mo z f _) (iha.2 l none st _)).symm
        rw [mo_mo]
        congr 1
        funext r
        obtain ⟨e, s⟩ := r
        cases e with
        | normal => exact ihb.1 f s K
        | _ => rfl
      · exact ihb.2 l f st K
  | cond c a b iha ihb =>
    refine ⟨?_, fun l R f st K => rfl⟩
    intro R f st K
    simp only [exec_cond]
    split
    · split
      · exact cond_par _ (iha.1 f _ K) (ihb.1 f _ K)
      · exact cond_par _ (iha.1 f st K) (ihb.1 f st K)
    · rfl
  | block id a iha =>
    refine ⟨?_, fun l R f st K => rfl⟩
    intro R f st K
    simp only [exec_block]
    split
    · exact Res.run_par _ _ _
    · refine (iha.1 f st _).trans ?_
      refine Eq.trans ?_ (congrArg (fun z => mo z f _) (iha.1 none st _)).symm
      rw [mo_mo]
      congr 1
      funext r
      obtain ⟨e, s⟩ := r
      cases e with
      | exit => exact cond_par _ rfl rfl
      | _ => rfl
  | loop a iha =>
    refine ⟨?_, fun l R f st K => rfl⟩
    intro R f st K
    simp only [exec_loop]
    exact iterK_par (fun f st K => exec P cx Λ n f a st K) iha.1 f n st K
  | rangeFunc => exact ⟨fun f st K => rfl, fun l R f st K => rfl⟩
  | exit => exact ⟨fun f st K => rfl, fun l R f st K => rfl⟩
  | scope a iha =>
    refine ⟨?_, fun l R f st K => rfl⟩
    intro R f st K
    simp only [exec_scope]
    refine (iha.1 f st _).trans ?_
    refine Eq.trans ?_ (congrArg (fun z => mo z f _) (iha.1 none st _)).symm
    rw [mo_mo]
    congr 1
    funext r
    obtain ⟨e, s⟩ := r
    cases e with
    | goto l =>
      simp only
      split
      · refine (iha.2 l f s _).trans ?_
        refine Eq.trans ?_ (congrArg (fun z => mo z f _) (iha.2 l none s _)).symm
        rw [mo_mo]
        congr 1
        funext r
        obtain ⟨e, s⟩ := r
        cases e <;> rfl
      · rfl
    | _ => rfl
  | label => exact ⟨fun f st K => rfl, fun l R f st K => rfl⟩
  | goto => exact ⟨fun f st K => rfl, fun l R f st K => rfl⟩
  | ret => exact ⟨fun f st K => rfl, fun l R f st K => rfl⟩
  | refuse => exact ⟨fun f st K => rfl, fun l R f st K => rfl⟩

theorem exec_par (P : Program) (cx : Cx) (Λ : Nat → Option Lf) (n : Nat) (c : Code) : Way fun f st K => exec P cx Λ n f c st K := (exec_parB P cx Λ n c).1

end Go.Vx
