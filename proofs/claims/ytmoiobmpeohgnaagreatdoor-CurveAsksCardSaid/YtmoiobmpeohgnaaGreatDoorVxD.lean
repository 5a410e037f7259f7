/- The engine, part D: a run in the style of continuations is a run and then its continuation. -/
import Derived.Test.YtmoiobmpeohgnaaGreatDoorVxC
set_option autoImplicit false
set_option linter.unusedVariables false
set_option linter.unusedSimpArgs false
namespace Go.Vx
open Go
theorem mo_mo {α β R:Type} (x:Option α) (g : α → Option β) (f:R) (k : β → R) : mo (mo x none g) f k = mo x f fun a => mo (g a) f k := by
 cases x <;> rfl
theorem Res.run_par {A R:Type} (r:Res A) (f:R) (k:A → R) : r.run f k = mo (r.run none some) f k := by
 induction r with
 | fail => rfl
 | ok a => rfl
 | opt x g ih =>
  simp only [Res.run, mo_mo]
  cases x with
  | none => rfl
  | some a => exact ih a
 | ite b t e iht ihe => cases b <;> simp [Res.run, iht, ihe]
 | sum x l r ihl ihr =>
  cases x with
  | inl a => simp only [Res.run]; exact ihl a
  | inr b => simp only [Res.run]; exact ihr b
theorem ZcL {α R:Type} (b:Bool) {x y:R} {x' y':Option α} {f:R} {k : α → R} (hx:x = mo x' f k) (hy:y = mo y' f k) :
  cond b x y = mo (cond b x' y') f k := by cases b <;> simp [hx, hy]
theorem ZEb {α R:Type} (ev:Operand → Option AV) (x:Option Operand) (d y:Nat) (f:R) (k : α → R) (g:Nat → R) (g':Nat → Option α) (h:∀ n, g n = mo (g' n) f k) :
  bnd ev x d y f g = mo (bnd ev x d y none g') f k := by
 unfold bnd
 split
 ·exact h _
 ·split
  ·exact ZcL _ (h _) rfl
  ·rfl
theorem ZFB {R:Type} (P:Program) (ro:Nat) (e:TypeId) (x y:AV) (get:Nat → Option AV) (f:R) (k:Eff → R) : appK P ro e x y get f k = mo (appK P ro e x y get none some) f k := by
 unfold appK
 repeat' (first
  | rfl
  | refine ZcL _ ?_ ?_
  | split)
theorem ZFC {R:Type} (v:AV) (f:R) (k:Eff → R) : retK v k = mo (retK v fun e => some e) f k := by
 unfold retK
 split <;> rfl
theorem opK_par {R:Type} (P:Program) (Γ:FuncId → Option Ct) (ro:Nat) (o:Op) (ev:Operand → Option AV) (get:Nat → Option AV) (f:R) (k:Eff → R) :
  opK P Γ ro o ev get f k = mo (opK P Γ ro o ev get none some) f k := by
 unfold opK
 repeat' (first
  | rfl
  | refine ZcL _ ?_ ?_
  | exact Res.run_par _ _ _
  | exact ZFB _ _ _ _ _ _ _ _
  | (refine ZEb _ _ _ _ _ _ _ _ fun _ => ?_)
  | split)
 all_goals (rw [Res.run_par, Res.run_par (R := Option Eff)]; cases Res.run _ none some with | none => rfl | some v => exact ZFC v f k)
theorem ZEc {R:Type} (P:Program) (t:TypeId) (n:Bool) (x y:AV) (f:R) (k:Eff → R) : eqK P t n x y f k = mo (eqK P t n x y none some) f k := by
 unfold eqK
 split
 ·exact ZcL _ rfl rfl
 ·rfl
theorem opE_par {R:Type} (P:Program) (Γ:FuncId → Option Ct) (ro:Nat) (o:Op) (ev:Operand → Option AV) (get:Nat → Option AV) (f:R) (k:Eff → R) :
  opE P Γ ro o ev get f k = mo (opE P Γ ro o ev get none some) f k := by
 unfold opE
 split
 ·split
  ·exact ZcL _ rfl rfl
  ·exact ZEc _ _ _ _ _ _ _
  ·rfl
 ·split
  ·exact ZcL _ rfl rfl
  ·exact ZEc _ _ _ _ _ _ _
  ·rfl
 ·exact opK_par _ _ _ _ _ _ _ _
theorem ZFD {R:Type} (P:Program) (ro:Nat) (e:TypeId) (x y:AV) (get:Nat → Option AV) (f:R) (k:Eff → R) : appX P ro e x y get f k = mo (appX P ro e x y get none some) f k := by
 unfold appX
 repeat' (first
  | rfl
  | refine ZcL _ ?_ ?_
  | split)
theorem ZFE {R:Type} (P:Program) (e:TypeId) (x y:AV) (f:R) (k:Eff → R) : appZ P e x y f k = mo (appZ P e x y none some) f k := by
 unfold appZ
 repeat' (first
  | rfl
  | refine ZcL _ ?_ ?_
  | split)
theorem ZpV {R:Type} (P:Program) (Γ:FuncId → Option Ct) (ro:Nat) (o:Op) (ev:Operand → Option AV) (get:Nat → Option AV) (f:R) (k:Eff → R) :
  opK' P Γ ro o ev get f k = mo (opK' P Γ ro o ev get none some) f k := by
 unfold opK'
 repeat' (first
  | exact opE_par _ _ _ _ _ _ _ _
  | rfl
  | exact ZFD _ _ _ _ _ _ _ _
  | exact ZFE _ _ _ _ _ _
  | refine ZcL _ ?_ ?_
  | (refine ZEb _ _ _ _ _ _ _ _ fun _ => ?_)
  | split)
theorem ZfD {R:Type} (P:Program) (cx:Cx) (acc:Nat → Nat → Bool) (all:Array Oper) (f:R) : (l:List (Nat × Oper)) → (st:St) → (K:St → R) →
  runOps P cx acc all f l st K = mo (runOps P cx acc all none l st some) f K
 | [], st, K => rfl
 | (i, o) :: rest, st, K => by
  have one : ∀ (st:St) (ev:Operand → Option AV) (get:Nat → Option AV), opK' P cx.Γ cx.ro o.op ev get f (fun e => runOps P cx acc all f rest (st.app i o.dst e) K) =
    mo (opK' P cx.Γ cx.ro o.op ev get none (fun e => runOps P cx acc all none rest (st.app i o.dst e) some)) f K := by
   intro st ev get
   rw [ZpV, ZpV (R := Option St), mo_mo]
   congr 1
   funext e
   exact ZfD P cx acc all f rest _ K
  unfold runOps
  refine ZcL _ ?_ rfl
  split
  ·exact one _ _ _
  ·split
   ·rfl
   ·split
    ·split
     ·exact ZcL _ (one _ _ _) (ZfD P cx acc all f rest _ K)
     ·exact ZcL _ (ZfD P cx acc all f rest _ K) (one _ _ _)
    ·exact ZfD P cx acc all f rest _ K
    ·rfl
theorem Zl9 {R:Type} (all:Array Oper) (f:R) (o:Oper) (I:Inl) (vs:List AV) (st:St) (K:St → R) : stepI all f o I vs st K = mo (stepI all none o I vs st some) f K := by
 have run : ∀ g : AV → List (Nat × AV) → Nat → St, (I.run f vs st.mem (st.nx + all.size) fun v mem nx => K (g v mem nx)) = mo (I.run none vs st.mem (st.nx + all.size) fun v mem nx => some (g v mem nx)) f K := by
  intro g
  rw [I.par, I.par (R := Option St), mo_mo]
  rfl
 unfold stepI
 split
 ·exact run _
 ·split
  ·rfl
  ·split
   ·split
    ·exact ZcL _ (run _) rfl
    ·exact ZcL _ rfl (run _)
   ·rfl
   ·rfl
theorem ZpT {R:Type} (P:Program) (cx:Cx) (all:Array Oper) (f:R) : (l:List (Nat × Oper)) → (st:St) → (K:St → R) →
  runI P cx all f l st K = mo (runI P cx all none l st some) f K
 | [], st, K => rfl
 | (i, o) :: rest, st, K => by
  unfold runI
  split
  ·rename_i I vs _
   refine ZcL _ ?_ rfl
   refine (Zl9 all f o I vs st _).trans ?_
   refine Eq.trans ?_ (congrArg (fun z => mo z f K) (Zl9 all (none:Option St) o I vs st _)).symm
   rw [mo_mo]
   congr 1
   funext r
   exact ZpT P cx all f rest _ K
  ·split
   ·rename_i I _
    refine ZcL _ ?_ rfl
    refine (Zl9 all f o I [] st _).trans ?_
    refine Eq.trans ?_ (congrArg (fun z => mo z f K) (Zl9 all (none:Option St) o I [] st _)).symm
    rw [mo_mo]
    congr 1
    funext r
    exact ZpT P cx all f rest _ K
   refine (ZfD P cx _ all f [(i, o)] st _).trans ?_
   refine Eq.trans ?_ (congrArg (fun z => mo z f K) (ZfD P cx _ all (none:Option St) [(i, o)] st _)).symm
   rw [mo_mo]
   congr 1
   funext r
   exact ZpT P cx all f rest _ K
abbrev Way (a : {R:Type} → R → St → (Ex → St → R) → R) : Prop :=
 ∀ {R:Type} (f:R) (st:St) (K:Ex → St → R), a f st K = mo (a none st fun e s => some (e, s)) f fun r => K r.1 r.2
theorem ZzO {R:Type} (a : {R:Type} → R → St → (Ex → St → R) → R) (h:Way a) (f:R) : (n:Nat) → (st:St) → (K:Ex → St → R) →
  iterK (a f) f n st K = mo (iterK (a none) none n st fun e s => some (e, s)) f fun r => K r.1 r.2
 | 0, st, K => rfl
 | n + 1, st, K => by
  unfold iterK
  refine (h f st _).trans ?_
  refine Eq.trans ?_ (congrArg (fun z => mo z f _) (h none st _)).symm
  rw [mo_mo]
  congr 1
  funext r
  obtain ⟨e, s⟩ := r
  cases e with
  | normal => exact ZzO a h f n s K
  | _ => rfl
section
variable {R:Type} (P:Program) (cx:Cx) (Λ:Nat → Option Lf) (n:Nat) (f:R)
theorem ZDH (st:St) (K:Ex → St → R) : exec P cx Λ n f .skip st K = K .normal st := rfl
theorem Zwh (id:Nat) (ops:Array Oper) (draw:Bool) (st:St) (K:Ex → St → R) : exec P cx Λ n f (.region id ops draw) st K =
  cond draw
   (cond (P.follows .mixedOrders && drawOK ops (owns st.nx st.tm st.mem ops.toList)) (runOps P cx (accD st.nx (masks ops.toList []) (owns st.nx st.tm st.mem ops.toList)) ops f (numbered 0 ops.toList) st fun st' => K .normal { st' with nx := st'.nx + ops.size }) f)
   (runI P cx ops f (numbered 0 ops.toList) st fun st' => K .normal { st' with nx := st'.nx + ops.size }) := rfl
theorem ZBE (a b:Code) (st:St) (K:Ex → St → R) : exec P cx Λ n f (.seq a b) st K = exec P cx Λ n f a st fun e st' => match e with
   | .normal => exec P cx Λ n f b st' K
   | e => K e st' := rfl
theorem Zzo (c:Operand) (a b:Code) (st:St) (K:Ex → St → R) : exec P cx Λ n f (.cond c a b) st K = match evO cx.gl st.tm c with
   | some (.bool t) => (match c with
    | .tmp d => cond t (exec P cx Λ n f a (st.know d true) K) (exec P cx Λ n f b (st.know d false) K)
    | _ => cond t (exec P cx Λ n f a st K) (exec P cx Λ n f b st K))
   | _ => f := rfl
theorem ZxN (id:Nat) (a:Code) (st:St) (K:Ex → St → R) : exec P cx Λ n f (.block id a) st K = match Λ id with
   | some L => (L st).run f fun r => K r.1 r.2
   | none => exec P cx Λ n f a st fun e st' => match e with
    | .exit j => cond (Nat.beq j id) (K .normal st') (K (.exit j) st')
    | e => K e st' := rfl
theorem Zzp (a:Code) (st:St) (K:Ex → St → R) : exec P cx Λ n f (.loop a) st K = iterK (exec P cx Λ n f a) f n st K := rfl
theorem ZDI (id:Nat) (st:St) (K:Ex → St → R) : exec P cx Λ n f (.exit id) st K = K (.exit id) st := rfl
theorem ZxO (a:Code) (st:St) (K:Ex → St → R) : exec P cx Λ n f (.scope a) st K = exec P cx Λ n f a st fun e st' => match e with
   | .goto l => (match findLabel a l with
    | some _ => execL P cx Λ n f a l st' fun e st'' => match e with
     | .goto _ => f
     | e => K e st''
    | none => f)
   | e => K e st' := rfl
theorem ZDJ (l:Nat) (st:St) (K:Ex → St → R) : exec P cx Λ n f (.goto l) st K = K (.goto l) st := rfl
theorem Zwi (a b:Code) (l:Nat) (st:St) (K:Ex → St → R) : execL P cx Λ n f (.seq a b) l st K = match findLabel a l with
   | some _ => execL P cx Λ n f a l st fun e st' => match e with
    | .normal => exec P cx Λ n f b st' K
    | e => K e st'
   | none => execL P cx Λ n f b l st K := rfl
theorem ZAG (l' l:Nat) (st:St) (K:Ex → St → R) : execL P cx Λ n f (.label l') l st K = K .normal st := rfl
theorem ZCl (l:Nat) (st:St) (K:Ex → St → R) : exec P cx Λ n f (.label l) st K = K .normal st := rfl
theorem ZFh (st:St) (K:Ex → St → R) : exec P cx Λ n f .ret st K = K .ret st := rfl
end
theorem Zzn (P:Program) (cx:Cx) (Λ:Nat → Option Lf) (n:Nat) (c:Code) : (Way fun f st K => exec P cx Λ n f c st K) ∧ ∀ l, Way fun f st K => execL P cx Λ n f c l st K := by
 induction c with
 | skip => exact ⟨fun f st K => rfl, fun l R f st K => rfl⟩
 | region id ops draw =>
  refine ⟨?_, fun l R f st K => rfl⟩
  intro R f st K
  simp only [Zwh]
  refine ZcL _ (ZcL _ ?_ rfl) ?_
  ·rw [ZfD, ZfD (R := Option (Ex × St)), mo_mo]; rfl
  ·rw [ZpT, ZpT (R := Option (Ex × St)), mo_mo]; rfl
 | seq a b iha ihb =>
  refine ⟨?_, fun l => ?_⟩
  ·intro R f st K
   simp only [ZBE]
   refine (iha.1 f st _).trans ?_
   refine Eq.trans ?_ (congrArg (fun z => mo z f _) (iha.1 none st _)).symm
   rw [mo_mo]
   congr 1
   funext r
   obtain ⟨e, s⟩ := r
   cases e with
   | normal => exact ihb.1 f s K
   | _ => rfl
  ·intro R f st K
   simp only [Zwi]
   split
   ·refine (iha.2 l f st _).trans ?_
    refine Eq.trans ?_ (congrArg (fun z => mo z f _) (iha.2 l none st _)).symm
    rw [mo_mo]
    congr 1
    funext r
    obtain ⟨e, s⟩ := r
    cases e with
    | normal => exact ihb.1 f s K
    | _ => rfl
   ·exact ihb.2 l f st K
 | cond c a b iha ihb =>
  refine ⟨?_, fun l R f st K => rfl⟩
  intro R f st K
  simp only [Zzo]
  split
  ·split
   ·exact ZcL _ (iha.1 f _ K) (ihb.1 f _ K)
   ·exact ZcL _ (iha.1 f st K) (ihb.1 f st K)
  ·rfl
 | block id a iha =>
  refine ⟨?_, fun l R f st K => rfl⟩
  intro R f st K
  simp only [ZxN]
  split
  ·exact Res.run_par _ _ _
  ·refine (iha.1 f st _).trans ?_
   refine Eq.trans ?_ (congrArg (fun z => mo z f _) (iha.1 none st _)).symm
   rw [mo_mo]
   congr 1
   funext r
   obtain ⟨e, s⟩ := r
   cases e with
   | exit => exact ZcL _ rfl rfl
   | _ => rfl
 | loop a iha =>
  refine ⟨?_, fun l R f st K => rfl⟩
  intro R f st K
  simp only [Zzp]
  exact ZzO (fun f st K => exec P cx Λ n f a st K) iha.1 f n st K
 | rangeFunc => exact ⟨fun f st K => rfl, fun l R f st K => rfl⟩
 | exit => exact ⟨fun f st K => rfl, fun l R f st K => rfl⟩
 | scope a iha =>
  refine ⟨?_, fun l R f st K => rfl⟩
  intro R f st K
  simp only [ZxO]
  refine (iha.1 f st _).trans ?_
  refine Eq.trans ?_ (congrArg (fun z => mo z f _) (iha.1 none st _)).symm
  rw [mo_mo]
  congr 1
  funext r
  obtain ⟨e, s⟩ := r
  cases e with
  | goto l =>
   simp only
   split
   ·refine (iha.2 l f s _).trans ?_
    refine Eq.trans ?_ (congrArg (fun z => mo z f _) (iha.2 l none s _)).symm
    rw [mo_mo]
    congr 1
    funext r
    obtain ⟨e, s⟩ := r
    cases e <;> rfl
   ·rfl
  | _ => rfl
 | label => exact ⟨fun f st K => rfl, fun l R f st K => rfl⟩
 | goto => exact ⟨fun f st K => rfl, fun l R f st K => rfl⟩
 | ret => exact ⟨fun f st K => rfl, fun l R f st K => rfl⟩
 | refuse => exact ⟨fun f st K => rfl, fun l R f st K => rfl⟩
theorem ZFg (P:Program) (cx:Cx) (Λ:Nat → Option Lf) (n:Nat) (c:Code) : Way fun f st K => exec P cx Λ n f c st K := (Zzn P cx Λ n c).1
end Go.Vx
