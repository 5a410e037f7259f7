/- The engine, part Io2: what the printed texts call, for calls told by forms. -/
import Derived.Test.YtmoiobmpeohgnaaGreatDoorVxIo
set_option autoImplicit false
set_option linter.unusedVariables false
set_option linter.unusedSimpArgs false
namespace Go.Vx
open Go Go.RowKit
def OneOK (P:Program) (w0:World) (gs:List Gv) (S:Nat) (g:FuncId) (I:Inl) : Prop :=
 ∀ w : Base, w.g = w0 → ∀ cx : Cx, cx.ro = gs.length + S → cx.gl = glAt gs 0 → InlOK P cx w g I
def AllOK (P:Program) (w0:World) (gs:List Gv) (S:Nat) (is:List (FuncId × Inl)) : Prop :=
 ∀ w : Base, w.g = w0 → ∀ cx : Cx, cx.ro = gs.length + S → cx.gl = glAt gs 0 → ∀ x ∈ is, InlOK P cx w x.1 x.2
theorem Zna {P:Program} {w0:World} {gs:List Gv} {S:Nat} : AllOK P w0 gs S [] := fun _ _ _ _ _ x hx => by simp at hx
theorem Znd {P:Program} {w0:World} {gs:List Gv} {S:Nat} {g:FuncId} {I:Inl} {l:List (FuncId × Inl)} (h1:OneOK P w0 gs S g I) (h:AllOK P w0 gs S l) : AllOK P w0 gs S ((g, I) :: l) := fun w hw cx e1 e2 x hx => by
 rcases List.mem_cons.1 hx with rfl | hx
 ·exact h1 w hw cx e1 e2
 ·exact h w hw cx e1 e2 x hx
theorem ZtE {P:Program} {w0:World} {fn:Func} {cs:List (FuncId × Ct)} (hcs:∀ x ∈ cs, SoundAt P w0 x.1 x.2) {gs:List Gv} {S:Nat} {is:List (FuncId × Inl)} {ls:List (Nat × Lf)} {n id:Nat} (his:AllOK P w0 gs S is) {α β γ δ ε ζ:Type} {H:Fm α β} {O:Fm γ δ} {T:Fm ε ζ} {nx:Nat}
  {step : α × β → Option ((α × β) ⊕ ((γ × δ) ⊕ (ε × ζ)))} {cz:List Nat} (hok:(H.ok nx && O.ok nx && T.ok nx && Nat.ble (gs.length + S) nx && (H.sok P (gs.length + S) && O.sok P (gs.length + S) && T.sok P (gs.length + S))) = true)
  (hstep:∀ v, exec P (cxIn fn cs gs S is) (fun i => lkL i ls) n none (loopBody fn id) (H.st nx v) (fun e st => rdEnd H O T nx id e st cz) = step v) (N:Nat)
  (hΛ:∀ w : Base, w.g = w0 → LoopsOK P (cxIn fn cs gs S is) w (fun i => lkL i ls) (loopBody fn id)) :
  ∀ w : Base, w.g = w0 → LoopOK P (cxIn fn cs gs S is) w id (.loop (loopBody fn id)) (loopCt H O T nx step N cz) := by
 intro w hw
 simp only [Bool.and_eq_true] at hok
 obtain ⟨⟨⟨⟨h1, h2⟩, h3⟩, h4⟩, ⟨s1, s2⟩, s3⟩ := hok
 have h4 := Nat.le_of_ble_eq_true h4
 exact ZAz (Zha cs fun x hx => by rw [hw]; exact hcs x hx) (ZiS is (his w hw _ rfl rfl)) (hΛ w hw) h1 h2 h3 s1 s2 s3 h4 (fun g v h => Zr6 gs 0 (gs.length + S) g v (by omega) h) (fun g v h => Zv9 gs 0 nx g v (by omega) h) hstep N
theorem ZA5 {P:Program} {w0:World} {g:FuncId} {fn:Func} {cs:List (FuncId × Ct)} (hcs:∀ x ∈ cs, SoundAt P w0 x.1 x.2) {gs:List Gv} {S:Nat} (hgs:GlobOK P w0 gs) {is:List (FuncId × Inl)} {ls:List (Nat × Lf)} {n:Nat} (his:AllOK P w0 gs S is) (hfn:P.funcs[g]? = some fn)
  (hname:(fn.name == "runtime.NumGoroutine") = false) (hb:fn.body = some (bodyOf fn)) (hΛ:∀ w : Base, w.g = w0 → LoopsOK P (cxIn fn cs gs S is) w (fun i => lkL i ls) (bodyOf fn))
  {α β:Type} {A:Ag α} {B:Pt β} {F : α → Option β} (hS:∀ x, (Nat.beq (unc gs.length (A.mk x)).2.length S && plL (A.mk x)) = true)
  (hrun:∀ x, run P (fun g => lkG g cs) (glAt gs 0) (gs.length + S) (memAt gs 0 ++ (unc gs.length (A.mk x)).2) (fun i => lkL i ls) n fn (unc gs.length (A.mk x)).1 none B.get (fun g => lkI g is) = F x) : SoundAt P w0 g (fct A B F) :=
 Zwa (Zwb (Zha cs hcs) hgs n hfn hname (fun c hc w hw => by rw [hb] at hc; obtain rfl := Option.some.inj hc; exact hΛ w hw) (fun w hw => ZiS is (his w hw _ rfl rfl)) (by rw [hb]; rfl)) hS hrun
end Go.Vx
