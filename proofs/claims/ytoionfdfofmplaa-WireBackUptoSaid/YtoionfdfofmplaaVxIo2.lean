/- The engine, part Io2: what the printed texts call, for calls told by forms. -/
import Derived.Test.YtoionfdfofmplaaVxIo
set_option autoImplicit false
set_option linter.unusedVariables false
set_option linter.unusedSimpArgs false
namespace Go.Vx
open Go Go.RowKit

def OneOK (P : Program) (w0 : World) (gs : List Gv) (S : Nat) (g : FuncId) (I : Inl) : Prop :=
  ∀ w : Base, w.g = w0 → ∀ cx : Cx, cx.ro = gs.length + S → cx.gl = glAt gs 0 → InlOK P cx w g I
def AllOK (P : Program) (w0 : World) (gs : List Gv) (S : Nat) (is : List (FuncId × Inl)) : Prop :=
  ∀ w : Base, w.g = w0 → ∀ cx : Cx, cx.ro = gs.length + S → cx.gl = glAt gs 0 → ∀ x ∈ is, InlOK P cx w x.1 x.2

theorem allok_nil {P : Program} {w0 : World} {gs : List Gv} {S : Nat} : AllOK P w0 gs S [] := fun _ _ _ _ _ x hx => by simp at hx
theorem allok_cons {P : Program} {w0 : World} {gs : List Gv} {S : Nat} {g : FuncId} {I : Inl} {l : List (FuncId × Inl)} (h1 : OneOK P w0 gs S g I) (h : AllOK P w0 gs S l) : AllOK P w0 gs S ((g, I) :: l) := fun w hw cx e1 e2 x hx => by
  rcases List.mem_cons.1 hx with rfl | hx
  · exact h1 w hw cx e1 e2
  · exact h w hw cx e1 e2 x hx

theorem one_of {P : Program} {w0 : World} {cs : List (FuncId × Ct)} (hcs : ∀ x ∈ cs, SoundAt P w0 x.1 x.2) {gs : List Gv} {S n : Nat} {l : List (FuncId × Inl)} (h : AllOK P w0 gs S l) {g : FuncId} {fn : Func} (k1 : P.funcs[g]? = some fn) (k2 : (fn.name == "runtime.NumGoroutine") = false) (k3 : fn.body.isNone = false) :
    OneOK P w0 gs S g (inlOf P cs gs S n l fn) := fun w hw cx h1 h2 =>
  inl_ok (cx := cxIn fn cs gs S l) (lkG_sound cs fun x hx => by rw [hw]; exact hcs x hx) n (lkI_sound l (h w hw _ rfl rfl)) k1 k2 k3 h1 h2

/-- A printed function, some of whose calls are run in place. -/
theorem fn_printedO {P : Program} {w0 : World} {g : FuncId} {fn : Func} {cs : List (FuncId × Ct)} (hcs : ∀ x ∈ cs, SoundAt P w0 x.1 x.2) {gs : List Gv} {S : Nat} (hgs : GlobOK P w0 gs) {is : List (FuncId × Inl)} {ls : List (Nat × Lf)} {n : Nat} (his : AllOK P w0 gs S is) (hfn : P.funcs[g]? = some fn)
    (hname : (fn.name == "runtime.NumGoroutine") = false) (hb : fn.body = some (bodyOf fn)) (hΛ : ∀ w : Base, w.g = w0 → LoopsOK P (cxIn fn cs gs S is) w (fun i => lkL i ls) (bodyOf fn))
    {α β : Type} {A : Ag α} {B : Pt β} {F : α → Option β} (hS : ∀ x, (Nat.beq (unc gs.length (A.mk x)).2.length S && plL (A.mk x)) = true)
    (hrun : ∀ x, run P (fun g => lkG g cs) (glAt gs 0) (gs.length + S) (memAt gs 0 ++ (unc gs.length (A.mk x)).2) (fun i => lkL i ls) n fn (unc gs.length (A.mk x)).1 none B.get (fun g => lkI g is) = F x) : SoundAt P w0 g (fct A B F) :=
  sound_fct (sound_run (lkG_sound cs hcs) hgs n hfn hname (fun c hc w hw => by rw [hb] at hc; obtain rfl := Option.some.inj hc; exact hΛ w hw) (fun w hw => lkI_sound is (his w hw _ rfl rfl)) (by rw [hb]; rfl)) hS hrun

end Go.Vx
