/- The engine, part Io2: what the printed texts call, for calls told by forms. -/
import Derived.Test.YtoionfdfofmplaaVxIo
set_option autoImplicit false
set_option linter.unusedVariables false
set_option linter.unusedSimpArgs false
namespace Go.Vx
open Go Go.RowKit

def OneOK (P : Program) (w0 : World) (gs : List Gv) (S : Nat) (g : FuncId) (I : Inl) : Prop :=
  ∀ w : Base, w.g = w0 → ∀ cx : Cx, cx.ro = gs.length + S → cx.gl = glAt gs 0 → InlOK P cx w g I
def AllOK (P : Program) (w0 : World) (gs : List Gv) (S : Nat) (is : List (FuncId × Inl)) : Prop :=
  ∀ w : Base, w.g = w0 → ∀ cx : Cx, cx.ro = gs.length + S → cx.gl = glAt gs 0 → ∀ x ∈ is, InlOK P cx w x.1 x.2

theorem allok_nil {P : Program} {w0 : World} {gs : List Gv} {S : Nat} : AllOK P w0 gs S [] := fun _ _ _ _ _ x hx => by simp at hx
theorem allok_cons {P : Program} {w0 : World} {gs : List Gv} {S : Nat} {g : FuncId} {I : Inl} {l : List (FuncId × Inl)} (h1 : OneOK P w0 gs S g I) (h : AllOK P w0 gs S l) : AllOK P w0 gs S ((g, I) :: l) := fun w hw cx e1 e2 x hx => by
  rcases List.mem_cons.1 hx with rfl | hx
  · exact h1 w hw cx e1 e2
  · exact h w hw cx e1 e2 x hx

theorem one_no {P : Program} {w0 : World} {gs : List Gv} {S : Nat} {g : FuncId} : OneOK P w0 gs S g Inl.no := fun w hw cx h1 h2 => by
  intro vs mem nx v mem' nx' hr
  exact absurd hr (by simp [Inl.no])

theorem one_of {P : Program} {w0 : World} {cs : List (FuncId × Ct)} (hcs : ∀ x ∈ cs, SoundAt P w0 x.1 x.2) {gs : List Gv} {S n : Nat} {l : List (FuncId × Inl)} (h : AllOK P w0 gs S l) {g : FuncId} {fn : Func} (k1 : P.funcs[g]? = some fn) (k2 : (fn.name == "runtime.NumGoroutine") = false) (k3 : fn.body.isNone = false) :
    OneOK P w0 gs S g (inlOf P cs gs S n l fn) := fun w hw cx h1 h2 =>
  inl_ok (cx := cxIn fn cs gs S l) (lkG_sound cs fun x hx => by rw [hw]; exact hcs x hx) n (lkI_sound l (h w hw _ rfl rfl)) k1 k2 k3 h1 h2

end Go.Vx
