/- Walks, part U: a function with two shapes of arguments: one contract of both. -/
import Derived.Test.YtoionfdfofmplaaVxR
set_option autoImplicit false
set_option linter.unusedVariables false
set_option linter.unusedSimpArgs false
namespace Go.Vx
open Go

/-- The first contract; where it does not speak, the second. -/
def uct (C D : Ct) : Ct := fun vs => match C vs with
  | .fail => D vs
  | r => r
theorem sound_uct {P : Program} {w0 : World} {g : FuncId} {C D : Ct} (h : SoundAt P w0 g C) (k : SoundAt P w0 g D) : SoundAt P w0 g (uct C D) := by
  intro vs v hv ok w hw as ha
  unfold uct at hv
  split at hv
  · exact k vs v hv ok w hw as ha
  · exact h vs v hv ok w hw as ha

end Go.Vx
