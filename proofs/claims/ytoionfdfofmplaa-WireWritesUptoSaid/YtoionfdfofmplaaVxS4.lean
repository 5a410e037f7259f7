/- The engine, part S4: rows of numbers and texts among a row's arguments. -/
import Derived.Test.YtoionfdfofmplaaVxS3
set_option autoImplicit false
set_option linter.unusedVariables false
set_option linter.unusedSimpArgs false
namespace Go.Vx
open Go Go.RowKit

variable {H : Type} {enc : TypeId × Value → H} {P : Program}

theorem SliceAt.ints {W : World} {v : Value} {e : TypeId} {k : IntKind} {l : List Int} (hu : P.underlying e = some (.int k)) (hc : P.cellsOf e = 1) (h : SliceAt P W v (.vec (.int k) l) e) : SliceAt P W v (.ints k l.length l) e := by
  obtain ⟨nm, h1, h2, h3, h4, h5, h6, h7, h8, h9, h10⟩ := h
  have ec : cells P (fun _ => none) (.ints k l.length l) = cells P (fun _ => none) (.vec (.int k) l) := by
    rw [cells_vec]
    simp only [cells, den, Value.cells]
    have : ∀ l : List Int, l.map (Value.int k) = List.flatMap (Tc.int k).cs l := by
      intro l
      induction l with
      | nil => rfl
      | cons a l ih => rw [List.flatMap_cons, List.map_cons, ih]; rfl
    simp [this]
  refine ⟨nm, h1, h2, h3, h4, h5, h6, h7, ?_, ?_, ?_⟩
  · simp only [HasN, h2, if_true] at h8 ⊢
    rw [h3]
    exact ⟨h8.1, hu, hc⟩
  · rw [ec]; exact h9
  · rw [ec]; exact h10

/-- The start of a plain row with a condition, tried. -/
theorem witness_upto {C : Checked} {os : Os} {f : FuncId} {fn : Func} {s : OpenSpec} {k : (H : Type) → List (DataW H) → Bool} (hk : s.cond = some k) {conds : List PathCond} {apart : Bool} (modest : Bool) (i : Input) (fuel : Nat)
    (hv : (World.plainHolding C.prog os i).variablesB C.prog = true)
    (hr : ((World.plainHolding C.prog os i).heap.toList.drop C.prog.globals.size).take ((begin C.prog (fun _ _ => 0) default).world.heap.size - C.prog.globals.size) =
      (begin C.prog (fun _ _ => 0) default).world.heap.toList.drop C.prog.globals.size)
    (hok : Input.okWideB C.prog (World.plainHolding C.prog os i) f ⟨#[], i.args, []⟩ = true)
    (hb : (match DataW.whole enc C.prog (World.plainHolding C.prog os i).memory fn.params.toList s.vars apart i.args.toList fuel with
      | some x => conds.all (PathCond.test C.prog ⟨fn.params.toList, x.1, s.bare.plain.varTypes C.prog, x.2.1⟩) && k H (x.1 ++ x.2.1)
      | none => false) = true)
    (hsz : s.bare.sizedB enc C.prog fn apart (World.plainHolding C.prog os i).memory i.args fuel = true) :
    ∃ (w : World) (tape : Tape) (i : Input), w.os = os ∧ (w.forCall tape i).Shaped C.prog ∧ i.vars = [] ∧ Input.okWide C.prog (w.forCall tape i) .any w.heap.size f i ∧
      s.pre6 enc C.prog fn conds apart (w.forCall tape i).memory i.args ∧ ({ modest := modest } : Assume).holds C.prog (lone (Frame.enter C.prog f i.args .normal) [] (w.forCall tape i)) := by
  split at hb
  · rename_i x hx
    rw [Bool.and_eq_true] at hb
    exact OpenSpec.witness hk modest i fuel hv hr hok hx hb.1 hb.2 hsz
  · cases hb

/- The bulk of an argument. -/
end Go.Vx
