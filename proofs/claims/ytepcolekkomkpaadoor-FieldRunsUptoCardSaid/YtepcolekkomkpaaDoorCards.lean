/-
  DERIVED. GIVEN WITH THE SEED: THE CARDS: each row of YtepcolekkomkpaaDoorRows.lean that lists a variable, with what it lists TIED to the program's text (the seventh form; the later family's looks); each row that meets fmt, with fmt's text TOLD by the authors' own Lean function (tested against real Go, not proved from fmt's source: count such statements apart). THE CARD IS WHAT COUNTS. Prove the row's statement (the work); the ties are given (YtepcolekkomkpaaDoorTie.lean); close each card by the builder's one call (the guide's Derived/Test/ToyasCard.lean, 'card_holds'). Laid BY PROGRAM, IN A SANDBOX (cutbox-door.mjs). By AI agents, Wed Nov 11 2026. No macro, syntax, notation, axiom, sorry.
-/
import Derived.Test.YtepcolekkomkpaaDoorRows
import GoSem.ClaimSeven
namespace Go.Proofs.YtepcolekkomkpaaDoor
namespace Rows

/-- THE TIED CARD OF 'veillaw01.FieldRuns'. -/
def fieldRunsCard : Claim7 := { stood := { row := fieldRunsRow, standIns := [], harness := (true, "352307a4e556b72d0e406d7a74e84b079d6aaa63ab5bc7174567637fd49d7e51"), looks := false }, kinds := [], alts := [], laidByText := true, laidKinds := [.data, .data, .data], laidTests := true, laidLooks := .later }
def FieldRunsCardSaid : Prop := Claim7.holds Tryd.pinned (.plain (OpenSpec.ofChange fieldRunsSpec)) fieldRunsCard

/-- THE SECOND FORM's CARD OF 'veillaw01.FieldRuns'. -/
def fieldRunsUptoCard : Claim7 := { stood := { row := fieldRunsUptoRow, standIns := [], harness := (true, "352307a4e556b72d0e406d7a74e84b079d6aaa63ab5bc7174567637fd49d7e51"), looks := false }, kinds := [], alts := [], laidByText := true, laidKinds := [.data, .data, .data], laidTests := true, laidLooks := .later }
def FieldRunsUptoCardSaid : Prop := Claim7.holds Tryd.pinned (.plain (OpenSpec.upto fieldRunsSpec)) fieldRunsUptoCard
end Rows
end Go.Proofs.YtepcolekkomkpaaDoor
