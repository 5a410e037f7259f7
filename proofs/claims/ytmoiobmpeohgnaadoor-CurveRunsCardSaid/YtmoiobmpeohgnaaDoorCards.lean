/-
  DERIVED. GIVEN WITH THE SEED: THE CARDS: each row of YtmoiobmpeohgnaaDoorRows.lean that lists a variable, with what it lists TIED to the program's text (the seventh form; the later family's looks); each row that meets fmt, with fmt's text TOLD by the authors' own Lean function (tested against real Go, not proved from fmt's source: count such statements apart). THE CARD IS WHAT COUNTS. Prove the row's statement (the work); the ties are given (YtmoiobmpeohgnaaDoorTie.lean); close each card by the builder's one call (the guide's Derived/Test/ToyasCard.lean, 'card_holds'). Laid BY PROGRAM, IN A SANDBOX (cutbox-door.mjs). By AI agents, Wed Nov 11 2026. No macro, syntax, notation, axiom, sorry.
-/
import Derived.Test.YtmoiobmpeohgnaaDoorRows
import GoSem.ClaimSeven
namespace Go.Proofs.YtmoiobmpeohgnaaDoor
namespace Rows

/-- THE TIED CARD OF 'veillaw04.CurveMakes'. -/
def curveMakesCard : Claim7 := { stood := { row := curveMakesRow, standIns := [], harness := (true, "517c048df6df2c9a841f8badb399b62dbcb12f8341a7d6a3f9a2abaa93efcb51"), looks := false }, kinds := [], alts := [], laidByText := true, laidKinds := [.data, .wider, .data, .data, .data, .wider, .data], laidTests := true, laidLooks := .later }
def CurveMakesCardSaid : Prop := Claim7.holds Tryd.pinned (.plain (OpenSpec.ofChange curveMakesSpec)) curveMakesCard

/-- THE TIED CARD OF 'veillaw04.CurveRuns'. -/
def curveRunsCard : Claim7 := { stood := { row := curveRunsRow, standIns := [], harness := (true, "517c048df6df2c9a841f8badb399b62dbcb12f8341a7d6a3f9a2abaa93efcb51"), looks := false }, kinds := [], alts := [], laidByText := true, laidKinds := [.data, .data, .wider, .data, .data, .data, .data, .wider, .data, .data], laidTests := true, laidLooks := .later }
def CurveRunsCardSaid : Prop := Claim7.holds Tryd.pinned (.plain (OpenSpec.ofChange curveRunsSpec)) curveRunsCard

/-- THE SECOND FORM's CARD OF 'veillaw04.CurveMakes'. -/
def curveMakesUptoCard : Claim7 := { stood := { row := curveMakesUptoRow, standIns := [], harness := (true, "517c048df6df2c9a841f8badb399b62dbcb12f8341a7d6a3f9a2abaa93efcb51"), looks := false }, kinds := [], alts := [], laidByText := true, laidKinds := [.data, .wider, .data, .data, .data, .wider, .data], laidTests := true, laidLooks := .later }
def CurveMakesUptoCardSaid : Prop := Claim7.holds Tryd.pinned (.plain (OpenSpec.upto curveMakesSpec)) curveMakesUptoCard

/-- THE SECOND FORM's CARD OF 'veillaw04.CurveRuns'. -/
def curveRunsUptoCard : Claim7 := { stood := { row := curveRunsUptoRow, standIns := [], harness := (true, "517c048df6df2c9a841f8badb399b62dbcb12f8341a7d6a3f9a2abaa93efcb51"), looks := false }, kinds := [], alts := [], laidByText := true, laidKinds := [.data, .data, .wider, .data, .data, .data, .data, .wider, .data, .data], laidTests := true, laidLooks := .later }
def CurveRunsUptoCardSaid : Prop := Claim7.holds Tryd.pinned (.plain (OpenSpec.upto curveRunsSpec)) curveRunsUptoCard
end Rows
end Go.Proofs.YtmoiobmpeohgnaaDoor
