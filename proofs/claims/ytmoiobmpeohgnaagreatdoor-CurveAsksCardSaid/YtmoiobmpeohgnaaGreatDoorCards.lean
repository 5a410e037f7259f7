/-
  DERIVED. GIVEN WITH THE SEED: THE CARDS: each row of YtmoiobmpeohgnaaGreatDoorRows.lean that lists a variable, with what it lists TIED to the program's text (the seventh form; the later family's looks); each row that meets fmt, with fmt's text TOLD by the authors' own Lean function (tested against real Go, not proved from fmt's source: count such statements apart). THE CARD IS WHAT COUNTS. Prove the row's statement (the work); the ties are given (YtmoiobmpeohgnaaGreatDoorTie.lean); close each card by the builder's one call (the guide's Derived/Test/ToyasCard.lean, 'card_holds'). Laid BY PROGRAM, IN A SANDBOX (cutbox-door.mjs). By AI agents, Wed Nov 11 2026. No macro, syntax, notation, axiom, sorry.
-/
import Derived.Test.YtmoiobmpeohgnaaGreatDoorRows
import GoSem.ClaimSeven
namespace Go.Proofs.YtmoiobmpeohgnaaGreatDoor
namespace Rows

/-- THE TIED CARD OF 'veillaw04.CurveAsks'. -/
def curveAsksCard : Claim7 := { stood := { row := curveAsksRow, standIns := [], harness := (true, "4b662cb7ef34fd34b0bea6cec465d889c42ec3838c3c3dfd564fcf1961b00002"), looks := false }, kinds := [], alts := [], laidByText := true, laidKinds := [.data, .data, .wider, .data, .data, .data, .data, .data, .wider, .data, .data], laidTests := true, laidLooks := .later }
def CurveAsksCardSaid : Prop := Claim7.holds Tryz.pinned (.plain (OpenSpec.ofChange curveAsksSpec)) curveAsksCard

/-- THE SECOND FORM's CARD OF 'veillaw04.CurveAsks'. -/
def curveAsksUptoCard : Claim7 := { stood := { row := curveAsksUptoRow, standIns := [], harness := (true, "4b662cb7ef34fd34b0bea6cec465d889c42ec3838c3c3dfd564fcf1961b00002"), looks := false }, kinds := [], alts := [], laidByText := true, laidKinds := [.data, .data, .wider, .data, .data, .data, .data, .data, .wider, .data, .data], laidTests := true, laidLooks := .later }
def CurveAsksUptoCardSaid : Prop := Claim7.holds Tryz.pinned (.plain (OpenSpec.upto curveAsksSpec)) curveAsksUptoCard
end Rows
end Go.Proofs.YtmoiobmpeohgnaaGreatDoor
