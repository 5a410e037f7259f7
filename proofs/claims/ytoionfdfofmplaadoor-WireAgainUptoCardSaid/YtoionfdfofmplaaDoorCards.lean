/-
  DERIVED. GIVEN WITH THE SEED: THE CARDS: each row of YtoionfdfofmplaaDoorRows.lean that lists a variable, with what it lists TIED to the program's text (the seventh form; the later family's looks); each row that meets fmt, with fmt's text TOLD by the authors' own Lean function (tested against real Go, not proved from fmt's source: count such statements apart). THE CARD IS WHAT COUNTS. Prove the row's statement (the work); the ties are given (YtoionfdfofmplaaDoorTie.lean); close each card by the builder's one call (the guide's Derived/Test/ToyasCard.lean, 'card_holds'). Laid BY PROGRAM, IN A SANDBOX (cutbox-door.mjs). By AI agents, Wed Nov 11 2026. No macro, syntax, notation, axiom, sorry.
-/
import Derived.Test.YtoionfdfofmplaaDoorRows
import GoSem.ClaimSeven
namespace Go.Proofs.YtoionfdfofmplaaDoor
namespace Rows

/-- THE TIED CARD OF 'veillaw10.WireEncodes'. -/
def wireEncodesCard : Claim7 := { stood := { row := wireEncodesRow, standIns := [], harness := (true, "a796de57d188caeb9f4d24d080f2d00cecd97948e51826f3d279eeb500d3b5d1"), looks := false }, kinds := [], alts := [], laidByText := true, laidKinds := [.data, .data, .data, .data, .wider, .data], laidTests := true, laidLooks := .later }
def WireEncodesCardSaid : Prop := Claim7.holds Tryd.pinned (.plain (OpenSpec.ofChange wireEncodesSpec)) wireEncodesCard

/-- THE TIED CARD OF 'veillaw10.WireAgain'. -/
def wireAgainCard : Claim7 := { stood := { row := wireAgainRow, standIns := [], harness := (true, "a796de57d188caeb9f4d24d080f2d00cecd97948e51826f3d279eeb500d3b5d1"), looks := false }, kinds := [], alts := [], laidByText := true, laidKinds := [.data, .data, .data, .data, .wider, .data], laidTests := true, laidLooks := .later }
def WireAgainCardSaid : Prop := Claim7.holds Tryd.pinned (.plain (OpenSpec.ofChange wireAgainSpec)) wireAgainCard

/-- THE TIED CARD OF 'veillaw10.WireProofs'. -/
def wireProofsCard : Claim7 := { stood := { row := wireProofsRow, standIns := [], harness := (true, "a796de57d188caeb9f4d24d080f2d00cecd97948e51826f3d279eeb500d3b5d1"), looks := false }, kinds := [], alts := [], laidByText := true, laidKinds := [.data], laidTests := true, laidLooks := .later }
def WireProofsCardSaid : Prop := Claim7.holds Tryd.pinned (.plain (OpenSpec.ofChange wireProofsSpec)) wireProofsCard

/-- THE TIED CARD OF 'veillaw10.WireOwn'. -/
def wireOwnCard : Claim7 := { stood := { row := wireOwnRow, standIns := [], harness := (true, "a796de57d188caeb9f4d24d080f2d00cecd97948e51826f3d279eeb500d3b5d1"), looks := false }, kinds := [], alts := [], laidByText := true, laidKinds := [.data, .data, .data, .data, .wider, .data], laidTests := true, laidLooks := .later }
def WireOwnCardSaid : Prop := Claim7.holds Tryd.pinned (.plain (OpenSpec.ofChange wireOwnSpec)) wireOwnCard

/-- THE SECOND FORM's CARD OF 'veillaw10.WireEncodes'. -/
def wireEncodesUptoCard : Claim7 := { stood := { row := wireEncodesUptoRow, standIns := [], harness := (true, "a796de57d188caeb9f4d24d080f2d00cecd97948e51826f3d279eeb500d3b5d1"), looks := false }, kinds := [], alts := [], laidByText := true, laidKinds := [.data, .data, .data, .data, .wider, .data], laidTests := true, laidLooks := .later }
def WireEncodesUptoCardSaid : Prop := Claim7.holds Tryd.pinned (.plain (OpenSpec.upto wireEncodesSpec)) wireEncodesUptoCard

/-- THE SECOND FORM's CARD OF 'veillaw10.WireAgain'. -/
def wireAgainUptoCard : Claim7 := { stood := { row := wireAgainUptoRow, standIns := [], harness := (true, "a796de57d188caeb9f4d24d080f2d00cecd97948e51826f3d279eeb500d3b5d1"), looks := false }, kinds := [], alts := [], laidByText := true, laidKinds := [.data, .data, .data, .data, .wider, .data], laidTests := true, laidLooks := .later }
def WireAgainUptoCardSaid : Prop := Claim7.holds Tryd.pinned (.plain (OpenSpec.upto wireAgainSpec)) wireAgainUptoCard

/-- THE SECOND FORM's CARD OF 'veillaw10.WireProofs'. -/
def wireProofsUptoCard : Claim7 := { stood := { row := wireProofsUptoRow, standIns := [], harness := (true, "a796de57d188caeb9f4d24d080f2d00cecd97948e51826f3d279eeb500d3b5d1"), looks := false }, kinds := [], alts := [], laidByText := true, laidKinds := [.data], laidTests := true, laidLooks := .later }
def WireProofsUptoCardSaid : Prop := Claim7.holds Tryd.pinned (.plain (OpenSpec.upto wireProofsSpec)) wireProofsUptoCard

/-- THE SECOND FORM's CARD OF 'veillaw10.WireOwn'. -/
def wireOwnUptoCard : Claim7 := { stood := { row := wireOwnUptoRow, standIns := [], harness := (true, "a796de57d188caeb9f4d24d080f2d00cecd97948e51826f3d279eeb500d3b5d1"), looks := false }, kinds := [], alts := [], laidByText := true, laidKinds := [.data, .data, .data, .data, .wider, .data], laidTests := true, laidLooks := .later }
def WireOwnUptoCardSaid : Prop := Claim7.holds Tryd.pinned (.plain (OpenSpec.upto wireOwnSpec)) wireOwnUptoCard
end Rows
end Go.Proofs.YtoionfdfofmplaaDoor
