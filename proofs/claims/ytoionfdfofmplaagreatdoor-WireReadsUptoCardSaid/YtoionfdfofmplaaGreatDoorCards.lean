/-
  DERIVED. GIVEN WITH THE SEED: THE CARDS: each row of YtoionfdfofmplaaGreatDoorRows.lean that lists a variable, with what it lists TIED to the program's text (the seventh form; the later family's looks); each row that meets fmt, with fmt's text TOLD by the authors' own Lean function (tested against real Go, not proved from fmt's source: count such statements apart). THE CARD IS WHAT COUNTS. Prove the row's statement (the work); the ties are given (YtoionfdfofmplaaGreatDoorTie.lean); close each card by the builder's one call (the guide's Derived/Test/ToyasCard.lean, 'card_holds'). Laid BY PROGRAM, IN A SANDBOX (cutbox-door.mjs). By AI agents, Wed Nov 11 2026. No macro, syntax, notation, axiom, sorry.
-/
import Derived.Test.YtoionfdfofmplaaGreatDoorRows
import GoSem.ClaimSeven
namespace Go.Proofs.YtoionfdfofmplaaGreatDoor
namespace Rows

/-- THE TIED CARD OF 'veillaw10.WireReads'. -/
def wireReadsCard : Claim7 := { stood := { row := wireReadsRow, standIns := [], harness := (true, "fe338f92069ee7febe15851dad85eb098830fdcc7fbcd1d9565de56d81abd617"), looks := false }, kinds := [], alts := [], laidByText := true, laidKinds := [.data, .data, .data, .data, .wider, .data, .wider, .data], laidTests := true, laidLooks := .later }
def WireReadsCardSaid : Prop := Claim7.holds Tryz.pinned (.plain (OpenSpec.ofChange wireReadsSpec)) wireReadsCard

/-- THE TIED CARD OF 'veillaw10.WireHands'. -/
def wireHandsCard : Claim7 := { stood := { row := wireHandsRow, standIns := [], harness := (true, "fe338f92069ee7febe15851dad85eb098830fdcc7fbcd1d9565de56d81abd617"), looks := false }, kinds := [], alts := [], laidByText := true, laidKinds := [.data, .data, .data, .data, .wider, .data, .wider, .data], laidTests := true, laidLooks := .later }
def WireHandsCardSaid : Prop := Claim7.holds Tryz.pinned (.plain (OpenSpec.ofChange wireHandsSpec)) wireHandsCard

/-- THE TIED CARD OF 'veillaw10.WireDecodes'. -/
def wireDecodesCard : Claim7 := { stood := { row := wireDecodesRow, standIns := [], harness := (true, "fe338f92069ee7febe15851dad85eb098830fdcc7fbcd1d9565de56d81abd617"), looks := false }, kinds := [], alts := [], laidByText := true, laidKinds := [.data, .data, .data, .data, .wider, .data], laidTests := true, laidLooks := .later }
def WireDecodesCardSaid : Prop := Claim7.holds Tryz.pinned (.plain (OpenSpec.ofChange wireDecodesSpec)) wireDecodesCard

/-- THE SECOND FORM's CARD OF 'veillaw10.WireReads'. -/
def wireReadsUptoCard : Claim7 := { stood := { row := wireReadsUptoRow, standIns := [], harness := (true, "fe338f92069ee7febe15851dad85eb098830fdcc7fbcd1d9565de56d81abd617"), looks := false }, kinds := [], alts := [], laidByText := true, laidKinds := [.data, .data, .data, .data, .wider, .data, .wider, .data], laidTests := true, laidLooks := .later }
def WireReadsUptoCardSaid : Prop := Claim7.holds Tryz.pinned (.plain (OpenSpec.upto wireReadsSpec)) wireReadsUptoCard

/-- THE SECOND FORM's CARD OF 'veillaw10.WireHands'. -/
def wireHandsUptoCard : Claim7 := { stood := { row := wireHandsUptoRow, standIns := [], harness := (true, "fe338f92069ee7febe15851dad85eb098830fdcc7fbcd1d9565de56d81abd617"), looks := false }, kinds := [], alts := [], laidByText := true, laidKinds := [.data, .data, .data, .data, .wider, .data, .wider, .data], laidTests := true, laidLooks := .later }
def WireHandsUptoCardSaid : Prop := Claim7.holds Tryz.pinned (.plain (OpenSpec.upto wireHandsSpec)) wireHandsUptoCard

/-- THE SECOND FORM's CARD OF 'veillaw10.WireDecodes'. -/
def wireDecodesUptoCard : Claim7 := { stood := { row := wireDecodesUptoRow, standIns := [], harness := (true, "fe338f92069ee7febe15851dad85eb098830fdcc7fbcd1d9565de56d81abd617"), looks := false }, kinds := [], alts := [], laidByText := true, laidKinds := [.data, .data, .data, .data, .wider, .data], laidTests := true, laidLooks := .later }
def WireDecodesUptoCardSaid : Prop := Claim7.holds Tryz.pinned (.plain (OpenSpec.upto wireDecodesSpec)) wireDecodesUptoCard
end Rows
end Go.Proofs.YtoionfdfofmplaaGreatDoor
