/-
  DERIVED. GIVEN WITH THE SEED: THE CARDS: each row of YtkkkbflonbebiaaGreatDoorRows.lean that lists a variable, with what it lists TIED to the program's text (the seventh form; the later family's looks); each row that meets fmt, with fmt's text TOLD by the authors' own Lean function (tested against real Go, not proved from fmt's source: count such statements apart). THE CARD IS WHAT COUNTS. Prove the row's statement (the work); the ties are given (YtkkkbflonbebiaaGreatDoorTie.lean); close each card by the builder's one call (the guide's Derived/Test/ToyasCard.lean, 'card_holds'). Laid BY PROGRAM, IN A SANDBOX (cutbox-door.mjs). By AI agents, Wed Nov 11 2026. No macro, syntax, notation, axiom, sorry.
-/
import Derived.Test.YtkkkbflonbebiaaGreatDoorRows
import GoSem.ClaimSeven
namespace Go.Proofs.YtkkkbflonbebiaaGreatDoor
namespace Rows

/-- THE TIED CARD OF 'veillaw05.GroupCosets'. -/
def groupCosetsCard : Claim7 := { stood := { row := groupCosetsRow, standIns := [], harness := (true, "073655e213e9ef62082e0cd07b2947eb683b814be3bcb9fee066ec5992cc7971"), looks := false }, kinds := [], alts := [], laidByText := true, laidKinds := [.data, .wider, .data, .data, .data, .data, .wider, .data], laidTests := true, laidLooks := .later }
def GroupCosetsCardSaid : Prop := Claim7.holds Tryz.pinned (.plain (OpenSpec.ofChange groupCosetsSpec)) groupCosetsCard

/-- THE TIED CARD OF 'veillaw05.GroupAll'. -/
def groupAllCard : Claim7 := { stood := { row := groupAllRow, standIns := [], harness := (true, "073655e213e9ef62082e0cd07b2947eb683b814be3bcb9fee066ec5992cc7971"), looks := false }, kinds := [], alts := [], laidByText := true, laidKinds := [.data, .data, .wider, .data, .data, .data, .data, .data, .wider, .data], laidTests := true, laidLooks := .later }
def GroupAllCardSaid : Prop := Claim7.holds Tryz.pinned (.plain (OpenSpec.ofChange groupAllSpec)) groupAllCard

/-- THE SECOND FORM's CARD OF 'veillaw05.GroupCosets'. -/
def groupCosetsUptoCard : Claim7 := { stood := { row := groupCosetsUptoRow, standIns := [], harness := (true, "073655e213e9ef62082e0cd07b2947eb683b814be3bcb9fee066ec5992cc7971"), looks := false }, kinds := [], alts := [], laidByText := true, laidKinds := [.data, .wider, .data, .data, .data, .data, .wider, .data], laidTests := true, laidLooks := .later }
def GroupCosetsUptoCardSaid : Prop := Claim7.holds Tryz.pinned (.plain (OpenSpec.upto groupCosetsSpec)) groupCosetsUptoCard

/-- THE SECOND FORM's CARD OF 'veillaw05.GroupAll'. -/
def groupAllUptoCard : Claim7 := { stood := { row := groupAllUptoRow, standIns := [], harness := (true, "073655e213e9ef62082e0cd07b2947eb683b814be3bcb9fee066ec5992cc7971"), looks := false }, kinds := [], alts := [], laidByText := true, laidKinds := [.data, .data, .wider, .data, .data, .data, .data, .data, .wider, .data], laidTests := true, laidLooks := .later }
def GroupAllUptoCardSaid : Prop := Claim7.holds Tryz.pinned (.plain (OpenSpec.upto groupAllSpec)) groupAllUptoCard
end Rows
end Go.Proofs.YtkkkbflonbebiaaGreatDoor
