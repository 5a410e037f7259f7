/-
  DERIVED. GIVEN WITH THE SEED: THE CARDS: each row of YtkilkhhnbhdbbaaDoorRows.lean that lists a variable, with what it lists TIED to the program's text (the seventh form; the later family's looks); each row that meets fmt, with fmt's text TOLD by the authors' own Lean function (tested against real Go, not proved from fmt's source: count such statements apart). THE CARD IS WHAT COUNTS. Prove the row's statement (the work); the ties are given (YtkilkhhnbhdbbaaDoorTie.lean); close each card by the builder's one call (the guide's Derived/Test/ToyasCard.lean, 'card_holds'). Laid BY PROGRAM, IN A SANDBOX (cutbox-door.mjs). By AI agents, Wed Nov 11 2026. No macro, syntax, notation, axiom, sorry.
-/
import Derived.Test.YtkilkhhnbhdbbaaDoorRows
import GoSem.ClaimSeven
namespace Go.Proofs.YtkilkhhnbhdbbaaDoor
namespace Rows

/-- THE TIED CARD OF 'veillaw05.GroupMaps'. -/
def groupMapsCard : Claim7 := { stood := { row := groupMapsRow, standIns := [], harness := (true, "b6595a0087496513ca814b399e3d9b73dd96597e1f1d9b53c3c322b08dee3971"), looks := false }, kinds := [], alts := [], laidByText := true, laidKinds := [.data, .wider, .data, .data, .wider, .data], laidTests := true, laidLooks := .later }
def GroupMapsCardSaid : Prop := Claim7.holds Tryd.pinned (.plain (OpenSpec.ofChange groupMapsSpec)) groupMapsCard

/-- THE TIED CARD OF 'veillaw05.GroupDecodes'. -/
def groupDecodesCard : Claim7 := { stood := { row := groupDecodesRow, standIns := [], harness := (true, "b6595a0087496513ca814b399e3d9b73dd96597e1f1d9b53c3c322b08dee3971"), looks := false }, kinds := [], alts := [], laidByText := true, laidKinds := [.data, .wider, .data, .data, .data, .wider, .data], laidTests := true, laidLooks := .later }
def GroupDecodesCardSaid : Prop := Claim7.holds Tryd.pinned (.plain (OpenSpec.ofChange groupDecodesSpec)) groupDecodesCard

/-- THE SECOND FORM's CARD OF 'veillaw05.GroupMaps'. -/
def groupMapsUptoCard : Claim7 := { stood := { row := groupMapsUptoRow, standIns := [], harness := (true, "b6595a0087496513ca814b399e3d9b73dd96597e1f1d9b53c3c322b08dee3971"), looks := false }, kinds := [], alts := [], laidByText := true, laidKinds := [.data, .wider, .data, .data, .wider, .data], laidTests := true, laidLooks := .later }
def GroupMapsUptoCardSaid : Prop := Claim7.holds Tryd.pinned (.plain (OpenSpec.upto groupMapsSpec)) groupMapsUptoCard

/-- THE SECOND FORM's CARD OF 'veillaw05.GroupDecodes'. -/
def groupDecodesUptoCard : Claim7 := { stood := { row := groupDecodesUptoRow, standIns := [], harness := (true, "b6595a0087496513ca814b399e3d9b73dd96597e1f1d9b53c3c322b08dee3971"), looks := false }, kinds := [], alts := [], laidByText := true, laidKinds := [.data, .wider, .data, .data, .data, .wider, .data], laidTests := true, laidLooks := .later }
def GroupDecodesUptoCardSaid : Prop := Claim7.holds Tryd.pinned (.plain (OpenSpec.upto groupDecodesSpec)) groupDecodesUptoCard
end Rows
end Go.Proofs.YtkilkhhnbhdbbaaDoor
