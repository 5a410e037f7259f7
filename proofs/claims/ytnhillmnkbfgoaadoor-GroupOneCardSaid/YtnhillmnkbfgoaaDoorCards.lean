/-
  DERIVED. GIVEN WITH THE SEED: THE CARDS: each row of YtnhillmnkbfgoaaDoorRows.lean that lists a variable, with what it lists TIED to the program's text (the seventh form; the later family's looks); each row that meets fmt, with fmt's text TOLD by the authors' own Lean function (tested against real Go, not proved from fmt's source: count such statements apart). THE CARD IS WHAT COUNTS. Prove the row's statement (the work); the ties are given (YtnhillmnkbfgoaaDoorTie.lean); close each card by the builder's one call (the guide's Derived/Test/ToyasCard.lean, 'card_holds'). Laid BY PROGRAM, IN A SANDBOX (cutbox-door.mjs). By AI agents, Wed Nov 11 2026. No macro, syntax, notation, axiom, sorry.
-/
import Derived.Test.YtnhillmnkbfgoaaDoorRows
import GoSem.ClaimSeven
namespace Go.Proofs.YtnhillmnkbfgoaaDoor
namespace Rows

/-- THE TIED CARD OF 'veillaw05.GroupLaws'. -/
def groupLawsCard : Claim7 := { stood := { row := groupLawsRow, standIns := [], harness := (true, "7853fee3ed1be25db5f32524bdc862dcf7ac9b3121f0102530bea0ada40526a7"), looks := false }, kinds := [], alts := [], laidByText := true, laidKinds := [.data, .data, .wider, .data, .data], laidTests := true, laidLooks := .later }
def GroupLawsCardSaid : Prop := Claim7.holds Tryd.pinned (.plain (OpenSpec.ofChange groupLawsSpec)) groupLawsCard

/-- THE TIED CARD OF 'veillaw05.GroupLimbs'. -/
def groupLimbsCard : Claim7 := { stood := { row := groupLimbsRow, standIns := [], harness := (true, "7853fee3ed1be25db5f32524bdc862dcf7ac9b3121f0102530bea0ada40526a7"), looks := false }, kinds := [], alts := [], laidByText := true, laidKinds := [.data, .data, .wider, .data, .data, .data, .data], laidTests := true, laidLooks := .later }
def GroupLimbsCardSaid : Prop := Claim7.holds Tryd.pinned (.plain (OpenSpec.ofChange groupLimbsSpec)) groupLimbsCard

/-- THE TIED CARD OF 'veillaw05.GroupOne'. -/
def groupOneCard : Claim7 := { stood := { row := groupOneRow, standIns := [], harness := (true, "7853fee3ed1be25db5f32524bdc862dcf7ac9b3121f0102530bea0ada40526a7"), looks := false }, kinds := [], alts := [], laidByText := true, laidKinds := [.data, .data, .wider, .data, .data, .data, .data], laidTests := true, laidLooks := .later }
def GroupOneCardSaid : Prop := Claim7.holds Tryd.pinned (.plain (OpenSpec.ofChange groupOneSpec)) groupOneCard

/-- THE SECOND FORM's CARD OF 'veillaw05.GroupLaws'. -/
def groupLawsUptoCard : Claim7 := { stood := { row := groupLawsUptoRow, standIns := [], harness := (true, "7853fee3ed1be25db5f32524bdc862dcf7ac9b3121f0102530bea0ada40526a7"), looks := false }, kinds := [], alts := [], laidByText := true, laidKinds := [.data, .data, .wider, .data, .data], laidTests := true, laidLooks := .later }
def GroupLawsUptoCardSaid : Prop := Claim7.holds Tryd.pinned (.plain (OpenSpec.upto groupLawsSpec)) groupLawsUptoCard

/-- THE SECOND FORM's CARD OF 'veillaw05.GroupLimbs'. -/
def groupLimbsUptoCard : Claim7 := { stood := { row := groupLimbsUptoRow, standIns := [], harness := (true, "7853fee3ed1be25db5f32524bdc862dcf7ac9b3121f0102530bea0ada40526a7"), looks := false }, kinds := [], alts := [], laidByText := true, laidKinds := [.data, .data, .wider, .data, .data, .data, .data], laidTests := true, laidLooks := .later }
def GroupLimbsUptoCardSaid : Prop := Claim7.holds Tryd.pinned (.plain (OpenSpec.upto groupLimbsSpec)) groupLimbsUptoCard

/-- THE SECOND FORM's CARD OF 'veillaw05.GroupOne'. -/
def groupOneUptoCard : Claim7 := { stood := { row := groupOneUptoRow, standIns := [], harness := (true, "7853fee3ed1be25db5f32524bdc862dcf7ac9b3121f0102530bea0ada40526a7"), looks := false }, kinds := [], alts := [], laidByText := true, laidKinds := [.data, .data, .wider, .data, .data, .data, .data], laidTests := true, laidLooks := .later }
def GroupOneUptoCardSaid : Prop := Claim7.holds Tryd.pinned (.plain (OpenSpec.upto groupOneSpec)) groupOneUptoCard
end Rows
end Go.Proofs.YtnhillmnkbfgoaaDoor
