/-
  DERIVED. GIVEN WITH THE SEED: THE CARDS: each row of YtfnhpenkobcblaaDoorRows.lean that lists a variable, with what it lists TIED to the program's text (the seventh form; the later family's looks); each row that meets fmt, with fmt's text TOLD by the authors' own Lean function (tested against real Go, not proved from fmt's source: count such statements apart). THE CARD IS WHAT COUNTS. Prove the row's statement (the work); the ties are given (YtfnhpenkobcblaaDoorTie.lean); close each card by the builder's one call (the guide's Derived/Test/ToyasCard.lean, 'card_holds'). Laid BY PROGRAM, IN A SANDBOX (cutbox-door.mjs). By AI agents, Wed Nov 11 2026. No macro, syntax, notation, axiom, sorry.
-/
import Derived.Test.YtfnhpenkobcblaaDoorRows
import GoSem.ClaimSeven
namespace Go.Proofs.YtfnhpenkobcblaaDoor
namespace Rows

/-- THE TIED CARD OF 'veillaw01.FieldLeast'. -/
def fieldLeastCard : Claim7 := { stood := { row := fieldLeastRow, standIns := [], harness := (true, "a9592dddc1f30daf5c2bca9ea6762ea43c6514fe36d992e6b47d386f77419733"), looks := false }, kinds := [], alts := [], laidByText := true, laidKinds := [.data, .data, .wider, .data], laidTests := true, laidLooks := .later }
def FieldLeastCardSaid : Prop := Claim7.holds Tryd.pinned (.plain (OpenSpec.ofChange fieldLeastSpec)) fieldLeastCard

/-- THE TIED CARD OF 'veillaw01.FieldBytes'. -/
def fieldBytesCard : Claim7 := { stood := { row := fieldBytesRow, standIns := [], harness := (true, "a9592dddc1f30daf5c2bca9ea6762ea43c6514fe36d992e6b47d386f77419733"), looks := false }, kinds := [], alts := [], laidByText := true, laidKinds := [.data], laidTests := true, laidLooks := .later }
def FieldBytesCardSaid : Prop := Claim7.holds Tryd.pinned (.plain (OpenSpec.ofChange fieldBytesSpec)) fieldBytesCard

/-- THE TIED CARD OF 'veillaw01.FieldAdds'. -/
def fieldAddsCard : Claim7 := { stood := { row := fieldAddsRow, standIns := [], harness := (true, "a9592dddc1f30daf5c2bca9ea6762ea43c6514fe36d992e6b47d386f77419733"), looks := false }, kinds := [], alts := [], laidByText := true, laidKinds := [.data, .data], laidTests := true, laidLooks := .later }
def FieldAddsCardSaid : Prop := Claim7.holds Tryd.pinned (.plain (OpenSpec.ofChange fieldAddsSpec)) fieldAddsCard

/-- THE TIED CARD OF 'veillaw01.FieldAsks'. -/
def fieldAsksCard : Claim7 := { stood := { row := fieldAsksRow, standIns := [], harness := (true, "a9592dddc1f30daf5c2bca9ea6762ea43c6514fe36d992e6b47d386f77419733"), looks := false }, kinds := [], alts := [], laidByText := true, laidKinds := [.data, .data], laidTests := true, laidLooks := .later }
def FieldAsksCardSaid : Prop := Claim7.holds Tryd.pinned (.plain (OpenSpec.ofChange fieldAsksSpec)) fieldAsksCard

/-- THE TIED CARD OF 'veillaw01.FieldMuls'. -/
def fieldMulsCard : Claim7 := { stood := { row := fieldMulsRow, standIns := [], harness := (true, "a9592dddc1f30daf5c2bca9ea6762ea43c6514fe36d992e6b47d386f77419733"), looks := false }, kinds := [], alts := [], laidByText := true, laidKinds := [.data], laidTests := true, laidLooks := .later }
def FieldMulsCardSaid : Prop := Claim7.holds Tryd.pinned (.plain (OpenSpec.ofChange fieldMulsSpec)) fieldMulsCard

/-- THE TIED CARD OF 'veillaw01.FieldPowers'. -/
def fieldPowersCard : Claim7 := { stood := { row := fieldPowersRow, standIns := [], harness := (true, "a9592dddc1f30daf5c2bca9ea6762ea43c6514fe36d992e6b47d386f77419733"), looks := false }, kinds := [], alts := [], laidByText := true, laidKinds := [.wider, .data], laidTests := true, laidLooks := .later }
def FieldPowersCardSaid : Prop := Claim7.holds Tryd.pinned (.plain (OpenSpec.ofChange fieldPowersSpec)) fieldPowersCard

/-- THE TIED CARD OF 'veillaw01.FieldConsts'. -/
def fieldConstsCard : Claim7 := { stood := { row := fieldConstsRow, standIns := [], harness := (true, "a9592dddc1f30daf5c2bca9ea6762ea43c6514fe36d992e6b47d386f77419733"), looks := false }, kinds := [], alts := [], laidByText := true, laidKinds := [.data], laidTests := true, laidLooks := .later }
def FieldConstsCardSaid : Prop := Claim7.holds Tryd.pinned (.plain (OpenSpec.ofChange fieldConstsSpec)) fieldConstsCard

/-- THE TIED CARD OF 'veillaw01.FieldRoots'. -/
def fieldRootsCard : Claim7 := { stood := { row := fieldRootsRow, standIns := [], harness := (true, "a9592dddc1f30daf5c2bca9ea6762ea43c6514fe36d992e6b47d386f77419733"), looks := false }, kinds := [], alts := [], laidByText := true, laidKinds := [.data, .data, .data], laidTests := true, laidLooks := .later }
def FieldRootsCardSaid : Prop := Claim7.holds Tryd.pinned (.plain (OpenSpec.ofChange fieldRootsSpec)) fieldRootsCard

/-- THE TIED CARD OF 'veillaw01.FieldRuns'. -/
def fieldRunsCard : Claim7 := { stood := { row := fieldRunsRow, standIns := [], harness := (true, "a9592dddc1f30daf5c2bca9ea6762ea43c6514fe36d992e6b47d386f77419733"), looks := false }, kinds := [], alts := [], laidByText := true, laidKinds := [.data, .data, .data], laidTests := true, laidLooks := .later }
def FieldRunsCardSaid : Prop := Claim7.holds Tryd.pinned (.plain (OpenSpec.ofChange fieldRunsSpec)) fieldRunsCard

/-- THE TIED CARD OF 'veillaw01.FieldSquares'. -/
def fieldSquaresCard : Claim7 := { stood := { row := fieldSquaresRow, standIns := [], harness := (true, "a9592dddc1f30daf5c2bca9ea6762ea43c6514fe36d992e6b47d386f77419733"), looks := false }, kinds := [], alts := [], laidByText := true, laidKinds := [.data], laidTests := true, laidLooks := .later }
def FieldSquaresCardSaid : Prop := Claim7.holds Tryd.pinned (.plain (OpenSpec.ofChange fieldSquaresSpec)) fieldSquaresCard

/-- THE SECOND FORM's CARD OF 'veillaw01.FieldLeast'. -/
def fieldLeastUptoCard : Claim7 := { stood := { row := fieldLeastUptoRow, standIns := [], harness := (true, "a9592dddc1f30daf5c2bca9ea6762ea43c6514fe36d992e6b47d386f77419733"), looks := false }, kinds := [], alts := [], laidByText := true, laidKinds := [.data, .data, .wider, .data], laidTests := true, laidLooks := .later }
def FieldLeastUptoCardSaid : Prop := Claim7.holds Tryd.pinned (.plain (OpenSpec.upto fieldLeastSpec)) fieldLeastUptoCard

/-- THE SECOND FORM's CARD OF 'veillaw01.FieldBytes'. -/
def fieldBytesUptoCard : Claim7 := { stood := { row := fieldBytesUptoRow, standIns := [], harness := (true, "a9592dddc1f30daf5c2bca9ea6762ea43c6514fe36d992e6b47d386f77419733"), looks := false }, kinds := [], alts := [], laidByText := true, laidKinds := [.data], laidTests := true, laidLooks := .later }
def FieldBytesUptoCardSaid : Prop := Claim7.holds Tryd.pinned (.plain (OpenSpec.upto fieldBytesSpec)) fieldBytesUptoCard

/-- THE SECOND FORM's CARD OF 'veillaw01.FieldAdds'. -/
def fieldAddsUptoCard : Claim7 := { stood := { row := fieldAddsUptoRow, standIns := [], harness := (true, "a9592dddc1f30daf5c2bca9ea6762ea43c6514fe36d992e6b47d386f77419733"), looks := false }, kinds := [], alts := [], laidByText := true, laidKinds := [.data, .data], laidTests := true, laidLooks := .later }
def FieldAddsUptoCardSaid : Prop := Claim7.holds Tryd.pinned (.plain (OpenSpec.upto fieldAddsSpec)) fieldAddsUptoCard

/-- THE SECOND FORM's CARD OF 'veillaw01.FieldAsks'. -/
def fieldAsksUptoCard : Claim7 := { stood := { row := fieldAsksUptoRow, standIns := [], harness := (true, "a9592dddc1f30daf5c2bca9ea6762ea43c6514fe36d992e6b47d386f77419733"), looks := false }, kinds := [], alts := [], laidByText := true, laidKinds := [.data, .data], laidTests := true, laidLooks := .later }
def FieldAsksUptoCardSaid : Prop := Claim7.holds Tryd.pinned (.plain (OpenSpec.upto fieldAsksSpec)) fieldAsksUptoCard

/-- THE SECOND FORM's CARD OF 'veillaw01.FieldMuls'. -/
def fieldMulsUptoCard : Claim7 := { stood := { row := fieldMulsUptoRow, standIns := [], harness := (true, "a9592dddc1f30daf5c2bca9ea6762ea43c6514fe36d992e6b47d386f77419733"), looks := false }, kinds := [], alts := [], laidByText := true, laidKinds := [.data], laidTests := true, laidLooks := .later }
def FieldMulsUptoCardSaid : Prop := Claim7.holds Tryd.pinned (.plain (OpenSpec.upto fieldMulsSpec)) fieldMulsUptoCard

/-- THE SECOND FORM's CARD OF 'veillaw01.FieldPowers'. -/
def fieldPowersUptoCard : Claim7 := { stood := { row := fieldPowersUptoRow, standIns := [], harness := (true, "a9592dddc1f30daf5c2bca9ea6762ea43c6514fe36d992e6b47d386f77419733"), looks := false }, kinds := [], alts := [], laidByText := true, laidKinds := [.wider, .data], laidTests := true, laidLooks := .later }
def FieldPowersUptoCardSaid : Prop := Claim7.holds Tryd.pinned (.plain (OpenSpec.upto fieldPowersSpec)) fieldPowersUptoCard

/-- THE SECOND FORM's CARD OF 'veillaw01.FieldConsts'. -/
def fieldConstsUptoCard : Claim7 := { stood := { row := fieldConstsUptoRow, standIns := [], harness := (true, "a9592dddc1f30daf5c2bca9ea6762ea43c6514fe36d992e6b47d386f77419733"), looks := false }, kinds := [], alts := [], laidByText := true, laidKinds := [.data], laidTests := true, laidLooks := .later }
def FieldConstsUptoCardSaid : Prop := Claim7.holds Tryd.pinned (.plain (OpenSpec.upto fieldConstsSpec)) fieldConstsUptoCard

/-- THE SECOND FORM's CARD OF 'veillaw01.FieldRoots'. -/
def fieldRootsUptoCard : Claim7 := { stood := { row := fieldRootsUptoRow, standIns := [], harness := (true, "a9592dddc1f30daf5c2bca9ea6762ea43c6514fe36d992e6b47d386f77419733"), looks := false }, kinds := [], alts := [], laidByText := true, laidKinds := [.data, .data, .data], laidTests := true, laidLooks := .later }
def FieldRootsUptoCardSaid : Prop := Claim7.holds Tryd.pinned (.plain (OpenSpec.upto fieldRootsSpec)) fieldRootsUptoCard

/-- THE SECOND FORM's CARD OF 'veillaw01.FieldRuns'. -/
def fieldRunsUptoCard : Claim7 := { stood := { row := fieldRunsUptoRow, standIns := [], harness := (true, "a9592dddc1f30daf5c2bca9ea6762ea43c6514fe36d992e6b47d386f77419733"), looks := false }, kinds := [], alts := [], laidByText := true, laidKinds := [.data, .data, .data], laidTests := true, laidLooks := .later }
def FieldRunsUptoCardSaid : Prop := Claim7.holds Tryd.pinned (.plain (OpenSpec.upto fieldRunsSpec)) fieldRunsUptoCard

/-- THE SECOND FORM's CARD OF 'veillaw01.FieldSquares'. -/
def fieldSquaresUptoCard : Claim7 := { stood := { row := fieldSquaresUptoRow, standIns := [], harness := (true, "a9592dddc1f30daf5c2bca9ea6762ea43c6514fe36d992e6b47d386f77419733"), looks := false }, kinds := [], alts := [], laidByText := true, laidKinds := [.data], laidTests := true, laidLooks := .later }
def FieldSquaresUptoCardSaid : Prop := Claim7.holds Tryd.pinned (.plain (OpenSpec.upto fieldSquaresSpec)) fieldSquaresUptoCard
end Rows
end Go.Proofs.YtfnhpenkobcblaaDoor
