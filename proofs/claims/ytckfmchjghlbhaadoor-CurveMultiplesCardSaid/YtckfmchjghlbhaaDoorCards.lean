/-
  DERIVED. GIVEN WITH THE SEED: THE CARDS: each row of YtckfmchjghlbhaaDoorRows.lean that lists a variable, with what it lists TIED to the program's text (the seventh form; the later family's looks); each row that meets fmt, with fmt's text TOLD by the authors' own Lean function (tested against real Go, not proved from fmt's source: count such statements apart). THE CARD IS WHAT COUNTS. Prove the row's statement (the work); the ties are given (YtckfmchjghlbhaaDoorTie.lean); close each card by the builder's one call (the guide's Derived/Test/ToyasCard.lean, 'card_holds'). Laid BY PROGRAM, IN A SANDBOX (cutbox-door.mjs). By AI agents, Wed Nov 11 2026. No macro, syntax, notation, axiom, sorry.
-/
import Derived.Test.YtckfmchjghlbhaaDoorRows
import GoSem.ClaimSeven
namespace Go.Proofs.YtckfmchjghlbhaaDoor
namespace Rows

/-- THE TIED CARD OF 'veillaw04.CurveTorsion'. -/
def curveTorsionCard : Claim7 := { stood := { row := curveTorsionRow, standIns := [], harness := (true, "0023067eb135928e1aa6caa9c567755decd6de650de2803339587229d8393ecc"), looks := false }, kinds := [], alts := [], laidByText := true, laidKinds := [.data, .wider, .data, .data, .data, .data, .data], laidTests := true, laidLooks := .later }
def CurveTorsionCardSaid : Prop := Claim7.holds Tryd.pinned (.plain (OpenSpec.ofChange curveTorsionSpec)) curveTorsionCard

/-- THE TIED CARD OF 'veillaw04.CurveLaws'. -/
def curveLawsCard : Claim7 := { stood := { row := curveLawsRow, standIns := [], harness := (true, "0023067eb135928e1aa6caa9c567755decd6de650de2803339587229d8393ecc"), looks := false }, kinds := [], alts := [], laidByText := true, laidKinds := [.data, .wider, .data, .data, .data, .data, .data], laidTests := true, laidLooks := .later }
def CurveLawsCardSaid : Prop := Claim7.holds Tryd.pinned (.plain (OpenSpec.ofChange curveLawsSpec)) curveLawsCard

/-- THE TIED CARD OF 'veillaw04.CurveBack'. -/
def curveBackCard : Claim7 := { stood := { row := curveBackRow, standIns := [], harness := (true, "0023067eb135928e1aa6caa9c567755decd6de650de2803339587229d8393ecc"), looks := false }, kinds := [], alts := [], laidByText := true, laidKinds := [.data, .wider, .data, .data, .data, .data, .data], laidTests := true, laidLooks := .later }
def CurveBackCardSaid : Prop := Claim7.holds Tryd.pinned (.plain (OpenSpec.ofChange curveBackSpec)) curveBackCard

/-- THE TIED CARD OF 'veillaw04.CurveMultiples'. -/
def curveMultiplesCard : Claim7 := { stood := { row := curveMultiplesRow, standIns := [], harness := (true, "0023067eb135928e1aa6caa9c567755decd6de650de2803339587229d8393ecc"), looks := false }, kinds := [], alts := [], laidByText := true, laidKinds := [.data, .data, .wider, .data, .data, .data, .data, .data], laidTests := true, laidLooks := .later }
def CurveMultiplesCardSaid : Prop := Claim7.holds Tryd.pinned (.plain (OpenSpec.ofChange curveMultiplesSpec)) curveMultiplesCard

/-- THE SECOND FORM's CARD OF 'veillaw04.CurveTorsion'. -/
def curveTorsionUptoCard : Claim7 := { stood := { row := curveTorsionUptoRow, standIns := [], harness := (true, "0023067eb135928e1aa6caa9c567755decd6de650de2803339587229d8393ecc"), looks := false }, kinds := [], alts := [], laidByText := true, laidKinds := [.data, .wider, .data, .data, .data, .data, .data], laidTests := true, laidLooks := .later }
def CurveTorsionUptoCardSaid : Prop := Claim7.holds Tryd.pinned (.plain (OpenSpec.upto curveTorsionSpec)) curveTorsionUptoCard

/-- THE SECOND FORM's CARD OF 'veillaw04.CurveLaws'. -/
def curveLawsUptoCard : Claim7 := { stood := { row := curveLawsUptoRow, standIns := [], harness := (true, "0023067eb135928e1aa6caa9c567755decd6de650de2803339587229d8393ecc"), looks := false }, kinds := [], alts := [], laidByText := true, laidKinds := [.data, .wider, .data, .data, .data, .data, .data], laidTests := true, laidLooks := .later }
def CurveLawsUptoCardSaid : Prop := Claim7.holds Tryd.pinned (.plain (OpenSpec.upto curveLawsSpec)) curveLawsUptoCard

/-- THE SECOND FORM's CARD OF 'veillaw04.CurveBack'. -/
def curveBackUptoCard : Claim7 := { stood := { row := curveBackUptoRow, standIns := [], harness := (true, "0023067eb135928e1aa6caa9c567755decd6de650de2803339587229d8393ecc"), looks := false }, kinds := [], alts := [], laidByText := true, laidKinds := [.data, .wider, .data, .data, .data, .data, .data], laidTests := true, laidLooks := .later }
def CurveBackUptoCardSaid : Prop := Claim7.holds Tryd.pinned (.plain (OpenSpec.upto curveBackSpec)) curveBackUptoCard

/-- THE SECOND FORM's CARD OF 'veillaw04.CurveMultiples'. -/
def curveMultiplesUptoCard : Claim7 := { stood := { row := curveMultiplesUptoRow, standIns := [], harness := (true, "0023067eb135928e1aa6caa9c567755decd6de650de2803339587229d8393ecc"), looks := false }, kinds := [], alts := [], laidByText := true, laidKinds := [.data, .data, .wider, .data, .data, .data, .data, .data], laidTests := true, laidLooks := .later }
def CurveMultiplesUptoCardSaid : Prop := Claim7.holds Tryd.pinned (.plain (OpenSpec.upto curveMultiplesSpec)) curveMultiplesUptoCard
end Rows
end Go.Proofs.YtckfmchjghlbhaaDoor
